import Derived.Test.YthmjjbgjbcnjmaaRa
namespace Go.Proofs.Ythmjjbgjbcnjmaa
open Go.RowKit Go.Hop

/-- a file of the reference's: its name, its bytes, how many are safe -/
def fcell (p : ByteArray × File) : List Value := [.string p.1, .string p.2.1, .int .i64 p.2.2]
def fcells (l : List (ByteArray × File)) : List Value := l.flatMap fcell
theorem fcells_length (l : List (ByteArray × File)) : (fcells l).length = l.length * 3 := by
  induction l with
  | nil => rfl
  | cons p t ih => simp only [fcells, List.flatMap_cons, List.length_append] at ih ⊢; rw [ih]; simp [fcell]; omega
theorem fcells_one (l : List (ByteArray × File)) : ∀ u ∈ fcells l, u.oneCell' = true := by
  intro u hu
  obtain ⟨p, _, hp⟩ := List.mem_flatMap.1 hu
  simp only [fcell, List.mem_cons, List.not_mem_nil, or_false] at hp
  rcases hp with rfl | rfl | rfl <;> rfl
theorem fcells_append (l l' : List (ByteArray × File)) : fcells (l ++ l') = fcells l ++ fcells l' := by simp [fcells]
theorem fcells_at : ∀ (l : List (ByteArray × File)) (k : Nat) (p : ByteArray × File), l[k]? = some p → (fcells l)[k * 3]? = some (.string p.1) ∧ (fcells l)[k * 3 + 1]? = some (.string p.2.1) ∧ (fcells l)[k * 3 + 2]? = some (.int .i64 p.2.2)
  | [], _, _, h => by simp at h
  | q :: t, 0, p, h => by
    simp only [List.getElem?_cons_zero, Option.some.injEq] at h
    subst h
    exact ⟨rfl, rfl, rfl⟩
  | q :: t, k + 1, p, h => by
    have ih := fcells_at t k p (by simpa using h)
    have e : fcells (q :: t) = fcell q ++ fcells t := rfl
    have l3 : (fcell q).length = 3 := rfl
    rw [e]
    refine ⟨?_, ?_, ?_⟩
    · rw [List.getElem?_append_right (by omega), l3, show (k + 1) * 3 - 3 = k * 3 by omega]; exact ih.1
    · rw [List.getElem?_append_right (by omega), l3, show (k + 1) * 3 + 1 - 3 = k * 3 + 1 by omega]; exact ih.2.1
    · rw [List.getElem?_append_right (by omega), l3, show (k + 1) * 3 + 2 - 3 = k * 3 + 2 by omega]; exact ih.2.2
theorem fcells_take (l : List (ByteArray × File)) (k : Nat) : (fcells l).take (k * 3) = fcells (l.take k) := by
  induction l generalizing k with
  | nil => simp [fcells]
  | cons q t ih =>
    cases k with
    | zero => simp [fcells]
    | succ k =>
      have e : fcells (q :: t) = fcell q ++ fcells t := rfl
      have e2 : fcells ((q :: t).take (k + 1)) = fcell q ++ fcells (t.take k) := rfl
      rw [e, e2, List.take_append, show (fcell q).length = 3 from rfl, show (k + 1) * 3 - 3 = k * 3 by omega, ih, List.take_of_length_le (by show 3 ≤ _; omega)]
theorem fcells_drop (l : List (ByteArray × File)) (k : Nat) : (fcells l).drop (k * 3) = fcells (l.drop k) := by
  induction l generalizing k with
  | nil => simp [fcells]
  | cons q t ih =>
    cases k with
    | zero => simp
    | succ k =>
      have e : fcells (q :: t) = fcell q ++ fcells t := rfl
      have e2 : fcells ((q :: t).drop (k + 1)) = fcells (t.drop k) := rfl
      rw [e, e2, List.drop_append, show (fcell q).length = 3 from rfl, show (k + 1) * 3 - 3 = k * 3 by omega, ih, List.drop_of_length_le (by show 3 ≤ _; omega), List.nil_append]

def leftR (s : DSt) : Int := match s.fuse with | none => -1 | some n => n
/-- the reference's block -/
def rblk (v : Value) (s : DSt) : Obj := .cells #[v, .int .i64 (leftR s), .bool s.down] 78 (0, 0)
/-- a disk of the reference's: its block b, its row v -/
structure IsR (w : World) (b : Nat) (v : Value) (s : DSt) : Prop where
  blk : w.heap[b]? = some (rblk v s)
  own : w.ownsRow 0 86 3 v s.files.length (fcells s.files)
  ne : v.ownBlock ≠ some b
  ok : s.Ok

theorem IsR.keep {S : Nat → Prop} {w w' : World} {b : Nat} {v : Value} {s : DSt} (h : IsR w b v s) (hf : Fr S w w') (hb : ¬ S b) (hv : ∀ k, v.ownBlock = some k → ¬ S k) : IsR w' b v s :=
  ⟨hf.keep h.blk hb, hf.owns h.own hv, h.ne, h.ok⟩
theorem IsR.later {w w' : World} {b : Nat} {v : Value} {s : DSt} (h : IsR w b v s) (hf : Fr no w w') : IsR w' b v s := h.keep hf id (fun _ _ q => q)
theorem IsR.lt {w : World} {b : Nat} {v : Value} {s : DSt} (h : IsR w b v s) : b < w.heap.size ∧ ∀ k, v.ownBlock = some k → k < w.heap.size :=
  ⟨heap_lt h.blk, fun k hk => (h.own.lt k hk).2⟩
/-- v's form where there is a file -/
theorem IsR.form {w : World} {b : Nat} {v : Value} {s : DSt} (h : IsR w b v s) : (∃ A c, v = .slice A s.files.length c ∧ s.files.length ≤ c) := by
  rcases h.own.2 with ⟨rfl, h0⟩ | ⟨g, cap, cur, rfl, _, _, h1, _⟩
  · exact ⟨none, 0, by rw [h0], by omega⟩
  · exact ⟨_, cap, rfl, h1⟩
theorem IsR.at_ {w : World} {b : Nat} {A : Option Addr} {n c : Nat} {s : DSt} (h : IsR w b (.slice A n c) s) (k : Nat) (p : ByteArray × File) (hp : s.files[k]? = some p) :
    ∃ g, A = some ⟨g, 0, none⟩ ∧ w.cell? ⟨g, k * 3, none⟩ = some (.string p.1) ∧ w.cell? ⟨g, k * 3 + 1, none⟩ = some (.string p.2.1) ∧ w.cell? ⟨g, k * 3 + 2, none⟩ = some (.int .i64 p.2.2) ∧ (∀ j, w.frozen? ⟨g, j, none⟩ = false) ∧ g ≠ b ∧ g < w.heap.size := by
  have hlt : k < s.files.length := (List.getElem?_eq_some_iff.1 hp).1
  rcases h.own.2 with ⟨e, h0⟩ | ⟨g, cap, cur, e, _, hg, h1, _⟩
  · omega
  · injection e with e1 e2 e3
    subst e1
    obtain ⟨c0, c1, c2⟩ := fcells_at s.files k p hp
    have hc := h.own.cells (g := g) rfl
    have f0 := hc _ _ c0
    have f1 := hc _ _ c1
    have f2 := hc _ _ c2
    rw [add_at, Nat.zero_add] at f0 f1 f2
    exact ⟨g, rfl, f0, f1, f2, fun j => free_at hg j, fun q => h.ne (by rw [← q]; rfl), heap_lt hg⟩

def pl {β : Type} : List (ByteArray × β) → ByteArray → Option Nat
  | [], _ => none
  | (a, _) :: t, k => if a = k then some 0 else (pl t k).map (· + 1)
theorem pl_some {β : Type} : ∀ {l : List (ByteArray × β)} {k : ByteArray} {i : Nat}, pl l k = some i → ∃ v, l[i]? = some (k, v) ∧ get l k = some v
  | [], _, _, h => by simp [pl] at h
  | (a, b) :: t, k, i, h => by
    simp only [pl] at h
    split at h
    · rename_i e; subst e
      injection h with h; subst h
      exact ⟨b, rfl, by simp [Hop.get]⟩
    · rename_i e
      cases hp : pl t k with
      | none => simp [hp] at h
      | some j =>
        simp only [hp, Option.map_some, Option.some.injEq] at h
        subst h
        obtain ⟨v, h1, h2⟩ := pl_some hp
        exact ⟨v, by simpa using h1, by simp [Hop.get, e, h2]⟩
theorem pl_none {β : Type} : ∀ {l : List (ByteArray × β)} {k : ByteArray}, pl l k = none → get l k = none
  | [], _, _ => rfl
  | (a, b) :: t, k, h => by
    simp only [pl] at h
    split at h
    · cases h
    · rename_i e
      simp only [Hop.get, e, if_false]
      exact pl_none (by simpa using h)
/-- where it is, or -1 -/
def plI {β : Type} (l : List (ByteArray × β)) (k : ByteArray) : Int := match pl l k with | some i => i | none => -1
theorem pl_before {β : Type} : ∀ (l : List (ByteArray × β)) (k : ByteArray) (i : Nat), (∀ j q, j < i → l[j]? = some q → q.1 ≠ k) → ∀ q, l[i]? = some q → q.1 = k → pl l k = some i
  | [], _, _, _, _, h, _ => by simp at h
  | (a, b) :: t, k, 0, _, q, h, e => by
    simp only [List.getElem?_cons_zero, Option.some.injEq] at h
    subst h
    simp only at e
    simp [pl, e]
  | (a, b) :: t, k, i + 1, hn, q, h, e => by
    have h0 : a ≠ k := hn 0 (a, b) (by omega) rfl
    have := pl_before t k i (fun j q hj hq => hn (j + 1) q (by omega) (by simpa using hq)) q (by simpa using h) e
    simp [pl, h0, this]
theorem pl_never {β : Type} : ∀ (l : List (ByteArray × β)) (k : ByteArray), (∀ (j : Nat) (q : ByteArray × β), l[j]? = some q → q.1 ≠ k) → pl l k = none
  | [], _, _ => rfl
  | (a, b) :: t, k, hn => by
    have h0 : a ≠ k := hn 0 (a, b) rfl
    have := pl_never t k (fun j q hq => hn (j + 1) q (by simpa using hq))
    simp [pl, h0, this]

set_option maxHeartbeats 1000000 in
theorem find_any (b : Nat) (v : Value) (s : DSt) (name : ByteArray) (w : World) (h : IsR w b v s) :
    Calls Try.prog 75 #[.pointer (some ⟨b, 0, none⟩), .string name] w fun e w' => e = .returned (.int .i64 (plI s.files name)) ∧ w = w' := by
  obtain ⟨A, c, rfl, hc⟩ := h.form
  have h0 : w.cell? ⟨b, 0, none⟩ = some (.slice A s.files.length c) := cells_at h.blk 0 _ rfl
  have hfew := h.ok.few
  have HI := Lib.hid h
  clear h
  go_enter Try.func75, Try.ntmps75
  go_wp2
  go_loop [5] (fun i => ∃ k : Nat, k ≤ s.files.length ∧ i = .int .i64 k ∧ Hid (∀ j q, j < k → s.files[j]? = some q → q.1 ≠ name)) (fun i => s.files.length - (intOf i).toNat)
  case atStart => exact ⟨0, Nat.zero_le _, rfl, fun j q hj => by omega⟩
  case round =>
    obtain ⟨k, hk, rfl, hno⟩ := hrel
    by_cases hlt : k < s.files.length
    · obtain ⟨p, hp⟩ : ∃ p, s.files[k]? = some p := ⟨_, List.getElem?_eq_getElem hlt⟩
      obtain ⟨g, rfl, e0, e1, e2, e3, e4, e5⟩ := HI.out.at_ k p hp
      have Hp := Lib.hid hp
      have HE := Lib.hid (And.intro e3 e4)
      clear hp e3 e4
      by_cases hq : p.1 = name
      · have hb : (p.1.toList == name.toList) = true := by rw [hq]; simp
        have HR := Lib.hid (show plI s.files name = (k : Int) by unfold plI; rw [pl_before s.files name k hno.out p Hp.out hq])
        clear hq
        go_wp2
        go_ret
        exact ⟨by rw [HR.out]; rfl, rfl⟩
      · have hb : (p.1.toList == name.toList) = false := by
          rw [beq_eq_false_iff_ne, Lib.toList_data, Lib.toList_data]
          exact fun e => hq (bl_inj e)
        have HQ := Lib.hid hq
        clear hq
        go_wp2
        go_round
        case rel => exact ⟨k + 1, by omega, by go_num, fun j q hj hq2 => by
          by_cases e : j = k
          · subst e; rw [Hp.out] at hq2; injection hq2 with hq2; subst hq2; exact HQ.out
          · exact hno.out j q (by omega) hq2⟩
        case measure => simp [intOf]; omega
    · have HR := Lib.hid (show plI s.files name = -1 by
        unfold plI
        rw [pl_never s.files name (fun j q hq => hno.out j q (by have := (List.getElem?_eq_some_iff.1 hq).1; omega) hq)])
      go_wp2
      go_ret
      exact ⟨by rw [HR.out]; rfl, rfl⟩
end Go.Proofs.Ythmjjbgjbcnjmaa
