import Derived.Test.YthmjjbgjbcnjmaaRb
import Derived.Deep.QuietTactic
import Derived.BigQuiet
namespace Go.Proofs.Ythmjjbgjbcnjmaa
open Go.RowKit Go.Hop

set_option maxHeartbeats 400000 in
set_option maxRecDepth 100000 in
theorem rchange_any (b : Nat) (v : Value) (s : DSt) (w : World) (h : w.heap[b]? = some (rblk v s)) (hs : s.fuse.getD 0 ≤ 9223372036854775807) :
    Calls Try.prog 76 #[.pointer (some ⟨b, 0, none⟩)] w fun e w' => e = .returned (.bool (chg s).1) ∧ w'.heap[b]? = some (rblk v (chg s).2) ∧ Fr (· = b) w w' := by
  obtain ⟨files, fuse, down⟩ := s
  have hc1 := cells_at h 1 _ rfl
  have hc2 := cells_at h 2 _ rfl
  have hf1 := free_at h 1
  have hf2 := free_at h 2
  have H := Lib.hid h
  clear h
  simp only [leftR] at hs hc1 hc2
  cases down with
  | true =>
    go_enter Try.func76, Try.ntmps76
    go_wp2
    go_ret
    refine ⟨by simp [chg], ?_, (Fr.refl _ _).setCell _ _ (fun _ => rfl)⟩
    have := heap_setCell_at H.out 2 (.bool true)
    simpa [rblk, chg, leftR] using this
  | false =>
  rcases fuse with _ | n
  · go_enter Try.func76, Try.ntmps76
    go_wp2
    go_ret
    exact ⟨by simp [chg], by simpa [chg] using H.out, Fr.refl _ _⟩
  · have hs2 : n ≤ 9223372036854775807 := hs
    clear hs
    simp only at hc1
    by_cases hn : n = 0
    · subst hn
      go_enter Try.func76, Try.ntmps76
      go_wp2
      go_ret
      refine ⟨by simp [chg], ?_, (Fr.refl _ _).setCell _ _ (fun _ => rfl)⟩
      have := heap_setCell_at H.out 2 (.bool true)
      simpa [rblk, chg, leftR] using this
    · have hb : ((n : Int) == 0) = false := by simp; omega
      have hn1 : 1 ≤ n := by omega
      go_enter Try.func76, Try.ntmps76
      go_wp2
      go_ret
      have hne : ¬ (some n = some 0) := by simpa using hn
      refine ⟨by simp [chg, hn], ?_, (Fr.refl _ _).setCell _ _ (fun _ => rfl)⟩
      have := heap_setCell_at H.out 1 (.int .i64 ((n : Int) - 1))
      have e : ((n : Int) - 1) = ((n - 1 : Nat) : Int) := by omega
      rw [e] at this ⊢
      simpa [rblk, chg, hn, leftR] using this

theorem sput_at_place {β : Type} (v : β) (name : ByteArray) : ∀ (l : List (ByteArray × β)) (k : Nat), (∀ j q, j < k → l[j]? = some q → bl q.1 < bl name) → (∀ q, l[k]? = some q → ¬ bl q.1 < bl name) → k ≤ l.length →
    ((∃ q, l[k]? = some q ∧ q.1 = name) → sput l name v = l.set k (name, v)) ∧ ((∀ q, l[k]? = some q → q.1 ≠ name) → sput l name v = l.take k ++ (name, v) :: l.drop k)
  | [], k, _, _, hk => by
    have : k = 0 := by simpa using hk
    subst this
    exact ⟨fun ⟨q, h, _⟩ => by simp at h, fun _ => rfl⟩
  | (a, b) :: t, 0, _, hge, _ => by
    have h0 : ¬ bl a < bl name := hge (a, b) rfl
    refine ⟨fun ⟨q, h, e⟩ => ?_, fun hn => ?_⟩
    · simp only [List.getElem?_cons_zero, Option.some.injEq] at h
      subst h
      simp only at e
      simp [sput, e]
    · have : a ≠ name := hn (a, b) rfl
      simp [sput, this, h0]
  | (a, b) :: t, k + 1, hlt, hge, hk => by
    have h0 : bl a < bl name := hlt 0 (a, b) (by omega) rfl
    have hne : a ≠ name := fun e => by rw [e] at h0; exact lt_irrefl' _ h0
    obtain ⟨i1, i2⟩ := sput_at_place v name t k (fun j q hj hq => hlt (j + 1) q (by omega) (by simpa using hq)) (fun q hq => hge q (by simpa using hq)) (by simpa using hk)
    refine ⟨fun ⟨q, h, e⟩ => ?_, fun hn => ?_⟩
    · have := i1 ⟨q, by simpa using h, e⟩
      simp [sput, hne, h0, this]
    · have := i2 (fun q hq => hn q (by simpa using hq))
      simp [sput, hne, h0, this]

/-- cells of an owned row, written -/
theorem owns_set {w : World} {base size n cap g : Nat} {e : TypeId} {xs : List Value} (h : w.ownsRow base e size (.slice (some ⟨g, 0, none⟩) n cap) n xs) (j : Nat) (u : Value) : (w.setCell ⟨g, j, none⟩ u).ownsRow base e size (.slice (some ⟨g, 0, none⟩) n cap) n (xs.set j u) := by
  refine ⟨by simpa using h.1, ?_⟩
  rcases h.2 with ⟨q, _⟩ | ⟨g', cap', cur, q, hb, hg, h1, h2, h3, h4⟩
  · cases q
  · injection q with q1 q2 q3
    injection q1 with q1
    injection q1 with q1
    subst q1 q3
    refine .inr ⟨g, cap, cur.setIfInBounds j u, rfl, hb, heap_setCell_at hg j u, h1, h2, by simpa using h3, ?_⟩
    rw [← h4, Array.toList_setIfInBounds, List.take_set]
theorem fcells_set (l : List (ByteArray × File)) (k : Nat) (p : ByteArray × File) (hk : k < l.length) : (((fcells l).set (k * 3) (.string p.1)).set (k * 3 + 1) (.string p.2.1)).set (k * 3 + 2) (.int .i64 p.2.2) = fcells (l.set k p) := by
  induction l generalizing k with
  | nil => simp at hk
  | cons q t ih =>
    have e : fcells (q :: t) = fcell q ++ fcells t := rfl
    cases k with
    | zero =>
      have e2 : fcells ((q :: t).set 0 p) = fcell p ++ fcells t := rfl
      rw [e, e2]
      rfl
    | succ k =>
      have e2 : fcells ((q :: t).set (k + 1) p) = fcell q ++ fcells (t.set k p) := rfl
      rw [e, e2, ← ih k (by simpa using hk)]
      have l3 : (fcell q).length = 3 := rfl
      rw [List.set_append_right _ _ (by omega), List.set_append_right _ _ (by omega), List.set_append_right _ _ (by omega), l3]
      congr 2
      · congr 1
        · congr 1
          omega
        · omega
      · omega
end Go.Proofs.Ythmjjbgjbcnjmaa
