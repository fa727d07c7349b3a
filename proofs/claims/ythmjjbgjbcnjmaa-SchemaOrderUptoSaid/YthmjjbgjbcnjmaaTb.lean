import Derived.Test.YthmjjbgjbcnjmaaTa
import Derived.Carry
namespace Go.Proofs.Ythmjjbgjbcnjmaa
open Go.RowKit Go.Hop

/-! ### Schemas, in plain Lean -/
structure Ix where
  name : ByteArray
  cols : List Int
  uniq : Bool
abbrev Col := ByteArray × Int
structure Tab where
  name : ByteArray
  cols : List Col
  key : Int
  idx : List Ix
def distB (l : List ByteArray) : Bool := l.all namedS && decide l.Nodup
def inside (n a b : Int) : Bool := decide (a ≤ n) && decide (n ≤ b)
def checkT (t : Tab) : Bool :=
  (namedS t.name && inside t.cols.length 1 32 && inside t.key 1 t.cols.length && decide (t.idx.length ≤ 8)) && distB (t.cols.map (·.1)) && distB (t.idx.map (·.name)) &&
  t.cols.all (fun c => inside c.2 1 5) && t.idx.all (fun x => inside x.cols.length 1 32 && x.cols.all (fun n => inside n 0 (t.cols.length - 1)))

/-! ### Schemas in memory: all blocks that are read lie in K -/
def Near (w : World) (K : Nat → Prop) (v : Value) (n : Nat) : Prop := n ≠ 0 → ∀ k, v.ownBlock = some k → k < w.heap.size ∧ K k
theorem Near.keep {S K : Nat → Prop} {w w' : World} {v : Value} {n : Nat} (h : Near w K v n) (hf : Fr S w w') : Near w' K v n := fun hn k hk => ⟨Nat.lt_of_lt_of_le (h hn k hk).1 hf.size, (h hn k hk).2⟩
theorem Near.mono {K K' : Nat → Prop} {w : World} {v : Value} {n : Nat} (h : Near w K v n) (hk : ∀ k, k < w.heap.size → K k → K' k) : Near w K' v n := fun hn k q => ⟨(h hn k q).1, hk k (h hn k q).1 (h hn k q).2⟩
/-- a slice that is read, its block in K -/
structure RcK (w : World) (K : Nat → Prop) (size : Nat) (v : Value) (n : Nat) (cs : List Value) : Prop where
  rc : Rc w size v n cs
  near : Near w K v n
theorem RcK.keep {S K : Nat → Prop} {w w' : World} {size n : Nat} {v : Value} {cs : List Value} (h : RcK w K size v n cs) (hf : Fr S w w') (hs : ∀ k, k < w.heap.size → K k → ¬ S k) : RcK w' K size v n cs := by
  refine ⟨?_, h.near.keep hf⟩
  by_cases hn : n = 0
  · obtain ⟨A, c, q1, q2, q3, q4, _⟩ := h.rc
    exact ⟨A, c, q1, q2, q3, q4, fun j u hj => by
      have : cs = [] := List.eq_nil_of_length_eq_zero (by rw [q3, hn]; simp)
      rw [this] at hj; simp at hj⟩
  · exact h.rc.keep hf (fun k hk => hs k (h.near hn k hk).1 (h.near hn k hk).2)
theorem RcK.mono {K K' : Nat → Prop} {w : World} {size n : Nat} {v : Value} {cs : List Value} (h : RcK w K size v n cs) (hk : ∀ k, k < w.heap.size → K k → K' k) : RcK w K' size v n cs := ⟨h.rc, h.near.mono hk⟩
def ccells (l : List Col) : List Value := l.flatMap (fun c => [Value.string c.1, .int .i64 c.2])
def icells : List Ix → List Value → List Value
  | x :: xs, v :: vs => .string x.name :: v :: .bool x.uniq :: icells xs vs
  | _, _ => []
structure IdxAt (w : World) (K : Nat → Prop) (v : Value) (l : List Ix) (svs : List Value) : Prop where
  len : svs.length = l.length
  row : RcK w K 3 v l.length (icells l svs)
  each : ∀ (j : Nat) (x : Ix) (u : Value), l[j]? = some x → svs[j]? = some u → RcK w K 1 u x.cols.length (x.cols.map encI)
structure TabAt (w : World) (K : Nat → Prop) (v : Value) (t : Tab) : Prop where
  ex : ∃ vc vi svs, v = .agg #[.string t.name, vc, .int .i64 t.key, vi] ∧ RcK w K 2 vc t.cols.length (ccells t.cols) ∧ IdxAt w K vi t.idx svs
theorem IdxAt.keep {S K : Nat → Prop} {w w' : World} {v : Value} {l : List Ix} {svs : List Value} (h : IdxAt w K v l svs) (hf : Fr S w w') (hs : ∀ k, k < w.heap.size → K k → ¬ S k) : IdxAt w' K v l svs :=
  ⟨h.len, h.row.keep hf hs, fun j x u q1 q2 => (h.each j x u q1 q2).keep hf hs⟩
theorem TabAt.keep {S K : Nat → Prop} {w w' : World} {v : Value} {t : Tab} (h : TabAt w K v t) (hf : Fr S w w') (hs : ∀ k, k < w.heap.size → K k → ¬ S k) : TabAt w' K v t := by
  obtain ⟨vc, vi, svs, rfl, h1, h2⟩ := h.ex
  exact ⟨vc, vi, svs, rfl, h1.keep hf hs, h2.keep hf hs⟩
theorem TabAt.later {K : Nat → Prop} {w w' : World} {v : Value} {t : Tab} (h : TabAt w K v t) (hf : Fr no w w') : TabAt w' K v t := h.keep hf (fun _ _ _ q => q)
theorem TabAt.mono {K K' : Nat → Prop} {w : World} {v : Value} {t : Tab} (h : TabAt w K v t) (hk : ∀ k, k < w.heap.size → K k → K' k) : TabAt w K' v t := by
  obtain ⟨vc, vi, svs, rfl, h1, h2⟩ := h.ex
  exact ⟨vc, vi, svs, rfl, h1.mono hk, h2.len, h2.row.mono hk, fun j x u q1 q2 => (h2.each j x u q1 q2).mono hk⟩
/-- cell j of a slice that is read -/
theorem _root_.Go.Hop.Rc.at_ {w : World} {size n : Nat} {A : Option Addr} {c : Nat} {cs : List Value} (h : Rc w size (.slice A n c) n cs) {j : Nat} {u : Value} (hj : cs[j]? = some u) : ∃ b off, A = some ⟨b, off, none⟩ ∧ w.cell? ⟨b, off + j, none⟩ = some u := by
  obtain ⟨A', c', e, _, _, _, hx⟩ := h
  injection e with e1 e2 e3
  subst e1
  exact hx j u hj
theorem _root_.Go.Hop.Rc.form {w : World} {size n : Nat} {v : Value} {cs : List Value} (h : Rc w size v n cs) : ∃ A c, v = .slice A n c ∧ n ≤ c := by
  obtain ⟨A, c, q1, q2, _⟩ := h; exact ⟨A, c, q1, q2⟩
theorem ccells_at : ∀ (l : List Col) (k : Nat) (p : Col), l[k]? = some p → (ccells l)[k * 2]? = some (.string p.1) ∧ (ccells l)[k * 2 + 1]? = some (.int .i64 p.2)
  | [], _, _, h => by simp at h
  | q :: t, 0, p, h => by
    simp only [List.getElem?_cons_zero, Option.some.injEq] at h
    subst h
    exact ⟨rfl, rfl⟩
  | q :: t, k + 1, p, h => by
    have ih := ccells_at t k p (by simpa using h)
    have e : ccells (q :: t) = .string q.1 :: .int .i64 q.2 :: ccells t := rfl
    rw [e, show (k + 1) * 2 = k * 2 + 2 by omega, show k * 2 + 2 + 1 = k * 2 + 1 + 2 by omega]
    simpa using ih
theorem icells_at : ∀ (l : List Ix) (svs : List Value) (k : Nat) (x : Ix) (u : Value), l[k]? = some x → svs[k]? = some u → (icells l svs)[k * 3]? = some (.string x.name) ∧ (icells l svs)[k * 3 + 1]? = some u ∧ (icells l svs)[k * 3 + 2]? = some (.bool x.uniq)
  | [], _, _, _, _, h, _ => by simp at h
  | _ :: _, [], _, _, _, _, h => by simp at h
  | q :: t, v :: vs, 0, x, u, h, h2 => by
    simp only [List.getElem?_cons_zero, Option.some.injEq] at h h2
    subst h h2
    exact ⟨rfl, rfl, rfl⟩
  | q :: t, v :: vs, k + 1, x, u, h, h2 => by
    have ih := icells_at t vs k x u (by simpa using h) (by simpa using h2)
    have e : icells (q :: t) (v :: vs) = .string q.name :: v :: .bool q.uniq :: icells t vs := rfl
    rw [e, show (k + 1) * 3 = k * 3 + 3 by omega, show k * 3 + 3 + 1 = k * 3 + 1 + 3 by omega, show k * 3 + 3 + 2 = k * 3 + 2 + 3 by omega]
    simpa using ih

theorem zero3 (w : World) : (zeroValue 3).run Try.prog w = .ok (.int .i64 0) w := by kernel_rfl
theorem c66_any (n : ByteArray) (k : Int) (w : World) : Calls Try.prog 66 #[.agg #[.string n, .int .i64 k]] w (AsBefore w (.string n)) := by
  go_enter Try.func66, Try.ntmps66
  go_wp2
  go_ret
  exact ⟨rfl, (Fr.refl _ _).alloc _⟩
theorem c68_any (n : ByteArray) (v : Value) (u : Bool) (w : World) (hv : v.oneCell' = true) : Calls Try.prog 68 #[.agg #[.string n, v, .bool u]] w (AsBefore w (.string n)) := by
  go_enter Try.func68, Try.ntmps68
  go_wp2
  go_ret
  exact ⟨rfl, (Fr.refl _ _).alloc _⟩
theorem c63_any (n a b : Int) (w : World) : Calls Try.prog 63 #[.int .i64 n, .int .i64 a, .int .i64 b] w fun e w' => e = .returned (.bool (inside n a b)) ∧ w = w' := by
  have Hi := Lib.hid (show inside n a b = (decide (a ≤ n) && decide (n ≤ b)) from rfl)
  cases e1 : decide (a ≤ n) <;> cases e2 : decide (n ≤ b)
  all_goals
    go_enter Try.func63, Try.ntmps63
    go_wp2
    go_ret
    exact ⟨by rw [Hi.out]; simp_all, rfl⟩
end Go.Proofs.Ythmjjbgjbcnjmaa
