/-
  Rows of elements of several cells: owned, read, cut, appended.
-/
import Derived.Test.YthmjjbgjbcnjmaaKa
import Derived.Maps.AppendAt
namespace Go.Hop
open Go.RowKit

/-- t is the type of slices of e, whose elements have so many cells and bytes -/
def El (P : Program) (t e size bytes : Nat) : Prop :=
  P.underlying t = some (.slice e) ∧ 0 < size ∧ ∃ i z, P.info? e = some i ∧ i.zero = some z ∧ i.size = size ∧ i.bytes = bytes ∧ z.cells.size = size
theorem El.mk_ {P : Program} {t e size bytes : Nat} (z : Value) (h : P.underlying t = some (.slice e)) (hs : 0 < size) (hz : z.cells.size = size) (hi : (P.info? e).map (fun i => (i.zero, i.size, i.bytes)) = some (some z, size, bytes)) : El P t e size bytes := by
  obtain ⟨i, h1, h2, h3, h4⟩ := info_parts hi
  exact ⟨h, hs, i, z, h1, h2, h3, h4, hz⟩

theorem add_at (b off j : Nat) : (⟨b, off, none⟩ : Addr).add j = ⟨b, off + j, none⟩ := by unfold Addr.add; split <;> simp_all

/-- v is a slice of n elements that reads as these cells -/
def Rc (w : World) (size : Nat) (v : Value) (n : Nat) (cs : List Value) : Prop :=
  ∃ A c, v = .slice A n c ∧ n ≤ c ∧ cs.length = n * size ∧ (∀ u ∈ cs, u.oneCell' = true) ∧ (∀ j u, cs[j]? = some u → ∃ b off, A = some ⟨b, off, none⟩ ∧ w.cell? ⟨b, off + j, none⟩ = some u)
theorem Rc.keep {S : Nat → Prop} {w w' : World} {size n : Nat} {v : Value} {cs : List Value} (h : Rc w size v n cs) (hf : Fr S w w') (hn : ∀ k, v.ownBlock = some k → ¬ S k) : Rc w' size v n cs := by
  obtain ⟨A, c, rfl, hc, hl, h1, hx⟩ := h
  refine ⟨A, c, rfl, hc, hl, h1, fun j u hj => ?_⟩
  obtain ⟨b, off, rfl, hcell⟩ := hx j u hj
  exact ⟨b, off, rfl, hf.cell hcell (hn b rfl)⟩
theorem Rc.of_owns {w : World} {base size n : Nat} {e : TypeId} {v : Value} {xs : List Value} (h : w.ownsRow base e size v n xs) (h1 : ∀ u ∈ xs, u.oneCell' = true) : Rc w size v n xs := by
  rcases h.2 with ⟨rfl, h0⟩ | ⟨g, cap, cur, rfl, hb, hg, hcap, _, _, ht⟩
  · subst h0
    have : xs = [] := List.eq_nil_of_length_eq_zero (by simpa using h.1)
    subst this
    exact ⟨none, 0, rfl, Nat.le_refl _, by simp, h1, fun j x hj => by simp at hj⟩
  · refine ⟨_, cap, rfl, hcap, h.1, h1, fun j x hj => ⟨g, 0, rfl, ?_⟩⟩
    have := h.cells (g := g) rfl j x hj
    rw [add_at] at this
    exact this
/-- the first k -/
theorem Rc.take {w : World} {size n : Nat} {A : Option Addr} {c : Nat} {cs : List Value} (h : Rc w size (.slice A n c) n cs) (k : Nat) (hk : k ≤ n) : Rc w size (.slice A k c) k (cs.take (k * size)) := by
  obtain ⟨A', c', e, hc, hl, h1, hx⟩ := h
  injection e with e1 _ e3
  subst e1 e3
  have hle : k * size ≤ n * size := Nat.mul_le_mul_right _ hk
  refine ⟨A, c, rfl, by omega, by rw [List.length_take, hl]; omega, fun u hu => h1 u (List.mem_of_mem_take hu), fun j u hj => hx j u ?_⟩
  rw [List.getElem?_take] at hj
  split at hj
  · exact hj
  · cases hj
/-- from k on -/
theorem Rc.drop {w : World} {size n : Nat} {A : Option Addr} {c : Nat} {cs : List Value} (h : Rc w size (.slice A n c) n cs) (k : Nat) (hk : k ≤ n) :
    Rc w size (.slice (if c = k then A else A.map (·.add (k * size))) (n - k) (c - k)) (n - k) (cs.drop (k * size)) := by
  obtain ⟨A', c', e, hc, hl, h1, hx⟩ := h
  injection e with e1 _ e3
  subst e1 e3
  refine ⟨_, _, rfl, by omega, by rw [List.length_drop, hl, Nat.sub_mul], fun u hu => h1 u (List.mem_of_mem_drop hu), fun j u hj => ?_⟩
  rw [List.getElem?_drop] at hj
  obtain ⟨b, off, rfl, hcell⟩ := hx _ u hj
  have hlt : k * size + j < cs.length := (List.getElem?_eq_some_iff.1 hj).1
  have hck : c ≠ k := by
    intro q
    have : n = k := by omega
    subst this
    rw [hl] at hlt
    omega
  refine ⟨b, off + k * size, by rw [if_neg hck]; simp [add_at], ?_⟩
  rw [Nat.add_assoc]
  exact hcell

section
variable {P : Program} {w : World} {ops : Array Oper} {rest : List Oper} {o : Oper} {a : Act} {Q : Exit → Act → World → Prop}

theorem run_append_none (t ty e : TypeId) {size bytes : Nat} (hE : El P t e size bytes) {base n : Nat} {v : Value} {xs : List Value} (hown : w.ownsRow base e size v n xs) (c : Nat) :
    (Builtin.append_ #[t, t] ty #[v, .slice none 0 c]).run P w = .ok v w := by
  obtain ⟨ht, hs, i, z, hi, hz, hsize, hby, hzs⟩ := hE
  rcases hown.2 with ⟨rfl, rfl⟩ | ⟨g, cap, cur, rfl, hb, hg, hcap, _⟩
  · simp [Builtin.append_, run_underlying ht, sizeOf, typeInfo, hi, Builtin.lenOf, Builtin.firstCells, Result.andThen]
  · simp [Builtin.append_, run_underlying ht, sizeOf, typeInfo, hi, Builtin.lenOf, Builtin.firstCells, hcap, Result.andThen, storeCells]

/-- append(v, ys...): v a row of the call's own, ys whatever is read -/
theorem wp_append (hgd : o.guard = none) (s x : Operand) (t : TypeId) (ho : o.op = .call { callee := .builtin .append, args := #[s, x], argTypes := #[t, t] })
    {base e size bytes : Nat} (hE : El P t e size bytes) (v : Value) (n : Nat) (xs : List Value) (hs : a.eval s = v) (hown : w.ownsRow base e size v n xs)
    (y : Value) (m : Nat) (news : List Value) (hx : a.eval x = y) (hr : Rc w size y m news)
    (h63 : n + m ≤ maxLen) (hbytes : (n + m) * bytes ≤ 140737488355328) (hbase : base ≤ w.heap.size)
    (h : ∀ v' w', w'.ownsRow base e size v' (n + m) (xs ++ news) → w.grownBy w' v.ownBlock → (v'.ownBlock = v.ownBlock ∨ v'.ownBlock = some w.heap.size) → wpList P ops Q rest (a.put o.dst v') w') :
    wpList P ops Q (o :: rest) a w := by
  obtain ⟨A, c, rfl, hc, hl, h1, hcell⟩ := hr
  cases A with
  | none =>
    have hm : m = 0 := by
      rcases Nat.eq_zero_or_pos m with q | q
      · exact q
      · have hpos : 0 < news.length := by rw [hl]; exact Nat.mul_pos q hE.2.1
        obtain ⟨b, off, q2, _⟩ := hcell 0 news[0] (List.getElem?_eq_getElem hpos)
        cases q2
    subst hm
    have hn : news = [] := List.eq_nil_of_length_eq_zero (by simpa using hl)
    subst hn
    refine wpList_plain hgd fun K hK => ?_
    have hrun := run_append_none (ty := o.type) t e hE hown c
    unfold Oper.wp
    simp [execOp, ho, resolve, invoke, builtin, hs, hx, hrun, Result.andThen]
    exact hK _ _ (h v w (by simpa using hown) ⟨rfl, rfl, rfl, Nat.le_refl _, fun _ _ _ => rfl⟩ (.inl rfl))
  | some ad =>
    obtain ⟨ht, hsz, i, z, hi, hz, hsize, hby, hzs⟩ := hE
    refine wpList_append_own_at w hgd s x t ho base e i z size bytes ht hi hz hsize hby hzs hsz v n xs hs hown ad m c news hx hl (fun j u hj => ?_) h1 h63 hbytes hbase (fun v' w' q1 q2 _ q4 => h v' w' q1 q2 q4)
    obtain ⟨b, off, q, hcc⟩ := hcell j u hj
    injection q with q
    subst q
    rw [add_at]
    exact hcc
end
end Go.Hop
