/-
  A slice of one-cell elements that is read: whatever memory it lies in.
-/
import Derived.Test.YthmjjbgjbcnjmaaKa
namespace Go.Hop
open Go.RowKit

/-- v is a slice whose elements read as xs (through enc) -/
def Rd {α : Type} (enc : α → Value) (w : World) (v : Value) (xs : List α) : Prop :=
  ∃ A c, v = .slice A xs.length c ∧ xs.length ≤ c ∧ (∀ j x, xs[j]? = some x → ∃ b off, A = some ⟨b, off, none⟩ ∧ w.cell? ⟨b, off + j, none⟩ = some (enc x))
theorem Rd.keep {α : Type} {enc : α → Value} {S : Nat → Prop} {w w' : World} {v : Value} {xs : List α} (h : Rd enc w v xs) (hf : Fr S w w') (hn : ∀ k, v.ownBlock = some k → ¬ S k) : Rd enc w' v xs := by
  obtain ⟨A, c, rfl, hc, hx⟩ := h
  refine ⟨A, c, rfl, hc, fun j x hj => ?_⟩
  obtain ⟨b, off, rfl, hcell⟩ := hx j x hj
  exact ⟨b, off, rfl, hf.cell hcell (hn b rfl)⟩
theorem Rd.len {α : Type} {enc : α → Value} {w : World} {v : Value} {xs : List α} (h : Rd enc w v xs) : ∃ A c, v = .slice A xs.length c ∧ xs.length ≤ c := by
  obtain ⟨A, c, h1, h2, _⟩ := h; exact ⟨A, c, h1, h2⟩
/-- element j, with the slice's address -/
theorem Rd.at_ {α : Type} {enc : α → Value} {w : World} {A : Option Addr} {n c : Nat} {xs : List α} (h : Rd enc w (.slice A n c) xs) (j : Nat) (x : α) (hj : xs[j]? = some x) : ∃ b off, A = some ⟨b, off, none⟩ ∧ w.cell? ⟨b, off + j, none⟩ = some (enc x) := by
  obtain ⟨A', c', e, _, hx⟩ := h
  injection e with e1 e2 e3
  subst e1
  exact hx j x hj
theorem Rd.tail {α : Type} {enc : α → Value} {w : World} {b off n c : Nat} {x : α} {xs : List α} (h : Rd enc w (.slice (some ⟨b, off, none⟩) n c) (x :: xs)) :
    Rd enc w (.slice (if c = 1 then some ⟨b, off, none⟩ else some ⟨b, off + 1, none⟩) (n - 1) (c - 1)) xs := by
  obtain ⟨A, c', e, hc, hx⟩ := h
  injection e with e1 e2 e3
  subst e1 e3
  simp only [List.length_cons] at e2 hc
  refine ⟨_, _, by rw [e2, Nat.add_sub_cancel], by omega, fun j y hj => ?_⟩
  have hl : j < xs.length := (List.getElem?_eq_some_iff.1 hj).1
  obtain ⟨b', off', e1', hcell⟩ := hx (j + 1) y (by simpa using hj)
  injection e1' with e1'
  injection e1' with q1 q2 q3
  subst q1 q2
  refine ⟨b, off + 1, by rw [if_neg (by omega)], ?_⟩
  rw [show off + 1 + j = off + (j + 1) by omega]
  exact hcell
theorem Rd.of_owns {α : Type} {enc : α → Value} {w : World} {base n : Nat} {e : TypeId} {v : Value} {xs : List α} (h : w.ownsRow base e 1 v n (xs.map enc)) : Rd enc w v xs := by
  have hn : xs.length = n := by simpa using h.1
  rcases h.2 with ⟨rfl, h0⟩ | ⟨g, cap, cur, rfl, hb, hg, hcap, _, _, ht⟩
  · subst h0
    have : xs = [] := List.eq_nil_of_length_eq_zero hn
    subst this
    exact ⟨none, 0, rfl, Nat.le_refl _, fun j x hj => by simp at hj⟩
  · subst hn
    refine ⟨_, cap, rfl, hcap, fun j x hj => ⟨g, 0, rfl, ?_⟩⟩
    have := h.cells (g := g) rfl j (enc x) (by simp [hj])
    have e : (⟨g, 0, none⟩ : Addr).add j = ⟨g, j, none⟩ := by unfold Addr.add; split <;> simp_all
    rw [e] at this
    simpa using this
end Go.Hop
