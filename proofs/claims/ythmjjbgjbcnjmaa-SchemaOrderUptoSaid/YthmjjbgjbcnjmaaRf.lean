import Derived.Test.YthmjjbgjbcnjmaaRe
namespace Go.Proofs.Ythmjjbgjbcnjmaa
open Go.RowKit Go.Hop

theorem plI_cases {β : Type} (l : List (ByteArray × β)) (k : ByteArray) : (∃ i v, pl l k = some i ∧ plI l k = i ∧ l[i]? = some (k, v) ∧ get l k = some v ∧ i < l.length) ∨ (pl l k = none ∧ plI l k = -1 ∧ get l k = none) := by
  cases h : pl l k with
  | none => exact .inr ⟨rfl, by simp [plI, h], pl_none h⟩
  | some i =>
    obtain ⟨v, h1, h2⟩ := pl_some h
    exact .inl ⟨i, v, rfl, by simp [plI, h], h1, h2, (List.getElem?_eq_some_iff.1 h1).1⟩
def knownI (s : DSt) (name : ByteArray) : Int := if dknown s name = 0 then plI s.files name else 0

set_option maxHeartbeats 400000 in
theorem rknown_any (b : Nat) (v : Value) (s : DSt) (name : ByteArray) (w : World) (h : IsR w b v s) (hn : name.size ≤ 140737488351232) :
    Calls Try.prog 79 #[.pointer (some ⟨b, 0, none⟩), .string name] w fun e w' => e = .returned (.tuple #[.int .i64 (knownI s name), .int .i64 (dknown s name)]) ∧ w = w' := by
  have HI := Lib.hid h
  clear h
  cases hnm : named name with
  | false =>
    have HR := Lib.hid (show dknown s name = 10 by simp [dknown, hnm])
    go_enter Try.func79, Try.ntmps79
    go_wp2_with (go_at_call 74; refine (named_any _ _ hn).mono ?_; rintro e w' ⟨rfl, rfl⟩)
    go_ret2
    exact ⟨by rw [show knownI s name = 0 by unfold knownI; rw [HR.out]; rfl, HR.out]; rfl, rfl⟩
  | true =>
    rcases plI_cases s.files name with ⟨i, f, h1, h2, h3, h4, h5⟩ | ⟨h1, h2, h3⟩
    · have HR := Lib.hid (show dknown s name = 0 by rw [show dknown s name = if get s.files name = none then 5 else 0 by simp [dknown, hnm], h4]; rfl)
      have H2 := Lib.hid h2
      have hi : i ≤ 64 := by have := HI.out.ok.few; omega
      clear h1 h2 h3 h4
      go_enter Try.func79, Try.ntmps79
      go_wp2_with (first | (go_at_call 74; refine (named_any _ _ hn).mono ?_; rintro e w' ⟨rfl, rfl⟩) | (go_at_call 75; refine (find_any b v s name _ HI.out).mono ?_; rintro e w' ⟨rfl, rfl⟩; rw [H2.out]) | fail)
      go_ret2
      exact ⟨by rw [show knownI s name = (i : Int) by unfold knownI; rw [HR.out, H2.out]; rfl, HR.out]; rfl, rfl⟩
    · have HR := Lib.hid (show dknown s name = 5 by rw [show dknown s name = if get s.files name = none then 5 else 0 by simp [dknown, hnm], h3]; rfl)
      have H2 := Lib.hid h2
      clear h1 h2 h3
      go_enter Try.func79, Try.ntmps79
      go_wp2_with (first | (go_at_call 74; refine (named_any _ _ hn).mono ?_; rintro e w' ⟨rfl, rfl⟩) | (go_at_call 75; refine (find_any b v s name _ HI.out).mono ?_; rintro e w' ⟨rfl, rfl⟩; rw [H2.out]) | fail)
      go_ret2
      exact ⟨by rw [show knownI s name = 0 by unfold knownI; rw [HR.out]; rfl, HR.out]; rfl, rfl⟩
end Go.Proofs.Ythmjjbgjbcnjmaa
