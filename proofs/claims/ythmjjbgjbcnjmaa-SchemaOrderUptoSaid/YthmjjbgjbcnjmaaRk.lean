import Derived.Test.YthmjjbgjbcnjmaaRj
namespace Go.Proofs.Ythmjjbgjbcnjmaa
open Go.RowKit Go.Hop

theorem El50 : El Try.prog 50 9 1 16 := El.mk_ (.string ⟨#[]⟩) Try.underlying50 (by decide) rfl (by kernel_rfl)
theorem rc_new1 (w : World) (u : Value) (t : Nat) (h : u.oneCell' = true := by simp [Value.oneCell']) : Rc (w.alloc (.cells #[u] t)) 1 (.slice (some ⟨w.heap.size, 0, none⟩) 1 1) 1 [u] :=
  ⟨_, _, rfl, Nat.le_refl _, rfl, by simpa using h, fun j y hj => ⟨_, _, rfl, by
    rw [Nat.zero_add]
    exact cells_at (heap_alloc_at w _) j y (by simpa using hj)⟩⟩
structure NR (w : World) (s : DSt) (k : Nat) (v : Value) (wr : World) : Prop where
  le : k ≤ s.files.length
  own : wr.ownsRow w.heap.size 9 1 v k ((s.files.take k).map (fun p => Value.string p.1))
  fr : Fr no w wr

set_option maxHeartbeats 1000000 in
set_option maxRecDepth 100000 in
theorem rnames_any (b : Nat) (v : Value) (s : DSt) (w : World) (h : IsR w b v s) :
    Calls Try.prog 53 #[.pointer (some ⟨b, 0, none⟩)] w fun e w' => ∃ r, e = .returned r ∧ w'.ownsRow w.heap.size 9 1 r s.files.length (s.files.map (fun p => Value.string p.1)) ∧ Fr no w w' := by
  obtain ⟨A, c, rfl, hc⟩ := h.form
  have hfew := h.ok.few
  have hlb := h.lt.1
  have HI := Lib.hid h
  clear h
  go_enter Try.func53, Try.ntmps53
  go_wp2_with fail
  go_loopw [3, 4] (fun r i wr => ∃ k : Nat, i = .int .i64 k ∧ Hid (NR w s k r wr)) (fun _ i _ => s.files.length - (intOf i).toNat)
  case atStart => exact ⟨0, rfl, Lib.hid ⟨Nat.zero_le _, World.ownsRow_nil _ _ _ _, Fr.refl _ _⟩⟩
  case round =>
    obtain ⟨k, rfl, HN⟩ := hrel
    have hk := HN.out.le
    have HIw := Lib.hid (HI.out.later HN.out.fr)
    have c0 : wr.cell? ⟨b, 0, none⟩ = some (.slice A s.files.length c) := cells_at HIw.out.blk 0 _ rfl
    by_cases hlen : k < s.files.length
    · obtain ⟨p, hp⟩ : ∃ p, s.files[k]? = some p := ⟨_, List.getElem?_eq_getElem hlen⟩
      obtain ⟨g, rfl, e0, e1, e2, e3, e4, e5⟩ := HIw.out.at_ k p hp
      have Hp := Lib.hid hp
      have t1 : decide ((k : Int) < (s.files.length : Int)) = true := by simp; omega
      have t2 : decide (k < s.files.length) = true := by simp; omega
      clear hp e3 e4
      go_wp2_with (first | (at_builtin; go_loud (refine wp_append rfl (.tmp 14) (.tmp 23) 50 rfl El50 _ _ _ rfl (HN.out.own.alloc _) _ 1 [.string p.1] rfl (rc_new1 _ _ _) (by unfold maxLen; omega) (by omega) (by have := HN.out.fr.size; simp; omega) ?_; intro v1 w1 ho1 hg1 hloc1; have HO := Lib.hid ho1; have HG := Lib.hid hg1; clear ho1 hg1 hloc1)) | fail)
      go_roundw
      case rel => exact ⟨k + 1, by go_num, Lib.hid ⟨by omega, by rw [List.take_add_one, Hp.out]; simpa using HO.out, (HN.out.fr.alloc _).trans (Fr.grown HG.out) (fun j hj q => absurd (HN.out.own.lt j q.symm).1 (by omega))⟩⟩
      case measure => simp [intOf]; omega
    · have t1 : decide ((k : Int) < (s.files.length : Int)) = false := by simp; omega
      have t2 : decide (k < s.files.length) = false := by simp; omega
      go_wp2_with fail
      go_ret
      have e : k = s.files.length := by omega
      have ho := HN.out.own
      rw [e, List.take_length] at ho
      exact ⟨_, rfl, ho, HN.out.fr⟩
end Go.Proofs.Ythmjjbgjbcnjmaa
