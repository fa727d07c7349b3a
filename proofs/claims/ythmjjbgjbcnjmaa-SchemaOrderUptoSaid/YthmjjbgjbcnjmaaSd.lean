import Derived.Test.YthmjjbgjbcnjmaaSc
namespace Go.Proofs.Ythmjjbgjbcnjmaa
open Go.RowKit Go.Hop

theorem dread_at {s : DSt} (h : s.Ok) {i : Nat} {p : ByteArray × File} (hp : s.files[i]? = some p) (hnm : named p.1 = true) : dread s p.1 = (p.2.1, 0) := by
  have hg := Hop.get_at h.srt i p hp
  have hk : dknown s p.1 = 0 := by simp [dknown, hnm, hg]
  simp [dread, hk, fileAt, hg]

theorem Rd.names {w : World} {v : Value} {xs : List (ByteArray × File)} (h : Rd encN w v xs) : Rd (fun x => Value.string x) w v (xs.map (·.1)) := by
  obtain ⟨A, c, rfl, hc, hx⟩ := h
  refine ⟨A, c, by simp, by simpa using hc, fun j x hj => ?_⟩
  rw [List.getElem?_map] at hj
  cases hxj : xs[j]? with
  | none => simp [hxj] at hj
  | some y =>
    simp only [hxj, Option.map_some, Option.some.injEq] at hj
    subst hj
    exact hx j y hxj

set_option maxHeartbeats 1000000 in
set_option maxRecDepth 100000 in
theorem same_any (a m b : Nat) (v : Value) (s : DSt) (w : World) (h : Two w a m b v s) (hnm : ∀ p ∈ s.files, named p.1 = true) :
    Calls Try.prog 13 #[.pointer (some ⟨a, 0, none⟩), .pointer (some ⟨b, 0, none⟩)] w (AsBefore w (.bool true)) := by
  have H := Lib.hid h
  have Hn := Lib.hid hnm
  obtain ⟨Av, cv, rfl, hcv⟩ := h.r.form
  have hfew := h.d.ok.few
  clear h hnm
  go_enter Try.func13, Try.ntmps13
  go_wp2_with (first | (go_at_call 52; go_loud (refine (names_any a m s _ H.out.d).mono ?_; rintro e w1 ⟨vn, rfl, ho, hf1⟩; have HRN := Lib.hid (Rd.of_owns (xs := s.files) (enc := encN) (by simpa using ho)); obtain ⟨An, cn, hvn, hcn⟩ := HRN.out.len; subst hvn; have HF1 := Lib.hid hf1; clear ho hf1)) | (go_at_call 53; go_loud (refine (rnames_any b _ s _ (H.out.r.later HF1.out)).mono ?_; rintro e w2 ⟨vm, rfl, ho, hf2⟩; have HRM := Lib.hid (Rd.of_owns (xs := s.files) (enc := encN) (by simpa using ho)); obtain ⟨Am, cm, hvm, hcm⟩ := HRM.out.len; subst hvm; have HF2 := Lib.hid hf2; clear ho hf2)) | (go_at_call 20; go_loud (refine (texts_any _ _ (s.files.map (·.1)) _ (Rd.names (HRN.out.keep HF2.out (fun _ _ z => z))) (Rd.names HRM.out) (by simp; omega)).mono ?_; rintro e w3 ⟨rfl, hf3⟩; have HF3 := Lib.hid hf3; clear hf3)) | fail)
  have hf03 := (HF1.out.trans HF2.out (fun _ _ z => z)).trans HF3.out (fun _ _ z => z)
  have hf13 := HF2.out.trans HF3.out (fun _ _ z => z)
  have HF := Lib.hid hf03
  have HF13 := Lib.hid hf13
  clear hf03 hf13
  go_loopw [6] (fun i wr => ∃ k : Nat, k ≤ s.files.length ∧ i = .int .i64 k ∧ Hid (Fr no w3 wr)) (fun i _ => s.files.length - (intOf i).toNat)
  case atStart => exact ⟨0, Nat.zero_le _, rfl, Lib.hid (Fr.refl _ _)⟩
  case round =>
    obtain ⟨k, hk, rfl, hfr⟩ := hrel
    have HW := Lib.hid (H.out.later (HF.out.trans hfr.out (fun _ _ z => z)))
    by_cases hlt : k < s.files.length
    · obtain ⟨p, hp⟩ : ∃ p, s.files[k]? = some p := ⟨_, List.getElem?_eq_getElem hlt⟩
      obtain ⟨bn, on, rfl, e0⟩ := ((HRN.out.keep HF13.out (fun _ _ z => z)).keep hfr.out (fun _ _ z => z)).at_ k p hp
      have t1 : decide ((k : Int) < (s.files.length : Int)) = true := by simp; omega
      have t2 : decide (k < s.files.length) = true := by simp; omega
      have HP := Lib.hid hp
      have HDr := Lib.hid (dread_at H.out.d.ok hp (Hn.out p (List.mem_of_getElem? hp)))
      have hsz := H.out.d.ok.nam p (List.mem_of_getElem? hp)
      clear hp
      go_wp2_with (first | (go_at_call 44; go_loud (refine (read_any a m s p.1 _ HW.out.d (by omega)).mono ?_; rintro e w4 ⟨rfl, hf4⟩; rw [HDr.out]; have HF4 := Lib.hid hf4; clear hf4; obtain ⟨g, hAv, q0, q1, q2, q3, q4, q5⟩ := (HW.out.r.later HF4.out).at_ k p HP.out; subst hAv; have c0 : w4.cell? ⟨b, 0, none⟩ = some (.slice (some ⟨g, 0, none⟩) s.files.length cv) := cells_at (HW.out.r.later HF4.out).blk 0 _ rfl)) | fail)
      go_roundw
      case rel => exact ⟨k + 1, by omega, by go_num, Lib.hid (hfr.out.trans HF4.out (fun _ _ z => z))⟩
      case measure => simp [intOf]; omega
    · have t1 : decide ((k : Int) < (s.files.length : Int)) = false := by simp; omega
      have t2 : decide (k < s.files.length) = false := by simp; omega
      go_wp2
      go_ret
      exact ⟨rfl, HF.out.trans hfr.out (fun _ _ z => z)⟩
end Go.Proofs.Ythmjjbgjbcnjmaa
