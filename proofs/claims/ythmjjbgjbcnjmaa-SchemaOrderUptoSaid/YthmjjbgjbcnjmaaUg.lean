import Derived.Test.YthmjjbgjbcnjmaaUf
namespace Go.Proofs.Ythmjjbgjbcnjmaa
open Go.RowKit Go.Hop

set_option maxHeartbeats 2000000 in
set_option maxRecDepth 100000 in
theorem sworks_any (w : World) : Calls Try.prog 16 #[] w (AsBefore w (.bool true)) := by
  have hmk := ExW.made w
  have HMK := Lib.hid hmk
  have hE1 := Lib.hid ex1
  have hE2 := Lib.hid ex2
  have HL := Lib.hid (And.intro (check_small exT_ok) exT_fit)
  clear hmk
  have T1 : True := trivial
  have HFa := Lib.hid (show fit2 2 = 0 from rfl)
  have HFb := Lib.hid (show fit2 0 = 150 from rfl)
  have hlen1 : exC.length = 1 := rfl
  go_enter Try.func16, Try.ntmps16
  go_wp2_with (first | (go_at_call 15; go_loud (refine (cnew_any (fun k => w.heap.size + 6 ≤ k) _ (by simp)).mono ?_; rintro e w1 ⟨rfl, hI1, hf1⟩; have hx1 := HMK.out.keep hf1 (fun _ q => q.elim); obtain ⟨y0, y1, y2, y3⟩ := hx1.cells; have hl1 := hI1.lt; simp at hl1; have hlt1 := hl1.1; have hI1' : IsC w1 (fun k => w.heap.size + 6 ≤ k) (w.heap.size + 1 + 1 + 1 + 1 + 1) (w.heap.size + 1 + 1 + 1 + 1) [] := (by simpa using hI1); have HI1 := Lib.hid hI1'; clear hI1'; have HX1 := Lib.hid hx1; clear hI1 hf1 hx1 hl1)) | (go_at_call 17; clear T1; go_loud (refine (ccreate_any (fun k => w.heap.size + 6 ≤ k) (fun k => k < w.heap.size + 4) (w.heap.size + 1 + 1 + 1 + 1 + 1) (w.heap.size + 1 + 1 + 1 + 1) [] _ exT _ HI1.out HX1.out.tab HL.out.2 (by decide) (by decide) (fun k hk => by omega)).mono ?_; rintro e w2 ⟨rfl, hI2, hf2⟩; rw [hE1.out] at hI2 ⊢; have hx2 := HX1.out.keep hf2 (fun k (q : k = w.heap.size + 1 + 1 + 1 + 1) => by omega); have hs2 := hf2.size; clear HI1 HX1; clear y0 y1 y2 y3; obtain ⟨y0, y1, y2, y3⟩ := hx2.cells; have HI2 := Lib.hid hI2; have HX2 := Lib.hid hx2; clear hI2 hf2 hx2)) | (go_at_call 17; go_loud (refine (ccreate_any (fun k => w.heap.size + 6 ≤ k) (fun k => k < w.heap.size + 4) (w.heap.size + 1 + 1 + 1 + 1 + 1) (w.heap.size + 1 + 1 + 1 + 1) exC _ exT _ HI2.out HX2.out.tab HL.out.2 (by decide) (by decide) (fun k hk => by omega)).mono ?_; rintro e w3 ⟨rfl, hI3, hf3⟩; rw [hE2.out] at hI3 ⊢; have hx3 := HX2.out.keep hf3 (fun k (q : k = w.heap.size + 1 + 1 + 1 + 1) => by omega); have hs3 := hf3.size; clear HI2 HX2; clear y0 y1 y2 y3; obtain ⟨y0, y1, y2, y3⟩ := hx3.cells; have HI3 := Lib.hid hI3; have HX3 := Lib.hid hx3; clear hI3 hf3 hx3)) | (go_at_call 21; go_loud (refine (cnames_any (fun k => w.heap.size + 6 ≤ k) _ _ exC _ HI3.out).mono ?_; rintro e w4 ⟨v4, rfl, ho4, hf4⟩; have hx4 := HX3.out.keep hf4 (fun k q => q.elim); obtain ⟨g4, c4, hv4, hb4, hs4, hc4⟩ := owns_form ho4 (by decide); subst hv4; have e4 := owns_at ho4 (j := 0) (u := .string ⟨#[116]⟩) rfl; clear y0 y1 y2 y3; obtain ⟨y0, y1, y2, y3⟩ := hx4.cells; have HX4 := Lib.hid hx4; clear hf4 hx4 ho4 HX3 HI3 hc4)) | (go_at_call 54; clear hlt1; go_loud (refine (fits_any (fun k => k < w.heap.size + 4) w4.heap.size 2 5 _ _ ⟨heap_alloc_at w4 _, .inr ⟨rfl, rfl⟩⟩ (HX4.out.tab.later ((Fr.refl no w4).alloc _))).mono ?_; rintro e w5 ⟨rfl, hf5⟩; rw [HFa.out]; have hx5 := HX4.out.keep (((Fr.refl no w4).alloc _).trans hf5 (fun _ _ z => z)) (fun k q => q.elim); clear y0 y1 y2 y3 e4; obtain ⟨y0, y1, y2, y3⟩ := hx5.cells; have HX5 := Lib.hid hx5; clear hf5 hx5 HX4)) | (go_at_call 54; go_loud (refine (fits_any (fun k => k < w.heap.size + 4) w5.heap.size 0 0 _ _ ⟨heap_alloc_at w5 _, .inl ⟨rfl, rfl⟩⟩ (HX5.out.tab.later ((Fr.refl no w5).alloc _))).mono ?_; rintro e w6 ⟨rfl, hf6⟩; rw [HFb.out])) | fail)
  go_ret
  exact ⟨rfl, (HX5.out.fr.alloc _).trans hf6 (fun _ _ z => z)⟩
end Go.Proofs.Ythmjjbgjbcnjmaa
