import Derived.Test.YthmjjbgjbcnjmaaSd
namespace Go.Proofs.Ythmjjbgjbcnjmaa
open Go.RowKit Go.Hop

def ba : ByteArray := ⟨#[97]⟩
def bx : ByteArray := ⟨#[120]⟩
def byz : ByteArray := ⟨#[121, 122]⟩
def W1 : DSt := (dappend DSt.new ba bx).2
def W2 : DSt := (dsync W1 ba).2
def W3 : DSt := (dappend W2 ba byz).2
def W4 : DSt := (dcrash W3 [1]).2
theorem W1_def : (dappend DSt.new ba bx).2 = W1 := rfl
theorem W2_def : (dsync W1 ba).2 = W2 := rfl
theorem W3_def : (dappend W2 ba byz).2 = W3 := rfl
theorem W4_def : (dcrash W3 [1]).2 = W4 := rfl
attribute [irreducible] W1 W2 W3 W4
theorem w1_eq : (dappend DSt.new ba bx).1 = 0 := by kernel_rfl
theorem w2_eq : (dsync W1 ba).1 = 0 := by kernel_rfl
theorem w3_eq : (dappend W2 ba byz).1 = 0 := by kernel_rfl
theorem w4_eq : (dcrash W3 [1]).1 = 0 := by kernel_rfl
theorem w5_eq : dread W4 ba = (⟨#[120, 121]⟩, 0) := by kernel_rfl

theorem Rd.one (w : World) (u : Int) (t : Nat) : Rd encI (w.alloc (.cells #[.int .i64 u] t)) (.slice (some ⟨w.heap.size, 0, none⟩) 1 1) [u] :=
  ⟨_, _, rfl, Nat.le_refl _, fun j y hj => ⟨_, _, rfl, by
    rw [Nat.zero_add]
    exact cells_at (heap_alloc_at w _) j _ (by
      cases j with
      | zero => simp at hj; subst hj; rfl
      | succ j => simp at hj)⟩⟩

set_option maxHeartbeats 1000000 in
set_option maxRecDepth 100000 in
theorem works_any (w : World) : Calls Try.prog 14 #[] w (AsBefore w (.bool true)) := by
  have Ea := Lib.hid (rfl : ba = ⟨#[97]⟩)
  go_enter Try.func14, Try.ntmps14
  go_wp2_with (first | (go_at_call 9; go_loud (refine (new_any _).mono ?_; rintro e w0 ⟨rfl, hI0, hf0⟩; have HI0 := Lib.hid hI0; have HF0 := Lib.hid hf0; clear hI0 hf0)) | (go_at_call 36; refine (append_any (w.heap.size + 1) w.heap.size DSt.new ba bx _ HI0.out (by decide) (by decide)).mono ?_; rintro e w1 ⟨rfl, hI1, hf1⟩; rw [w1_eq]; rw [W1_def] at hI1; have HI1 := Lib.hid hI1; clear HI0; have HF1 := Lib.hid hf1; clear hI1 hf1) | (go_at_call 38; go_loud (refine (sync_any (w.heap.size + 1) w.heap.size W1 ba _ HI1.out (by decide)).mono ?_; rintro e w2 ⟨rfl, hI2, hf2⟩; rw [w2_eq]; rw [W2_def] at hI2; have HI2 := Lib.hid hI2; clear HI1; have HF2 := Lib.hid hf2; clear hI2 hf2)) | (go_at_call 36; go_loud (refine (append_any (w.heap.size + 1) w.heap.size W2 ba byz _ HI2.out (by decide) (by decide)).mono ?_; rintro e w3 ⟨rfl, hI3, hf3⟩; rw [w3_eq]; rw [W3_def] at hI3; have HI3 := Lib.hid hI3; clear HI2; have HF3 := Lib.hid hf3; clear hI3 hf3)) | (go_at_call 49; go_loud (refine (crash_any (w.heap.size + 1) w.heap.size W3 _ [1] _ (HI3.out.later ((Fr.refl no w3).alloc _)) (Rd.one w3 1 _) (fun j hj => by obtain rfl : w3.heap.size = j := Option.some.inj hj; have := HI3.out.lt; refine ⟨by simp, ?_, ?_⟩ <;> omega) (by decide) (by decide)).mono ?_; rintro e w4 ⟨rfl, hI4, hf4⟩; rw [w4_eq]; rw [W4_def] at hI4; have HI4 := Lib.hid hI4; clear HI3; have HF4 := Lib.hid hf4; clear hI4 hf4)) | (go_at_call 44; go_loud (refine (read_any (w.heap.size + 1) w.heap.size W4 ba _ HI4.out (by decide)).mono ?_; rintro e w5 ⟨rfl, hf5⟩; rw [w5_eq]; have HF5 := Lib.hid hf5; clear hf5)) | fail)
  go_ret
  have f0 : Fr no w w0 := HF0.out
  have f1 : Fr no w w1 := f0.trans HF1.out (fun i hi q => by rcases q with q | q <;> omega)
  have f2 : Fr no w w2 := f1.trans HF2.out (fun i hi q => by rcases q with q | q <;> omega)
  have f3 : Fr no w w3 := f2.trans HF3.out (fun i hi q => by rcases q with q | q <;> omega)
  have f4 : Fr no w w4 := (f3.alloc _).trans HF4.out (fun i hi q => by rcases q with q | q <;> omega)
  exact ⟨rfl, f4.trans HF5.out (fun _ _ q => q)⟩
end Go.Proofs.Ythmjjbgjbcnjmaa
