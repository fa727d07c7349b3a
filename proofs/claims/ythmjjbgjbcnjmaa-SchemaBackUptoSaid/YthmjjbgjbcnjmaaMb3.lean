/-
  Contracts of the functions that the statement reaches, and the plain laws behind it: this seat's texts Sc, Sd, Se, Sf, Sg, Va, Ta, Tb, Tc, one behind the other.
-/
import Derived.Test.YthmjjbgjbcnjmaaMb2
import Derived.Test.YthmjjbgjbcnjmaaRows
import Derived.WalkKit
import Derived.ProofKit
import Derived.OpenShut
import Derived.JoinedCond
import Derived.Carry
import Derived.Deep.Slices
import Derived.Laws.IdiomStrings

namespace Go.Proofs.Ythmjjbgjbcnjmaa
open Go.RowKit Go.Hop
attribute [local go_sem ↓] Go.wp_at_zero Go.wp_at_succ

theorem Two.dmove {w w1 : World} {a m b : Nat} {v : Value} {s : DSt} (h : Two w a m b v s) (hf : Fr (fun k => k = a ∨ k = m) w w1) : IsR w1 b v s :=
  h.r.keep hf (fun q => by rcases q with q | q; exact h.ab q.symm; exact h.mb q.symm) (fun k hk q => by rcases q with q | q; exact h.va (q ▸ hk); exact h.vm (q ▸ hk))
theorem fr_four1 {a m b : Nat} {v : Value} {w w1 : World} (h : Fr (fun k => k = a ∨ k = m) w w1) : Fr (Four a m b v) w w1 := h.mono (fun _ _ q => by rcases q with q | q; exact .inl q; exact .inr (.inl q))
theorem fr_four2 {a m b : Nat} {v : Value} {w w1 : World} (h : Fr (fun k => k = b ∨ some k = v.ownBlock) w w1) : Fr (Four a m b v) w w1 := h.mono (fun _ _ q => .inr (.inr q))
theorem Rd.keep' {α : Type} {enc : α → Value} {S : Nat → Prop} {w w' : World} {v : Value} {xs : List α} (h : Rd enc w v xs) (hf : Fr S w w') (hn : xs ≠ [] → ∀ k, v.ownBlock = some k → ¬ S k) : Rd enc w' v xs := by
  by_cases he : xs = []
  · obtain ⟨A, c, q1, q2, _⟩ := h
    exact ⟨A, c, q1, q2, fun j x hj => by rw [he] at hj; simp at hj⟩
  · exact h.keep hf (hn he)
/-- draws that no disk holds -/
structure Draws (w : World) (a m b : Nat) (v dv : Value) (ds : List Int) : Prop where
  rd : Rd encI w dv ds
  far : ds ≠ [] → ∀ k, dv.ownBlock = some k → k < w.heap.size ∧ ¬ Four a m b v k
theorem Draws.keep {w w1 : World} {a m b : Nat} {v dv : Value} {ds : List Int} (h : Draws w a m b v dv ds) (hf : Fr (Four a m b v) w w1) : Draws w1 a m b v dv ds :=
  ⟨Rd.keep' h.rd hf (fun hn k hk => (h.far hn k hk).2), fun hn k hk => ⟨Nat.lt_of_lt_of_le (h.far hn k hk).1 hf.size, (h.far hn k hk).2⟩⟩
theorem Draws.later {w w1 : World} {a m b : Nat} {v dv : Value} {ds : List Int} (h : Draws w a m b v dv ds) (hf : Fr no w w1) : Draws w1 a m b v dv ds := h.keep (hf.mono (fun _ _ q => q.elim))

set_option maxHeartbeats 1000000 in
set_option maxRecDepth 100000 in
theorem step_crash (a m b : Nat) (v : Value) (s : DSt) (k : Int) (name data : ByteArray) (n : Int) (dv : Value) (ds : List Int) (w : World) (h : Two w a m b v s) (hdr : Draws w a m b v dv ds) (hdl : ds.length ≤ 8796093022207) (hdw : ∀ d ∈ ds, -9223372036854775808 ≤ d ∧ d ≤ 9223372036854775807) (hk : -9223372036854775808 ≤ k ∧ k ≤ 9223372036854775807)
   (hone : dv.oneCell' = true) (hr : k.tmod 7 % 7 = 6) : Calls Try.prog 12 #[.pointer (some ⟨a, 0, none⟩), .pointer (some ⟨b, 0, none⟩), .agg #[.int .i64 k, .string name, .string data, .int .i64 n, dv]] w (StepPost w a m b v s) := by
  have H := Lib.hid h
  have HR := Lib.hid hr
  have HD := Lib.hid hdr
  have Hdw := Lib.hid hdw
  have hnew := ActAt.new w k name data n dv 31
  have hl := h.lt
  have ha := hl a (.inl rfl)
  have hm := hl m (.inr (.inl rfl))
  have hb := hl b (.inr (.inr (.inl rfl)))
  have hv := fun k q => hl k (.inr (.inr (.inr q)))
  have Hv := Lib.hid hv
  clear h hr hdr hdw hl hv
  go_enter Try.func12, Try.ntmps12
  go_wp2_with (first | (go_at_call 35; refine (among_any k _ hk).mono ?_; rintro e w' ⟨rfl, rfl⟩; rw [HR.out]) | (go_at_call 48; go_loud (refine (lend_any dv ds _ (HD.out.later ((Fr.refl no w).alloc _)).rd hdl).mono ?_; rintro e w1 ⟨g, c, rfl, hL, hg, hfL⟩; have hnewL := hnew.keep hfL id; have HL := Lib.hid hL; have HfL := Lib.hid hfL; have hgw : w.heap.size < g := (by simp at hg; omega); clear hL hfL hg)) | fail)
  have h1 := H.out.later (((Fr.refl no w).alloc (.cells #[.int .i64 k, .string name, .string data, .int .i64 n, dv] 31)).trans HfL.out (fun _ _ z => z))
  have hD1 := HD.out.later (((Fr.refl no w).alloc (.cells #[.int .i64 k, .string name, .string data, .int .i64 n, dv] 31)).trans HfL.out (fun _ _ z => z))
  have hgf : ¬ Four a m b v g := fun q => by
    have := H.out.lt g q
    omega
  have hpf : ¬ Four a m b v w.heap.size := fun q => by
    have := H.out.lt _ q
    omega
  have H1 := Lib.hid h1
  have HD1 := Lib.hid hD1
  clear h1 hD1
  go_region_held3 (fun w' => w'.cell? ⟨w.heap.size, 0, none⟩ = some (.int .i64 k) ∧ w'.cell? ⟨w.heap.size, 1, none⟩ = some (.string name) ∧ w'.cell? ⟨w.heap.size, 2, none⟩ = some (.string data) ∧ w'.cell? ⟨w.heap.size, 3, none⟩ = some (.int .i64 n) ∧ w'.cell? ⟨w.heap.size, 4, none⟩ = some dv) (first | (exact hnew3) | (exact hnew2) | (exact hnew1) | (exact hnewL) | (exact hnewL.keep (Fr.drew (Fr.refl no _)) id)) (first | (go_at_call 49; go_loud (refine (crash_any a m s _ ds _ (H1.out.d.later (Fr.drew (Fr.refl no w1))) (HL.out.keep (Fr.drew (Fr.refl no w1)) id).rd (fun j hj => by obtain rfl : g = j := Option.some.inj hj; exact ⟨(HL.out.keep (Fr.drew (Fr.refl no w1)) id).lt, by omega, by omega⟩) (by omega) Hdw.out).mono ?_; rintro e w2 ⟨rfl, hI1, hf1⟩; have hr1 := (H1.out.later (Fr.drew (Fr.refl no w1))).dmove hf1; have hD2 := (HD1.out.later (Fr.drew (Fr.refl no w1))).keep (fr_four1 hf1); have hL2 := (HL.out.keep (Fr.drew (Fr.refl no w1)) id).keep (fr_four1 (b := b) (v := v) hf1) hgf; have hnew1 := (hnewL.keep (Fr.drew (Fr.refl no w1)) id).keep (fr_four1 (b := b) (v := v) hf1) hpf)) | (go_at_call 50; refine (rcrash_any b v s dv ds _ hr1 hD2.rd (fun hn j hj => ⟨(hD2.far hn j hj).1, fun q => (hD2.far hn j hj).2 (.inr (.inr (.inl q))), fun q => (hD2.far hn j hj).2 (.inr (.inr (.inr q.symm)))⟩) (by omega) Hdw.out).mono ?_; rintro e w3 ⟨v2, rfl, hI2, hf2, hv2⟩; have hD3 := hD2.keep (fr_four2 hf2); have hL3 := hL2.keep (fr_four2 (a := a) (m := m) hf2) hgf; have hnew2 := hnew1.keep (fr_four2 (a := a) (m := m) hf2) hpf) | (go_at_call 51; refine (kept_any g c dv ds _ hL3 hD3.rd hdl).mono ?_; rintro e w4 ⟨rfl, hf4⟩; have hnew3 := hnew2.keep hf4 id))
  all_goals go_wp2
  all_goals go_ret
  have hfa := (((Fr.refl no w).alloc (.cells #[.int .i64 k, .string name, .string data, .int .i64 n, dv] 31)).trans HfL.out (fun _ _ z => z)).drew
  exact ⟨by simp, _, fun q => q.crash _, Both.before hfa (Both.after (both_of (H1.out.later (Fr.drew (Fr.refl no w1))) hI1 hf1 (Fr.refl no _) hI2 hf2 hv2) hf4)⟩

/-- an act that is well formed -/
structure Act5 where
  k : Int
  name : ByteArray
  data : ByteArray
  n : Int
  dv : Value
  ds : List Int
def Act5.val (u : Act5) : Value := .agg #[.int .i64 u.k, .string u.name, .string u.data, .int .i64 u.n, u.dv]
structure Act5.Ok (u : Act5) : Prop where
  k : -9223372036854775808 ≤ u.k ∧ u.k ≤ 9223372036854775807
  name : u.name.size ≤ 140737488351232
  data : u.data.size ≤ 140737488351232
  n : u.n ≤ 9223372036854775807
  len : u.ds.length ≤ 8796093022207
  rng : ∀ d ∈ u.ds, -9223372036854775808 ≤ d ∧ d ≤ 9223372036854775807
theorem step_any (a m b : Nat) (v : Value) (s : DSt) (u : Act5) (w : World) (h : Two w a m b v s) (hu : u.Ok) (hdr : Draws w a m b v u.dv u.ds) :
    Calls Try.prog 12 #[.pointer (some ⟨a, 0, none⟩), .pointer (some ⟨b, 0, none⟩), u.val] w (StepPost w a m b v s) := by
  obtain ⟨k, name, data, n, dv, ds⟩ := u
  have hone : dv.oneCell' = true := by
    obtain ⟨A, c, e, _⟩ := hdr.rd
    simp only at e
    subst e; rfl
  rcases (by omega : k.tmod 7 % 7 = 0 ∨ k.tmod 7 % 7 = 1 ∨ k.tmod 7 % 7 = 2 ∨ k.tmod 7 % 7 = 3 ∨ k.tmod 7 % 7 = 4 ∨ k.tmod 7 % 7 = 5 ∨ k.tmod 7 % 7 = 6) with hr | hr | hr | hr | hr | hr | hr
  · exact step_append a m b v s k name data n dv w h hu.name hu.data hu.n hu.k hone hr
  · exact step_sync a m b v s k name data n dv w h hu.name hu.data hu.n hu.k hone hr
  · exact step_rename a m b v s k name data n dv w h hu.name hu.data hu.n hu.k hone hr
  · exact step_remove a m b v s k name data n dv w h hu.name hu.data hu.n hu.k hone hr
  · exact step_read a m b v s k name data n dv w h hu.name hu.k hone hr
  · exact step_fuse a m b v s k name data n dv w h hu.name hu.data hu.n hu.k hone hr
  · exact step_crash a m b v s k name data n dv ds w h hdr hu.len hu.rng hu.k hone hr
end Go.Proofs.Ythmjjbgjbcnjmaa

namespace Go.Proofs.Ythmjjbgjbcnjmaa
open Go.RowKit Go.Hop

theorem dread_at {s : DSt} (h : s.Ok) {i : Nat} {p : ByteArray × File} (hp : s.files[i]? = some p) (hnm : named p.1 = true) : dread s p.1 = (p.2.1, 0) := by
  have hg := Hop.get_at h.srt i p hp
  have hk : dknown s p.1 = 0 := by simp [dknown, hnm, hg]
  simp [dread, hk, fileAt, hg]

theorem Rd.names {w : World} {v : Value} {xs : List (ByteArray × File)} (h : Rd encN w v xs) : Rd (fun x => Value.string x) w v (xs.map (·.1)) := by
  obtain ⟨A, c, rfl, hc, hx⟩ := h
  refine ⟨A, c, by simp, by simpa using hc, fun j x hj => ?_⟩
  rw [List.getElem?_map] at hj
  cases hxj : xs[j]? with
  | none => simp [hxj] at hj
  | some y =>
    simp only [hxj, Option.map_some, Option.some.injEq] at hj
    subst hj
    exact hx j y hxj

set_option maxHeartbeats 1000000 in
set_option maxRecDepth 100000 in
theorem same_any (a m b : Nat) (v : Value) (s : DSt) (w : World) (h : Two w a m b v s) (hnm : ∀ p ∈ s.files, named p.1 = true) :
    Calls Try.prog 13 #[.pointer (some ⟨a, 0, none⟩), .pointer (some ⟨b, 0, none⟩)] w (AsBefore w (.bool true)) := by
  have H := Lib.hid h
  have Hn := Lib.hid hnm
  obtain ⟨Av, cv, rfl, hcv⟩ := h.r.form
  have hfew := h.d.ok.few
  clear h hnm
  go_enter Try.func13, Try.ntmps13
  go_wp2_with (first | (go_at_call 52; go_loud (refine (names_any a m s _ H.out.d).mono ?_; rintro e w1 ⟨vn, rfl, ho, hf1⟩; have HRN := Lib.hid (Rd.of_owns (xs := s.files) (enc := encN) (by simpa using ho)); obtain ⟨An, cn, hvn, hcn⟩ := HRN.out.len; subst hvn; have HF1 := Lib.hid hf1; clear ho hf1)) | (go_at_call 53; go_loud (refine (rnames_any b _ s _ (H.out.r.later HF1.out)).mono ?_; rintro e w2 ⟨vm, rfl, ho, hf2⟩; have HRM := Lib.hid (Rd.of_owns (xs := s.files) (enc := encN) (by simpa using ho)); obtain ⟨Am, cm, hvm, hcm⟩ := HRM.out.len; subst hvm; have HF2 := Lib.hid hf2; clear ho hf2)) | (go_at_call 20; go_loud (refine (texts_any _ _ (s.files.map (·.1)) _ (Rd.names (HRN.out.keep HF2.out (fun _ _ z => z))) (Rd.names HRM.out) (by simp; omega)).mono ?_; rintro e w3 ⟨rfl, hf3⟩; have HF3 := Lib.hid hf3; clear hf3)) | fail)
  have hf03 := (HF1.out.trans HF2.out (fun _ _ z => z)).trans HF3.out (fun _ _ z => z)
  have hf13 := HF2.out.trans HF3.out (fun _ _ z => z)
  have HF := Lib.hid hf03
  have HF13 := Lib.hid hf13
  clear hf03 hf13
  go_loopw [6] (fun i wr => ∃ k : Nat, k ≤ s.files.length ∧ i = .int .i64 k ∧ Hid (Fr no w3 wr)) (fun i _ => s.files.length - (intOf i).toNat)
  case atStart => exact ⟨0, Nat.zero_le _, rfl, Lib.hid (Fr.refl _ _)⟩
  case round =>
    obtain ⟨k, hk, rfl, hfr⟩ := hrel
    have HW := Lib.hid (H.out.later (HF.out.trans hfr.out (fun _ _ z => z)))
    by_cases hlt : k < s.files.length
    · obtain ⟨p, hp⟩ : ∃ p, s.files[k]? = some p := ⟨_, List.getElem?_eq_getElem hlt⟩
      obtain ⟨bn, on, rfl, e0⟩ := ((HRN.out.keep HF13.out (fun _ _ z => z)).keep hfr.out (fun _ _ z => z)).at_ k p hp
      have t1 : decide ((k : Int) < (s.files.length : Int)) = true := by simp; omega
      have t2 : decide (k < s.files.length) = true := by simp; omega
      have HP := Lib.hid hp
      have HDr := Lib.hid (dread_at H.out.d.ok hp (Hn.out p (List.mem_of_getElem? hp)))
      have hsz := H.out.d.ok.nam p (List.mem_of_getElem? hp)
      clear hp
      go_wp2_with (first | (go_at_call 44; go_loud (refine (read_any a m s p.1 _ HW.out.d (by omega)).mono ?_; rintro e w4 ⟨rfl, hf4⟩; rw [HDr.out]; have HF4 := Lib.hid hf4; clear hf4; obtain ⟨g, hAv, q0, q1, q2, q3, q4, q5⟩ := (HW.out.r.later HF4.out).at_ k p HP.out; subst hAv; have c0 : w4.cell? ⟨b, 0, none⟩ = some (.slice (some ⟨g, 0, none⟩) s.files.length cv) := cells_at (HW.out.r.later HF4.out).blk 0 _ rfl)) | fail)
      go_roundw
      case rel => exact ⟨k + 1, by omega, by go_num, Lib.hid (hfr.out.trans HF4.out (fun _ _ z => z))⟩
      case measure => simp [intOf]; omega
    · have t1 : decide ((k : Int) < (s.files.length : Int)) = false := by simp; omega
      have t2 : decide (k < s.files.length) = false := by simp; omega
      go_wp2
      go_ret
      exact ⟨rfl, HF.out.trans hfr.out (fun _ _ z => z)⟩
end Go.Proofs.Ythmjjbgjbcnjmaa

namespace Go.Proofs.Ythmjjbgjbcnjmaa
open Go.RowKit Go.Hop

def ba : ByteArray := ⟨#[97]⟩
def bx : ByteArray := ⟨#[120]⟩
def byz : ByteArray := ⟨#[121, 122]⟩
def W1 : DSt := (dappend DSt.new ba bx).2
def W2 : DSt := (dsync W1 ba).2
def W3 : DSt := (dappend W2 ba byz).2
def W4 : DSt := (dcrash W3 [1]).2
theorem W1_def : (dappend DSt.new ba bx).2 = W1 := rfl
theorem W2_def : (dsync W1 ba).2 = W2 := rfl
theorem W3_def : (dappend W2 ba byz).2 = W3 := rfl
theorem W4_def : (dcrash W3 [1]).2 = W4 := rfl
attribute [irreducible] W1 W2 W3 W4
theorem w1_eq : (dappend DSt.new ba bx).1 = 0 := by kernel_rfl
theorem w2_eq : (dsync W1 ba).1 = 0 := by kernel_rfl
theorem w3_eq : (dappend W2 ba byz).1 = 0 := by kernel_rfl
theorem w4_eq : (dcrash W3 [1]).1 = 0 := by kernel_rfl
theorem w5_eq : dread W4 ba = (⟨#[120, 121]⟩, 0) := by kernel_rfl

theorem Rd.one (w : World) (u : Int) (t : Nat) : Rd encI (w.alloc (.cells #[.int .i64 u] t)) (.slice (some ⟨w.heap.size, 0, none⟩) 1 1) [u] :=
  ⟨_, _, rfl, Nat.le_refl _, fun j y hj => ⟨_, _, rfl, by
    rw [Nat.zero_add]
    exact cells_at (heap_alloc_at w _) j _ (by
      cases j with
      | zero => simp at hj; subst hj; rfl
      | succ j => simp at hj)⟩⟩

set_option maxHeartbeats 1000000 in
set_option maxRecDepth 100000 in
theorem works_any (w : World) : Calls Try.prog 14 #[] w (AsBefore w (.bool true)) := by
  have Ea := Lib.hid (rfl : ba = ⟨#[97]⟩)
  go_enter Try.func14, Try.ntmps14
  go_wp2_with (first | (go_at_call 9; go_loud (refine (new_any _).mono ?_; rintro e w0 ⟨rfl, hI0, hf0⟩; have HI0 := Lib.hid hI0; have HF0 := Lib.hid hf0; clear hI0 hf0)) | (go_at_call 36; refine (append_any (w.heap.size + 1) w.heap.size DSt.new ba bx _ HI0.out (by decide) (by decide)).mono ?_; rintro e w1 ⟨rfl, hI1, hf1⟩; rw [w1_eq]; rw [W1_def] at hI1; have HI1 := Lib.hid hI1; clear HI0; have HF1 := Lib.hid hf1; clear hI1 hf1) | (go_at_call 38; go_loud (refine (sync_any (w.heap.size + 1) w.heap.size W1 ba _ HI1.out (by decide)).mono ?_; rintro e w2 ⟨rfl, hI2, hf2⟩; rw [w2_eq]; rw [W2_def] at hI2; have HI2 := Lib.hid hI2; clear HI1; have HF2 := Lib.hid hf2; clear hI2 hf2)) | (go_at_call 36; go_loud (refine (append_any (w.heap.size + 1) w.heap.size W2 ba byz _ HI2.out (by decide) (by decide)).mono ?_; rintro e w3 ⟨rfl, hI3, hf3⟩; rw [w3_eq]; rw [W3_def] at hI3; have HI3 := Lib.hid hI3; clear HI2; have HF3 := Lib.hid hf3; clear hI3 hf3)) | (go_at_call 49; go_loud (refine (crash_any (w.heap.size + 1) w.heap.size W3 _ [1] _ (HI3.out.later ((Fr.refl no w3).alloc _)) (Rd.one w3 1 _) (fun j hj => by obtain rfl : w3.heap.size = j := Option.some.inj hj; have := HI3.out.lt; refine ⟨by simp, ?_, ?_⟩ <;> omega) (by decide) (by decide)).mono ?_; rintro e w4 ⟨rfl, hI4, hf4⟩; rw [w4_eq]; rw [W4_def] at hI4; have HI4 := Lib.hid hI4; clear HI3; have HF4 := Lib.hid hf4; clear hI4 hf4)) | (go_at_call 44; go_loud (refine (read_any (w.heap.size + 1) w.heap.size W4 ba _ HI4.out (by decide)).mono ?_; rintro e w5 ⟨rfl, hf5⟩; rw [w5_eq]; have HF5 := Lib.hid hf5; clear hf5)) | fail)
  go_ret
  have f0 : Fr no w w0 := HF0.out
  have f1 : Fr no w w1 := f0.trans HF1.out (fun i hi q => by rcases q with q | q <;> omega)
  have f2 : Fr no w w2 := f1.trans HF2.out (fun i hi q => by rcases q with q | q <;> omega)
  have f3 : Fr no w w3 := f2.trans HF3.out (fun i hi q => by rcases q with q | q <;> omega)
  have f4 : Fr no w w4 := (f3.alloc _).trans HF4.out (fun i hi q => by rcases q with q | q <;> omega)
  exact ⟨rfl, f4.trans HF5.out (fun _ _ q => q)⟩
end Go.Proofs.Ythmjjbgjbcnjmaa

namespace Go.Proofs.Ythmjjbgjbcnjmaa
open Go.RowKit Go.Hop

/-- one act's cells at an address -/
def Cell5 (w : World) (b o : Nat) (u : Act5) : Prop := w.cell? ⟨b, o, none⟩ = some (.int .i64 u.k) ∧ w.cell? ⟨b, o + 1, none⟩ = some (.string u.name) ∧ w.cell? ⟨b, o + 2, none⟩ = some (.string u.data) ∧ w.cell? ⟨b, o + 3, none⟩ = some (.int .i64 u.n) ∧ w.cell? ⟨b, o + 4, none⟩ = some u.dv
theorem Cell5.keep {S : Nat → Prop} {w w' : World} {b o : Nat} {u : Act5} (h : Cell5 w b o u) (hf : Fr S w w') (hb : ¬ S b) : Cell5 w' b o u := ⟨hf.cell h.1 hb, hf.cell h.2.1 hb, hf.cell h.2.2.1 hb, hf.cell h.2.2.2.1 hb, hf.cell h.2.2.2.2 hb⟩
/-- the acts that came in: n of them -/
def Acts (w : World) (A : Option Addr) (n : Nat) : Prop := ∀ i, i < n → ∃ b off, A = some ⟨b, off, none⟩ ∧ b < w.heap.size ∧ ∃ u : Act5, u.Ok ∧ Cell5 w b (off + i * 5) u ∧ Rd encI w u.dv u.ds ∧ (u.ds ≠ [] → ∀ k, u.dv.ownBlock = some k → k < w.heap.size)
/-- the state between two acts -/
structure Play (W : World) (a m b : Nat) (wr : World) : Prop where
  fr : Fr no W wr
  st : ∃ v s, Two wr a m b v s ∧ Names s ∧ ∀ k, v.ownBlock = some k → W.heap.size ≤ k
theorem Play.next {W : World} {a m b : Nat} {wr : World} (h : Play W a m b wr) (ha : W.heap.size ≤ a) (hm : W.heap.size ≤ m) (hb : W.heap.size ≤ b) {v : Value} {s : DSt} {e : Ending} {w' : World} (h2 : Names s) (h3 : ∀ k, v.ownBlock = some k → W.heap.size ≤ k) (hp : StepPost wr a m b v s e w') : Play W a m b w' := by
  obtain ⟨_, s', hn, v', ht, hf, hv⟩ := hp
  refine ⟨h.fr.trans hf (fun i hi q => ?_), v', s', ht, hn h2, fun k hk => ?_⟩
  · rcases q with q | q | q | q
    · omega
    · omega
    · omega
    · have := h3 i q.symm; omega
  · rcases hv k hk with z | z
    · exact h3 k z
    · exact Nat.le_trans h.fr.size z
theorem Play.later {W : World} {a m b : Nat} {wr w' : World} (h : Play W a m b wr) (hf : Fr no wr w') : Play W a m b w' := by
  obtain ⟨v, s, h1, h2, h3⟩ := h.st
  exact ⟨h.fr.trans hf (fun _ _ z => z), v, s, h1.later hf, h2, h3⟩
theorem Play.draws {W : World} {a m b : Nat} {wr : World} (h : Play W a m b wr) (ha : W.heap.size ≤ a) (hm : W.heap.size ≤ m) (hb : W.heap.size ≤ b) {v dv : Value} {ds : List Int} (h3 : ∀ k, v.ownBlock = some k → W.heap.size ≤ k) (hr : Rd encI W dv ds) (hd : ds ≠ [] → ∀ k, dv.ownBlock = some k → k < W.heap.size) : Draws wr a m b v dv ds := by
  refine ⟨hr.keep h.fr (fun _ _ q => q), fun hn k hk => ⟨Nat.lt_of_lt_of_le (hd hn k hk) h.fr.size, fun q => ?_⟩⟩
  have := hd hn k hk
  rcases q with q | q | q | q
  · omega
  · omega
  · omega
  · have := h3 k q.symm; omega

set_option maxHeartbeats 1000000 in
set_option maxRecDepth 100000 in
theorem plays_any (A : Option Addr) (n c : Nat) (W : World) (hn : n ≤ c) (hacts : Acts W A n) (hn2 : n ≤ 4611686018427387903) :
    Calls Try.prog 3 #[.slice A n c] W (AsBefore W (.bool true)) := by
  have HA := Lib.hid hacts
  clear hacts
  go_enter Try.func3, Try.ntmps3
  go_wp2_with (first | (go_at_call 9; go_loud (refine (new_any _).mono ?_; rintro e w1 ⟨rfl, hI0, hf0⟩; have HI0 := Lib.hid hI0; have HF0 := Lib.hid hf0; clear hI0 hf0)) | (go_at_call 10; go_loud (refine (rnew_any _).mono ?_; rintro e w2 ⟨rfl, hI1, hf1⟩; have HI1 := Lib.hid hI1; have HF1 := Lib.hid hf1; clear hI1 hf1)) | (go_at_call 11; refine (lawnames_any _).mono ?_; rintro e w' ⟨rfl, rfl⟩) | fail)
  have hl := HI0.out.lt
  have hP : Play W (W.heap.size + 1) W.heap.size w1.heap.size w2 := by
    have hd := HI0.out.later HF1.out
    refine ⟨HF0.out.trans HF1.out (fun _ _ z => z), .slice none 0 0, DSt.new, ⟨hd, HI1.out, by omega, by omega, (by intro q; cases q), (by intro q; cases q)⟩, (by intro p hp; simp [DSt.new] at hp), (by intro k q; cases q)⟩
  have HP := Lib.hid hP
  clear hP
  obtain ⟨hl1, hl2⟩ := hl
  generalize hbb : w1.heap.size = b at *
  have hb0 : W.heap.size ≤ b := by omega
  clear hbb hl1 hl2
  go_loopw [5] (fun i wr => ∃ k : Nat, k ≤ n ∧ i = .int .i64 k ∧ Hid (Play W (W.heap.size + 1) W.heap.size b wr)) (fun i _ => n - (intOf i).toNat)
  case atStart => exact ⟨0, Nat.zero_le _, rfl, HP⟩
  case round =>
    clear HP
    obtain ⟨k, hk, rfl, hp⟩ := hrel
    by_cases hgo : k < n ∧ k < 200
    · obtain ⟨hlt, h200⟩ := hgo
      obtain ⟨bA, off, rfl, hbA, u, hu, hcell, hrd, hdv⟩ := HA.out k hlt
      obtain ⟨e0, e1, e2, e3, e4⟩ := hcell.keep hp.out.fr (S := no) id
      obtain ⟨v, s, hT, hN, hv⟩ := hp.out.st
      have hdr := hp.out.draws (by omega) (Nat.le_refl _) hb0 hv hrd hdv
      have HT := Lib.hid hT
      have HN := Lib.hid hN
      have HV := Lib.hid hv
      have HD := Lib.hid hdr
      have HU := Lib.hid hu
      clear hcell hrd hdv hT hN hv hdr hu
      have t1 : decide ((k : Int) < (n : Int)) = true := by simp; omega
      have t2 : decide (k < n) = true := by simp; omega
      have t3 : decide ((k : Int) < 200) = true := by simp; omega
      have t4 : decide (k < 200) = true := by simp; omega
      go_wp2_with (first | (go_at_call 12; go_loud (refine (step_any _ _ _ v s u _ HT.out HU.out HD.out).mono ?_; intro e w3 hsp; have hnext := hp.out.next (by omega) (Nat.le_refl _) hb0 HN.out HV.out hsp; obtain ⟨rfl, _⟩ := hsp; obtain ⟨v3, s3, hT3, hN3, hv3⟩ := hnext.st; have HNX := Lib.hid hnext; have HT3 := Lib.hid hT3; have HN3 := Lib.hid hN3; clear hnext hT3 hN3 hv3)) | (go_at_call 13; go_loud (refine (same_any _ _ _ v3 s3 _ HT3.out HN3.out).mono ?_; rintro e w4 ⟨rfl, hf4⟩; have HF4 := Lib.hid hf4; clear hf4)) | fail)
      go_roundw
      case rel => exact ⟨k + 1, by omega, by go_num, Lib.hid (HNX.out.later HF4.out)⟩
      case measure => simp [intOf]; omega
    · have hge : n ≤ k ∨ (k < n ∧ 200 ≤ k) := by omega
      rcases hge with hge | ⟨hlt, hge⟩
      · have t1 : decide ((k : Int) < (n : Int)) = false := by simp; omega
        have t2 : decide (k < n) = false := by simp; omega
        go_wp2_with (first | (go_at_call 14; go_loud (refine (works_any _).mono ?_; rintro e w4 ⟨rfl, hf4⟩)) | fail)
        go_ret
        exact ⟨rfl, hp.out.fr.trans hf4 (fun _ _ z => z)⟩
      · have t1 : decide ((k : Int) < (n : Int)) = true := by simp; omega
        have t2 : decide (k < n) = true := by simp; omega
        have t3 : decide ((k : Int) < 200) = false := by simp; omega
        have t4 : decide (k < 200) = false := by simp; omega
        go_wp2_with (first | (go_at_call 14; go_loud (refine (works_any _).mono ?_; rintro e w4 ⟨rfl, hf4⟩)) | fail)
        go_ret
        exact ⟨rfl, hp.out.fr.trans hf4 (fun _ _ z => z)⟩
end Go.Proofs.Ythmjjbgjbcnjmaa

namespace Go.Proofs.Ythmjjbgjbcnjmaa
open Go.RowKit Go.Hop

/-- one pair of disks, all of whose blocks are newer than W -/
structure One (W : World) (a m b : Nat) (v : Value) (s : DSt) (w : World) : Prop where
  two : Two w a m b v s
  nam : Names s
  new : ∀ k, Four a m b v k → W.heap.size ≤ k
structure Pair (W : World) (a m b a' m' b' : Nat) (w : World) : Prop where
  fr : Fr no W w
  st : ∃ v s v' s', One W a m b v s w ∧ One W a' m' b' v' s' w ∧ ∀ k, Four a m b v k → ¬ Four a' m' b' v' k
theorem Pair.swap {W w : World} {a m b a' m' b' : Nat} (h : Pair W a m b a' m' b' w) : Pair W a' m' b' a m b w := by
  obtain ⟨v, s, v', s', h1, h2, h3⟩ := h.st
  exact ⟨h.fr, v', s', v, s, h2, h1, fun k q q' => h3 k q' q⟩
theorem Pair.later {W w w' : World} {a m b a' m' b' : Nat} (h : Pair W a m b a' m' b' w) (hf : Fr no w w') : Pair W a m b a' m' b' w' := by
  obtain ⟨v, s, v', s', h1, h2, h3⟩ := h.st
  exact ⟨h.fr.trans hf (fun _ _ z => z), v, s, v', s', ⟨h1.two.later hf, h1.nam, h1.new⟩, ⟨h2.two.later hf, h2.nam, h2.new⟩, h3⟩
theorem pair_next {W w w1 : World} {a m b a' m' b' : Nat} {v v' : Value} {s s' : DSt} (hfr : Fr no W w) (h1 : One W a m b v s w) (h2 : One W a' m' b' v' s' w) (h3 : ∀ k, Four a m b v k → ¬ Four a' m' b' v' k) {e : Ending} (hp : StepPost w a m b v s e w1) : Pair W a m b a' m' b' w1 := by
  obtain ⟨_, s1, hn, v1, ht, hf, hv⟩ := hp
  have hfour : ∀ k, Four a m b v1 k → Four a m b v k ∨ w.heap.size ≤ k := by
    rintro k (q | q | q | q)
    · exact .inl (.inl q)
    · exact .inl (.inr (.inl q))
    · exact .inl (.inr (.inr (.inl q)))
    · rcases hv k q.symm with z | z
      · exact .inl (.inr (.inr (.inr z.symm)))
      · exact .inr z
  refine ⟨hfr.trans hf (fun i hi q => absurd (h1.new i q) (by omega)), v1, s1, v', s', ⟨ht, hn h1.nam, fun k q => ?_⟩, ⟨h2.two.keep hf h3, h2.nam, h2.new⟩, fun k q q' => ?_⟩
  · rcases hfour k q with z | z
    · exact h1.new k z
    · exact Nat.le_trans hfr.size z
  · rcases hfour k q with z | z
    · exact h3 k z q'
    · have := h2.two.lt k q'; omega
theorem One.draws {W : World} {a m b : Nat} {v : Value} {s : DSt} {wr : World} (h : One W a m b v s wr) (hfr : Fr no W wr) {dv : Value} {ds : List Int} (hr : Rd encI W dv ds) (hd : ds ≠ [] → ∀ k, dv.ownBlock = some k → k < W.heap.size) : Draws wr a m b v dv ds :=
  ⟨hr.keep hfr (fun _ _ q => q), fun hn k hk => ⟨Nat.lt_of_lt_of_le (hd hn k hk) hfr.size, fun q => absurd (h.new k q) (by have := hd hn k hk; omega)⟩⟩

set_option maxHeartbeats 1000000 in
set_option maxRecDepth 100000 in
theorem two_any (A : Option Addr) (n c : Nat) (W : World) (hn : n ≤ c) (hacts : Acts W A n) (hn2 : n ≤ 4611686018427387903) :
    Calls Try.prog 4 #[.slice A n c] W (AsBefore W (.bool true)) := by
  have HA := Lib.hid hacts
  clear hacts
  have HM := Lib.hid True.intro
  have HM2 := Lib.hid True.intro
  go_enter Try.func4, Try.ntmps4
  go_wp2_with (first | (go_at_call 9; clear HM; (refine (new_any W).mono ?_; rintro e w1 ⟨rfl, hI0, hf0⟩; have HI0 := Lib.hid hI0; have HF0 := Lib.hid hf0; clear hI0 hf0)) | (go_at_call 9; go_loud (refine (new_any w1).mono ?_; rintro e w2 ⟨rfl, hJ0, hf0⟩; have HJ0 := Lib.hid hJ0; have HG0 := Lib.hid hf0; clear hJ0 hf0)) | (go_at_call 10; clear HM2; (refine (rnew_any w2).mono ?_; rintro e w3 ⟨rfl, hI1, hf1⟩; have HI1 := Lib.hid hI1; have HF1 := Lib.hid hf1; clear hI1 hf1)) | (go_at_call 10; go_loud (refine (rnew_any w3).mono ?_; rintro e w4 ⟨rfl, hJ1, hf1⟩; have HJ1 := Lib.hid hJ1; have HG1 := Lib.hid hf1; clear hJ1 hf1)) | fail)
  have hP : Pair W (W.heap.size + 1) W.heap.size w2.heap.size (w1.heap.size + 1) w1.heap.size w3.heap.size w4 := by
    have l0 := HI0.out.lt
    have l1 := HJ0.out.lt
    have l2 := HI1.out.lt.1
    have hd := HI0.out.later ((HG0.out.trans HF1.out (fun _ _ z => z)).trans HG1.out (fun _ _ z => z))
    have hd' := HJ0.out.later (HF1.out.trans HG1.out (fun _ _ z => z))
    have hr := HI1.out.later HG1.out
    have hnm : Names DSt.new := by intro p hp; simp [DSt.new] at hp
    refine ⟨((HF0.out.trans HG0.out (fun _ _ z => z)).trans HF1.out (fun _ _ z => z)).trans HG1.out (fun _ _ z => z), .slice none 0 0, DSt.new, .slice none 0 0, DSt.new, ⟨⟨hd, hr, by omega, by omega, (by intro q; cases q), (by intro q; cases q)⟩, hnm, ?_⟩, ⟨⟨hd', HJ1.out, by omega, by omega, (by intro q; cases q), (by intro q; cases q)⟩, hnm, ?_⟩, ?_⟩
    · rintro k (q | q | q | q)
      · omega
      · omega
      · omega
      · cases q
    · rintro k (q | q | q | q)
      · omega
      · omega
      · omega
      · cases q
    · rintro k (q | q | q | q) (q' | q' | q' | q') <;> first | (cases q) | (cases q') | omega
      all_goals first | omega | cases q | cases q'
  have HP := Lib.hid hP
  clear hP
  generalize w2.heap.size = b at *
  generalize w3.heap.size = b' at *
  generalize w1.heap.size = m' at *
  clear HI0 HF0 HJ0 HG0 HI1 HF1 HJ1 HG1
  go_loopw [7] (fun i wr => ∃ k : Nat, k ≤ n ∧ i = .int .i64 k ∧ Hid (Pair W (W.heap.size + 1) W.heap.size b (m' + 1) m' b' wr)) (fun i _ => n - (intOf i).toNat)
  case atStart => exact ⟨0, Nat.zero_le _, rfl, HP⟩
  case round =>
    clear HP
    obtain ⟨k, hk, rfl, hp⟩ := hrel
    by_cases hgo : k < n ∧ k < 200
    · obtain ⟨hlt, h200⟩ := hgo
      obtain ⟨bA, off, rfl, hbA, u, hu, hcell, hrd, hdv⟩ := HA.out k hlt
      obtain ⟨e0, e1, e2, e3, e4⟩ := hcell.keep hp.out.fr (S := no) id
      obtain ⟨v, s, v', s', h1, h2, h3⟩ := hp.out.st
      have HD := Lib.hid (h1.draws hp.out.fr hrd hdv)
      have HD' := Lib.hid (h2.draws hp.out.fr hrd hdv)
      have H1 := Lib.hid h1
      have H2 := Lib.hid h2
      have H3 := Lib.hid h3
      have HU := Lib.hid hu
      clear hcell hrd hdv h1 h2 h3 hu
      have t1 : decide ((k : Int) < (n : Int)) = true := by simp; omega
      have t2 : decide (k < n) = true := by simp; omega
      have t3 : decide ((k : Int) < 200) = true := by simp; omega
      have t4 : decide (k < 200) = true := by simp; omega
      have p0 : (k : Int).tmod 2 = (k : Int) % 2 := Int.tmod_eq_emod_of_nonneg (by omega)
      rcases (by omega : k % 2 = 0 ∨ k % 2 = 1) with hpar | hpar
      · have p1 : (k : Int) % 2 = 0 := by omega
        go_wp2_with (first | (go_at_call 12; go_loud (refine (step_any _ _ _ v s u _ H1.out.two HU.out HD.out).mono ?_; intro e w3 hsp; have HNX := Lib.hid (pair_next hp.out.fr H1.out H2.out H3.out hsp); obtain ⟨rfl, _⟩ := hsp)) | fail)
        go_roundw
        case rel => exact ⟨k + 1, by omega, by go_num, HNX⟩
        case measure => simp [intOf]; omega
      · have p1 : (k : Int) % 2 = 1 := by omega
        go_wp2_with (first | (go_at_call 12; go_loud (refine (step_any _ _ _ v' s' u _ H2.out.two HU.out HD'.out).mono ?_; intro e w3 hsp; have HNX := Lib.hid (pair_next hp.out.fr H2.out H1.out (fun k q q' => H3.out k q' q) hsp).swap; obtain ⟨rfl, _⟩ := hsp)) | fail)
        go_roundw
        case rel => exact ⟨k + 1, by omega, by go_num, HNX⟩
        case measure => simp [intOf]; omega
    · obtain ⟨v, s, v', s', h1, h2, h3⟩ := hp.out.st
      have H1 := Lib.hid h1
      have H2 := Lib.hid h2
      have HM := Lib.hid True.intro
      clear h1 h2 h3
      have hge : n ≤ k ∨ (k < n ∧ 200 ≤ k) := by omega
      rcases hge with hge | ⟨hlt, hge⟩
      · have t1 : decide ((k : Int) < (n : Int)) = false := by simp; omega
        have t2 : decide (k < n) = false := by simp; omega
        go_wp2_with (first | (go_at_call 13; clear HM; refine (same_any (W.heap.size + 1) W.heap.size b v s _ H1.out.two H1.out.nam).mono ?_; rintro e w5 ⟨rfl, hf5⟩; have HF5 := Lib.hid hf5; clear hf5) | (go_at_call 13; go_loud (refine (same_any (m' + 1) m' b' v' s' _ (H2.out.two.later HF5.out) H2.out.nam).mono ?_; rintro e w6 ⟨rfl, hf6⟩; have HF6 := Lib.hid hf6; clear hf6)) | (go_at_call 14; go_loud (refine (works_any _).mono ?_; rintro e w7 ⟨rfl, hf7⟩)) | fail)
        go_ret
        exact ⟨rfl, ((hp.out.fr.trans HF5.out (fun _ _ z => z)).trans HF6.out (fun _ _ z => z)).trans hf7 (fun _ _ z => z)⟩
      · have t1 : decide ((k : Int) < (n : Int)) = true := by simp; omega
        have t2 : decide (k < n) = true := by simp; omega
        have t3 : decide ((k : Int) < 200) = false := by simp; omega
        have t4 : decide (k < 200) = false := by simp; omega
        go_wp2_with (first | (go_at_call 13; clear HM; refine (same_any (W.heap.size + 1) W.heap.size b v s _ H1.out.two H1.out.nam).mono ?_; rintro e w5 ⟨rfl, hf5⟩; have HF5 := Lib.hid hf5; clear hf5) | (go_at_call 13; go_loud (refine (same_any (m' + 1) m' b' v' s' _ (H2.out.two.later HF5.out) H2.out.nam).mono ?_; rintro e w6 ⟨rfl, hf6⟩; have HF6 := Lib.hid hf6; clear hf6)) | (go_at_call 14; go_loud (refine (works_any _).mono ?_; rintro e w7 ⟨rfl, hf7⟩)) | fail)
        go_ret
        exact ⟨rfl, ((hp.out.fr.trans HF5.out (fun _ _ z => z)).trans HF6.out (fun _ _ z => z)).trans hf7 (fun _ _ z => z)⟩
end Go.Proofs.Ythmjjbgjbcnjmaa

namespace Go.Proofs.Ythmjjbgjbcnjmaa
open Go.ChangeShapes Go.WideShapes Go.ChangeAt Go.RowKit Go.Hop Go.Deep

theorem below_of {w w' : World} (h : Fr no w w') : Below w.heap.size w w' := ⟨h.os, h.tape, h.output, h.size, fun k hk => h.block k hk id⟩

/-- 'post' of a function that only reads what came in, and lays new blocks. -/
theorem post_below {H : Type} {enc : TypeId × Value → H} {P : Program} {f : Func} {s : ChangeSpec} {apart fresh handsOn again : Bool} {W W' : World} {args : Array Value} {v : Value} {ds gs : List (DataW H)} {before : List MemPlace}
    (hW : DataW.Whole enc P f.params.toList s.vars apart W args.toList ds gs before) (hl : laidOutB P = true) (hr : ∀ t ∈ f.params.toList, P.readableRec t = true ∧ t < P.types.size) (hv0 : s.vars = []) (hv1 : (s.fn H (ds ++ gs)).vars = [])
    (hres : ∀ (b : Nat) (sp : Nat → Bool) (hd : Bool), DataW.TrodAll enc P W' b sp hd f.resultTypes.toList (v.resultList f.resultTypes.size) (s.fn H (ds ++ gs)).results [])
    (hargs : (s.fn H (ds ++ gs)).args = ds) (hb : Below W.heap.size W W')
    (hok : ∀ (j : Nat) (t : TypeId) (r : Value), f.resultTypes[j]? = some t → (v.resultList f.resultTypes.size)[j]? = some r → Value.okWide P W' .any 0 t r) :
    s.post enc P f apart fresh handsOn again W args v W' := by
  have hW' := hW
  obtain ⟨p, q, hA, hV, rfl, hz, hn⟩ := hW
  rw [hv0] at hV
  obtain ⟨hgs, hq⟩ := trodVars_none hV
  subst hq
  have hlt : ∀ x ∈ p, x.block < W.heap.size := fun x hx => by simpa using hW'.lt x (by simpa using hx)
  have stays : ∀ (sp : Nat → Bool), (∀ x ∈ p, sp x.block = true) → DataW.TrodAll enc P W' 0 sp true f.params.toList args.toList ds p := by
    intro sp
    have gen : ∀ (ts : List TypeId) (vs : List Value) (ds : List (DataW H)) (p : List MemPlace), (∀ t ∈ ts, P.readableRec t = true ∧ t < P.types.size) → DataW.TrodAll enc P W 0 (fun _ => true) true ts vs ds p → (∀ x ∈ p, x.block < W.heap.size) → (∀ x ∈ p, sp x.block = true) → DataW.TrodAll enc P W' 0 sp true ts vs ds p := by
      intro ts
      induction ts with
      | nil => intro vs ds p _ h _ _; obtain ⟨rfl, rfl, rfl⟩ := trodAll_nil h; exact h
      | cons t ts ih =>
        intro vs ds p ht h hlt hsp
        obtain ⟨v, vs1, d, ds1, a, b, rfl, rfl, rfl, h1, h2⟩ := trodAll_cons h
        have ht1 := ht t (List.mem_cons_self)
        exact ⟨a, b, WideElems.Trod_stays hl ht1.1 ht1.2 h1 (fun x hx => hb.same (hlt x (List.mem_append_left _ hx))) (fun x hx => hsp x (List.mem_append_left _ hx)), ih _ _ _ (fun t q => ht t (List.mem_cons_of_mem _ q)) h2 (fun x hx => hlt x (List.mem_append_right _ hx)) (fun x hx => hsp x (List.mem_append_right _ hx)), rfl⟩
    exact gen _ _ _ _ hr hA hlt
  have hvars : ∀ sp : Nat → Bool, DataW.TrodVars enc P W' sp s.vars (s.fn H (ds ++ gs)).vars [] := fun sp => by rw [hv0, hv1]; rfl
  have hold : ∀ x ∈ p, (fun b => decide (b < W.heap.size)) x.block = true := fun x hx => by simpa using hlt x hx
  refine ⟨ds, gs, p ++ [], [], p, [], hW', hres _ _ _, by rw [hargs]; exact stays _ hold, hvars _, hb.frame _, fun _ => ?_⟩
  refine ⟨hok, _, _, ([] ++ p) ++ [], ⟨[] ++ p, [], trodAll_append (stays _ (fun _ _ => rfl)) (hres _ _ _), hvars _, rfl, ?_, ?_⟩, ?_⟩
  · intro b off hp
    simp only [List.nil_append, List.append_nil] at hp hz
    rw [hb.frozen (hlt _ hp)]
    exact hz b off hp
  · intro ha
    simpa using hn ha
  · intro x hx _
    simpa using hx

/-! ### The bulk -/
theorem one_le {H : Type} (d : DataW H) : 1 ≤ Rows.uptoBulk d := by
  cases d with
  | lit l => cases l <;> simp [Rows.uptoBulk]
  | nil => simp [Rows.uptoBulk]
  | ptr d => simp [Rows.uptoBulk]
  | slice elems spare => simp [Rows.uptoBulk]
  | agg parts => simp [Rows.uptoBulk]
  | iface t d => simp [Rows.uptoBulk]
  | map entries => simp [Rows.uptoBulk]
  | held h => simp [Rows.uptoBulk]
theorem part_le {H : Type} {d : DataW H} {l : List (DataW H)} (h : d ∈ l) : Rows.uptoBulk d ≤ Rows.uptoBulkAll l := by
  induction l with
  | nil => cases h
  | cons x r ih =>
    simp only [Rows.uptoBulkAll]
    cases List.mem_cons.1 h with
    | inl e => subst e; omega
    | inr e => have := ih e; omega
theorem length_le {H : Type} (l : List (DataW H)) : l.length ≤ Rows.uptoBulkAll l := by
  induction l with
  | nil => simp [Rows.uptoBulkAll]
  | cons x r ih => have := one_le x; simp only [Rows.uptoBulkAll, List.length_cons]; omega

/-! ### The acts, opened -/
theorem cells31 : Try.prog.cellsOf 31 = 5 := by kernel_rfl
theorem cells3' : Try.prog.cellsOf 3 = 1 := by kernel_rfl
theorem cells9' : Try.prog.cellsOf 9 = 1 := by kernel_rfl
theorem cells29' : Try.prog.cellsOf 29 = 1 := by kernel_rfl
theorem addr_of {w : World} {a : Addr} {v : Value} (h : w.cell? (a.add 0) = some v) : ∃ b off, a = ⟨b, off, none⟩ := by
  obtain ⟨b, off, spot⟩ := a
  have hspot : spot = none := by simpa [Addr.add] using World.cell?_spot h
  subst hspot
  exact ⟨b, off, rfl⟩
theorem cell_lt {w : World} {b o : Nat} {v : Value} (h : w.cell? ⟨b, o, none⟩ = some v) : b < w.heap.size := by
  rcases Nat.lt_or_ge b w.heap.size with q | q
  · exact q
  · have : w.heap[b]? = none := by simp; omega
    simp [World.cell?, this] at h

section
variable {H : Type} {enc : TypeId × Value → H} {w : World}

/-- the draws of an act, opened -/
theorem open_draws {fuel : Nat} {v : Value} {x : DataW H × List MemPlace} (h : DataW.trod enc Try.prog w 0 (fun _ => true) true fuel 29 [v] = some x) :
    ∃ ds : List Int, Rd encI w v ds ∧ ds.length + 1 ≤ Rows.uptoBulk x.1 ∧ (∀ d ∈ ds, -9223372036854775808 ≤ d ∧ d ≤ 9223372036854775807) ∧ (ds ≠ [] → ∀ k, v.ownBlock = some k → k < w.heap.size) := by
  rcases open_ints Try.underlying29 Try.underlying3 cells3' h with ⟨hc, rfl⟩ | ⟨a, len, cap, zs, hc, _, hle, hmx, hzl, rfl, hcell, hwf⟩
  · simp at hc
    subst hc
    exact ⟨[], ⟨none, 0, rfl, Nat.le_refl _, fun j x hj => by simp at hj⟩, by simp [Rows.uptoBulk], by simp, fun q => absurd rfl q⟩
  · simp at hc
    subst hc
    simp at hzl
    have hlen : (zs.take len).length = len := by rw [List.length_take]; omega
    refine ⟨zs.take len, ⟨some a, cap, by rw [hlen], by omega, fun j x hj => ?_⟩, ?_, ?_, ?_⟩
    · have hjl : j < len := by have := (List.getElem?_eq_some_iff.1 hj).1; omega
      have hj2 : j < zs.length := by omega
      have hcj := hcell j hj2
      obtain ⟨b, off, rfl⟩ := addr_of (hcell 0 (by omega))
      refine ⟨b, off, rfl, ?_⟩
      rw [add_at] at hcj
      rw [hcj]
      rw [List.getElem?_take_of_lt hjl] at hj
      simp [List.getD, hj]
    · have := length_le (lits (H := H) .i64 (zs.take len))
      simp only [Rows.uptoBulk]
      simp [lits, hlen] at this ⊢
      omega
    · intro d hd
      have := hwf d (List.mem_of_mem_take hd)
      exact bounds_i64 this
    · intro hne k hk
      have h0 : 0 < zs.length := by
        rcases Nat.eq_zero_or_pos zs.length with q | q
        · exfalso; apply hne; rw [List.eq_nil_of_length_eq_zero q]; simp
        · exact q
      have hc0 := hcell 0 h0
      obtain ⟨b, off, rfl⟩ := addr_of hc0
      rw [add_at] at hc0
      have : k = b := by injection hk with hk; exact hk.symm
      subst this
      exact cell_lt hc0

set_option maxRecDepth 100000 in
/-- an act, opened -/
theorem open_act {fuel : Nat} {cs : List Value} {x : DataW H × List MemPlace} (h : DataW.trod enc Try.prog w 0 (fun _ => true) true fuel 31 cs = some x) (hb : Rows.uptoBulk x.1 ≤ 1048576) :
    ∃ u : Act5, cs = [.int .i64 u.k, .string u.name, .string u.data, .int .i64 u.n, u.dv] ∧ u.Ok ∧ Rd encI w u.dv u.ds ∧ (u.ds ≠ [] → ∀ k, u.dv.ownBlock = some k → k < w.heap.size) := by
  obtain ⟨xs, n, _, rfl, hcl, hxl, hf⟩ := DataW.trod_struct Try.underlying31 h
  rw [cells31] at hcl
  match cs, hcl, xs, hxl with
  | [c0, c1, c2, c3, c4], _, [x0, x1, x2, x3, x4], _ =>
    have g0 := hf 0 _ rfl
    have g1 := hf 1 _ rfl
    have g2 := hf 2 _ rfl
    have g3 := hf 3 _ rfl
    have g4 := hf 4 _ rfl
    simp [cells3', cells9', cells29'] at g0 g1 g2 g3 g4
    obtain ⟨k, e0, rfl, w0⟩ := DataW.trod_int Try.underlying3 g0
    obtain ⟨s1, e1, rfl, w1⟩ := DataW.trod_string Try.underlying9 g1
    obtain ⟨s2, e2, rfl, w2⟩ := DataW.trod_string Try.underlying9 g2
    obtain ⟨m, e3, rfl, w3⟩ := DataW.trod_int Try.underlying3 g3
    obtain ⟨ds, r1, r2, r3, r4⟩ := open_draws g4
    simp at e0 e1 e2 e3
    subst e0 e1 e2 e3
    simp only [List.map_cons, List.map_nil, Rows.uptoBulk, Rows.uptoBulkAll, Array.length_toList] at hb
    have b1 : s1.data.size = s1.size := rfl
    have b2 : s2.data.size = s2.size := rfl
    have k0 := bounds_i64 w0
    have k3 := bounds_i64 w3
    exact ⟨⟨k, s1, s2, m, c4, ds⟩, rfl, ⟨k0, by simp only; omega, by simp only; omega, k3.2, by simp only; omega, r3⟩, r1, r4⟩

set_option maxRecDepth 100000 in
/-- the acts that came in, opened -/
theorem open_acts {v : Value} {d : DataW H} {ps : List MemPlace} (hv : Value.okWide Try.prog w .any 0 22 v ∨ ∃ A n c, v = .slice A n c) (h : DataW.Trod enc Try.prog w 0 (fun _ => true) true 22 v d ps) (hb : Rows.uptoBulk d ≤ 1048576) :
    ∃ A n c, v = .slice A n c ∧ n ≤ c ∧ n ≤ 1048576 ∧ Acts w A n := by
  obtain ⟨A, n, c, rfl⟩ : ∃ A n c, v = .slice A n c := by
    rcases hv with hv | hv
    · exact okWide_slice Try.underlying22 hv
    · exact hv
  obtain ⟨fuel, hf⟩ := h
  rcases open_slice Try.underlying22 hf with ⟨hc, hx⟩ | ⟨a, len, cap, m, q, D, Pl, hc, _, hle, hmx, hm, hx, hel⟩
  · simp [Value.cells] at hc
    obtain ⟨rfl, rfl, rfl⟩ := hc
    exact ⟨none, 0, 0, rfl, Nat.le_refl _, by omega, fun i hi => by omega⟩
  · simp [Value.cells] at hc
    obtain ⟨rfl, rfl, rfl⟩ := hc
    simp at hm
    subst hm
    injection hx with hx1 hx2
    subst hx1
    have hbD : ∀ i, i < n → Rows.uptoBulk (D i) ≤ 1048576 := fun i hi => by
      have := part_le (show D i ∈ (List.range n).map D from List.mem_map.2 ⟨i, List.mem_range.2 hi, rfl⟩)
      simp only [Rows.uptoBulk] at hb
      omega
    have hlen : n ≤ 1048576 := by
      have := length_le ((List.range n).map D)
      simp only [List.length_map, List.length_range, Rows.uptoBulk] at this hb
      omega
    refine ⟨some a, n, _, rfl, hle, hlen, fun i hi => ?_⟩
    obtain ⟨cs', h1, h2⟩ := hel i (by omega)
    rw [cells31] at h1
    obtain ⟨_, hcl, hcell⟩ := World.cells?_some h1
    obtain ⟨u, rfl, hu, hr, hfar⟩ := open_act h2 (hbD i hi)
    have k0 := hcell 0 (by omega)
    have k1 := hcell 1 (by omega)
    have k2 := hcell 2 (by omega)
    have k3 := hcell 3 (by omega)
    have k4 := hcell 4 (by omega)
    rw [add_add] at k0 k1 k2 k3 k4
    simp at k0 k1 k2 k3 k4
    obtain ⟨b, off, rfl⟩ : ∃ b off, a = ⟨b, off, none⟩ := by
      obtain ⟨cs0, h10, h20⟩ := hel 0 (by omega)
      rw [cells31] at h10
      obtain ⟨_, hcl0, hcell0⟩ := World.cells?_some h10
      have z := hcell0 0 (by omega)
      rw [add_add] at z
      simp only [Nat.zero_mul, Nat.zero_add] at z
      rw [List.getElem?_eq_getElem (by omega)] at z
      exact addr_of z
    rw [add_at] at k0 k1 k2 k3 k4
    exact ⟨b, off, rfl, cell_lt k0, u, hu, ⟨k0, by rw [Nat.add_assoc]; exact k1, by rw [Nat.add_assoc]; exact k2, by rw [Nat.add_assoc]; exact k3, by rw [Nat.add_assoc]; exact k4⟩, hr, hfar⟩
end
end Go.Proofs.Ythmjjbgjbcnjmaa

namespace Go.Proofs.Ythmjjbgjbcnjmaa
open Go.RowKit Go.Hop

/-! ### Names of schemas -/
def okS (c : UInt8) : Bool := (decide (97 ≤ c.toNat) && decide (c.toNat ≤ 122)) || (decide (48 ≤ c.toNat) && decide (c.toNat ≤ 57))
abbrev encB : UInt8 → Value := fun c => .int .u8 c.toNat
def namedS (s : ByteArray) : Bool := decide (0 < s.size) && (decide (s.size ≤ 32) && (bl s).all okS)

theorem bad_any (c : UInt8) (w : World) : Calls Try.prog 100 #[encB c] w fun e w' => e = .returned (.bool (!okS c)) ∧ w = w' := by
  have hc : c.toNat ≤ 255 := by have := c.toNat_lt; omega
  have hok : okS c = ((!decide ((c.toNat : Int) < 97) && !decide (122 < (c.toNat : Int))) || (!decide ((c.toNat : Int) < 48) && !decide (57 < (c.toNat : Int)))) := by
    rw [Bool.eq_iff_iff]; simp [okS]; omega
  cases e1 : decide ((c.toNat : Int) < 97) <;> cases e2 : decide (122 < (c.toNat : Int)) <;> cases e3 : decide ((c.toNat : Int) < 48) <;> cases e4 : decide (57 < (c.toNat : Int))
  all_goals first
    | (exfalso; simp only [decide_eq_true_eq, decide_eq_false_iff_not] at e1 e2 e3 e4; omega)
    | (rw [e1, e2, e3, e4] at hok
       have Hok := Lib.hid (show okS c = true from hok)
       clear hok
       go_enter Try.func100, Try.ntmps100
       go_wp2
       go_ret
       exact ⟨by rw [Hok.out]; simp, rfl⟩)
    | (rw [e1, e2, e3, e4] at hok
       have Hok := Lib.hid (show okS c = false from hok)
       clear hok
       go_enter Try.func100, Try.ntmps100
       go_wp2
       go_ret
       exact ⟨by rw [Hok.out]; simp, rfl⟩)

abbrev fn100 : Value := .func (.func 100) #[] #[]
set_option maxHeartbeats 1000000 in
set_option maxRecDepth 100000 in
theorem index_any (v : Value) (xs : List UInt8) (w : World) (h : Rd encB w v xs) (hl : xs.length ≤ 4611686018427387903) :
    Calls Try.prog 120 #[v, fn100] w (fun e w' => ∃ r : Int, e = .returned (.int .i64 r) ∧ w = w' ∧ decide (0 ≤ r) = xs.any (fun c => !okS c)) := by
  obtain ⟨A, c, rfl, hc⟩ := h.len
  have H := Lib.hid h
  clear h
  go_enter Try.func120, Try.ntmps120
  go_wp2
  go_loop [8] (fun i => ∃ k : Nat, k ≤ xs.length ∧ i = .int .i64 k ∧ Hid ((xs.take k).any (fun c => !okS c) = false)) (fun i => xs.length - (intOf i).toNat)
  case atStart => exact ⟨0, by omega, rfl, by simp [Hid]⟩
  case round =>
    obtain ⟨k, hk, rfl, hall⟩ := hrel
    by_cases hlt : k < xs.length
    · obtain ⟨x, hx⟩ : ∃ x, xs[k]? = some x := ⟨_, List.getElem?_eq_getElem hlt⟩
      obtain ⟨b, off, rfl, e0⟩ := H.out.at_ k x hx
      have HX := Lib.hid hx
      have t1 : decide ((k : Int) < (xs.length : Int)) = true := by simp; omega
      have t2 : decide (k < xs.length) = true := by simp; omega
      clear hx
      cases hbad : okS x with
      | true =>
        go_wp2_with (first | (go_at_call 100; go_loud (refine (bad_any x _).mono ?_; rintro e w' ⟨rfl, rfl⟩; rw [hbad])) | fail)
        go_round
        case rel => exact ⟨k + 1, by omega, by go_num, Lib.hid (by rw [List.take_add_one, HX.out]; simp only [Option.toList_some, List.any_append, hall.out]; simp [hbad])⟩
        case measure => simp [intOf]; omega
      | false =>
        have HB := Lib.hid hbad
        go_wp2_with (first | (go_at_call 100; go_loud (refine (bad_any x _).mono ?_; rintro e w' ⟨rfl, rfl⟩; rw [hbad])) | fail)
        go_ret
        refine ⟨k, rfl, rfl, ?_⟩
        rw [decide_eq_true (show (0 : Int) ≤ (k : Int) by omega), eq_comm, List.any_eq_true]
        exact ⟨x, List.mem_of_getElem? HX.out, by rw [HB.out]; rfl⟩
    · have t1 : decide ((k : Int) < (xs.length : Int)) = false := by simp; omega
      have t2 : decide (k < xs.length) = false := by simp; omega
      go_wp2
      go_ret
      refine ⟨-1, rfl, rfl, ?_⟩
      have := hall.out
      rw [List.take_of_length_le (by omega)] at this
      rw [this]; rfl

set_option maxHeartbeats 1000000 in
set_option maxRecDepth 100000 in
theorem contains_any (v : Value) (xs : List UInt8) (w : World) (h : Rd encB w v xs) (hl : xs.length ≤ 4611686018427387903) :
    Calls Try.prog 99 #[v, fn100] w (fun e w' => e = .returned (.bool (xs.any (fun c => !okS c))) ∧ w = w') := by
  have H := Lib.hid h
  clear h
  go_enter Try.func99, Try.ntmps99
  go_wp2_with (first | (go_at_call 120; go_loud (refine (index_any _ xs _ H.out hl).mono ?_; rintro e w' ⟨r, rfl, rfl, hr⟩; have HR := Lib.hid hr; clear hr)) | fail)
  all_goals go_ret
  all_goals refine ⟨?_, rfl⟩
  all_goals
    rw [← HR.out]
    try rfl
    try simp

theorem rd_bytes (w : World) (s : ByteArray) (cap : Nat) (hc : s.size ≤ cap) (e : TypeId) (fz : Nat × Nat) : Rd encB (w.drew.alloc (.cells (bytesRow s cap) e fz)) (.slice (some ⟨w.heap.size, 0, none⟩) s.size cap) (bl s) := by
  refine ⟨some ⟨w.heap.size, 0, none⟩, cap, by simp, by simpa using hc, fun j x hj => ⟨w.heap.size, 0, rfl, ?_⟩⟩
  have hjs : j < s.data.size := by have := (List.getElem?_eq_some_iff.1 hj).1; simpa using this
  have hb := bytesRow_at s cap j hjs
  have hx : x = s.data[j] := by
    have h2 : (s.data.toList)[j]? = some x := hj
    rw [Array.getElem?_toList, Array.getElem?_eq_getElem hjs] at h2
    injection h2 with h2; exact h2.symm
  subst hx
  rw [Nat.zero_add]
  have hh : (w.drew.alloc (.cells (bytesRow s cap) e fz)).heap[w.heap.size]? = some (.cells (bytesRow s cap) e fz) := heap_alloc_at w.drew _
  unfold World.cell?
  simp only [hh]
  simpa using hb

set_option maxHeartbeats 1000000 in
set_option maxRecDepth 100000 in
theorem namedS_any (s : ByteArray) (w : World) (hs : s.size ≤ 140737488351232) : Calls Try.prog 64 #[.string s] w (AsBefore w (.bool (namedS s))) := by
  by_cases h0 : s.size = 0
  · have hE : s.toList.isEmpty = true := by rw [Lib.toList_data]; obtain ⟨⟨l⟩⟩ := s; simp at h0; rw [h0]; rfl
    have HN := Lib.hid (show namedS s = false by simp [namedS, h0])
    clear h0
    go_enter Try.func64, Try.ntmps64
    go_wp2
    go_ret
    exact ⟨by rw [HN.out]; rfl, Fr.refl _ _⟩
  have hE : s.toList.isEmpty = false := by rw [Lib.toList_data]; obtain ⟨⟨l⟩⟩ := s; simp at h0 ⊢; intro q; subst q; exact h0 rfl
  by_cases h1 : 32 < s.size
  · have HN := Lib.hid (show namedS s = false by simp [namedS]; omega)
    go_enter Try.func64, Try.ntmps64
    go_wp2
    go_ret
    exact ⟨by rw [HN.out]; rfl, Fr.refl _ _⟩
  have h1' : s.size ≤ 32 := by omega
  have HN := Lib.hid (show namedS s = !((bl s).any (fun c => !okS c)) by unfold namedS; rw [decide_eq_true (show 0 < s.size by omega), decide_eq_true h1', List.any_eq_not_all_not]; simp)
  clear h0 h1
  have hcv := run_bytes_of_string (P := Try.prog) w 9 98 5 s Try.underlying9 Try.underlying98 Try.underlying5
  go_enter Try.func64, Try.ntmps64
  go_wp2_with (first | (go_at_call 99; go_loud (refine (contains_any _ (bl s) _ (rd_bytes w s _ (grownCap_ge _ _ _ _) _ _) (by simp; omega)).mono ?_; rintro e w' ⟨rfl, rfl⟩)) | fail)
  go_ret
  exact ⟨by rw [HN.out]; simp, ((Fr.refl no w).drew).alloc _⟩
end Go.Proofs.Ythmjjbgjbcnjmaa

namespace Go.Proofs.Ythmjjbgjbcnjmaa
open Go.RowKit Go.Hop

/-! ### Schemas, in plain Lean -/
structure Ix where
  name : ByteArray
  cols : List Int
  uniq : Bool
abbrev Col := ByteArray × Int
structure Tab where
  name : ByteArray
  cols : List Col
  key : Int
  idx : List Ix
def distB (l : List ByteArray) : Bool := l.all namedS && decide l.Nodup
def inside (n a b : Int) : Bool := decide (a ≤ n) && decide (n ≤ b)
def checkT (t : Tab) : Bool :=
  (namedS t.name && inside t.cols.length 1 32 && inside t.key 1 t.cols.length && decide (t.idx.length ≤ 8)) && distB (t.cols.map (·.1)) && distB (t.idx.map (·.name)) &&
  t.cols.all (fun c => inside c.2 1 5) && t.idx.all (fun x => inside x.cols.length 1 32 && x.cols.all (fun n => inside n 0 (t.cols.length - 1)))

/-! ### Schemas in memory: all blocks that are read lie in K -/
def Near (w : World) (K : Nat → Prop) (v : Value) (n : Nat) : Prop := n ≠ 0 → ∀ k, v.ownBlock = some k → k < w.heap.size ∧ K k
theorem Near.keep {S K : Nat → Prop} {w w' : World} {v : Value} {n : Nat} (h : Near w K v n) (hf : Fr S w w') : Near w' K v n := fun hn k hk => ⟨Nat.lt_of_lt_of_le (h hn k hk).1 hf.size, (h hn k hk).2⟩
theorem Near.mono {K K' : Nat → Prop} {w : World} {v : Value} {n : Nat} (h : Near w K v n) (hk : ∀ k, k < w.heap.size → K k → K' k) : Near w K' v n := fun hn k q => ⟨(h hn k q).1, hk k (h hn k q).1 (h hn k q).2⟩
/-- a slice that is read, its block in K -/
structure RcK (w : World) (K : Nat → Prop) (size : Nat) (v : Value) (n : Nat) (cs : List Value) : Prop where
  rc : Rc w size v n cs
  near : Near w K v n
theorem RcK.keep {S K : Nat → Prop} {w w' : World} {size n : Nat} {v : Value} {cs : List Value} (h : RcK w K size v n cs) (hf : Fr S w w') (hs : ∀ k, k < w.heap.size → K k → ¬ S k) : RcK w' K size v n cs := by
  refine ⟨?_, h.near.keep hf⟩
  by_cases hn : n = 0
  · obtain ⟨A, c, q1, q2, q3, q4, _⟩ := h.rc
    exact ⟨A, c, q1, q2, q3, q4, fun j u hj => by
      have : cs = [] := List.eq_nil_of_length_eq_zero (by rw [q3, hn]; simp)
      rw [this] at hj; simp at hj⟩
  · exact h.rc.keep hf (fun k hk => hs k (h.near hn k hk).1 (h.near hn k hk).2)
theorem RcK.mono {K K' : Nat → Prop} {w : World} {size n : Nat} {v : Value} {cs : List Value} (h : RcK w K size v n cs) (hk : ∀ k, k < w.heap.size → K k → K' k) : RcK w K' size v n cs := ⟨h.rc, h.near.mono hk⟩
def ccells (l : List Col) : List Value := l.flatMap (fun c => [Value.string c.1, .int .i64 c.2])
def icells : List Ix → List Value → List Value
  | x :: xs, v :: vs => .string x.name :: v :: .bool x.uniq :: icells xs vs
  | _, _ => []
structure IdxAt (w : World) (K : Nat → Prop) (v : Value) (l : List Ix) (svs : List Value) : Prop where
  len : svs.length = l.length
  row : RcK w K 3 v l.length (icells l svs)
  each : ∀ (j : Nat) (x : Ix) (u : Value), l[j]? = some x → svs[j]? = some u → RcK w K 1 u x.cols.length (x.cols.map encI)
structure TabAt (w : World) (K : Nat → Prop) (v : Value) (t : Tab) : Prop where
  ex : ∃ vc vi svs, v = .agg #[.string t.name, vc, .int .i64 t.key, vi] ∧ RcK w K 2 vc t.cols.length (ccells t.cols) ∧ IdxAt w K vi t.idx svs
theorem IdxAt.keep {S K : Nat → Prop} {w w' : World} {v : Value} {l : List Ix} {svs : List Value} (h : IdxAt w K v l svs) (hf : Fr S w w') (hs : ∀ k, k < w.heap.size → K k → ¬ S k) : IdxAt w' K v l svs :=
  ⟨h.len, h.row.keep hf hs, fun j x u q1 q2 => (h.each j x u q1 q2).keep hf hs⟩
theorem TabAt.keep {S K : Nat → Prop} {w w' : World} {v : Value} {t : Tab} (h : TabAt w K v t) (hf : Fr S w w') (hs : ∀ k, k < w.heap.size → K k → ¬ S k) : TabAt w' K v t := by
  obtain ⟨vc, vi, svs, rfl, h1, h2⟩ := h.ex
  exact ⟨vc, vi, svs, rfl, h1.keep hf hs, h2.keep hf hs⟩
theorem TabAt.later {K : Nat → Prop} {w w' : World} {v : Value} {t : Tab} (h : TabAt w K v t) (hf : Fr no w w') : TabAt w' K v t := h.keep hf (fun _ _ _ q => q)
theorem TabAt.mono {K K' : Nat → Prop} {w : World} {v : Value} {t : Tab} (h : TabAt w K v t) (hk : ∀ k, k < w.heap.size → K k → K' k) : TabAt w K' v t := by
  obtain ⟨vc, vi, svs, rfl, h1, h2⟩ := h.ex
  exact ⟨vc, vi, svs, rfl, h1.mono hk, h2.len, h2.row.mono hk, fun j x u q1 q2 => (h2.each j x u q1 q2).mono hk⟩
/-- cell j of a slice that is read -/
theorem _root_.Go.Hop.Rc.at_ {w : World} {size n : Nat} {A : Option Addr} {c : Nat} {cs : List Value} (h : Rc w size (.slice A n c) n cs) {j : Nat} {u : Value} (hj : cs[j]? = some u) : ∃ b off, A = some ⟨b, off, none⟩ ∧ w.cell? ⟨b, off + j, none⟩ = some u := by
  obtain ⟨A', c', e, _, _, _, hx⟩ := h
  injection e with e1 e2 e3
  subst e1
  exact hx j u hj
theorem _root_.Go.Hop.Rc.form {w : World} {size n : Nat} {v : Value} {cs : List Value} (h : Rc w size v n cs) : ∃ A c, v = .slice A n c ∧ n ≤ c := by
  obtain ⟨A, c, q1, q2, _⟩ := h; exact ⟨A, c, q1, q2⟩
theorem ccells_at : ∀ (l : List Col) (k : Nat) (p : Col), l[k]? = some p → (ccells l)[k * 2]? = some (.string p.1) ∧ (ccells l)[k * 2 + 1]? = some (.int .i64 p.2)
  | [], _, _, h => by simp at h
  | q :: t, 0, p, h => by
    simp only [List.getElem?_cons_zero, Option.some.injEq] at h
    subst h
    exact ⟨rfl, rfl⟩
  | q :: t, k + 1, p, h => by
    have ih := ccells_at t k p (by simpa using h)
    have e : ccells (q :: t) = .string q.1 :: .int .i64 q.2 :: ccells t := rfl
    rw [e, show (k + 1) * 2 = k * 2 + 2 by omega, show k * 2 + 2 + 1 = k * 2 + 1 + 2 by omega]
    simpa using ih
theorem icells_at : ∀ (l : List Ix) (svs : List Value) (k : Nat) (x : Ix) (u : Value), l[k]? = some x → svs[k]? = some u → (icells l svs)[k * 3]? = some (.string x.name) ∧ (icells l svs)[k * 3 + 1]? = some u ∧ (icells l svs)[k * 3 + 2]? = some (.bool x.uniq)
  | [], _, _, _, _, h, _ => by simp at h
  | _ :: _, [], _, _, _, _, h => by simp at h
  | q :: t, v :: vs, 0, x, u, h, h2 => by
    simp only [List.getElem?_cons_zero, Option.some.injEq] at h h2
    subst h h2
    exact ⟨rfl, rfl, rfl⟩
  | q :: t, v :: vs, k + 1, x, u, h, h2 => by
    have ih := icells_at t vs k x u (by simpa using h) (by simpa using h2)
    have e : icells (q :: t) (v :: vs) = .string q.name :: v :: .bool q.uniq :: icells t vs := rfl
    rw [e, show (k + 1) * 3 = k * 3 + 3 by omega, show k * 3 + 3 + 1 = k * 3 + 1 + 3 by omega, show k * 3 + 3 + 2 = k * 3 + 2 + 3 by omega]
    simpa using ih

theorem zero3 (w : World) : (zeroValue 3).run Try.prog w = .ok (.int .i64 0) w := by kernel_rfl
theorem c66_any (n : ByteArray) (k : Int) (w : World) : Calls Try.prog 66 #[.agg #[.string n, .int .i64 k]] w (AsBefore w (.string n)) := by
  go_enter Try.func66, Try.ntmps66
  go_wp2
  go_ret
  exact ⟨rfl, (Fr.refl _ _).alloc _⟩
theorem c68_any (n : ByteArray) (v : Value) (u : Bool) (w : World) (hv : v.oneCell' = true) : Calls Try.prog 68 #[.agg #[.string n, v, .bool u]] w (AsBefore w (.string n)) := by
  go_enter Try.func68, Try.ntmps68
  go_wp2
  go_ret
  exact ⟨rfl, (Fr.refl _ _).alloc _⟩
theorem c63_any (n a b : Int) (w : World) : Calls Try.prog 63 #[.int .i64 n, .int .i64 a, .int .i64 b] w fun e w' => e = .returned (.bool (inside n a b)) ∧ w = w' := by
  have Hi := Lib.hid (show inside n a b = (decide (a ≤ n) && decide (n ≤ b)) from rfl)
  cases e1 : decide (a ≤ n) <;> cases e2 : decide (n ≤ b)
  all_goals
    go_enter Try.func63, Try.ntmps63
    go_wp2
    go_ret
    exact ⟨by rw [Hi.out]; simp_all, rfl⟩
end Go.Proofs.Ythmjjbgjbcnjmaa

namespace Go.Proofs.Ythmjjbgjbcnjmaa
open Go.RowKit Go.Hop

/-- the names seen, each once -/
def Seen (al : List (ByteArray × Value)) (ns : List ByteArray) : Prop := ∀ n, (n ∈ ns → Hop.get al n = some (Value.int .i64 1)) ∧ (n ∉ ns → Hop.get al n = none)
theorem dist_step {α : Type} (l : List α) (nm : α → ByteArray) (k : Nat) (p : α) (hp : l[k]? = some p) (hd : distB ((l.take k).map nm) = true) :
    ((nm p ∈ (l.take k).map nm ∨ namedS (nm p) = false) → distB (l.map nm) = false) ∧ (nm p ∉ (l.take k).map nm → namedS (nm p) = true → distB ((l.take (k + 1)).map nm) = true) := by
  have e : l.take (k + 1) = l.take k ++ [p] := by rw [List.take_add_one, hp]; rfl
  have hsub : ((l.take (k + 1)).map nm).Sublist (l.map nm) := (List.take_sublist _ _).map nm
  simp only [distB, Bool.and_eq_true, List.all_eq_true, decide_eq_true_eq] at hd
  refine ⟨fun h => ?_, fun h1 h2 => ?_⟩
  · rw [Bool.eq_false_iff]
    intro q
    simp only [distB, Bool.and_eq_true, List.all_eq_true, decide_eq_true_eq] at q
    rcases h with h | h
    · have q2 := q.2.sublist hsub
      rw [e, List.map_append, List.nodup_append] at q2
      exact q2.2.2 _ h _ (by simp) rfl
    · have := q.1 (nm p) (List.mem_map.2 ⟨p, List.mem_of_getElem? hp, rfl⟩)
      rw [h] at this; cases this
  · simp only [distB, Bool.and_eq_true, List.all_eq_true, decide_eq_true_eq]
    rw [e, List.map_append]
    refine ⟨fun x hx => ?_, ?_⟩
    · rcases List.mem_append.1 hx with hx | hx
      · exact hd.1 x hx
      · simp at hx; rw [hx]; exact h2
    · rw [List.nodup_append]
      refine ⟨hd.2, by simp, fun a ha b hb => ?_⟩
      simp at hb; subst hb
      intro q; subst q; exact h1 ha
theorem look_put {w : World} {m : Nat} {al : List (ByteArray × Value)} {n : ByteArray} {u : Value} (h : MapIs w m (Hop.put al n u)) : (Instr.lookup 147 (.map (some m)) (.string n) false).run Try.prog w = .ok u w := by
  have := h.look (P := Try.prog) Try.underlying147 Try.underlying9 zero3 n false
  rw [get_put, if_pos rfl] at this
  simpa using this
theorem seen_step {α : Type} (l : List α) (nm : α → ByteArray) (k : Nat) (p : α) (hp : l[k]? = some p) : (l.take (k + 1)).map nm = (l.take k).map nm ++ [nm p] := by
  have e : l.take (k + 1) = l.take k ++ [p] := by rw [List.take_add_one, hp]; rfl
  rw [e, List.map_append]; rfl

set_option maxHeartbeats 2000000 in
set_option maxRecDepth 100000 in
theorem distinct65_any (v : Value) (l : List Col) (w : World) (h : Rc w 2 v l.length (ccells l)) (hl : l.length ≤ 4611686018427387903) (hsz : ∀ p ∈ l, (Prod.fst p).size ≤ 140737488351232) :
    Calls Try.prog 65 #[v, .func (.func 66) #[] #[]] w (AsBefore w (.bool (distB (l.map Prod.fst)))) := by
  obtain ⟨A, c, rfl, hc⟩ := h.form
  have H := Lib.hid h
  have Hs := Lib.hid hsz
  have hmm := @run_makeMap Try.prog
  clear h hsz
  go_enter Try.func65, Try.ntmps65
  go_wp2_with fail
  go_loopw [12] (fun i wr => ∃ k : Nat, ∃ al, i = .int .i64 k ∧ k ≤ l.length ∧ Fr no w wr ∧ MapIs wr w.heap.size al ∧ Hid (Seen al ((l.take k).map Prod.fst)) ∧ Hid (distB ((l.take k).map Prod.fst) = true)) (fun i _ => l.length - (intOf i).toNat)
  case atStart => exact ⟨0, [], rfl, Nat.zero_le _, (Fr.refl no w).alloc _, MapIs.made w, Lib.hid (by intro n; simp [Hop.get]), Lib.hid (by simp [distB])⟩
  case round =>
    obtain ⟨k, al, rfl, hk, hfr, hm, hseen, hd⟩ := hrel
    have HFR := Lib.hid hfr
    have hmlt := hm.lt
    clear hfr
    by_cases hlt : k < l.length
    · obtain ⟨p, hp⟩ : ∃ p, l[k]? = some p := ⟨_, List.getElem?_eq_getElem hlt⟩
      obtain ⟨q1, q2⟩ := ccells_at l k p hp
      obtain ⟨b, off, rfl, e0⟩ := H.out.at_ q1
      obtain ⟨b', off', hb', e1⟩ := H.out.at_ q2
      obtain ⟨rfl, rfl⟩ : b = b' ∧ off = off' := by injection hb' with hb'; injection hb' with z1 z2; exact ⟨z1, z2⟩
      replace e0 := HFR.out.cell e0 id
      replace e1 := HFR.out.cell e1 id
      rw [← Nat.add_assoc] at e1
      clear hb' q1 q2
      have hnsz := Hs.out _ (List.mem_of_getElem? hp)
      have Hdist := Lib.hid (dist_step l Prod.fst k p hp hd.out)
      have Hmem := Lib.hid (seen_step l Prod.fst k p hp)
      have t1 : decide ((k : Int) < (l.length : Int)) = true := by simp; omega
      have t2 : decide (k < l.length) = true := by simp; omega
      have hne : w.heap.size ≠ wr.heap.size := by omega
      by_cases hin : Prod.fst p ∈ (l.take k).map Prod.fst
      · have hget : Hop.get al (Prod.fst p) = some (.int .i64 1) := (hseen.out _).1 hin
        have Hres := Lib.hid (show distB (l.map Prod.fst) = false from Hdist.out.1 (.inl hin))
        have HP := Lib.hid hp
        have HIN := Lib.hid hin
        have Hget := Lib.hid hget
        clear hin hp
        cases hnm : namedS (Prod.fst p) with
        | true =>
          go_wp2_with (first | (go_at_call 66; refine (c66_any _ _ _).mono ?_; rintro e w1 ⟨rfl, hf1⟩; have hm1 := hm.keep (((Fr.refl no wr).alloc _).trans hf1 (fun _ _ z => z)) id; have HF1 := Lib.hid hf1; clear hf1) | (at_lookup; refine wp_look rfl _ _ _ rfl hm1 Try.underlying147 Try.underlying9 zero3 rfl _ rfl ?_; rw [Hget.out]) | (at_mapUpdate; go_loud (refine wp_store rfl _ _ _ rfl hm1 Try.underlying147 Try.underlying9 rfl _ rfl (.int .i64 2) rfl ?_; intro w2 hm2 hf2; have HF2 := Lib.hid hf2; clear hf2 hm1)) | (go_at_call 64; go_loud (refine (namedS_any _ _ hnsz).mono ?_; rintro e w3 ⟨rfl, hf3⟩; rw [hnm]; have hlk := look_put (al := al) (hm2.keep hf3 id); have HF3 := Lib.hid hf3; clear hf3)) | fail)
          go_ret
          rw [Hres.out]
          exact ⟨by simp, ((((HFR.out.alloc _).trans HF1.out (fun _ _ z => z)).trans HF2.out (fun i hi q => absurd hi (by simp [q]))).trans HF3.out (fun _ _ z => z))⟩
        | false =>
          go_wp2_with (first | (go_at_call 66; refine (c66_any _ _ _).mono ?_; rintro e w1 ⟨rfl, hf1⟩; have hm1 := hm.keep (((Fr.refl no wr).alloc _).trans hf1 (fun _ _ z => z)) id; have HF1 := Lib.hid hf1; clear hf1) | (at_lookup; refine wp_look rfl _ _ _ rfl hm1 Try.underlying147 Try.underlying9 zero3 rfl _ rfl ?_; rw [Hget.out]) | (at_mapUpdate; go_loud (refine wp_store rfl _ _ _ rfl hm1 Try.underlying147 Try.underlying9 rfl _ rfl (.int .i64 2) rfl ?_; intro w2 hm2 hf2; have HF2 := Lib.hid hf2; clear hf2 hm1)) | (go_at_call 64; go_loud (refine (namedS_any _ _ hnsz).mono ?_; rintro e w3 ⟨rfl, hf3⟩; rw [hnm]; have hlk := look_put (al := al) (hm2.keep hf3 id); have HF3 := Lib.hid hf3; clear hf3)) | fail)
          go_ret
          rw [Hres.out]
          exact ⟨by simp, ((((HFR.out.alloc _).trans HF1.out (fun _ _ z => z)).trans HF2.out (fun i hi q => absurd hi (by simp [q]))).trans HF3.out (fun _ _ z => z))⟩
      · have hget : Hop.get al (Prod.fst p) = none := (hseen.out _).2 hin
        have HP := Lib.hid hp
        have HIN := Lib.hid hin
        have Hget := Lib.hid hget
        clear hin hp
        cases hnm : namedS (Prod.fst p) with
        | true =>
          have Hnext := Lib.hid (Hdist.out.2 HIN.out hnm)
          go_wp2_with (first | (go_at_call 66; refine (c66_any _ _ _).mono ?_; rintro e w1 ⟨rfl, hf1⟩; have hm1 := hm.keep (((Fr.refl no wr).alloc _).trans hf1 (fun _ _ z => z)) id; have HF1 := Lib.hid hf1; clear hf1) | (at_lookup; refine wp_look rfl _ _ _ rfl hm1 Try.underlying147 Try.underlying9 zero3 rfl _ rfl ?_; rw [Hget.out]) | (at_mapUpdate; go_loud (refine wp_store rfl _ _ _ rfl hm1 Try.underlying147 Try.underlying9 rfl _ rfl (.int .i64 1) rfl ?_; intro w2 hm2 hf2; have HF2 := Lib.hid hf2; clear hf2 hm1)) | (go_at_call 64; go_loud (refine (namedS_any _ _ hnsz).mono ?_; rintro e w3 ⟨rfl, hf3⟩; rw [hnm]; have hlk := look_put (al := al) (hm2.keep hf3 id); have HF3 := Lib.hid hf3; clear hf3)) | fail)
          go_roundw
          case rel =>
            refine ⟨k + 1, _, by go_num, by omega, ((((HFR.out.alloc _).trans HF1.out (fun _ _ z => z)).trans HF2.out (fun i hi q => absurd hi (by simp [q]))).trans HF3.out (fun _ _ z => z)), hm2.keep HF3.out id, Lib.hid ?_, Hnext⟩
            rw [Hmem.out]
            intro x
            rw [get_put]
            by_cases hx : Prod.fst p = x
            · rw [if_pos hx]
              exact ⟨fun _ => rfl, fun q => absurd (by simp [hx]) q⟩
            · rw [if_neg hx]
              have hx2 := hseen.out x
              refine ⟨fun q => hx2.1 ?_, fun q => hx2.2 (fun z => q (List.mem_append_left _ z))⟩
              rcases List.mem_append.1 q with q | q
              · exact q
              · exact (hx (List.mem_singleton.1 q).symm).elim
          case measure => simp [intOf]; omega
        | false =>
          have Hres := Lib.hid (show distB (l.map Prod.fst) = false from Hdist.out.1 (.inr hnm))
          go_wp2_with (first | (go_at_call 66; refine (c66_any _ _ _).mono ?_; rintro e w1 ⟨rfl, hf1⟩; have hm1 := hm.keep (((Fr.refl no wr).alloc _).trans hf1 (fun _ _ z => z)) id; have HF1 := Lib.hid hf1; clear hf1) | (at_lookup; refine wp_look rfl _ _ _ rfl hm1 Try.underlying147 Try.underlying9 zero3 rfl _ rfl ?_; rw [Hget.out]) | (at_mapUpdate; go_loud (refine wp_store rfl _ _ _ rfl hm1 Try.underlying147 Try.underlying9 rfl _ rfl (.int .i64 1) rfl ?_; intro w2 hm2 hf2; have HF2 := Lib.hid hf2; clear hf2 hm1)) | (go_at_call 64; go_loud (refine (namedS_any _ _ hnsz).mono ?_; rintro e w3 ⟨rfl, hf3⟩; rw [hnm]; have hlk := look_put (al := al) (hm2.keep hf3 id); have HF3 := Lib.hid hf3; clear hf3)) | fail)
          go_ret
          rw [Hres.out]
          exact ⟨by simp, ((((HFR.out.alloc _).trans HF1.out (fun _ _ z => z)).trans HF2.out (fun i hi q => absurd hi (by simp [q]))).trans HF3.out (fun _ _ z => z))⟩
    · have t1 : decide ((k : Int) < (l.length : Int)) = false := by simp; omega
      have t2 : decide (k < l.length) = false := by simp; omega
      have Hres := Lib.hid (show distB (l.map Prod.fst) = true by have := hd.out; rwa [List.take_of_length_le (by omega)] at this)
      go_wp2
      go_ret
      rw [Hres.out]
      exact ⟨rfl, HFR.out⟩

set_option maxHeartbeats 2000000 in
set_option maxRecDepth 100000 in
theorem distinct67_any (v : Value) (l : List Ix) (svs : List Value) (w : World) (h : Rc w 3 v l.length (icells l svs)) (hl : l.length ≤ 4611686018427387903) (hsz : ∀ p ∈ l, (Ix.name p).size ≤ 140737488351232) (hsv : svs.length = l.length) (hform : ∀ u ∈ svs, ∃ A n c, u = Value.slice A n c) :
    Calls Try.prog 67 #[v, .func (.func 68) #[] #[]] w (AsBefore w (.bool (distB (l.map Ix.name)))) := by
  obtain ⟨A, c, rfl, hc⟩ := h.form
  have H := Lib.hid h
  have Hs := Lib.hid hsz
  have hmm := @run_makeMap Try.prog
  clear h hsz
  go_enter Try.func67, Try.ntmps67
  go_wp2_with fail
  go_loopw [12] (fun i wr => ∃ k : Nat, ∃ al, i = .int .i64 k ∧ k ≤ l.length ∧ Fr no w wr ∧ MapIs wr w.heap.size al ∧ Hid (Seen al ((l.take k).map Ix.name)) ∧ Hid (distB ((l.take k).map Ix.name) = true)) (fun i _ => l.length - (intOf i).toNat)
  case atStart => exact ⟨0, [], rfl, Nat.zero_le _, (Fr.refl no w).alloc _, MapIs.made w, Lib.hid (by intro n; simp [Hop.get]), Lib.hid (by simp [distB])⟩
  case round =>
    obtain ⟨k, al, rfl, hk, hfr, hm, hseen, hd⟩ := hrel
    have HFR := Lib.hid hfr
    have hmlt := hm.lt
    clear hfr
    by_cases hlt : k < l.length
    · obtain ⟨p, hp⟩ : ∃ p, l[k]? = some p := ⟨_, List.getElem?_eq_getElem hlt⟩
      obtain ⟨sv, hsvk⟩ : ∃ sv, svs[k]? = some sv := ⟨_, List.getElem?_eq_getElem (by omega)⟩
      obtain ⟨q1, q2, q3⟩ := icells_at l svs k p sv hp hsvk
      obtain ⟨As, ns, cs, rfl⟩ := hform sv (List.mem_of_getElem? hsvk)
      obtain ⟨b, off, rfl, e0⟩ := H.out.at_ q1
      obtain ⟨b', off', hb', e1⟩ := H.out.at_ q2
      obtain ⟨rfl, rfl⟩ : b = b' ∧ off = off' := by injection hb' with hb'; injection hb' with z1 z2; exact ⟨z1, z2⟩
      obtain ⟨b', off', hb', e2⟩ := H.out.at_ q3
      obtain ⟨rfl, rfl⟩ : b = b' ∧ off = off' := by injection hb' with hb'; injection hb' with z1 z2; exact ⟨z1, z2⟩
      replace e0 := HFR.out.cell e0 id
      replace e1 := HFR.out.cell e1 id
      replace e2 := HFR.out.cell e2 id
      rw [← Nat.add_assoc] at e1 e2
      clear hb' q1 q2 q3 hsvk
      have hnsz := Hs.out _ (List.mem_of_getElem? hp)
      have Hdist := Lib.hid (dist_step l Ix.name k p hp hd.out)
      have Hmem := Lib.hid (seen_step l Ix.name k p hp)
      have t1 : decide ((k : Int) < (l.length : Int)) = true := by simp; omega
      have t2 : decide (k < l.length) = true := by simp; omega
      have hne : w.heap.size ≠ wr.heap.size := by omega
      by_cases hin : Ix.name p ∈ (l.take k).map Ix.name
      · have hget : Hop.get al (Ix.name p) = some (.int .i64 1) := (hseen.out _).1 hin
        have Hres := Lib.hid (show distB (l.map Ix.name) = false from Hdist.out.1 (.inl hin))
        have HP := Lib.hid hp
        have HIN := Lib.hid hin
        have Hget := Lib.hid hget
        clear hin hp
        cases hnm : namedS (Ix.name p) with
        | true =>
          go_wp2_with (first | (go_at_call 68; refine (c68_any _ _ _ _ rfl).mono ?_; rintro e w1 ⟨rfl, hf1⟩; have hm1 := hm.keep (((Fr.refl no wr).alloc _).trans hf1 (fun _ _ z => z)) id; have HF1 := Lib.hid hf1; clear hf1) | (at_lookup; refine wp_look rfl _ _ _ rfl hm1 Try.underlying147 Try.underlying9 zero3 rfl _ rfl ?_; rw [Hget.out]) | (at_mapUpdate; go_loud (refine wp_store rfl _ _ _ rfl hm1 Try.underlying147 Try.underlying9 rfl _ rfl (.int .i64 2) rfl ?_; intro w2 hm2 hf2; have HF2 := Lib.hid hf2; clear hf2 hm1)) | (go_at_call 64; go_loud (refine (namedS_any _ _ hnsz).mono ?_; rintro e w3 ⟨rfl, hf3⟩; rw [hnm]; have hlk := look_put (al := al) (hm2.keep hf3 id); have HF3 := Lib.hid hf3; clear hf3)) | fail)
          go_ret
          rw [Hres.out]
          exact ⟨by simp, ((((HFR.out.alloc _).trans HF1.out (fun _ _ z => z)).trans HF2.out (fun i hi q => absurd hi (by simp [q]))).trans HF3.out (fun _ _ z => z))⟩
        | false =>
          go_wp2_with (first | (go_at_call 68; refine (c68_any _ _ _ _ rfl).mono ?_; rintro e w1 ⟨rfl, hf1⟩; have hm1 := hm.keep (((Fr.refl no wr).alloc _).trans hf1 (fun _ _ z => z)) id; have HF1 := Lib.hid hf1; clear hf1) | (at_lookup; refine wp_look rfl _ _ _ rfl hm1 Try.underlying147 Try.underlying9 zero3 rfl _ rfl ?_; rw [Hget.out]) | (at_mapUpdate; go_loud (refine wp_store rfl _ _ _ rfl hm1 Try.underlying147 Try.underlying9 rfl _ rfl (.int .i64 2) rfl ?_; intro w2 hm2 hf2; have HF2 := Lib.hid hf2; clear hf2 hm1)) | (go_at_call 64; go_loud (refine (namedS_any _ _ hnsz).mono ?_; rintro e w3 ⟨rfl, hf3⟩; rw [hnm]; have hlk := look_put (al := al) (hm2.keep hf3 id); have HF3 := Lib.hid hf3; clear hf3)) | fail)
          go_ret
          rw [Hres.out]
          exact ⟨by simp, ((((HFR.out.alloc _).trans HF1.out (fun _ _ z => z)).trans HF2.out (fun i hi q => absurd hi (by simp [q]))).trans HF3.out (fun _ _ z => z))⟩
      · have hget : Hop.get al (Ix.name p) = none := (hseen.out _).2 hin
        have HP := Lib.hid hp
        have HIN := Lib.hid hin
        have Hget := Lib.hid hget
        clear hin hp
        cases hnm : namedS (Ix.name p) with
        | true =>
          have Hnext := Lib.hid (Hdist.out.2 HIN.out hnm)
          go_wp2_with (first | (go_at_call 68; refine (c68_any _ _ _ _ rfl).mono ?_; rintro e w1 ⟨rfl, hf1⟩; have hm1 := hm.keep (((Fr.refl no wr).alloc _).trans hf1 (fun _ _ z => z)) id; have HF1 := Lib.hid hf1; clear hf1) | (at_lookup; refine wp_look rfl _ _ _ rfl hm1 Try.underlying147 Try.underlying9 zero3 rfl _ rfl ?_; rw [Hget.out]) | (at_mapUpdate; go_loud (refine wp_store rfl _ _ _ rfl hm1 Try.underlying147 Try.underlying9 rfl _ rfl (.int .i64 1) rfl ?_; intro w2 hm2 hf2; have HF2 := Lib.hid hf2; clear hf2 hm1)) | (go_at_call 64; go_loud (refine (namedS_any _ _ hnsz).mono ?_; rintro e w3 ⟨rfl, hf3⟩; rw [hnm]; have hlk := look_put (al := al) (hm2.keep hf3 id); have HF3 := Lib.hid hf3; clear hf3)) | fail)
          go_roundw
          case rel =>
            refine ⟨k + 1, _, by go_num, by omega, ((((HFR.out.alloc _).trans HF1.out (fun _ _ z => z)).trans HF2.out (fun i hi q => absurd hi (by simp [q]))).trans HF3.out (fun _ _ z => z)), hm2.keep HF3.out id, Lib.hid ?_, Hnext⟩
            rw [Hmem.out]
            intro x
            rw [get_put]
            by_cases hx : Ix.name p = x
            · rw [if_pos hx]
              exact ⟨fun _ => rfl, fun q => absurd (by simp [hx]) q⟩
            · rw [if_neg hx]
              have hx2 := hseen.out x
              refine ⟨fun q => hx2.1 ?_, fun q => hx2.2 (fun z => q (List.mem_append_left _ z))⟩
              rcases List.mem_append.1 q with q | q
              · exact q
              · exact (hx (List.mem_singleton.1 q).symm).elim
          case measure => simp [intOf]; omega
        | false =>
          have Hres := Lib.hid (show distB (l.map Ix.name) = false from Hdist.out.1 (.inr hnm))
          go_wp2_with (first | (go_at_call 68; refine (c68_any _ _ _ _ rfl).mono ?_; rintro e w1 ⟨rfl, hf1⟩; have hm1 := hm.keep (((Fr.refl no wr).alloc _).trans hf1 (fun _ _ z => z)) id; have HF1 := Lib.hid hf1; clear hf1) | (at_lookup; refine wp_look rfl _ _ _ rfl hm1 Try.underlying147 Try.underlying9 zero3 rfl _ rfl ?_; rw [Hget.out]) | (at_mapUpdate; go_loud (refine wp_store rfl _ _ _ rfl hm1 Try.underlying147 Try.underlying9 rfl _ rfl (.int .i64 1) rfl ?_; intro w2 hm2 hf2; have HF2 := Lib.hid hf2; clear hf2 hm1)) | (go_at_call 64; go_loud (refine (namedS_any _ _ hnsz).mono ?_; rintro e w3 ⟨rfl, hf3⟩; rw [hnm]; have hlk := look_put (al := al) (hm2.keep hf3 id); have HF3 := Lib.hid hf3; clear hf3)) | fail)
          go_ret
          rw [Hres.out]
          exact ⟨by simp, ((((HFR.out.alloc _).trans HF1.out (fun _ _ z => z)).trans HF2.out (fun i hi q => absurd hi (by simp [q]))).trans HF3.out (fun _ _ z => z))⟩
    · have t1 : decide ((k : Int) < (l.length : Int)) = false := by simp; omega
      have t2 : decide (k < l.length) = false := by simp; omega
      have Hres := Lib.hid (show distB (l.map Ix.name) = true by have := hd.out; rwa [List.take_of_length_le (by omega)] at this)
      go_wp2
      go_ret
      rw [Hres.out]
      exact ⟨rfl, HFR.out⟩
end Go.Proofs.Ythmjjbgjbcnjmaa
