/-
  Contracts of the functions that the statement reaches, and the plain laws behind it: this seat's texts Ul, Um, Un, Uo, Up, Uq, one behind the other.
-/
import Derived.Test.YthmjjbgjbcnjmaaMb6
import Derived.Deep.RegionHeld3
import Derived.Deep.CutBlock
import Derived.Deep.DeepCutAuto

namespace Go.Proofs.Ythmjjbgjbcnjmaa
open Go.RowKit Go.Hop

theorem RdAt.keepF {S : Nat → Prop} {w w' : World} {p : Nat} {s : RS} (h : RdAt w p s) (hf : Fr S w w') (hn : ¬ S p) : RdAt w' p s := ⟨hf.keep h.blk hn, h.sz⟩
theorem fr_set1 (w : World) (b i : Nat) (u : Value) : Fr (fun k => k = b) w (w.setCell ⟨b, i, none⟩ u) := (Fr.refl (fun k => k = b) w).setCell ⟨b, i, none⟩ u (fun _ => rfl)
/-- frames of a call that turns p and a block of its own -/
theorem fr_own {w w' : World} {p q : Nat} (hq : w.heap.size ≤ q) (h : Fr (fun k => k = p ∨ k = q) w w') : Fr (fun k => k = p) w w' := h.mono (fun i hi z => by rcases z with z | z; exact z; omega)

def IxP (w : World) (p : Nat) (x : Ix) (s : RS) (e : Ending) (w' : World) : Prop := ∃ u, e = .returned (.agg #[.string x.name, u, .bool x.uniq]) ∧ w'.ownsRow w.heap.size 3 1 u x.cols.length (x.cols.map encI) ∧ RdAt w' p s ∧ Fr (fun k => k = p) w w'
theorem ix_end {w w1 w2 w3 : World} {p : Nat} {nm : ByteArray} {v : Value} {ls : List Int} {u : Bool} {s3 : RS} (hp : p < w.heap.size) (hf1 : Fr (fun k => k = p) (w.alloc (.cells #[.string ⟨#[]⟩, .slice none 0 0, .bool false] 91)) w1) (hf2 : Fr (fun k => k = p) (w1.setCell ⟨w.heap.size, 0, none⟩ (.string nm)) w2)
    (ho : w2.ownsRow (w1.setCell ⟨w.heap.size, 0, none⟩ (.string nm)).heap.size 3 1 v ls.length (ls.map encI)) (hf3 : Fr (fun k => k = p) (w2.setCell ⟨w.heap.size, 1, none⟩ v) w3) (hr : RdAt w3 p s3) :
    (((((w3.setCell ⟨w.heap.size, 2, none⟩ (.bool u)).setCell ⟨w.heap.size, 0, none⟩ (.string nm)).setCell ⟨w.heap.size, 1, none⟩ v).setCell ⟨w.heap.size, 2, none⟩ (.bool u)).heap[w.heap.size]? = some (.cells #[.string nm, v, .bool u] 91 (0, 0)) ∧
    IxP w p ⟨nm, ls, u⟩ s3 (.returned (.agg #[.string nm, v, .bool u])) ((((w3.setCell ⟨w.heap.size, 2, none⟩ (.bool u)).setCell ⟨w.heap.size, 0, none⟩ (.string nm)).setCell ⟨w.heap.size, 1, none⟩ v).setCell ⟨w.heap.size, 2, none⟩ (.bool u))) := by
  have hne : w.heap.size ≠ p := by omega
  have b0 := heap_alloc_at w (.cells #[.string ⟨#[]⟩, .slice none 0 0, .bool false] 91)
  have b1 := hf1.keep b0 hne
  have b2 := hf2.keep (heap_setCell_at b1 0 (.string nm)) hne
  have b3 := hf3.keep (heap_setCell_at b2 1 v) hne
  have b4 := heap_setCell_at (heap_setCell_at (heap_setCell_at (heap_setCell_at b3 2 (.bool u)) 0 (.string nm)) 1 v) 2 (.bool u)
  simp only [List.setIfInBounds_toArray, List.set_cons_zero, List.set_cons_succ] at b4
  have hfin := (fr_set1 w3 w.heap.size 2 (.bool u)).trans (fr_set3 (w3.setCell ⟨w.heap.size, 2, none⟩ (.bool u)) w.heap.size (.string nm) v (.bool u)) (fun _ _ q => q)
  have s1 := hf1.size
  simp at s1
  have hv : ∀ k, v.ownBlock = some k → w.heap.size < k := fun k hk => by have := (ho.lt k hk).1; simp at this; omega
  refine ⟨b4, v, rfl, ?_, hr.keepF hfin (fun q => hne q.symm), ?_⟩
  · have h1 := (fr_set1 w2 w.heap.size 1 v).owns ho (fun k hk q => by have := hv k hk; omega)
    have h2 := hf3.owns h1 (fun k hk q => by have := hv k hk; omega)
    have h3 := hfin.owns h2 (fun k hk q => by have := hv k hk; omega)
    exact h3.mono (by simp; omega)
  · refine fr_own (q := w.heap.size) (Nat.le_refl _) ?_
    have f0 : Fr (fun k => k = p ∨ k = w.heap.size) w (w.alloc (.cells #[.string ⟨#[]⟩, .slice none 0 0, .bool false] 91)) := ((Fr.refl no w).alloc _).mono (fun _ _ q => q.elim)
    exact (((((f0.trans hf1 (fun _ _ q => .inl q)).trans (fr_set1 w1 _ _ _) (fun _ _ q => .inr q)).trans hf2 (fun _ _ q => .inl q)).trans (fr_set1 w2 _ _ _) (fun _ _ q => .inr q)).trans hf3 (fun _ _ q => .inl q)).trans hfin (fun _ _ q => .inr q)

set_option maxHeartbeats 1000000 in
set_option maxRecDepth 100000 in
theorem rix_any (p : Nat) (s : RS) (w : World) (h : RdAt w p s) : Calls Try.prog 115 #[.pointer (some ⟨p, 0, none⟩)] w (IxP w p (rix s).1 (rix s).2) := by
  have H := Lib.hid h
  have hlt := heap_lt h.blk
  have hR : rix s = (⟨(rtext s).1, (rlist rnum (rtext s).2).1, (rixflag (rlist rnum (rtext s).2).2).1⟩, (rixflag (rlist rnum (rtext s).2).2).2) := rfl
  have hf0 := Fr.alloc (Fr.refl no w) (.cells #[.string ⟨#[]⟩, .slice none 0 0, .bool false] 91)
  have HF0 := Lib.hid hf0
  have hne : w.heap.size ≠ p := by omega
  clear h hf0
  generalize hT : rtext s = T at *
  obtain ⟨nm, s1⟩ := T
  simp only at hR
  generalize hL : rlist rnum s1 = L at *
  obtain ⟨ls, lb, lbad⟩ := L
  simp only at hR
  generalize hG : rixflag ⟨lb, lbad⟩ = G at *
  obtain ⟨u, s3⟩ := G
  have HR := Lib.hid hR
  have HT := Lib.hid hT
  have HL := Lib.hid hL
  clear hR hT hL
  cases lbad with
  | true =>
    have hG' : u = false ∧ s3 = ⟨lb, true⟩ := by rw [rixflag, if_pos rfl] at hG; injection hG with h1 h2; exact ⟨h1.symm, h2.symm⟩
    obtain ⟨rfl, rfl⟩ := hG'
    clear hG
    go_enter Try.func115, Try.ntmps115
    go_wp2_with (first | (go_at_call 116; go_loud (refine (rtxt_any p s _ (H.out.later HF0.out)).mono ?_; rintro e w1 ⟨rfl, hW1, hF1⟩; rw [HT.out] at hW1 ⊢; have hb := hF1.keep (heap_alloc_at w _) hne; have y0 := free_at hb 0; have y1 : w1.cell? ⟨w.heap.size, 0, none⟩ = some (.string ⟨#[]⟩) := cells_at hb 0 _ rfl; have HB1 := Lib.hid (heap_setCell_at hb 0 (.string nm)); have HW1 := Lib.hid hW1; have HF1 := Lib.hid hF1; clear hW1 hF1 hb)) | (go_at_call 139; go_loud (refine (rlist139_any p s1 _ (HW1.out.keepF (fr_set1 _ _ _ _) (fun q => hne q.symm))).mono ?_; rintro e w2 ⟨v, rfl, ho2, hW2, hF2⟩; rw [HL.out] at ho2 hW2; obtain ⟨Av, cv, rfl⟩ := owns_slice ho2; have hb := hF2.keep HB1.out hne; have z0 := free_at hb 1; have z1 : w2.cell? ⟨w.heap.size, 1, none⟩ = some (.slice none 0 0) := cells_at hb 1 _ rfl; have z2 : w2.cell? ⟨w.heap.size, 2, none⟩ = some (.bool false) := cells_at hb 2 _ rfl; have z3 : w2.cell? ⟨w.heap.size, 0, none⟩ = some (.string nm) := cells_at hb 0 _ rfl; have z4 := free_at hb 2; have z5 := free_at hb 0; have z6 : w2.cell? ⟨p, 1, none⟩ = some (.bool true) := cells_at hW2.blk 1 _ rfl; have HO2 := Lib.hid ho2; have HW2 := Lib.hid hW2; have HF2 := Lib.hid hF2; clear hW2 hF2 hb ho2)) | fail)
    obtain ⟨hh, hend⟩ := ix_end (u := false) hlt HF1.out HF2.out HO2.out (Fr.refl _ _) (HW2.out.keepF (fr_set1 _ _ _ _) (fun q => hne q.symm))
    refine bodyPost_ret (v := .agg #[.string nm, .slice Av ls.length cv, .bool false]) (results_cell_row rfl _ _ _ 91 _ _ _ rfl hh Try.underlying91 rfl (by kernel_rfl)) rfl ?_
    rw [HR.out]
    exact hend
  | false =>
    have hG' : rflag ⟨lb, false⟩ = (u, s3) := by rw [← hG, rixflag, if_neg (by simp)]
    have HG := Lib.hid hG'
    clear hG hG'
    go_enter Try.func115, Try.ntmps115
    go_wp2_with (first | (go_at_call 116; go_loud (refine (rtxt_any p s _ (H.out.later HF0.out)).mono ?_; rintro e w1 ⟨rfl, hW1, hF1⟩; rw [HT.out] at hW1 ⊢; have hb := hF1.keep (heap_alloc_at w _) hne; have y0 := free_at hb 0; have y1 : w1.cell? ⟨w.heap.size, 0, none⟩ = some (.string ⟨#[]⟩) := cells_at hb 0 _ rfl; have HB1 := Lib.hid (heap_setCell_at hb 0 (.string nm)); have HW1 := Lib.hid hW1; have HF1 := Lib.hid hF1; clear hW1 hF1 hb)) | (go_at_call 139; go_loud (refine (rlist139_any p s1 _ (HW1.out.keepF (fr_set1 _ _ _ _) (fun q => hne q.symm))).mono ?_; rintro e w2 ⟨v, rfl, ho2, hW2, hF2⟩; rw [HL.out] at ho2 hW2; obtain ⟨Av, cv, rfl⟩ := owns_slice ho2; have hb := hF2.keep HB1.out hne; have z0 := free_at hb 1; have z1 : w2.cell? ⟨w.heap.size, 1, none⟩ = some (.slice none 0 0) := cells_at hb 1 _ rfl; have z6 : w2.cell? ⟨p, 1, none⟩ = some (.bool false) := cells_at hW2.blk 1 _ rfl; have HB2 := Lib.hid (heap_setCell_at hb 1 (.slice Av ls.length cv)); have HO2 := Lib.hid ho2; have HW2 := Lib.hid hW2; have HF2 := Lib.hid hF2; clear hW2 hF2 hb ho2)) | (go_at_call 140; go_loud (refine (rflag_any p _ _ (HW2.out.keepF (fr_set1 _ _ _ _) (fun q => hne q.symm))).mono ?_; rintro e w3 ⟨rfl, hW3, hF3⟩; rw [HG.out] at hW3 ⊢; have hb := hF3.keep HB2.out hne; have z7 := free_at hb 2; have z8 : w3.cell? ⟨w.heap.size, 2, none⟩ = some (.bool false) := cells_at hb 2 _ rfl; have z9 : w3.cell? ⟨w.heap.size, 1, none⟩ = some (.slice Av ls.length cv) := cells_at hb 1 _ rfl; have z10 : w3.cell? ⟨w.heap.size, 0, none⟩ = some (.string nm) := cells_at hb 0 _ rfl; have z11 := free_at hb 0; have z12 := free_at hb 1; have HW3 := Lib.hid hW3; have HF3 := Lib.hid hF3; clear hW3 hF3 hb)) | fail)
    obtain ⟨hh, hend⟩ := ix_end (u := u) hlt HF1.out HF2.out HO2.out HF3.out HW3.out
    refine bodyPost_ret (v := .agg #[.string nm, .slice Av ls.length cv, .bool u]) (results_cell_row rfl _ _ _ 91 _ _ _ rfl hh Try.underlying91 rfl (by kernel_rfl)) rfl ?_
    rw [HR.out]
    exact hend

def LP119 (w : World) (p : Nat) (l : List Ix) (s : RS) (e : Ending) (w' : World) : Prop := ∃ v svs, e = .returned v ∧ IxOwn w' w.heap.size v l svs ∧ RdAt w' p s ∧ Fr (fun k => k = p) w w'
set_option maxHeartbeats 1000000 in
set_option maxRecDepth 100000 in
theorem rlist119_any (p : Nat) (s : RS) (w : World) (h : RdAt w p s) : Calls Try.prog 119 #[.pointer (some ⟨p, 0, none⟩), .func (.func 115) #[.pointer (some ⟨p, 0, none⟩)] #[]] w (LP119 w p (rlist rix s).1 (rlist rix s).2) := by
  have H := Lib.hid h
  have hps := heap_lt h.blk
  have hbd := rnum_bd s
  have HR := Lib.hid (show rlist rix s = if (rnum s).2.bad = true ∨ (rnum s).1 < 0 ∨ 4096 < (rnum s).1 then ([], ⟨(rnum s).2.b, true⟩) else rlistN rix (rnum s).1.toNat (rnum s).2 from rfl)
  generalize hx : rnum s = x at *
  have HX := Lib.hid hx
  obtain ⟨n, b2, bad⟩ := x
  simp only at HR hbd
  obtain ⟨hb1, hb2⟩ := hbd
  clear hx h
  by_cases hbad : bad = true ∨ n < 0 ∨ 4096 < n
  · have HR2 := Lib.hid (show rlist rix s = ([], ⟨b2, true⟩) by rw [HR.out, if_pos hbad])
    have fin : ∀ w1, Fr (fun k => k = p) w w1 → RdAt w1 p ⟨b2, bad⟩ → LP119 w p [] ⟨b2, true⟩ (.returned (.slice none 0 0)) (w1.setCell ⟨p, 1, none⟩ (.bool true)) := fun w1 hf hr => ⟨.slice none 0 0, [], rfl, IxOwn.nil _ _, (hr.flag true).1, hf.trans (hr.flag true).2 (fun _ _ q => q)⟩
    have FIN := Lib.hid fin
    clear fin HR
    have cases3 : bad = true ∨ (bad = false ∧ n < 0) ∨ (bad = false ∧ ¬ n < 0 ∧ 4096 < n) := by
      cases bad with
      | true => exact .inl rfl
      | false => right; by_cases q : n < 0; exact .inl ⟨rfl, q⟩; exact .inr ⟨rfl, q, by simpa [q] using hbad⟩
    clear hbad
    rcases cases3 with rfl | ⟨rfl, hn⟩ | ⟨rfl, hn, hn2⟩
    · by_cases hn0 : 0 < n
      · have t1 : decide ((0 : Int) < n) = true := by simpa using hn0
        clear hb1 hb2
        go_enter Try.func119, Try.ntmps119
        go_wp2_with (first | (go_at_call 142; go_loud (refine (num_any p s _ H.out).mono ?_; rintro e w1 ⟨rfl, hW1, hF1⟩; rw [HX.out] at hW1 ⊢; have x1 : w1.cell? ⟨p, 1, none⟩ = some (.bool true) := cells_at hW1.blk 1 _ rfl; have x2 := free_at hW1.blk 1; have y1 : (w1.setCell ⟨p, 1, none⟩ (.bool true)).cell? ⟨p, 1, none⟩ = some (.bool true) := cells_at ((hW1.flag true).1.blk) 1 _ rfl; have HW1 := Lib.hid hW1; have HF1 := Lib.hid hF1; clear hW1 hF1)) | fail)
        have HFN := Lib.hid (FIN.out w1 HF1.out HW1.out)
        clear x1 x2 HW1 HF1
        generalize w1.setCell ⟨p, 1, none⟩ (.bool true) = w2 at *
        go_loopw [5, 6] (fun nn out wr => nn = .int .i64 n ∧ out = .slice none 0 0 ∧ wr = w2) (fun _ _ _ => 0)
        case atStart => exact ⟨rfl, rfl, rfl⟩
        case round =>
          obtain ⟨rfl, rfl, rfl⟩ := hrel
          go_wp2_with fail
          go_ret
          rw [HR2.out]
          exact HFN.out

      · have t1 : decide ((0 : Int) < n) = false := by simpa using hn0
        clear hb1 hb2
        go_enter Try.func119, Try.ntmps119
        go_wp2_with (first | (go_at_call 142; go_loud (refine (num_any p s _ H.out).mono ?_; rintro e w1 ⟨rfl, hW1, hF1⟩; rw [HX.out] at hW1 ⊢; have x1 : w1.cell? ⟨p, 1, none⟩ = some (.bool true) := cells_at hW1.blk 1 _ rfl; have x2 := free_at hW1.blk 1; have y1 : (w1.setCell ⟨p, 1, none⟩ (.bool true)).cell? ⟨p, 1, none⟩ = some (.bool true) := cells_at ((hW1.flag true).1.blk) 1 _ rfl; have HW1 := Lib.hid hW1; have HF1 := Lib.hid hF1; clear hW1 hF1)) | fail)
        have HFN := Lib.hid (FIN.out w1 HF1.out HW1.out)
        clear x1 x2 HW1 HF1
        generalize w1.setCell ⟨p, 1, none⟩ (.bool true) = w2 at *
        go_loopw [5, 6] (fun nn out wr => nn = .int .i64 n ∧ out = .slice none 0 0 ∧ wr = w2) (fun _ _ _ => 0)
        case atStart => exact ⟨rfl, rfl, rfl⟩
        case round =>
          obtain ⟨rfl, rfl, rfl⟩ := hrel
          go_wp2_with fail
          go_ret
          rw [HR2.out]
          exact HFN.out

    · have t0 : decide (n < 0) = true := by simpa using hn
      have t1 : decide ((0 : Int) < n) = false := by simp; omega
      clear hb1 hb2
      go_enter Try.func119, Try.ntmps119
      go_wp2_with (first | (go_at_call 142; go_loud (refine (num_any p s _ H.out).mono ?_; rintro e w1 ⟨rfl, hW1, hF1⟩; rw [HX.out] at hW1 ⊢; have x1 : w1.cell? ⟨p, 1, none⟩ = some (.bool false) := cells_at hW1.blk 1 _ rfl; have x2 := free_at hW1.blk 1; have y1 : (w1.setCell ⟨p, 1, none⟩ (.bool true)).cell? ⟨p, 1, none⟩ = some (.bool true) := cells_at ((hW1.flag true).1.blk) 1 _ rfl; have HW1 := Lib.hid hW1; have HF1 := Lib.hid hF1; clear hW1 hF1)) | fail)
      have HFN := Lib.hid (FIN.out w1 HF1.out HW1.out)
      clear x1 x2 HW1 HF1
      generalize w1.setCell ⟨p, 1, none⟩ (.bool true) = w2 at *
      go_loopw [5, 6] (fun nn out wr => nn = .int .i64 n ∧ out = .slice none 0 0 ∧ wr = w2) (fun _ _ _ => 0)
      case atStart => exact ⟨rfl, rfl, rfl⟩
      case round =>
        obtain ⟨rfl, rfl, rfl⟩ := hrel
        go_wp2_with fail
        go_ret
        rw [HR2.out]
        exact HFN.out

    · have t0 : decide (n < 0) = false := by simpa using hn
      have t2 : decide ((4096 : Int) < n) = true := by simpa using hn2
      have t1 : decide ((0 : Int) < n) = true := by simp; omega
      clear hb1 hb2
      go_enter Try.func119, Try.ntmps119
      go_wp2_with (first | (go_at_call 142; go_loud (refine (num_any p s _ H.out).mono ?_; rintro e w1 ⟨rfl, hW1, hF1⟩; rw [HX.out] at hW1 ⊢; have x1 : w1.cell? ⟨p, 1, none⟩ = some (.bool false) := cells_at hW1.blk 1 _ rfl; have x2 := free_at hW1.blk 1; have y1 : (w1.setCell ⟨p, 1, none⟩ (.bool true)).cell? ⟨p, 1, none⟩ = some (.bool true) := cells_at ((hW1.flag true).1.blk) 1 _ rfl; have HW1 := Lib.hid hW1; have HF1 := Lib.hid hF1; clear hW1 hF1)) | fail)
      have HFN := Lib.hid (FIN.out w1 HF1.out HW1.out)
      clear x1 x2 HW1 HF1
      generalize w1.setCell ⟨p, 1, none⟩ (.bool true) = w2 at *
      go_loopw [5, 6] (fun nn out wr => nn = .int .i64 n ∧ out = .slice none 0 0 ∧ wr = w2) (fun _ _ _ => 0)
      case atStart => exact ⟨rfl, rfl, rfl⟩
      case round =>
        obtain ⟨rfl, rfl, rfl⟩ := hrel
        go_wp2_with fail
        go_ret
        rw [HR2.out]
        exact HFN.out

  · have hbf : bad = false := by cases bad; rfl; exact absurd (.inl rfl) hbad
    have h0 : ¬ n < 0 := fun q => hbad (.inr (.inl q))
    have h1 : ¬ 4096 < n := fun q => hbad (.inr (.inr q))
    subst hbf
    obtain ⟨N, rfl⟩ : ∃ m : Nat, n = m := ⟨n.toNat, by omega⟩
    have HR2 := Lib.hid (show rlist rix s = rlistN rix N ⟨b2, false⟩ by rw [HR.out, if_neg hbad, Int.toNat_natCast])
    have t0 : decide ((N : Int) < 0) = false := by simp
    have t2 : decide ((4096 : Int) < (N : Int)) = false := by simp; omega
    have hN : N ≤ 4096 := by omega
    clear hbad HR h0 h1 hb1 hb2
    go_enter Try.func119, Try.ntmps119
    go_upto_block 0 with (first | (go_at_call 142; go_loud (refine (num_any p s _ H.out).mono ?_; rintro e w1 ⟨rfl, hW1, hF1⟩; rw [HX.out] at hW1 ⊢; have x1 : w1.cell? ⟨p, 1, none⟩ = some (.bool false) := cells_at hW1.blk 1 _ rfl; have x2 := free_at hW1.blk 1; have HW1 := Lib.hid hW1; have HF1 := Lib.hid hF1; clear hW1 hF1)) | fail)
    have hq := HW1.out.flag false
    have HQ := Lib.hid (And.intro hq.1 (HF1.out.trans hq.2 (fun _ _ q => q)))
    clear hq x1 x2 HW1 HF1
    generalize w1.setCell ⟨p, 1, none⟩ (.bool false) = w2 at *
    go_cut [6] (fun u6 wc => ∃ svs, IxOwn wc w.heap.size u6 (rlistN rix N ⟨b2, false⟩).1 svs ∧ RdAt wc p (rlistN rix N ⟨b2, false⟩).2 ∧ Fr (fun k => k = p) w wc)
    case first =>
      go_wp2_with fail
      go_loopw [5, 6] (fun nn out wr => ∃ (r : Nat) (sc : RS) (acc : List Ix) (svs : List Value), nn = .int .i64 r ∧ r + acc.length = N ∧ Hid (RdAt wr p sc) ∧ Hid (IxOwn wr w.heap.size out acc svs) ∧ Hid (Fr (fun k => k = p) w wr) ∧ Hid (rlistN rix N ⟨b2, false⟩ = (acc ++ (rlistN rix r sc).1, (rlistN rix r sc).2))) (fun nn _ _ => (intOf nn).toNat)
      case atStart => exact ⟨N, ⟨b2, false⟩, [], [], rfl, by simp, Lib.hid HQ.out.1, Lib.hid (IxOwn.nil _ _), Lib.hid HQ.out.2, Lib.hid (by simp)⟩
      case round =>
        clear HQ
        obtain ⟨r, sc, acc, svs, rfl, hr, hR, hO, hF, hE⟩ := hrel
        obtain ⟨sb, sbad⟩ := sc
        have y1 : wr.cell? ⟨p, 1, none⟩ = some (.bool sbad) := cells_at hR.out.blk 1 _ rfl
        have hws := hF.out.size
        cases r with
        | zero =>
          have hEE := hE.out
          simp only [rlistN, List.append_nil] at hEE
          have HEE := Lib.hid hEE
          clear hEE hE
          have u1 : decide ((0 : Int) < ((0 : Nat) : Int)) = false := by simp
          cases sbad
          all_goals
            go_wp2_with fail
            go_meet
            case rel => rw [HEE.out]; exact ⟨_, hO.out, hR.out, hF.out⟩
        | succ r =>
          have u1 : decide ((0 : Int) < ((r + 1 : Nat) : Int)) = true := decide_eq_true (by omega)
          have hcast : ((r + 1 : Nat) : Int) = (r : Int) + 1 := by omega
          cases sbad with
          | true =>
            have hEE := hE.out
            rw [rlistN_bad _ (r + 1) ⟨sb, true⟩ rfl] at hEE
            simp only [List.append_nil] at hEE
            have HEE := Lib.hid hEE
            clear hEE hE hcast
            go_wp2_with fail
            go_meet
            case rel => rw [HEE.out]; exact ⟨_, hO.out, hR.out, hF.out⟩
          | false =>
            have hEE := hE.out
            rw [rlistN_go _ r ⟨sb, false⟩ rfl] at hEE
            have HEE := Lib.hid hEE
            clear hEE hE
            generalize hxx : rix ⟨sb, false⟩ = xx at *
            obtain ⟨y, s2⟩ := xx
            have HXX := Lib.hid hxx
            have hlen : acc.length + 1 ≤ 4096 := by omega
            have hbs : w.heap.size ≤ wr.heap.size := hws
            rw [hcast] at *
            clear hxx hcast
            have ho := hO.out.row
            generalize hM : acc.length = M at *
            obtain ⟨Av, cv, rfl⟩ := owns_slice ho
            have HO := Lib.hid ho
            have HM := Lib.hid hM
            have HLO := Lib.hid (fun k hk => ho.lt k hk)
            clear ho hM
            go_wp2_with (first | (go_at_call 115; go_loud (refine (rix_any p _ _ hR.out).mono ?_; rintro e w3 ⟨u, rfl, hu3, hW3, hF3⟩; rw [HXX.out] at hu3 hW3 ⊢; obtain ⟨Au, cu, rfl⟩ := owns_slice hu3; have hs3 := hF3.size; have HO3 := Lib.hid (hF3.owns HO.out (fun k hk q => by have := (HLO.out k hk).1; omega)); have HU3 := Lib.hid hu3; have HW3 := Lib.hid hW3; have HF3 := Lib.hid hF3; clear hW3 hF3 hu3)) | (at_builtin; go_loud (refine wp_append rfl (.tmp 35) (.tmp 38) 39 rfl El39 (.slice Av M cv) M _ rfl (HO3.out.alloc _) _ 1 [.string y.name, .slice Au y.cols.length cu, .bool y.uniq] rfl (rc_new w3 _ _ _ 91) (by unfold maxLen; omega) (by omega) (by simp; omega) ?_; intro v4 w4 ho4 hg4 hloc4; have HO4 := Lib.hid ho4; have HG4 := Lib.hid hg4; have HL4 := Lib.hid hloc4; clear ho4 hg4 hloc4)) | fail)
            go_roundw
            case rel => exact ⟨r, s2, acc ++ [y], svs ++ [.slice Au y.cols.length cu], by go_num, by rw [List.length_append, HM.out, List.length_singleton]; omega, Lib.hid ((HW3.out.later ((Fr.refl no w3).alloc _)).keepG HG4.out (fun q => by have := (HLO.out p q.symm).1; omega)), Lib.hid (IxOwn.snoc (B := wr.heap.size) (hO.out.keep HF3.out (fun k hk q => by omega)) hbs (fun k hk => (HLO.out k hk).2) (RcK.of_owns HU3.out (by simp [encI, Value.oneCell'])) ((Fr.refl no w3).alloc _) (by rw [HM.out]; exact HO4.out) HG4.out HL4.out), Lib.hid (((hF.out.trans HF3.out (fun _ _ q => q)).alloc _).trans (Fr.grown HG4.out) (fun i hi q => absurd hi (by have := (HLO.out i q.symm).1; omega))), Lib.hid (by rw [HEE.out]; simp)⟩
            case measure => simp [intOf]
    case rest =>
      obtain ⟨svs, hO, hR, hF⟩ := hcut
      obtain ⟨Aq, cq, rfl⟩ := owns_slice hO.row
      go_wp2_with fail
      go_ret
      rw [HR2.out]
      exact ⟨_, _, rfl, hO, hR, hF⟩
end Go.Proofs.Ythmjjbgjbcnjmaa

namespace Go.Proofs.Ythmjjbgjbcnjmaa
open Go.RowKit Go.Hop

def TabP (w : World) (p : Nat) (t : Tab) (s : RS) (e : Ending) (w' : World) : Prop := ∃ v, e = .returned v ∧ TabAt w' (fun k => w.heap.size ≤ k) v t ∧ RdAt w' p s ∧ Fr (fun k => k = p) w w'
theorem tab_end {w w1 w2 w3 w4 : World} {p : Nat} {nm : ByteArray} {vc vi : Value} {cl : List Col} {kn : Int} {il : List Ix} {svs : List Value} {s4 : RS} (hp : p < w.heap.size) (hf1 : Fr (fun k => k = p) (w.alloc (.cells #[.string ⟨#[]⟩, .slice none 0 0, .int .i64 0, .slice none 0 0] 41)) w1)
    (hf2 : Fr (fun k => k = p) (w1.setCell ⟨w.heap.size, 0, none⟩ (.string nm)) w2) (ho : w2.ownsRow (w1.setCell ⟨w.heap.size, 0, none⟩ (.string nm)).heap.size 43 2 vc cl.length (ccells cl)) (hf3 : Fr (fun k => k = p) (w2.setCell ⟨w.heap.size, 1, none⟩ vc) w3)
    (hf4 : Fr (fun k => k = p) (w3.setCell ⟨w.heap.size, 2, none⟩ (.int .i64 kn)) w4) (hi : IxOwn w4 (w3.setCell ⟨w.heap.size, 2, none⟩ (.int .i64 kn)).heap.size vi il svs) (hr : RdAt w4 p s4) :
    ((((((w4.setCell ⟨w.heap.size, 3, none⟩ vi).setCell ⟨w.heap.size, 0, none⟩ (.string nm)).setCell ⟨w.heap.size, 1, none⟩ vc).setCell ⟨w.heap.size, 2, none⟩ (.int .i64 kn)).setCell ⟨w.heap.size, 3, none⟩ vi).heap[w.heap.size]? = some (.cells #[.string nm, vc, .int .i64 kn, vi] 41 (0, 0)) ∧
    TabP w p ⟨nm, cl, kn, il⟩ s4 (.returned (.agg #[.string nm, vc, .int .i64 kn, vi])) (((((w4.setCell ⟨w.heap.size, 3, none⟩ vi).setCell ⟨w.heap.size, 0, none⟩ (.string nm)).setCell ⟨w.heap.size, 1, none⟩ vc).setCell ⟨w.heap.size, 2, none⟩ (.int .i64 kn)).setCell ⟨w.heap.size, 3, none⟩ vi)) := by
  have hne : w.heap.size ≠ p := by omega
  have b0 := heap_alloc_at w (.cells #[.string ⟨#[]⟩, .slice none 0 0, .int .i64 0, .slice none 0 0] 41)
  have b1 := hf1.keep b0 hne
  have b2 := hf2.keep (heap_setCell_at b1 0 (.string nm)) hne
  have b3 := hf3.keep (heap_setCell_at b2 1 vc) hne
  have b4 := hf4.keep (heap_setCell_at b3 2 (.int .i64 kn)) hne
  have b5 := heap_setCell_at (heap_setCell_at (heap_setCell_at (heap_setCell_at (heap_setCell_at b4 3 vi) 0 (.string nm)) 1 vc) 2 (.int .i64 kn)) 3 vi
  simp only [List.setIfInBounds_toArray, List.set_cons_zero, List.set_cons_succ] at b5
  have hfin := (fr_set1 w4 w.heap.size 3 vi).trans (fr_set4 (w4.setCell ⟨w.heap.size, 3, none⟩ vi) w.heap.size (.string nm) vc (.int .i64 kn) vi) (fun _ _ q => q)
  have s1 := hf1.size
  have s2 := hf2.size
  have s3 := hf3.size
  simp at s1 s2 s3
  have hone : ∀ u ∈ ccells cl, u.oneCell' = true := ccells_one cl
  have hc2 : RcK w2 (fun k => w.heap.size < k) 2 vc cl.length (ccells cl) := (RcK.of_owns ho hone).mono (fun k _ q => by simp at q; omega)
  have hc3 := (hc2.keep (fr_set1 w2 w.heap.size 1 vc) (fun k _ q z => by have z' : k = w.heap.size := z; omega)).keep hf3 (fun k _ q z => by have z' : k = p := z; omega)
  have hc4 := (hc3.keep (fr_set1 w3 w.heap.size 2 (.int .i64 kn)) (fun k _ q z => by have z' : k = w.heap.size := z; omega)).keep hf4 (fun k _ q z => by have z' : k = p := z; omega)
  have hc5 := hc4.keep hfin (fun k _ q z => by have z' : k = w.heap.size := z; omega)
  have hi5 := hi.keep hfin (fun k hk z => by have z' : k = w.heap.size := z; simp at hk; omega)
  refine ⟨b5, _, rfl, ⟨vc, vi, svs, rfl, hc5.mono (fun k _ q => by omega), ?_⟩, hr.keepF hfin (fun q => hne q.symm), ?_⟩
  · have q := hi5.at_
    exact ⟨q.len, q.row.mono (fun k _ z => by simp at z; omega), fun j x u q1 q2 => (q.each j x u q1 q2).mono (fun k _ z => by simp at z; omega)⟩
  · refine fr_own (q := w.heap.size) (Nat.le_refl _) ?_
    have f0 : Fr (fun k => k = p ∨ k = w.heap.size) w (w.alloc (.cells #[.string ⟨#[]⟩, .slice none 0 0, .int .i64 0, .slice none 0 0] 41)) := ((Fr.refl no w).alloc _).mono (fun _ _ q => q.elim)
    have g1 := (f0.trans hf1 (fun _ _ q => .inl q)).trans (fr_set1 w1 w.heap.size 0 (.string nm)) (fun _ _ q => .inr q)
    have g2 := (g1.trans hf2 (fun _ _ q => .inl q)).trans (fr_set1 w2 w.heap.size 1 vc) (fun _ _ q => .inr q)
    have g3 := (g2.trans hf3 (fun _ _ q => .inl q)).trans (fr_set1 w3 w.heap.size 2 (.int .i64 kn)) (fun _ _ q => .inr q)
    exact (g3.trans hf4 (fun _ _ q => .inl q)).trans hfin (fun _ _ q => .inr q)

set_option maxHeartbeats 2000000 in
set_option maxRecDepth 100000 in
theorem rtab_any (p : Nat) (s : RS) (w : World) (h : RdAt w p s) : Calls Try.prog 91 #[.pointer (some ⟨p, 0, none⟩)] w (TabP w p (rtab s).1 (rtab s).2) := by
  have H := Lib.hid h
  have hlt := heap_lt h.blk
  have hR : rtab s = (⟨(rtext s).1, (rlist rcol (rtext s).2).1, (rnum (rlist rcol (rtext s).2).2).1, (rlist rix (rnum (rlist rcol (rtext s).2).2).2).1⟩, (rlist rix (rnum (rlist rcol (rtext s).2).2).2).2) := rfl
  have hf0 := Fr.alloc (Fr.refl no w) (.cells #[.string ⟨#[]⟩, .slice none 0 0, .int .i64 0, .slice none 0 0] 41)
  have HF0 := Lib.hid hf0
  have hne : w.heap.size ≠ p := by omega
  clear h hf0
  generalize hT : rtext s = T at *
  obtain ⟨nm, s1⟩ := T
  simp only at hR
  generalize hL : rlist rcol s1 = L at *
  obtain ⟨cl, s2⟩ := L
  simp only at hR
  generalize hN : rnum s2 = N at *
  obtain ⟨kn, s3⟩ := N
  simp only at hR
  generalize hI : rlist rix s3 = I at *
  obtain ⟨il, s4⟩ := I
  have HR := Lib.hid hR
  have HT := Lib.hid hT
  have HL := Lib.hid hL
  have HN := Lib.hid hN
  have HI := Lib.hid hI
  clear hR hT hL hN hI
  go_enter Try.func91, Try.ntmps91
  go_wp2_with (first | (go_at_call 116; go_loud (refine (rtxt_any p s _ (H.out.later HF0.out)).mono ?_; rintro e w1 ⟨rfl, hW1, hF1⟩; rw [HT.out] at hW1 ⊢; have hb := hF1.keep (heap_alloc_at w _) hne; have y0 := free_at hb 0; have y1 : w1.cell? ⟨w.heap.size, 0, none⟩ = some (.string ⟨#[]⟩) := cells_at hb 0 _ rfl; have HB1 := Lib.hid (heap_setCell_at hb 0 (.string nm)); have HW1 := Lib.hid hW1; have HF1 := Lib.hid hF1; clear hW1 hF1 hb)) | (go_at_call 117; go_loud (refine (rlist117_any p s1 _ (HW1.out.keepF (fr_set1 _ _ _ _) (fun q => hne q.symm))).mono ?_; rintro e w2 ⟨v, rfl, ho2, hW2, hF2⟩; rw [HL.out] at ho2 hW2; obtain ⟨Av, cv, rfl⟩ := owns_slice ho2; have hb := hF2.keep HB1.out hne; have z0 := free_at hb 1; have z1 : w2.cell? ⟨w.heap.size, 1, none⟩ = some (.slice none 0 0) := cells_at hb 1 _ rfl; have HB2 := Lib.hid (heap_setCell_at hb 1 (.slice Av cl.length cv)); have HO2 := Lib.hid ho2; have HW2 := Lib.hid hW2; have HF2 := Lib.hid hF2; clear hW2 hF2 hb ho2)) | (go_at_call 118; go_loud (refine (rplace_any p s2 _ (HW2.out.keepF (fr_set1 _ _ _ _) (fun q => hne q.symm))).mono ?_; rintro e w3 ⟨rfl, hW3, hF3⟩; rw [HN.out] at hW3 ⊢; have hb := hF3.keep HB2.out hne; have z2 := free_at hb 2; have z3 : w3.cell? ⟨w.heap.size, 2, none⟩ = some (.int .i64 0) := cells_at hb 2 _ rfl; have HB3 := Lib.hid (heap_setCell_at hb 2 (.int .i64 kn)); have HW3 := Lib.hid hW3; have HF3 := Lib.hid hF3; clear hW3 hF3 hb)) | (go_at_call 119; go_loud (refine (rlist119_any p s3 _ (HW3.out.keepF (fr_set1 _ _ _ _) (fun q => hne q.symm))).mono ?_; rintro e w4 ⟨v4, svs, rfl, ho4, hW4, hF4⟩; rw [HI.out] at ho4 hW4; obtain ⟨A4, c4, rfl⟩ := owns_slice ho4.row; have hb := hF4.keep HB3.out hne; have u3 := free_at hb 3; have u4 : w4.cell? ⟨w.heap.size, 3, none⟩ = some (.slice none 0 0) := cells_at hb 3 _ rfl; have u5 : w4.cell? ⟨w.heap.size, 0, none⟩ = some (.string nm) := cells_at hb 0 _ rfl; have u6 : w4.cell? ⟨w.heap.size, 1, none⟩ = some (.slice Av cl.length cv) := cells_at hb 1 _ rfl; have u7 : w4.cell? ⟨w.heap.size, 2, none⟩ = some (.int .i64 kn) := cells_at hb 2 _ rfl; have u8 := free_at hb 0; have u9 := free_at hb 1; have u10 := free_at hb 2; have HO4 := Lib.hid ho4; have HW4 := Lib.hid hW4; have HF4 := Lib.hid hF4; clear hW4 hF4 hb ho4)) | fail)
  obtain ⟨hh, hend⟩ := tab_end hlt HF1.out HF2.out HO2.out HF3.out HF4.out HO4.out HW4.out
  refine bodyPost_ret (v := .agg #[.string nm, .slice Av cl.length cv, .int .i64 kn, .slice A4 il.length c4]) (results_cell_row rfl _ _ _ 41 _ _ _ rfl hh Try.underlying41 rfl (by kernel_rfl)) rfl ?_
  rw [HR.out]
  exact hend
end Go.Proofs.Ythmjjbgjbcnjmaa

namespace Go.Proofs.Ythmjjbgjbcnjmaa
open Go.RowKit Go.Hop
attribute [local go_sem ↓] Go.wp_at_zero Go.wp_at_succ

/-- two results, the first in a cell of four -/
theorem results_41b {fn : Func} {p u x : Tmp} (h : fn.results = #[.cell p 41, .tmp u, .tmp x]) (tmps : Array Value) (w : World) (g : Nat) (x0 x1 x2 x3 : Value) (hp : tmps.getD p undef = .pointer (some ⟨g, 0, none⟩)) (hg : w.heap[g]? = some (.cells #[x0, x1, x2, x3] 41 (0, 0))) :
    (results fn tmps).run Try.prog w = .ok (.tuple #[.agg #[x0, x1, x2, x3], tmps.getD u undef, tmps.getD x undef]) w := by
  have hp' : tmps[p]?.getD undef = .pointer (some ⟨g, 0, none⟩) := by simpa using hp
  simp [results, h, hp', asAddr, run_loadVar_row w g 41 41 #[x0, x1, x2, x3] (0, 0) _ hg Try.underlying41 rfl (by kernel_rfl), Result.andThen]

theorem hF1k {w w1 : World} {o o' : Obj} {x : Obj} (h : Fr (fun k => k = w.heap.size + 1) ((w.alloc o).alloc o') w1) (hb : ((w.alloc o).alloc o').heap[w.heap.size]? = some x) : w1.heap[w.heap.size]? = some x := h.keep hb (by omega)
def TakeP (w : World) (t : Tab) (s : RS) (e : Ending) (w' : World) : Prop := ∃ v, e = .returned (.tuple #[v, .string s.b, .bool (!s.bad)]) ∧ TabAt w' (fun k => w.heap.size ≤ k) v t ∧ Fr no w w'
set_option maxHeartbeats 1000000 in
set_option maxRecDepth 100000 in
theorem taketab_any (b : ByteArray) (w : World) (hb : b.size ≤ 4294967296) : Calls Try.prog 59 #[.string b] w (TakeP w (rtab ⟨b, false⟩).1 (rtab ⟨b, false⟩).2) := by
  generalize hX : rtab ⟨b, false⟩ = X at *
  obtain ⟨t, sb, sbad⟩ := X
  have HX := Lib.hid hX
  clear hX
  have hf0 := Fr.alloc (Fr.alloc (Fr.refl no w) (.cells #[.string ⟨#[]⟩, .slice none 0 0, .int .i64 0, .slice none 0 0] 41)) (.cells #[.string b, .bool false] 139)
  have hr0 : RdAt ((w.alloc (.cells #[.string ⟨#[]⟩, .slice none 0 0, .int .i64 0, .slice none 0 0] 41)).alloc (.cells #[.string b, .bool false] 139)) (w.heap.size + 1) ⟨b, false⟩ := ⟨by simpa using heap_alloc_at (w.alloc (.cells #[.string ⟨#[]⟩, .slice none 0 0, .int .i64 0, .slice none 0 0] 41)) (.cells #[.string b, .bool false] 139), hb⟩
  have hz0 : ((w.alloc (.cells #[.string ⟨#[]⟩, .slice none 0 0, .int .i64 0, .slice none 0 0] 41)).alloc (.cells #[.string b, .bool false] 139)).heap[w.heap.size]? = some (.cells #[.string ⟨#[]⟩, .slice none 0 0, .int .i64 0, .slice none 0 0] 41 (0, 0)) := (Below.heap_alloc _ _ w.heap.size (by simp)).trans (heap_alloc_at w _)
  have HF0 := Lib.hid hf0
  have HR0 := Lib.hid hr0
  have HZ0 := Lib.hid hz0
  clear hf0 hr0 hz0 hb
  go_enter Try.func59, Try.ntmps59
  go_wp2_with (first | (go_at_call 91; go_loud (refine (rtab_any (w.heap.size + 1) ⟨b, false⟩ _ HR0.out).mono ?_; rintro e w1 ⟨v, rfl, ht1, hW1, hF1⟩; rw [HX.out] at ht1 hW1; obtain ⟨A1, c1, A2, c2, hv, _⟩ := tab_form ht1; subst hv; have hs1 := hF1.size; simp at hs1; have HT1 := Lib.hid ht1; have HW1 := Lib.hid hW1; have HF1 := Lib.hid hF1; clear ht1 hW1 hF1)) | fail)
  have hz2 := ((Fr.refl no w1).alloc (.cells #[.string t.name, .slice A1 t.cols.length c1, .int .i64 t.key, .slice A2 t.idx.length c2] 41)).keep (hF1k HF1.out HZ0.out) id
  have hb2 := heap_alloc_at w1 (.cells #[.string t.name, .slice A1 t.cols.length c1, .int .i64 t.key, .slice A2 t.idx.length c2] 41)
  have hr2 := (HW1.out.later ((Fr.refl no w1).alloc (.cells #[.string t.name, .slice A1 t.cols.length c1, .int .i64 t.key, .slice A2 t.idx.length c2] 41))).blk
  have hf2 := (Fr.refl no w1).alloc (.cells #[.string t.name, .slice A1 t.cols.length c1, .int .i64 t.key, .slice A2 t.idx.length c2] 41)
  have HF2 := Lib.hid hf2
  have HB2 := Lib.hid hb2
  have HR2 := Lib.hid hr2
  have HZ2 := Lib.hid hz2
  clear hz2 hb2 hr2 hf2
  generalize (w1.alloc (.cells #[.string t.name, .slice A1 t.cols.length c1, .int .i64 t.key, .slice A2 t.idx.length c2] 41)) = w2 at *
  have hS : ∀ w', Fr (fun k => k = w.heap.size) w2 w' → (w'.cell? ⟨w1.heap.size, 0, none⟩ = some (.string t.name) ∧ w'.cell? ⟨w1.heap.size, 1, none⟩ = some (.slice A1 t.cols.length c1) ∧ w'.cell? ⟨w1.heap.size, 2, none⟩ = some (.int .i64 t.key) ∧ w'.cell? ⟨w1.heap.size, 3, none⟩ = some (.slice A2 t.idx.length c2) ∧ w'.cell? ⟨w.heap.size + 1, 0, none⟩ = some (.string sb) ∧ w'.cell? ⟨w.heap.size + 1, 1, none⟩ = some (.bool sbad)) := fun w' hf => by
    have hb := hf.keep HB2.out (show ¬ w1.heap.size = w.heap.size by omega)
    have hr := hf.keep HR2.out (show ¬ w.heap.size + 1 = w.heap.size by omega)
    exact ⟨cells_at hb 0 _ rfl, cells_at hb 1 _ rfl, cells_at hb 2 _ rfl, cells_at hb 3 _ rfl, cells_at hr 0 _ rfl, cells_at hr 1 _ rfl⟩
  have HS := Lib.hid hS
  obtain ⟨x0, x1, x2, x3, x4⟩ := cells4 HZ2.out
  have f0 := free_at HZ2.out 0
  have f1 := free_at HZ2.out 1
  have f2 := free_at HZ2.out 2
  have f3 := free_at HZ2.out 3
  clear hS
  go_region_held3 (fun w' => w'.cell? ⟨w1.heap.size, 0, none⟩ = some (.string t.name) ∧ w'.cell? ⟨w1.heap.size, 1, none⟩ = some (.slice A1 t.cols.length c1) ∧ w'.cell? ⟨w1.heap.size, 2, none⟩ = some (.int .i64 t.key) ∧ w'.cell? ⟨w1.heap.size, 3, none⟩ = some (.slice A2 t.idx.length c2) ∧ w'.cell? ⟨w.heap.size + 1, 0, none⟩ = some (.string sb) ∧ w'.cell? ⟨w.heap.size + 1, 1, none⟩ = some (.bool sbad)) (first | (exact HS.out _ (Fr.refl _ _)) | (exact HS.out _ (Fr.drew (Fr.refl _ _))) | (exact HS.out _ (fr_set4 _ _ _ _ _ _)) | (exact HS.out _ (Fr.drew (fr_set4 _ _ _ _ _ _)))) (fail)
  all_goals go_wp2_with fail
  have hh := heap_setCell_at (heap_setCell_at (heap_setCell_at (heap_setCell_at HZ2.out 0 (.string t.name)) 1 (.slice A1 t.cols.length c1)) 2 (.int .i64 t.key)) 3 (.slice A2 t.idx.length c2)
  simp only [List.setIfInBounds_toArray, List.set_cons_zero, List.set_cons_succ] at hh
  have hfin := fr_set4 w2 w.heap.size (.string t.name) (.slice A1 t.cols.length c1) (.int .i64 t.key) (.slice A2 t.idx.length c2)
  refine bodyPost_ret (results_41b rfl _ _ w.heap.size (.string t.name) (.slice A1 t.cols.length c1) (.int .i64 t.key) (.slice A2 t.idx.length c2) rfl (by exact hh)) rfl ⟨_, rfl, ?_, ?_⟩
  · refine TabAt.mono (K := fun k => w.heap.size < k) ?_ (fun k _ q => by omega)
    have h1 := (HT1.out.later HF2.out).mono (K' := fun k => w.heap.size < k) (fun k _ q => by simp at q; omega)
    exact h1.keep (show Fr (fun k => k = w.heap.size) w2 _ from Fr.drew hfin) (fun k _ q z => by have z' : k = w.heap.size := z; omega)
  · have g := (HF0.out.mono (T := fun k => w.heap.size ≤ k) (fun _ _ q => q.elim)).trans HF1.out (fun i _ q => by have q' : i = w.heap.size + 1 := q; show w.heap.size ≤ i; omega)
    have g2 := (g.trans HF2.out (fun _ _ q => q.elim)).trans (show Fr (fun k => k = w.heap.size) w2 _ from Fr.drew hfin) (fun i _ q => by have q' : i = w.heap.size := q; show w.heap.size ≤ i; omega)
    exact g2.mono (fun i hi q => by have q' : w.heap.size ≤ i := q; omega)
end Go.Proofs.Ythmjjbgjbcnjmaa

namespace Go.Proofs.Ythmjjbgjbcnjmaa
open Go.RowKit Go.Hop

abbrev faultV (c : Int) : Value := .agg #[.int .i64 0, .int .i64 c]
/-- what Decode answers -/
def DecP (w : World) (r : Option Cat × Int) (e : Ending) (w' : World) : Prop :=
  match r.1 with
  | none => e = .returned (.tuple #[.pointer none, faultV r.2]) ∧ Fr no w w'
  | some c => ∃ m, w.heap.size ≤ m ∧ e = .returned (.tuple #[.pointer (some ⟨m + 1, 0, none⟩), faultV r.2]) ∧ IsC w' (fun k => m + 2 ≤ k) (m + 1) m c ∧ Fr no w w'
theorem results_54 {fn : Func} {p u : Tmp} (h : fn.results = #[.tmp u, .cell p 54]) (tmps : Array Value) (w : World) (g : Nat) (x0 x1 : Value) (hp : tmps.getD p undef = .pointer (some ⟨g, 0, none⟩)) (hg : w.heap[g]? = some (.cells #[x0, x1] 54 (0, 0))) :
    (results fn tmps).run Try.prog w = .ok (.tuple #[tmps.getD u undef, .agg #[x0, x1]]) w := by
  have hp' : tmps[p]?.getD undef = .pointer (some ⟨g, 0, none⟩) := by simpa using hp
  simp [results, h, hp', asAddr, run_loadVar_row w g 54 54 #[x0, x1] (0, 0) _ hg Try.underlying54 rfl (by kernel_rfl), Result.andThen]
/-- the state between two rounds -/
structure DecR (w wr : World) (m : Nat) (b : ByteArray) (b' l' : ByteArray) (c : Cat) (k : Nat) : Prop where
  eq : cdecN k b' l' c = cdecN b.size b ⟨#[]⟩ []
  fuel : b'.size ≤ k
  sz : b'.size ≤ b.size
  cat : IsC wr (fun k => m + 2 ≤ k) (m + 1) m c
  fr : Fr no w wr
  res : wr.heap[w.heap.size]? = some (.cells #[.int .i64 0, .int .i64 0] 54 (0, 0))
  lo : w.heap.size < m
  hi : m + 2 ≤ wr.heap.size

theorem cdec_of (b : ByteArray) (h : ¬ 262144 < b.size) : (∀ c, cdecN b.size b ⟨#[]⟩ [] = some c → cdec b = (some c, 0)) ∧ (cdecN b.size b ⟨#[]⟩ [] = none → cdec b = (none, 3)) := by
  unfold cdec
  rw [if_neg h]
  exact ⟨fun c hc => by rw [hc], fun hc => by rw [hc]⟩
theorem empty_list {b : ByteArray} (h : b.size = 0) : b.toList = [] := by
  rw [Lib.toList_data]
  exact List.eq_nil_of_length_eq_zero (by simpa using h)
/-! ### What is read fits a machine -/
theorem rnum_sz (s : RS) (h : s.b.size ≤ 4294967296) : (rnum s).2.b.size ≤ 4294967296 := (rtake_sz s 8 h).1
theorem rtext_sz (s : RS) (h : s.b.size ≤ 4294967296) : (rtext s).2.b.size ≤ 4294967296 ∧ (rtext s).1.size ≤ 4294967296 := rtake_sz _ _ (rnum_sz s h)
theorem rflag_sz (s : RS) (h : s.b.size ≤ 4294967296) : (rflag s).2.b.size ≤ 4294967296 := by
  unfold rflag
  split
  · exact (rtake_sz s 1 h).1
  · exact (rtake_sz s 1 h).1
theorem rlistN_all {α : Type} {each : RS → α × RS} {P : α → Prop} (he : ∀ s, s.b.size ≤ 4294967296 → P (each s).1 ∧ (each s).2.b.size ≤ 4294967296) : ∀ (k : Nat) (s : RS), s.b.size ≤ 4294967296 → (∀ x ∈ (rlistN each k s).1, P x) ∧ (rlistN each k s).2.b.size ≤ 4294967296 ∧ (rlistN each k s).1.length ≤ k
  | 0, s, h => ⟨by simp [rlistN], h, by simp [rlistN]⟩
  | k + 1, s, h => by
    simp only [rlistN]
    split
    · exact ⟨by simp, h, by simp⟩
    · obtain ⟨h1, h2⟩ := he s h
      obtain ⟨h3, h4, h5⟩ := rlistN_all he k _ h2
      refine ⟨fun x hx => ?_, h4, by simp; omega⟩
      rcases List.mem_cons.1 hx with rfl | hx
      · exact h1
      · exact h3 x hx
theorem rlist_all {α : Type} {each : RS → α × RS} {P : α → Prop} (he : ∀ s, s.b.size ≤ 4294967296 → P (each s).1 ∧ (each s).2.b.size ≤ 4294967296) (s : RS) (h : s.b.size ≤ 4294967296) : (∀ x ∈ (rlist each s).1, P x) ∧ (rlist each s).2.b.size ≤ 4294967296 ∧ (rlist each s).1.length ≤ 4096 := by
  unfold rlist
  split
  · exact ⟨by simp, rnum_sz s h, by simp⟩
  · next q =>
    obtain ⟨h1, h2, h3⟩ := rlistN_all he (rnum s).1.toNat _ (rnum_sz s h)
    refine ⟨h1, h2, ?_⟩
    have : ¬ 4096 < (rnum s).1 := fun z => q (.inr (.inr z))
    omega
theorem rtab_ok (s : RS) (h : s.b.size ≤ 4294967296) : TabOk (rtab s).1 ∧ (rtab s).2.b.size ≤ 4294967296 := by
  have t1 := rtext_sz s h
  obtain ⟨c1, c2, c3⟩ := rlist_all (each := rcol) (P := fun c => c.1.size ≤ 4294967296 ∧ -9223372036854775808 ≤ c.2 ∧ c.2 ≤ 9223372036854775807) (fun s hs => ⟨⟨(rtext_sz s hs).2, rnum_bd _⟩, rnum_sz _ (rtext_sz s hs).1⟩) (rtext s).2 t1.1
  have n1 := rnum_sz _ c2
  obtain ⟨i1, i2, i3⟩ := rlist_all (each := rix) (P := fun x => x.name.size ≤ 4294967296 ∧ x.cols.length ≤ 4096 ∧ ∀ n ∈ x.cols, -9223372036854775808 ≤ n ∧ n ≤ 9223372036854775807) (fun s hs => by
    obtain ⟨d1, d2, d3⟩ := rlist_all (each := rnum) (P := fun n => -9223372036854775808 ≤ n ∧ n ≤ 9223372036854775807) (fun s hs => ⟨rnum_bd s, rnum_sz s hs⟩) (rtext s).2 (rtext_sz s hs).1
    refine ⟨⟨(rtext_sz s hs).2, d3, d1⟩, ?_⟩
    show (rixflag (rlist rnum (rtext s).2).2).2.b.size ≤ _
    unfold rixflag
    split
    · exact d2
    · exact rflag_sz _ d2) (rnum (rlist rcol (rtext s).2).2).2 n1
  refine ⟨⟨⟨by have := t1.2; show (rtext s).1.size ≤ _; omega, by show (rlist rcol (rtext s).2).1.length ≤ _; omega, rnum_bd _, by show (rlist rix _).1.length ≤ _; omega, fun p hp => ⟨by have := (c1 p hp).1; omega, (c1 p hp).2⟩, fun x hx => ⟨by have := (i1 x hx).1; omega, by have := (i1 x hx).2.1; omega, (i1 x hx).2.2⟩⟩,
    ⟨by show (rlist rcol (rtext s).2).1.length ≤ _; omega, by show (rlist rix _).1.length ≤ _; omega⟩, fun x hx => by have := (i1 x hx).2.1; omega⟩, i2⟩
theorem dec_fail {k : Nat} {b l : ByteArray} {c : Cat} (hz : b.size ≠ 0) (h : (rtab ⟨b, false⟩).2.bad = true ∨ ¬ bl l < bl (rtab ⟨b, false⟩).1.name ∨ (ccreate c (rtab ⟨b, false⟩).1).1 ≠ 0) : cdecN (k + 1) b l c = none := by
  simp only [cdecN]
  rw [if_neg hz, if_pos h]
theorem dec_go {k : Nat} {b l : ByteArray} {c : Cat} (hz : b.size ≠ 0) (h1 : (rtab ⟨b, false⟩).2.bad = false) (h2 : bl l < bl (rtab ⟨b, false⟩).1.name) (h3 : (ccreate c (rtab ⟨b, false⟩).1).1 = 0) :
    cdecN (k + 1) b l c = cdecN k (rtab ⟨b, false⟩).2.b (rtab ⟨b, false⟩).1.name (ccreate c (rtab ⟨b, false⟩).1).2 ∧ (rtab ⟨b, false⟩).2.b.size < b.size := by
  refine ⟨?_, ?_⟩
  · simp only [cdecN]
    rw [if_neg hz, if_neg]
    rintro (q | q | q)
    · rw [h1] at q; cases q
    · exact q h2
    · exact q h3
  · have hck : checkT (rtab ⟨b, false⟩).1 = true := by
      cases hz : checkT (rtab ⟨b, false⟩).1 with
      | true => rfl
      | false => rw [ccreate, if_pos hz] at h3; simp at h3
    have hg := (rtab_get h1 hck).2
    have hl : (bl b).length = (tabB (rtab ⟨b, false⟩).1).length + (bl (rtab ⟨b, false⟩).2.b).length := by
      have := congrArg List.length hg
      rw [List.length_append] at this
      exact this
    rw [bl_len, bl_len] at hl
    have := tabB_pos (rtab ⟨b, false⟩).1
    omega
theorem beq_ne {a b : ByteArray} (h : a ≠ b) : (a.toList == b.toList) = false := by
  rw [beq_eq_false_iff_ne, Lib.toList_data, Lib.toList_data]
  exact fun e => h (bl_inj e)
theorem less_cases (a l : ByteArray) : (Op.bytesLess a.toList l.toList || a.toList == l.toList) = !decide (bl l < bl a) := by
  rw [less_of]
  by_cases h : bl l < bl a
  · have h1 : ¬ bl a < bl l := fun q => lt_irrefl' _ (lt_trans' q h)
    have h2 : a ≠ l := fun q => by subst q; exact lt_irrefl' _ h
    rw [beq_ne h2, decide_eq_false h1, decide_eq_true h]; rfl
  · by_cases e : a = l
    · subst e; simp [h]
    · have := lt_tri l a (fun q => e q.symm) h
      rw [decide_eq_true this, decide_eq_false h]; simp
set_option maxHeartbeats 2000000 in
set_option maxRecDepth 100000 in
theorem cdec_any (b : ByteArray) (w : World) (hb : b.size ≤ 4294967296) : Calls Try.prog 22 #[.string b] w (DecP w (cdec b)) := by
  by_cases hlong : 262144 < b.size
  · have HD := Lib.hid (show cdec b = (none, 2) by rw [cdec, if_pos hlong])
    have t1 : decide ((262144 : Int) < (b.size : Int)) = true := by simp; omega
    have t2 : decide (262144 < b.size) = true := by simp; omega
    go_enter Try.func22, Try.ntmps22
    go_wp2_with fail
    rw [HD.out]
    exact bodyPost_ret (results_54 rfl _ _ w.heap.size _ _ rfl (heap_alloc_at w _)) rfl ⟨rfl, (Fr.refl no w).alloc _⟩
  · have HD := Lib.hid (cdec_of b hlong)
    have t1 : decide ((262144 : Int) < (b.size : Int)) = false := by simp; omega
    have t2 : decide (262144 < b.size) = false := by simp; omega
    go_enter Try.func22, Try.ntmps22
    go_wp2_with (first | (go_at_call 15; go_loud (refine (cnew_any (fun k => (w.alloc (.cells #[.int .i64 0, .int .i64 0] 54)).heap.size + 2 ≤ k) _ (by omega)).mono ?_; rintro e w1 ⟨rfl, hI1, hf1⟩; have hI1' : IsC w1 (fun k => w.heap.size + 1 + 2 ≤ k) (w.heap.size + 1 + 1) (w.heap.size + 1) [] := (by simpa using hI1); have hlt1 := hI1'.lt; have HR := Lib.hid (DecR.mk (k := b.size) (b := b) (b' := b) (l' := ⟨#[]⟩) (c := []) (w := w) (wr := w1) (m := w.heap.size + 1) rfl (Nat.le_refl _) (Nat.le_refl _) hI1' (((Fr.refl no w).alloc _).trans hf1 (fun _ _ z => z)) (hf1.keep (heap_alloc_at w _) id) (by omega) (by omega)); clear hI1 hI1' hf1 hlt1)) | fail)
    go_loopw [0, 5] (fun bb ll wr => ∃ (k : Nat) (b' l' : ByteArray) (c : Cat), bb = .string b' ∧ ll = .string l' ∧ Hid (DecR w wr (w.heap.size + 1) b b' l' c k)) (fun bb _ _ => match bb with | .string x => x.size | _ => 0)
    case atStart => exact ⟨b.size, b, ⟨#[]⟩, [], rfl, rfl, HR⟩
    case round =>
      clear HR
      obtain ⟨k, b', l', c, rfl, rfl, HR⟩ := hrel
      have hx0 : wr.cell? ⟨w.heap.size, 0, none⟩ = some (.int .i64 0) := cells_at HR.out.res 0 _ rfl
      have hx1 : wr.cell? ⟨w.heap.size, 1, none⟩ = some (.int .i64 0) := cells_at HR.out.res 1 _ rfl
      have hx2 := free_at HR.out.res 0
      have hx3 := free_at HR.out.res 1
      by_cases hz : b'.size = 0
      · have hE2 : b'.toList = [] := empty_list hz
        have hE : b'.toList.isEmpty = true := by rw [hE2]; rfl
        have hc : cdecN b.size b ⟨#[]⟩ [] = some c := by rw [← HR.out.eq]; cases k <;> simp [cdecN, hz]
        have HC := Lib.hid (show cdec b = (some c, 0) from HD.out.1 c hc)
        clear hz hc
        go_wp2_with fail
        have hres := heap_setCell_at (heap_setCell_at HR.out.res 0 (.int .i64 0)) 1 (.int .i64 0)
        simp only [List.setIfInBounds_toArray, List.set_cons_zero, List.set_cons_succ] at hres
        rw [HC.out]
        refine bodyPost_ret (results_54 rfl _ _ w.heap.size _ _ rfl (by exact hres)) rfl ⟨w.heap.size + 1, by omega, rfl, ?_, ?_⟩
        · exact HR.out.cat.keep (fr_set2 wr w.heap.size (.int .i64 0) (.int .i64 0)) (fun q => by have q' : w.heap.size + 1 + 1 = w.heap.size := q; omega) (fun q => by have q' : w.heap.size + 1 = w.heap.size := q; omega) (fun k _ q z => by have z' : k = w.heap.size := z; omega)
        · exact HR.out.fr.trans (fr_set2 wr w.heap.size (.int .i64 0) (.int .i64 0)) (fun i hi q => absurd hi (by have q' : i = w.heap.size := q; omega))
      · have hE : b'.toList.isEmpty = false := by
          rw [Lib.toList_data]
          cases hq : b'.data.toList with
          | nil => exact absurd (by have := bl_len b'; unfold bl at this; rw [hq] at this; simpa using this.symm) hz
          | cons x l => rfl
        have hb' : b'.size ≤ 4294967296 := Nat.le_trans HR.out.sz hb
        obtain ⟨k, rfl⟩ : ∃ j, k = j + 1 := ⟨k - 1, by have := HR.out.fuel; omega⟩
        have hfail := dec_fail (k := k) (b := b') (l := l') (c := c) hz
        have hgo := dec_go (k := k) (b := b') (l := l') (c := c) hz
        have hok := (rtab_ok ⟨b', false⟩ hb').1
        generalize hX : rtab ⟨b', false⟩ = X at *
        obtain ⟨t, sb, sbad⟩ := X
        simp only at hfail hgo hok
        have HX := Lib.hid hX
        have HGO := Lib.hid hgo
        have HFA := Lib.hid (fun q => HD.out.2 (HR.out.eq ▸ hfail q))
        have HOK := Lib.hid hok
        have hwr := HR.out.hi
        clear hX hfail hgo hok hz
        cases sbad with
        | true =>
          have HC := Lib.hid (HFA.out (.inl rfl))
          clear HFA HGO
          go_wp2_with (first | (go_at_call 59; go_loud (refine (taketab_any b' _ hb').mono ?_; rintro e w2 ⟨v, rfl, ht2, hf2⟩; rw [HX.out] at ht2 ⊢; obtain ⟨A1, c1, A2, c2, hv, _⟩ := tab_form ht2; subst hv; have hs2 := hf2.size; have z0 : w2.cell? ⟨w.heap.size, 0, none⟩ = some (.int .i64 0) := hf2.cell hx0 id; have z1 : w2.cell? ⟨w.heap.size, 1, none⟩ = some (.int .i64 0) := hf2.cell hx1 id; have HRES := Lib.hid (hf2.keep HR.out.res id); have hlt2 : w.heap.size < w2.heap.size := (by omega); have hne2 : w.heap.size ≠ w2.heap.size := (by omega); have z2 := free_at HRES.out 0; have z3 := free_at HRES.out 1; have HT2 := Lib.hid ht2; have HF2 := Lib.hid hf2; clear ht2 hf2 hx0 hx1 hx2 hx3)) | fail)
          rw [HC.out]
          have hh := heap_setCell_at (heap_setCell_at HRES.out 0 (.int .i64 0)) 1 (.int .i64 3)
          simp only [List.setIfInBounds_toArray, List.set_cons_zero, List.set_cons_succ] at hh
          refine bodyPost_ret (results_54 rfl _ _ w.heap.size _ _ rfl (((Fr.refl no _).alloc _).keep hh id)) rfl ⟨rfl, ?_⟩
          exact ((HR.out.fr.trans HF2.out (fun _ _ z => z)).trans (fr_set2 w2 w.heap.size (.int .i64 0) (.int .i64 3)) (T := fun k => k = w.heap.size) (fun i hi q => absurd hi (by have q' : i = w.heap.size := q; omega))).alloc _
        | false =>
          by_cases hlt : bl l' < bl t.name
          · have hle : (Op.bytesLess t.name.toList l'.toList || t.name.toList == l'.toList) = false := by rw [less_cases, decide_eq_true hlt]; rfl
            have hle1 : Op.bytesLess t.name.toList l'.toList = false := by cases h : Op.bytesLess t.name.toList l'.toList; rfl; rw [h] at hle; simp at hle
            have hle2 : (t.name.toList == l'.toList) = false := by cases h : (t.name.toList == l'.toList); rfl; rw [h] at hle; simp at hle
            by_cases hcr : (ccreate c t).1 = 0
            · have HG1 := Lib.hid (HGO.out rfl hlt hcr).1
              have HG2 := Lib.hid (HGO.out rfl hlt hcr).2
              have HCR := Lib.hid hcr
              clear HFA HGO hlt hle hcr
              go_wp2_with (first | (go_at_call 59; go_loud (refine (taketab_any b' _ hb').mono ?_; rintro e w2 ⟨v, rfl, ht2, hf2⟩; rw [HX.out] at ht2 ⊢; obtain ⟨A1, c1, A2, c2, hv, _⟩ := tab_form ht2; subst hv; have hs2 := hf2.size; have z0 : w2.cell? ⟨w.heap.size, 0, none⟩ = some (.int .i64 0) := hf2.cell hx0 id; have z1 : w2.cell? ⟨w.heap.size, 1, none⟩ = some (.int .i64 0) := hf2.cell hx1 id; have HRES := Lib.hid (hf2.keep HR.out.res id); have hlt2 : w.heap.size < w2.heap.size := (by omega); have hne2 : w.heap.size ≠ w2.heap.size := (by omega); have z2 := free_at HRES.out 0; have z3 := free_at HRES.out 1; have HT2 := Lib.hid ht2; have HF2 := Lib.hid hf2; clear ht2 hf2 hx0 hx1 hx2 hx3)) | (go_at_call 17; go_loud (refine (ccreate_any (fun k => w.heap.size + 1 + 2 ≤ k) (fun k => wr.heap.size ≤ k) _ _ c _ t _ (HR.out.cat.later (HF2.out.alloc _)) (HT2.out.later ((Fr.refl no w2).alloc _)) HOK.out.fit HOK.out.len HOK.out.ilen (fun k hk => by simp at hk; omega)).mono ?_; rintro e w4 ⟨rfl, hI4, hf4⟩; rw [HCR.out]; have hne4 : ¬ w.heap.size = w.heap.size + 1 := (by omega); have hres4 := hf4.keep (((Fr.refl no w2).alloc (.cells #[.string t.name, .slice A1 t.cols.length c1, .int .i64 t.key, .slice A2 t.idx.length c2] 41)).keep HRES.out id) hne4; have q0 : w4.cell? ⟨w.heap.size, 0, none⟩ = some (.int .i64 0) := cells_at hres4 0 _ rfl; have q1 : w4.cell? ⟨w.heap.size, 1, none⟩ = some (.int .i64 0) := cells_at hres4 1 _ rfl; have q2 := free_at hres4 0; have q3 := free_at hres4 1; have hbox := hf4.keep (heap_alloc_at w2 (.cells #[.string t.name, .slice A1 t.cols.length c1, .int .i64 t.key, .slice A2 t.idx.length c2] 41)) (show ¬ w2.heap.size = w.heap.size + 1 by omega); have q4 : w4.cell? ⟨w2.heap.size, 0, none⟩ = some (.string t.name) := cells_at hbox 0 _ rfl; have hs4 := hf4.size; have HI4 := Lib.hid hI4; have HF4 := Lib.hid hf4; have HRES4 := Lib.hid hres4; clear hI4 hf4 hres4 hbox z0 z1 z2 z3)) | fail)
              go_roundw
              case rel =>
                refine ⟨k, sb, t.name, (ccreate c t).2, rfl, rfl, Lib.hid ⟨by rw [← HG1.out]; exact HR.out.eq, by have := HG2.out; have := HR.out.fuel; omega, by have := HG2.out; have := HR.out.sz; omega, HI4.out, ?_, HRES4.out, HR.out.lo, by simp at hs4; omega⟩⟩
                exact ((HR.out.fr.trans HF2.out (fun _ _ z => z)).alloc _).trans HF4.out (fun i hi q => absurd hi (by have q' : i = w.heap.size + 1 := q; omega))
              case measure => simp; exact HG2.out
            · have HC := Lib.hid (HFA.out (.inr (.inr hcr)))
              generalize hz1 : (ccreate c t).1 = z1' at *
              have HZ1 := Lib.hid hz1
              have hzz : (z1' != 0) = true := by simp [hcr]
              have hzz2 : (z1' == 0) = false := by simp [hcr]
              clear HFA HGO hlt hle hcr hz1
              go_wp2_with (first | (go_at_call 59; go_loud (refine (taketab_any b' _ hb').mono ?_; rintro e w2 ⟨v, rfl, ht2, hf2⟩; rw [HX.out] at ht2 ⊢; obtain ⟨A1, c1, A2, c2, hv, _⟩ := tab_form ht2; subst hv; have hs2 := hf2.size; have z0 : w2.cell? ⟨w.heap.size, 0, none⟩ = some (.int .i64 0) := hf2.cell hx0 id; have z1 : w2.cell? ⟨w.heap.size, 1, none⟩ = some (.int .i64 0) := hf2.cell hx1 id; have HRES := Lib.hid (hf2.keep HR.out.res id); have hlt2 : w.heap.size < w2.heap.size := (by omega); have hne2 : w.heap.size ≠ w2.heap.size := (by omega); have z2 := free_at HRES.out 0; have z3 := free_at HRES.out 1; have HT2 := Lib.hid ht2; have HF2 := Lib.hid hf2; clear ht2 hf2 hx0 hx1 hx2 hx3)) | (go_at_call 17; go_loud (refine (ccreate_any (fun k => w.heap.size + 1 + 2 ≤ k) (fun k => wr.heap.size ≤ k) _ _ c _ t _ (HR.out.cat.later (HF2.out.alloc _)) (HT2.out.later ((Fr.refl no w2).alloc _)) HOK.out.fit HOK.out.len HOK.out.ilen (fun k hk => by simp at hk; omega)).mono ?_; rintro e w4 ⟨rfl, hI4, hf4⟩; rw [HZ1.out]; have hne4 : ¬ w.heap.size = w.heap.size + 1 := (by omega); have hres4 := hf4.keep (((Fr.refl no w2).alloc (.cells #[.string t.name, .slice A1 t.cols.length c1, .int .i64 t.key, .slice A2 t.idx.length c2] 41)).keep HRES.out id) hne4; have q0 : w4.cell? ⟨w.heap.size, 0, none⟩ = some (.int .i64 0) := cells_at hres4 0 _ rfl; have q1 : w4.cell? ⟨w.heap.size, 1, none⟩ = some (.int .i64 0) := cells_at hres4 1 _ rfl; have q2 := free_at hres4 0; have q3 := free_at hres4 1; have hbox := hf4.keep (heap_alloc_at w2 (.cells #[.string t.name, .slice A1 t.cols.length c1, .int .i64 t.key, .slice A2 t.idx.length c2] 41)) (show ¬ w2.heap.size = w.heap.size + 1 by omega); have q4 : w4.cell? ⟨w2.heap.size, 0, none⟩ = some (.string t.name) := cells_at hbox 0 _ rfl; have hs4 := hf4.size; have HI4 := Lib.hid hI4; have HF4 := Lib.hid hf4; have HRES4 := Lib.hid hres4; clear hI4 hf4 hres4 hbox z0 z1 z2 z3)) | fail)
              rw [HC.out]
              have hh := heap_setCell_at (heap_setCell_at HRES4.out 0 (.int .i64 0)) 1 (.int .i64 3)
              simp only [List.setIfInBounds_toArray, List.set_cons_zero, List.set_cons_succ] at hh
              refine bodyPost_ret (results_54 rfl _ _ w.heap.size _ _ rfl (by exact hh)) rfl ⟨rfl, ?_⟩
              exact (((HR.out.fr.trans HF2.out (fun _ _ z => z)).alloc _).trans HF4.out (fun i hi q => absurd hi (by have q' : i = w.heap.size + 1 := q; omega))).trans (fr_set2 _ w.heap.size (.int .i64 0) (.int .i64 3)) (T := fun k => k = w.heap.size) (fun i hi q => absurd hi (by have q' : i = w.heap.size := q; omega))
          · have HC := Lib.hid (HFA.out (.inr (.inl hlt)))
            have hle : (Op.bytesLess t.name.toList l'.toList || t.name.toList == l'.toList) = true := by rw [less_cases, decide_eq_false hlt]; rfl
            clear HFA HGO hlt
            go_wp2_with (first | (go_at_call 59; go_loud (refine (taketab_any b' _ hb').mono ?_; rintro e w2 ⟨v, rfl, ht2, hf2⟩; rw [HX.out] at ht2 ⊢; obtain ⟨A1, c1, A2, c2, hv, _⟩ := tab_form ht2; subst hv; have hs2 := hf2.size; have z0 : w2.cell? ⟨w.heap.size, 0, none⟩ = some (.int .i64 0) := hf2.cell hx0 id; have z1 : w2.cell? ⟨w.heap.size, 1, none⟩ = some (.int .i64 0) := hf2.cell hx1 id; have HRES := Lib.hid (hf2.keep HR.out.res id); have hlt2 : w.heap.size < w2.heap.size := (by omega); have hne2 : w.heap.size ≠ w2.heap.size := (by omega); have z2 := free_at HRES.out 0; have z3 := free_at HRES.out 1; have HT2 := Lib.hid ht2; have HF2 := Lib.hid hf2; clear ht2 hf2 hx0 hx1 hx2 hx3)) | fail)
            rw [HC.out]
            have hh := heap_setCell_at (heap_setCell_at HRES.out 0 (.int .i64 0)) 1 (.int .i64 3)
            simp only [List.setIfInBounds_toArray, List.set_cons_zero, List.set_cons_succ] at hh
            refine bodyPost_ret (results_54 rfl _ _ w.heap.size _ _ rfl (((Fr.refl no _).alloc _).keep hh id)) rfl ⟨rfl, ?_⟩
            exact ((HR.out.fr.trans HF2.out (fun _ _ z => z)).trans (fr_set2 w2 w.heap.size (.int .i64 0) (.int .i64 3)) (T := fun k => k = w.heap.size) (fun i hi q => absurd hi (by have q' : i = w.heap.size := q; omega))).alloc _
end Go.Proofs.Ythmjjbgjbcnjmaa

namespace Go.Proofs.Ythmjjbgjbcnjmaa
open Go.RowKit Go.Hop
attribute [local go_sem ↓] Go.wp_at_zero Go.wp_at_succ

theorem rc_ints {w : World} {v : Value} {xs : List Int} (h : Rc w 1 v xs.length (xs.map encI)) : Rd encI w v xs := by
  obtain ⟨A, c, rfl, hc, hl, h1, hx⟩ := h
  exact ⟨A, c, rfl, hc, fun j x hj => hx j _ (by rw [List.getElem?_map, hj]; rfl)⟩
set_option maxHeartbeats 2000000 in
set_option maxRecDepth 100000 in
theorem same_tab (K K' : Nat → Prop) (v v' : Value) (t : Tab) (w : World) (h : TabAt w K v t) (h' : TabAt w K' v' t) (hf : TabOk t) : Calls Try.prog 26 #[v, v'] w (AsBefore w (.bool true)) := by
  obtain ⟨vc, vi, svs, rfl, hc, hi⟩ := h.ex
  obtain ⟨vc', vi', svs', rfl, hc', hi'⟩ := h'.ex
  obtain ⟨A1, c1, rfl, hk1⟩ := hc.rc.form
  obtain ⟨A2, c2, rfl, hk2⟩ := hi.row.rc.form
  obtain ⟨A3, c3, rfl, hk3⟩ := hc'.rc.form
  obtain ⟨A4, c4, rfl, hk4⟩ := hi'.row.rc.form
  have HC := Lib.hid hc
  have HI := Lib.hid hi
  have HC' := Lib.hid hc'
  have HI' := Lib.hid hi'
  have hl1 := hf.len.1
  have hl2 := hf.len.2
  have HF := Lib.hid hf
  clear h h' hc hi hc' hi' hf
  go_enter Try.func26, Try.ntmps26
  go_wp2_with fail
  have hb0 := ((Fr.refl no (w.alloc (.cells #[.string t.name, .slice A1 t.cols.length c1, .int .i64 t.key, .slice A2 t.idx.length c2] 41))).alloc (.cells #[.string t.name, .slice A3 t.cols.length c3, .int .i64 t.key, .slice A4 t.idx.length c4] 41)).keep (heap_alloc_at w _) id
  have hb1 := heap_alloc_at (w.alloc (.cells #[.string t.name, .slice A1 t.cols.length c1, .int .i64 t.key, .slice A2 t.idx.length c2] 41)) (.cells #[.string t.name, .slice A3 t.cols.length c3, .int .i64 t.key, .slice A4 t.idx.length c4] 41)
  have hfr := Fr.alloc (Fr.alloc (Fr.refl no w) (.cells #[.string t.name, .slice A1 t.cols.length c1, .int .i64 t.key, .slice A2 t.idx.length c2] 41)) (.cells #[.string t.name, .slice A3 t.cols.length c3, .int .i64 t.key, .slice A4 t.idx.length c4] 41)
  have hb1' : ((w.alloc (.cells #[.string t.name, .slice A1 t.cols.length c1, .int .i64 t.key, .slice A2 t.idx.length c2] 41)).alloc (.cells #[.string t.name, .slice A3 t.cols.length c3, .int .i64 t.key, .slice A4 t.idx.length c4] 41)).heap[w.heap.size + 1]? = some (.cells #[.string t.name, .slice A3 t.cols.length c3, .int .i64 t.key, .slice A4 t.idx.length c4] 41 (0, 0)) := by simpa using hb1
  have HB0 := Lib.hid hb0
  have HB1 := Lib.hid hb1'
  have HFR := Lib.hid hfr
  clear hb0 hb1 hb1' hfr
  generalize ((w.alloc (.cells #[.string t.name, .slice A1 t.cols.length c1, .int .i64 t.key, .slice A2 t.idx.length c2] 41)).alloc (.cells #[.string t.name, .slice A3 t.cols.length c3, .int .i64 t.key, .slice A4 t.idx.length c4] 41)) = w2 at *
  go_loopw [5] (fun i wr => ∃ k : Nat, k ≤ t.cols.length ∧ i = .int .i64 k ∧ Hid (Fr no w2 wr)) (fun i _ => t.cols.length - (intOf i).toNat)
  case atStart => exact ⟨0, Nat.zero_le _, rfl, Lib.hid (Fr.refl _ _)⟩
  case round =>
    obtain ⟨k, hk, rfl, hF⟩ := hrel
    obtain ⟨x0, x1, x2, x3, x4⟩ := cells4 (hF.out.keep HB0.out id)
    obtain ⟨y0, y1, y2, y3, y4⟩ := cells4 (hF.out.keep HB1.out id)
    by_cases hlt : k < t.cols.length
    · obtain ⟨x, hx⟩ : ∃ x, t.cols[k]? = some x := ⟨_, List.getElem?_eq_getElem hlt⟩
      have hfw := HFR.out.trans hF.out (fun _ _ z => z)
      obtain ⟨q1, q2⟩ := ccells_at t.cols k x hx
      obtain ⟨b, off, rfl, e0⟩ := (HC.out.keep hfw (fun _ _ _ z => z)).rc.at_ q1
      obtain ⟨b', off', hb', e1⟩ := (HC.out.keep hfw (fun _ _ _ z => z)).rc.at_ q2
      obtain ⟨rfl, rfl⟩ : b = b' ∧ off = off' := by injection hb' with hb'; injection hb' with z1 z2; exact ⟨z1, z2⟩
      obtain ⟨b2, off2, rfl, e2⟩ := (HC'.out.keep hfw (fun _ _ _ z => z)).rc.at_ q1
      obtain ⟨b2', off2', hb2', e3⟩ := (HC'.out.keep hfw (fun _ _ _ z => z)).rc.at_ q2
      obtain ⟨rfl, rfl⟩ : b2 = b2' ∧ off2 = off2' := by injection hb2' with hb'; injection hb' with z1 z2; exact ⟨z1, z2⟩
      rw [← Nat.add_assoc] at e1 e3
      have t1 : decide ((k : Int) < (t.cols.length : Int)) = true := by simp; omega
      have t2 : decide (k < t.cols.length) = true := by simp; omega
      have i1 : (0 : Int) ≤ (k : Int) := by omega
      have i2 : (k : Int) < (t.cols.length : Int) := by omega
      clear hx q1 q2 hb' hb2' hfw
      go_wp2_with fail
      go_quiet (fail)
      all_goals go_wp2_with fail
      go_roundw
      case rel => exact ⟨k + 1, by omega, by go_num, Lib.hid (hF.out.drewN _)⟩
      case measure => simp [intOf]; omega
    · have t1 : decide ((k : Int) < (t.cols.length : Int)) = false := by simp; omega
      have t2 : decide (k < t.cols.length) = false := by simp; omega
      have HW := Lib.hid (HFR.out.trans hF.out (fun _ _ z => z))
      have HBa := Lib.hid (hF.out.keep HB0.out id)
      have HBb := Lib.hid (hF.out.keep HB1.out id)
      clear HB0 HB1
      go_wp2_with fail
      clear x0 x1 x2 x3 y0 y1 y2 y3
      obtain ⟨wo, rfl⟩ : ∃ wo : World, wo = wr := ⟨_, rfl⟩
      go_loopw [6] (fun i ws => ∃ k : Nat, k ≤ t.idx.length ∧ i = .int .i64 k ∧ Hid (Fr no wo ws)) (fun i _ => t.idx.length - (intOf i).toNat)
      case atStart => exact ⟨0, Nat.zero_le _, rfl, Lib.hid (Fr.refl _ _)⟩
      case round =>
        obtain ⟨q, hq, rfl, hG⟩ := hrel
        obtain ⟨x0, x1, x2, x3, x4⟩ := cells4 (hG.out.keep HBa.out id)
        obtain ⟨y0, y1, y2, y3, y4⟩ := cells4 (hG.out.keep HBb.out id)
        have hwz := HW.out.trans hG.out (fun _ _ z => z)
        have HWZ := Lib.hid hwz
        by_cases hlt2 : q < t.idx.length
        · obtain ⟨x, hx⟩ : ∃ x, t.idx[q]? = some x := ⟨_, List.getElem?_eq_getElem hlt2⟩
          have hia := HI.out.keep hwz (fun _ _ _ z => z)
          have hib := HI'.out.keep hwz (fun _ _ _ z => z)
          obtain ⟨u, hu⟩ : ∃ u, svs[q]? = some u := ⟨_, List.getElem?_eq_getElem (by rw [hia.len]; omega)⟩
          obtain ⟨u', hu'⟩ : ∃ u, svs'[q]? = some u := ⟨_, List.getElem?_eq_getElem (by rw [hib.len]; omega)⟩
          obtain ⟨q1, q2, q3⟩ := icells_at t.idx svs q x u hx hu
          obtain ⟨q4, q5, q6⟩ := icells_at t.idx svs' q x u' hx hu'
          obtain ⟨b, off, rfl, e0⟩ := hia.row.rc.at_ q1
          obtain ⟨b', off', hb', e1⟩ := hia.row.rc.at_ q2
          obtain ⟨rfl, rfl⟩ : b = b' ∧ off = off' := by injection hb' with hb'; injection hb' with z1 z2; exact ⟨z1, z2⟩
          obtain ⟨b', off', hb', e2⟩ := hia.row.rc.at_ q3
          obtain ⟨rfl, rfl⟩ : b = b' ∧ off = off' := by injection hb' with hb'; injection hb' with z1 z2; exact ⟨z1, z2⟩
          obtain ⟨d, of, rfl, e3⟩ := hib.row.rc.at_ q4
          obtain ⟨b', off', hb', e4⟩ := hib.row.rc.at_ q5
          obtain ⟨rfl, rfl⟩ : d = b' ∧ of = off' := by injection hb' with hb'; injection hb' with z1 z2; exact ⟨z1, z2⟩
          obtain ⟨b', off', hb', e5⟩ := hib.row.rc.at_ q6
          obtain ⟨rfl, rfl⟩ : d = b' ∧ of = off' := by injection hb' with hb'; injection hb' with z1 z2; exact ⟨z1, z2⟩
          rw [← Nat.add_assoc] at e1 e2 e4 e5
          have hsa := hia.each q x u hx hu
          have hsb := hib.each q x u' hx hu'
          obtain ⟨Au, cu, rfl, _⟩ := hsa.rc.form
          obtain ⟨Av, cv, rfl, _⟩ := hsb.rc.form
          have HSA := Lib.hid hsa
          have HSB := Lib.hid hsb
          have hxl := HF.out.ilen x (List.mem_of_getElem? hx)
          have t3 : decide ((q : Int) < (t.idx.length : Int)) = true := by simp; omega
          have t4 : decide (q < t.idx.length) = true := by simp; omega
          have i1 : (0 : Int) ≤ (q : Int) := by omega
          have i2 : (q : Int) < (t.idx.length : Int) := by omega
          have hS : ∀ w', Fr no wr w' → (w'.cell? ⟨w.heap.size, 3, none⟩ = some (.slice (some ⟨b, off, none⟩) t.idx.length c2) ∧ w'.cell? ⟨w.heap.size + 1, 3, none⟩ = some (.slice (some ⟨d, of, none⟩) t.idx.length c4) ∧ w'.cell? ⟨b, off + q * 3, none⟩ = some (.string x.name) ∧ w'.cell? ⟨b, off + q * 3 + 1, none⟩ = some (.slice Au x.cols.length cu) ∧ w'.cell? ⟨b, off + q * 3 + 2, none⟩ = some (.bool x.uniq) ∧ w'.cell? ⟨d, of + q * 3, none⟩ = some (.string x.name) ∧ w'.cell? ⟨d, of + q * 3 + 1, none⟩ = some (.slice Av x.cols.length cv) ∧ w'.cell? ⟨d, of + q * 3 + 2, none⟩ = some (.bool x.uniq)) := fun w' hf => ⟨hf.cell x3 id, hf.cell y3 id, hf.cell e0 id, hf.cell e1 id, hf.cell e2 id, hf.cell e3 id, hf.cell e4 id, hf.cell e5 id⟩
          have HS := Lib.hid hS
          clear hx q1 q2 q3 q4 q5 q6 hb' hia hib hsa hsb hu hu' hS hwz
          go_wp2_with fail
          go_region_held3 (fun w' => w'.cell? ⟨w.heap.size, 3, none⟩ = some (.slice (some ⟨b, off, none⟩) t.idx.length c2) ∧ w'.cell? ⟨w.heap.size + 1, 3, none⟩ = some (.slice (some ⟨d, of, none⟩) t.idx.length c4) ∧ w'.cell? ⟨b, off + q * 3, none⟩ = some (.string x.name) ∧ w'.cell? ⟨b, off + q * 3 + 1, none⟩ = some (.slice Au x.cols.length cu) ∧ w'.cell? ⟨b, off + q * 3 + 2, none⟩ = some (.bool x.uniq) ∧ w'.cell? ⟨d, of + q * 3, none⟩ = some (.string x.name) ∧ w'.cell? ⟨d, of + q * 3 + 1, none⟩ = some (.slice Av x.cols.length cv) ∧ w'.cell? ⟨d, of + q * 3 + 2, none⟩ = some (.bool x.uniq)) ((refine HS.out _ ?_; repeat (first | exact Fr.refl _ _ | refine Fr.drew ?_ | refine Fr.alloc ?_ _ | refine Fr.setCell ?_ _ _ (fun h => absurd h (by simp))))) (fail)
          all_goals
            go_wp2_with (first | (go_at_call 62; go_loud (refine (ints_any _ _ x.cols _ (rc_ints (HSA.out.keep (S := no) (by repeat (first | exact Fr.refl _ _ | refine Fr.drew ?_ | refine Fr.alloc ?_ _ | refine Fr.setCell ?_ _ _ (fun h => absurd h (by simp)))) (fun _ _ _ z => z)).rc) (rc_ints (HSB.out.keep (S := no) (by repeat (first | exact Fr.refl _ _ | refine Fr.drew ?_ | refine Fr.alloc ?_ _ | refine Fr.setCell ?_ _ _ (fun h => absurd h (by simp)))) (fun _ _ _ z => z)).rc) (by omega)).mono ?_; rintro e w5 ⟨rfl, hf5⟩; have HF5 := Lib.hid hf5; clear hf5)) | fail)
            go_roundw
            case rel => exact ⟨q + 1, by omega, by go_num, Lib.hid (hG.out.trans (Fr.trans (S := no) (by repeat (first | exact Fr.refl _ _ | refine Fr.drew ?_ | refine Fr.alloc ?_ _ | refine Fr.setCell ?_ _ _ (fun h => absurd h (by simp)))) HF5.out (fun _ _ z => z)) (fun _ _ z => z))⟩
            case measure => simp [intOf]; omega
        · have t3 : decide ((q : Int) < (t.idx.length : Int)) = false := by simp; omega
          have t4 : decide (q < t.idx.length) = false := by simp; omega
          go_wp2_with fail
          go_ret
          exact ⟨rfl, HWZ.out⟩
end Go.Proofs.Ythmjjbgjbcnjmaa

namespace Go.Proofs.Ythmjjbgjbcnjmaa
open Go.RowKit Go.Hop

theorem rd_keys {w : World} {base n : Nat} {v : Value} {l : Cat} (h : w.ownsRow base 9 1 v n (l.map (fun p => Value.string p.1))) : Rd (fun x => Value.string x) w v (l.map Prod.fst) := by
  have e : l.map (fun p => Value.string p.1) = (l.map Prod.fst).map (fun x => Value.string x) := by rw [List.map_map]; rfl
  rw [e] at h
  exact Rd.of_owns h
theorem IsC.ok {K : Nat → Prop} {w : World} {a m : Nat} {l : Cat} (h : IsC w K a m l) : CatOk l := ⟨h.srt, h.few, fun p hp => ⟨(h.good p hp).1, (h.good p hp).2.1⟩⟩
theorem tab_ok {t : Tab} (h : checkT t = true) (hf : TabFit t) : TabOk t := by
  obtain ⟨h1, h2, h3⟩ := check_small h
  exact ⟨hf, ⟨by omega, by omega⟩, fun x hx => by have := h3 x hx; omega⟩
theorem cdec_two (b : ByteArray) : (cdec b = (none, 2)) ∨ (cdec b = (none, 3)) ∨ ∃ d, cdec b = (some d, 0) := by
  unfold cdec
  split
  · exact .inl rfl
  · cases cdecN b.size b ⟨#[]⟩ [] with
    | none => exact .inr (.inl rfl)
    | some c => exact .inr (.inr ⟨c, rfl⟩)

set_option maxHeartbeats 4000000 in
set_option maxRecDepth 100000 in
theorem back_any (A : Option Addr) (n c : Nat) (b : ByteArray) (ts : List Tab) (W : World) (hn : n ≤ c) (hts : TabsIn W A n ts) (hb : b.size ≤ 1048576) (hn2 : n ≤ 4611686018427387903) :
    Calls Try.prog 7 #[.slice A n c, .string b] W (AsBefore W (.bool true)) := by
  have HT := Lib.hid hts
  clear hts
  go_enter Try.func7, Try.ntmps7
  go_upto_block 0 with (first | (go_at_call 15; go_loud (refine (cnew_any (fun k => W.heap.size + 2 ≤ k) _ (by omega)).mono ?_; rintro e w1 ⟨rfl, hI1, hf1⟩; have HI1 := Lib.hid hI1; have HF1 := Lib.hid hf1; clear hI1 hf1)) | (go_at_call 16; go_loud (refine (sworks_any _).mono ?_; rintro e w3 ⟨rfl, hf3⟩; have HI3 := Lib.hid (HI1.out.later hf3); have HF3 := Lib.hid (HF1.out.trans hf3 (fun _ _ z => z)); clear hf3 HI1 HF1)) | fail)
  have hlt3 := HI3.out.lt
  go_cut [] (fun wc => IsC wc (fun k => W.heap.size + 2 ≤ k) (W.heap.size + 1) W.heap.size (createAll [] (ts.take 30)) ∧ Fr no W wc)
  case first =>
    go_wp2_with fail
    go_loopw [6] (fun i wr => ∃ k : Nat, i = .int .i64 k ∧ k ≤ n ∧ k ≤ 30 ∧ Hid (IsC wr (fun k => W.heap.size + 2 ≤ k) (W.heap.size + 1) W.heap.size (createAll [] (ts.take k))) ∧ Hid (Fr no W wr)) (fun i _ => n - (intOf i).toNat)
    case atStart => exact ⟨0, rfl, by omega, by omega, HI3, HF3⟩
    case round =>
      clear HI3 HF3
      obtain ⟨k, rfl, hk, hk30, hI, hF⟩ := hrel
      have hilt := hI.out.lt
      by_cases hgo : k < n ∧ k < 30
      · obtain ⟨hlt, h30⟩ := hgo
        have t1 : decide ((k : Int) < (n : Int)) = true := by simp; omega
        have t2 : decide (k < n) = true := by simp; omega
        have t3 : decide ((k : Int) < 30) = true := by simp; omega
        have t4 : decide (k < 30) = true := by simp; omega
        obtain ⟨t, ht⟩ : ∃ t, ts[k]? = some t := ⟨_, List.getElem?_eq_getElem (by have := HT.out.len; omega)⟩
        obtain ⟨d, off, A1, c1, A2, c2, rfl, hbW, htab, e0, e1, e2, e3⟩ := HT.out.at_ k t ht
        replace e0 := hF.out.cell e0 id
        replace e1 := hF.out.cell e1 id
        replace e2 := hF.out.cell e2 id
        replace e3 := hF.out.cell e3 id
        have HTAB := Lib.hid (htab.later hF.out)
        have HOK := Lib.hid (HT.out.ok t (List.mem_of_getElem? ht))
        have HST := Lib.hid (createAll_step [] ts k t ht)
        clear htab ht
        go_wp2_with (first | (go_at_call 17; go_loud (refine (ccreate_any (fun k => W.heap.size + 2 ≤ k) _ _ _ _ _ t _ hI.out HTAB.out HOK.out.fit HOK.out.len HOK.out.ilen (fun k hk => by omega)).mono ?_; rintro e w4 ⟨rfl, hI4, hf4⟩; have HI4 := Lib.hid hI4; have HF4 := Lib.hid hf4; clear hI4 hf4)) | fail)
        go_roundw
        case rel => exact ⟨k + 1, by go_num, by omega, by omega, Lib.hid (by rw [HST.out]; exact HI4.out), Lib.hid (hF.out.trans HF4.out (fun i hi q => absurd hi (by have q' : i = W.heap.size := q; omega)))⟩
        case measure => simp [intOf]; omega
      · have hkk : createAll [] (ts.take k) = createAll [] (ts.take 30) := by
          have hl := HT.out.len
          rcases (by omega : k = 30 ∨ n ≤ k) with q | q
          · rw [q]
          · rw [List.take_of_length_le (by omega), List.take_of_length_le (by omega)]
        have HKK := Lib.hid hkk
        clear hkk
        rcases (by omega : n ≤ k ∨ (k < n ∧ 30 ≤ k)) with hge | ⟨hlt, hge⟩
        · have t1 : decide ((k : Int) < (n : Int)) = false := by simp; omega
          have t2 : decide (k < n) = false := by simp; omega
          go_wp2_with fail
          go_meet
          case rel => exact ⟨by rw [← HKK.out]; exact hI.out, hF.out⟩
        · have t1 : decide ((k : Int) < (n : Int)) = true := by simp; omega
          have t2 : decide (k < n) = true := by simp; omega
          have t3 : decide ((k : Int) < 30) = false := by simp; omega
          have t4 : decide (k < 30) = false := by simp; omega
          go_wp2_with fail
          go_meet
          case rel => exact ⟨by rw [← HKK.out]; exact hI.out, hF.out⟩
  case rest =>
    obtain ⟨hI, hF⟩ := hcut
    clear HI3 HF3 hlt3 HT
    generalize createAll [] (ts.take 30) = C at *
    have HI := Lib.hid hI
    have HF := Lib.hid hF
    obtain ⟨se, fe, hse⟩ : ∃ se fe, cenc C = (se, fe) := ⟨_, _, rfl⟩
    have HEN := Lib.hid hse
    clear hI hF hse
    go_upto_if 48 with (first | (go_at_call 19; go_loud (refine (cenc_any _ _ _ C _ HI.out).mono ?_; rintro e w4 ⟨rfl, hf4⟩; rw [HEN.out]; have HI4 := Lib.hid (HI.out.later hf4); have HF4 := Lib.hid (HF.out.trans hf4 (fun _ _ z => z)); clear hf4)) | fail)
    go_cut [] (fun wd => Fr no W wd)
    case first =>
      by_cases hfe : fe = 0
      · have h0 : (cenc C).2 = 0 := by rw [HEN.out]; exact hfe
        have hcd := cdec_cenc HI4.out.ok h0
        rw [HEN.out] at hcd
        have HCD := Lib.hid hcd
        have hsz : se.size ≤ 262144 := by
          have : (cenc C).1.size ≤ 262144 := by
            unfold cenc
            split
            · exact Nat.zero_le _
            · next q => show (catB C).toArray.size ≤ _; simp; omega
          rw [HEN.out] at this
          exact this
        have T1 : True := trivial
        have T2 : True := trivial
        have T3 : True := trivial
        clear h0 hcd HEN
        subst hfe
        go_wp2_with (first | (go_at_call 22; go_loud (refine (cdec_any se _ (by omega)).mono ?_; intro e w5 hD; rw [HCD.out] at hD; obtain ⟨m, hm, rfl, hI5, hf5⟩ := hD; have HD5 := Lib.hid hI5; have HI5 := Lib.hid (HI4.out.later hf5); have HF5 := Lib.hid (HF4.out.trans hf5 (fun _ _ z => z)); clear hI5 hf5)) | (go_at_call 21; clear T1; go_loud (refine (cnames_any _ _ _ C _ (HI5.out.later ((Fr.refl no w5).alloc _))).mono ?_; rintro e w6 ⟨v6, rfl, ho6, hf6⟩; have HR6 := Lib.hid (rd_keys ho6); have HG6 := Lib.hid (Fr.trans (S := no) ((Fr.refl no w5).alloc _) hf6 (fun _ _ z => z)); clear hf6 ho6)) | (go_at_call 21; clear T2; go_loud (refine (cnames_any _ _ _ C _ (HD5.out.later HG6.out)).mono ?_; rintro e w7 ⟨v7, rfl, ho7, hf7⟩; have HR7 := Lib.hid (rd_keys ho7); have HR6b := Lib.hid (HR6.out.keep hf7 (fun _ _ z => z)); have HG7 := Lib.hid (HG6.out.trans hf7 (fun _ _ z => z)); clear hf7 ho7)) | (go_at_call 20; go_loud (refine (texts_any _ _ (C.map Prod.fst) _ HR6b.out HR7.out (by have := HD5.out.few; rw [List.length_map]; omega)).mono ?_; rintro e w8 ⟨rfl, hf8⟩; have HG8 := Lib.hid (HG7.out.trans hf8 (fun _ _ z => z)); clear hf8)) | (go_at_call 21; clear T3; go_loud (refine (cnames_any _ _ _ C _ (HI5.out.later HG8.out)).mono ?_; rintro e w9 ⟨v9, rfl, ho9, hf9⟩; obtain ⟨An, cn, rfl⟩ := owns_slice ho9; have HO9 := Lib.hid ho9; have HG9 := Lib.hid (HG8.out.trans hf9 (fun _ _ z => z)); clear hf9 ho9)) | fail)
        have HA := Lib.hid (HI5.out.later HG9.out)
        have HB := Lib.hid (HD5.out.later HG9.out)
        have HW9 := Lib.hid (HF5.out.trans HG9.out (fun _ _ z => z))
        have hfew := HA.out.few
        clear HI5 HD5 HR6b HR7 HG6 HG7 HG8 HG9 HR6 HI4 HF4 HF5 HI HF
        go_loopw [72] (fun i wr => ∃ k : Nat, i = .int .i64 k ∧ k ≤ C.length ∧ Hid (Fr no w9 wr)) (fun i _ => C.length - (intOf i).toNat)
        case atStart => exact ⟨0, rfl, Nat.zero_le _, Lib.hid (Fr.refl _ _)⟩
        case round =>
          obtain ⟨k, rfl, hk, hG⟩ := hrel
          by_cases hlt : k < C.length
          · obtain ⟨⟨nm, t⟩, hp⟩ : ∃ p, C[k]? = some p := ⟨_, List.getElem?_eq_getElem hlt⟩
            obtain ⟨g, cg, hv, hgb, hgs, _⟩ := owns_form HO9.out (by omega)
            injection hv with hv1 hv2 hv3
            subst hv1
            have e0 := hG.out.cell (owns_at HO9.out (j := k) (u := .string nm) (by rw [List.getElem?_map, hp]; rfl)) id
            have hgt := Hop.get_at HA.out.srt k _ hp
            obtain ⟨g1, g2, g3⟩ := HA.out.good _ (List.mem_of_getElem? hp)
            have HFI := Lib.hid (show cfind C nm = (t, 0) by unfold cfind; rw [show Hop.get C nm = some t from hgt])
            have HOK := Lib.hid (tab_ok g1 g3)
            have HER := Lib.hid (show errT t = 0 by rw [errT, if_pos g1])
            have hnm : t.name = nm := g2.symm
            have hb1 : (t.name.toList != nm.toList) = false := by rw [hnm]; simp
            have hb2 : (t.name.toList == nm.toList) = true := by rw [hnm]; simp
            have HA2 := Lib.hid (HA.out.later hG.out)
            have HB2 := Lib.hid (HB.out.later hG.out)
            have t1 : decide ((k : Int) < (C.length : Int)) = true := by simp; omega
            have t2 : decide (k < C.length) = true := by simp; omega
            have T1 : True := trivial
            clear hp hgt g1 g2 g3 hnm hv2 hv3
            go_wp2_with (first | (go_at_call 25; clear T1; go_loud (refine (cfind_any _ _ _ C nm _ HA2.out).mono ?_; rintro e wa ⟨va, rfl, hta, hfa⟩; rw [HFI.out] at hta ⊢; obtain ⟨A1, c1, A2, c2, hva, _⟩ := tab_form hta; subst hva; have HTa := Lib.hid (hta.later ((Fr.refl no wa).alloc (.cells #[.string t.name, .slice A1 t.cols.length c1, .int .i64 t.key, .slice A2 t.idx.length c2] 41))); have HFa := Lib.hid (Fr.alloc hfa (.cells #[.string t.name, .slice A1 t.cols.length c1, .int .i64 t.key, .slice A2 t.idx.length c2] 41)); have HBX := Lib.hid (heap_alloc_at wa (.cells #[.string t.name, .slice A1 t.cols.length c1, .int .i64 t.key, .slice A2 t.idx.length c2] 41)); clear hta hfa)) | (go_at_call 25; go_loud (refine (cfind_any _ _ _ C nm _ (HB2.out.later HFa.out)).mono ?_; rintro e wb ⟨vb, rfl, htb, hfb⟩; rw [HFI.out] at htb ⊢; obtain ⟨A3, c3, A4, c4, hvb, _⟩ := tab_form htb; subst hvb; obtain ⟨x0, x1, x2, x3, x4⟩ := cells4 (hfb.keep HBX.out id); have HTb := Lib.hid (htb.later ((Fr.refl no wb).alloc (.cells #[.string t.name, .slice A3 t.cols.length c3, .int .i64 t.key, .slice A4 t.idx.length c4] 41))); have HTa2 := Lib.hid ((HTa.out.later hfb).later ((Fr.refl no wb).alloc (.cells #[.string t.name, .slice A3 t.cols.length c3, .int .i64 t.key, .slice A4 t.idx.length c4] 41))); have HFb := Lib.hid ((HFa.out.trans hfb (fun _ _ z => z)).alloc (.cells #[.string t.name, .slice A3 t.cols.length c3, .int .i64 t.key, .slice A4 t.idx.length c4] 41)); clear htb hfb)) | (go_at_call 26; go_loud (refine (same_tab _ _ _ _ t _ HTa2.out HTb.out HOK.out).mono ?_; rintro e wc ⟨rfl, hfc⟩; have HTa3 := Lib.hid (HTa2.out.later hfc); have u0 := hfc.cell (Fr.cell ((Fr.refl no wb).alloc (.cells #[.string t.name, .slice A3 t.cols.length c3, .int .i64 t.key, .slice A4 t.idx.length c4] 41)) x0 id) id; have u1 := hfc.cell (Fr.cell ((Fr.refl no wb).alloc (.cells #[.string t.name, .slice A3 t.cols.length c3, .int .i64 t.key, .slice A4 t.idx.length c4] 41)) x1 id) id; have u2 := hfc.cell (Fr.cell ((Fr.refl no wb).alloc (.cells #[.string t.name, .slice A3 t.cols.length c3, .int .i64 t.key, .slice A4 t.idx.length c4] 41)) x2 id) id; have u3 := hfc.cell (Fr.cell ((Fr.refl no wb).alloc (.cells #[.string t.name, .slice A3 t.cols.length c3, .int .i64 t.key, .slice A4 t.idx.length c4] 41)) x3 id) id; have HFc := Lib.hid (HFb.out.trans hfc (fun _ _ z => z)); clear hfc)) | (go_at_call 27; go_loud (refine (check_any _ _ t _ HTa3.out HOK.out.fit).mono ?_; rintro e wd ⟨rfl, hfd⟩; rw [HER.out]; have z0 := hfd.cell u0 id; have HFd := Lib.hid (HFc.out.trans hfd (fun _ _ z => z)); clear hfd)) | fail)
            go_roundw
            case rel => exact ⟨k + 1, by go_num, by omega, Lib.hid (hG.out.trans HFd.out (fun _ _ z => z))⟩
            case measure => simp [intOf]; omega
          · have t1 : decide ((k : Int) < (C.length : Int)) = false := by simp; omega
            have t2 : decide (k < C.length) = false := by simp; omega
            go_wp2_with fail
            go_meet
            case rel => exact HW9.out.trans hG.out (fun _ _ z => z)
      · have hz1 : (fe == 0) = false := by simp [hfe]
        go_wp2_with fail
        go_meet
        case rel => exact HF4.out
    case rest =>
      have HFd := Lib.hid hcut
      clear hcut HI HF HI4 HF4 HEN
      rcases cdec_two b with hd | hd | ⟨d, hd⟩
      · have HCD := Lib.hid hd
        clear hd
        go_wp2_with (first | (go_at_call 22; go_loud (refine (cdec_any b _ (by omega)).mono ?_; intro e w5 hD; rw [HCD.out] at hD; obtain ⟨rfl, hf5⟩ := hD)) | fail)
        go_ret
        exact ⟨rfl, (HFd.out.trans hf5 (fun _ _ z => z)).alloc _⟩
      · have HCD := Lib.hid hd
        clear hd
        go_wp2_with (first | (go_at_call 22; go_loud (refine (cdec_any b _ (by omega)).mono ?_; intro e w5 hD; rw [HCD.out] at hD; obtain ⟨rfl, hf5⟩ := hD)) | fail)
        go_ret
        exact ⟨rfl, (HFd.out.trans hf5 (fun _ _ z => z)).alloc _⟩
      · have HCD := Lib.hid hd
        have HEN := Lib.hid (cdec_get (b := b) (d := d) (by rw [hd])).2.1
        have hbb : (b.toList == b.toList) = true := by simp
        clear hd
        go_wp2_with (first | (go_at_call 22; go_loud (refine (cdec_any b _ (by omega)).mono ?_; intro e w5 hD; rw [HCD.out] at hD; obtain ⟨m, hm, rfl, hI5, hf5⟩ := hD; have HI5 := Lib.hid hI5; have HF5 := Lib.hid (HFd.out.trans hf5 (fun _ _ z => z)); clear hI5 hf5)) | (go_at_call 19; go_loud (refine (cenc_any _ _ _ d _ (HI5.out.later ((Fr.refl no w5).alloc _))).mono ?_; rintro e w6 ⟨rfl, hf6⟩; rw [HEN.out])) | fail)
        go_ret
        exact ⟨by simp, (HF5.out.alloc _).trans hf6 (fun _ _ z => z)⟩
end Go.Proofs.Ythmjjbgjbcnjmaa
