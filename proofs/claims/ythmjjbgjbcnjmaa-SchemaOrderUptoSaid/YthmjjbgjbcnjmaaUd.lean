import Derived.Test.YthmjjbgjbcnjmaaUc
namespace Go.Proofs.Ythmjjbgjbcnjmaa
open Go.RowKit Go.Hop

theorem wm_old {w : World} {base p k : Nat} (hk : k < base) (hp : base ≤ p) : ¬ Wm w base p k := by
  rintro (q | ⟨q, _⟩) <;> omega
theorem WrAt.flag {w : World} {base p : Nat} {l : List UInt8} (h : WrAt w base p l) : WrAt (w.setCell ⟨p, 1, none⟩ (.bool false)) base p l ∧ Fr (Wm w base p) w (w.setCell ⟨p, 1, none⟩ (.bool false)) := by
  obtain ⟨v, hb, ho⟩ := h.ex
  refine ⟨⟨⟨v, ?_, ?_⟩, h.pb⟩, (Fr.refl _ w).setCell _ _ (fun _ => .inl rfl)⟩
  · have := heap_setCell_at hb 1 (.bool false)
    simpa using this
  · refine ((Fr.refl (fun k => k = p) w).setCell _ _ (fun _ => rfl)).owns ho (fun k hk q => ?_)
    subst q
    exact wm_row hb (owns_u8 ho) hk.symm
theorem flat_step {α : Type} (enc : α → List UInt8) (l : List α) (k : Nat) (x : α) (hx : l[k]? = some x) (pre : List UInt8) (hd : List UInt8) :
    (pre ++ (hd ++ (l.take k).flatMap enc)) ++ enc x = pre ++ (hd ++ (l.take (k + 1)).flatMap enc) ∧ ((pre ++ (hd ++ (l.take k).flatMap enc)) ++ enc x).length ≤ (pre ++ (hd ++ l.flatMap enc)).length := by
  have e : (pre ++ (hd ++ (l.take k).flatMap enc)) ++ enc x = pre ++ (hd ++ (l.take (k + 1)).flatMap enc) := by
    rw [List.take_add_one, hx]; simp
  refine ⟨e, ?_⟩
  rw [e]
  have : l.flatMap enc = (l.take (k + 1)).flatMap enc ++ (l.drop (k + 1)).flatMap enc := by rw [← List.flatMap_append, List.take_append_drop]
  rw [this]; simp only [List.length_append]; omega

set_option maxHeartbeats 1000000 in
set_option maxRecDepth 100000 in
theorem wflag_any (base p : Nat) (u : Bool) (l : List UInt8) (w : World) (h : WrAt w base p l) (hl : (l ++ [if u then 1 else 0]).length ≤ 65536) :
    Calls Try.prog 126 #[.pointer (some ⟨p, 0, none⟩), .bool u] w (WrPost w base p (l ++ [if u then 1 else 0])) := by
  obtain ⟨v, hb, ho⟩ := h.ex
  have hpb := h.pb
  have hN1 : l.length + 1 ≤ 65536 := by simpa using hl
  generalize hN : l.length = N at *
  obtain ⟨A, c, rfl⟩ := owns_slice ho
  have x0 : w.cell? ⟨p, 0, none⟩ = some (.slice A N c) := cells_at hb 0 _ rfl
  have x1 := free_at hb 0
  have hps := heap_lt hb
  have hbs : base ≤ w.heap.size := by omega
  have HB := Lib.hid hb
  have HO := Lib.hid ho
  have HU := Lib.hid (owns_u8 ho)
  have HN := Lib.hid hN
  clear h hb ho hN hl
  cases u
  · go_enter Try.func126, Try.ntmps126
    go_wp2_with (first | (at_builtin; go_loud (refine wp_append rfl (.tmp 10) (.tmp 12) 98 rfl El98 (.slice A N c) N _ rfl (HO.out.alloc _) _ 1 [.int .u8 0] rfl (rc_new1 _ _ _) (by unfold maxLen; omega) (by omega) (by simp; omega) ?_; intro v1 w1 ho1 hg1 hloc1; obtain ⟨A1, c1, hv1⟩ := owns_slice ho1; subst hv1; have y0 : w1.cell? ⟨p, 0, none⟩ = some (.slice A N c) := cells_at ((Fr.grown hg1).keep (((Fr.refl no w).alloc _).keep HB.out id) (fun q => wm_row HB.out HU.out q)) 0 _ rfl; have y1 : w1.frozen? ⟨p, 0, none⟩ = false := free_at ((Fr.grown hg1).keep (((Fr.refl no w).alloc _).keep HB.out id) (fun q => wm_row HB.out HU.out q)) 0; have HO1 := Lib.hid ho1; have HG1 := Lib.hid hg1; clear ho1 hg1 hloc1 x0 x1)) | fail)
    go_end0
    obtain ⟨q1, q2⟩ := WrAt.put (news := [0]) hpb HB.out (by rw [HN.out]; exact HO.out) ((Fr.refl no w).alloc _) HO1.out (by rw [List.map_append]; rfl) (by rw [List.length_append, HN.out]; rfl) HG1.out
    exact ⟨rfl, q1, q2⟩
  · go_enter Try.func126, Try.ntmps126
    go_wp2_with (first | (at_builtin; go_loud (refine wp_append rfl (.tmp 10) (.tmp 12) 98 rfl El98 (.slice A N c) N _ rfl (HO.out.alloc _) _ 1 [.int .u8 1] rfl (rc_new1 _ _ _) (by unfold maxLen; omega) (by omega) (by simp; omega) ?_; intro v1 w1 ho1 hg1 hloc1; obtain ⟨A1, c1, hv1⟩ := owns_slice ho1; subst hv1; have y0 : w1.cell? ⟨p, 0, none⟩ = some (.slice A N c) := cells_at ((Fr.grown hg1).keep (((Fr.refl no w).alloc _).keep HB.out id) (fun q => wm_row HB.out HU.out q)) 0 _ rfl; have y1 : w1.frozen? ⟨p, 0, none⟩ = false := free_at ((Fr.grown hg1).keep (((Fr.refl no w).alloc _).keep HB.out id) (fun q => wm_row HB.out HU.out q)) 0; have HO1 := Lib.hid ho1; have HG1 := Lib.hid hg1; clear ho1 hg1 hloc1 x0 x1)) | fail)
    go_end0
    obtain ⟨q1, q2⟩ := WrAt.put (news := [1]) hpb HB.out (by rw [HN.out]; exact HO.out) ((Fr.refl no w).alloc _) HO1.out (by rw [List.map_append]; rfl) (by rw [List.length_append, HN.out]; rfl) HG1.out
    exact ⟨rfl, q1, q2⟩

set_option maxHeartbeats 1000000 in
set_option maxRecDepth 100000 in
theorem wlist125_any (base p : Nat) (K : Nat → Prop) (v : Value) (xs : List Int) (l : List UInt8) (w : World) (h : WrAt w base p l) (hv : RcK w K 1 v xs.length (xs.map encI)) (hK : ∀ k, K k → k < base) (hx : ∀ x ∈ xs, 0 ≤ x ∧ x ≤ 9223372036854775807) (hn : xs.length ≤ 4096) (hl : (l ++ (leN 8 xs.length ++ xs.flatMap (fun n : Int => leN 8 n.toNat))).length ≤ 65536) :
    Calls Try.prog 125 #[.pointer (some ⟨p, 0, none⟩), v, .func (.func 124) #[.pointer (some ⟨p, 0, none⟩)] #[]] w (WrPost w base p (l ++ (leN 8 xs.length ++ xs.flatMap (fun n : Int => leN 8 n.toNat)))) := by
  obtain ⟨A, c, rfl, hc⟩ := hv.rc.form
  have H := Lib.hid h
  have HV := Lib.hid hv
  have HX := Lib.hid hx
  have HL := Lib.hid hl
  have hl8 : l.length + 8 ≤ 65536 := by simp [leN_length] at hl; omega
  have hpb := h.pb
  clear h hv hx hl
  have t0 : decide (4096 < (xs.length : Int)) = false := by simp; omega
  go_enter Try.func125, Try.ntmps125
  go_wp2_with (first | (go_at_call 109; go_loud (refine (wnum_any base p xs.length l _ H.out (by omega) (by omega)).mono ?_; rintro e w1 ⟨rfl, hW1, hF1⟩; obtain ⟨vv, hb, ho⟩ := hW1.ex; have x1 : w1.cell? ⟨p, 1, none⟩ = some (.bool false) := cells_at hb 1 _ rfl; have x2 := free_at hb 1; have HW1 := Lib.hid hW1; have HF1 := Lib.hid hF1; clear hF1 hb ho hW1)) | fail)
  have hq := HW1.out.flag
  have HQ := Lib.hid (And.intro hq.1 (wm_trans HF1.out hq.2))
  clear hq x1 x2 HW1 HF1
  generalize w1.setCell ⟨p, 1, none⟩ (.bool false) = w2 at *
  go_loopw [26] (fun i wr => ∃ k : Nat, k ≤ xs.length ∧ i = .int .i64 k ∧ Hid (WrAt wr base p (l ++ (leN 8 xs.length ++ (xs.take k).flatMap (fun n : Int => leN 8 n.toNat)))) ∧ Hid (Fr (Wm w base p) w wr)) (fun i _ => xs.length - (intOf i).toNat)
  case atStart => exact ⟨0, Nat.zero_le _, rfl, Lib.hid (by simpa using HQ.out.1), Lib.hid HQ.out.2⟩
  case round =>
    clear HQ H
    obtain ⟨k, hk, rfl, hW, hF⟩ := hrel
    by_cases hlt : k < xs.length
    · obtain ⟨x, hxk⟩ : ∃ x, xs[k]? = some x := ⟨_, List.getElem?_eq_getElem hlt⟩
      have q1 : (xs.map encI)[k]? = some (.int .i64 x) := by rw [List.getElem?_map, hxk]; rfl
      obtain ⟨b, off, rfl, e0⟩ := (HV.out.keep hF.out (fun k _ q => wm_old (hK k q) hpb)).rc.at_ q1
      clear q1
      obtain ⟨m, rfl⟩ : ∃ m : Nat, x = m := ⟨x.toNat, by have := HX.out x (List.mem_of_getElem? hxk); omega⟩
      have hl5 : (l ++ (leN 8 xs.length ++ (xs.take k).flatMap (fun n : Int => leN 8 n.toNat))).length + 8 ≤ 1048576 := by have h1 := (flat_step (fun n : Int => leN 8 n.toNat) xs k _ hxk l (leN 8 xs.length)).2; have h2 := HL.out; rw [List.length_append, leN_length] at h1; omega
      have HFS := Lib.hid (flat_step (fun n : Int => leN 8 n.toNat) xs k ((m : Nat) : Int) hxk l (leN 8 xs.length))
      have HG := Lib.hid (HX.out ((m : Nat) : Int) (List.mem_of_getElem? hxk))
      have t1 : decide ((k : Int) < (xs.length : Int)) = true := by simp; omega
      have t2 : decide (k < xs.length) = true := by simp; omega
      have t3 : decide ((xs.length : Int) ≤ 4096) = true := by simp; omega
      have t4 : decide (xs.length ≤ 4096) = true := by simp; omega
      clear hxk
      go_wp2_with (first | (go_at_call 124; go_loud (refine (wplace_any base p m _ _ hW.out (by have := HG.out; omega) hl5).mono ?_; rintro e w3 ⟨rfl, hW3, hF3⟩; have HW3 := Lib.hid hW3; have HF3 := Lib.hid hF3; clear hW3 hF3)) | fail)
      go_roundw
      case rel => exact ⟨k + 1, by omega, by go_num, Lib.hid (by rw [← HFS.out.1]; exact HW3.out), Lib.hid (wm_trans hF.out HF3.out)⟩
      case measure => simp [intOf]; omega
    · have t1 : decide ((k : Int) < (xs.length : Int)) = false := by simp; omega
      have t2 : decide (k < xs.length) = false := by simp; omega
      have HT := Lib.hid (show xs.take k = xs from List.take_of_length_le (by omega))
      go_wp2_with fail
      go_end0
      have hW' := hW.out
      rw [HT.out] at hW'
      exact ⟨rfl, hW', hF.out⟩

set_option maxHeartbeats 1000000 in
set_option maxRecDepth 100000 in
theorem wlist108_any (base p : Nat) (K : Nat → Prop) (v : Value) (xs : List Col) (l : List UInt8) (w : World) (h : WrAt w base p l) (hv : RcK w K 2 v xs.length (ccells xs)) (hK : ∀ k, K k → k < base) (hx : ∀ x ∈ xs, 0 ≤ x.2 ∧ x.2 ≤ 9223372036854775807) (hn : xs.length ≤ 4096) (hl : (l ++ (leN 8 xs.length ++ xs.flatMap colB)).length ≤ 65536) :
    Calls Try.prog 108 #[.pointer (some ⟨p, 0, none⟩), v, .func (.func 105) #[.pointer (some ⟨p, 0, none⟩)] #[]] w (WrPost w base p (l ++ (leN 8 xs.length ++ xs.flatMap colB))) := by
  obtain ⟨A, c, rfl, hc⟩ := hv.rc.form
  have H := Lib.hid h
  have HV := Lib.hid hv
  have HX := Lib.hid hx
  have HL := Lib.hid hl
  have hl8 : l.length + 8 ≤ 65536 := by simp [leN_length] at hl; omega
  have hpb := h.pb
  clear h hv hx hl
  have t0 : decide (4096 < (xs.length : Int)) = false := by simp; omega
  go_enter Try.func108, Try.ntmps108
  go_wp2_with (first | (go_at_call 109; go_loud (refine (wnum_any base p xs.length l _ H.out (by omega) (by omega)).mono ?_; rintro e w1 ⟨rfl, hW1, hF1⟩; obtain ⟨vv, hb, ho⟩ := hW1.ex; have x1 : w1.cell? ⟨p, 1, none⟩ = some (.bool false) := cells_at hb 1 _ rfl; have x2 := free_at hb 1; have HW1 := Lib.hid hW1; have HF1 := Lib.hid hF1; clear hF1 hb ho hW1)) | fail)
  have hq := HW1.out.flag
  have HQ := Lib.hid (And.intro hq.1 (wm_trans HF1.out hq.2))
  clear hq x1 x2 HW1 HF1
  generalize w1.setCell ⟨p, 1, none⟩ (.bool false) = w2 at *
  go_loopw [26] (fun i wr => ∃ k : Nat, k ≤ xs.length ∧ i = .int .i64 k ∧ Hid (WrAt wr base p (l ++ (leN 8 xs.length ++ (xs.take k).flatMap colB))) ∧ Hid (Fr (Wm w base p) w wr)) (fun i _ => xs.length - (intOf i).toNat)
  case atStart => exact ⟨0, Nat.zero_le _, rfl, Lib.hid (by simpa using HQ.out.1), Lib.hid HQ.out.2⟩
  case round =>
    clear HQ H
    obtain ⟨k, hk, rfl, hW, hF⟩ := hrel
    by_cases hlt : k < xs.length
    · obtain ⟨x, hxk⟩ : ∃ x, xs[k]? = some x := ⟨_, List.getElem?_eq_getElem hlt⟩
      obtain ⟨q1, q2⟩ := ccells_at xs k x hxk
      have hrk := (HV.out.keep hF.out (fun k _ q => wm_old (hK k q) hpb)).rc
      obtain ⟨b, off, rfl, e0⟩ := hrk.at_ q1
      obtain ⟨b', off', hb', e1⟩ := hrk.at_ q2
      obtain ⟨rfl, rfl⟩ : b = b' ∧ off = off' := by injection hb' with hb'; injection hb' with z1 z2; exact ⟨z1, z2⟩
      rw [← Nat.add_assoc] at e1
      clear hb' q1 q2 hrk
      have HL5 := Lib.hid (Nat.le_trans (flat_step colB xs k x hxk l (leN 8 xs.length)).2 HL.out)
      have HFS := Lib.hid (flat_step colB xs k x hxk l (leN 8 xs.length))
      have HG := Lib.hid (HX.out x (List.mem_of_getElem? hxk))
      have t1 : decide ((k : Int) < (xs.length : Int)) = true := by simp; omega
      have t2 : decide (k < xs.length) = true := by simp; omega
      have t3 : decide ((xs.length : Int) ≤ 4096) = true := by simp; omega
      have t4 : decide (xs.length ≤ 4096) = true := by simp; omega
      clear hxk
      go_wp2_with (first | (go_at_call 105; go_loud (refine (wcol_any base p x _ _ (hW.out.later ((Fr.refl no wr).alloc _)) HG.out HL5.out).mono ?_; rintro e w3 ⟨rfl, hW3, hF3⟩; have HW3 := Lib.hid hW3; have HF3 := Lib.hid hF3; clear hW3 hF3)) | fail)
      go_roundw
      case rel => exact ⟨k + 1, by omega, by go_num, Lib.hid (by rw [← HFS.out.1]; exact HW3.out), Lib.hid (wm_trans hF.out (wm_trans (wm_no ((Fr.refl no wr).alloc _)) HF3.out))⟩
      case measure => simp [intOf]; omega
    · have t1 : decide ((k : Int) < (xs.length : Int)) = false := by simp; omega
      have t2 : decide (k < xs.length) = false := by simp; omega
      have HT := Lib.hid (show xs.take k = xs from List.take_of_length_le (by omega))
      go_wp2_with fail
      go_end0
      have hW' := hW.out
      rw [HT.out] at hW'
      exact ⟨rfl, hW', hF.out⟩

def IxGood (x : Ix) : Prop := x.cols.length ≤ 4096 ∧ ∀ n ∈ x.cols, 0 ≤ n ∧ n ≤ 9223372036854775807
set_option maxHeartbeats 1000000 in
set_option maxRecDepth 100000 in
theorem wix_any (base p : Nat) (K : Nat → Prop) (v : Value) (x : Ix) (l : List UInt8) (w : World) (h : WrAt w base p l) (hv : RcK w K 1 v x.cols.length (x.cols.map encI)) (hK : ∀ k, K k → k < base) (hx : IxGood x) (hl : (l ++ ixB x).length ≤ 65536) :
    Calls Try.prog 106 #[.pointer (some ⟨p, 0, none⟩), .agg #[.string x.name, v, .bool x.uniq]] w (WrPost w base p (l ++ ixB x)) := by
  have H := Lib.hid h
  have HX := Lib.hid hx
  have HV := Lib.hid hv
  have hlt := h.lt
  have hpb := h.pb
  have e1 : l ++ ixB x = ((l ++ textB x.name) ++ (leN 8 x.cols.length ++ x.cols.flatMap (fun n : Int => leN 8 n.toNat))) ++ [if x.uniq then 1 else 0] := by simp [ixB, numsB]
  have HE := Lib.hid e1
  have HL3 := Lib.hid (show (((l ++ textB x.name) ++ (leN 8 x.cols.length ++ x.cols.flatMap (fun n : Int => leN 8 n.toNat))) ++ [if x.uniq then 1 else 0]).length ≤ 65536 by rw [← e1]; exact hl)
  have HL2 := Lib.hid (show ((l ++ textB x.name) ++ (leN 8 x.cols.length ++ x.cols.flatMap (fun n : Int => leN 8 n.toNat))).length ≤ 65536 by have := HL3.out; rw [List.length_append] at this; omega)
  have HL1 := Lib.hid (show (l ++ textB x.name).length ≤ 65536 by have := HL2.out; rw [List.length_append] at this; omega)
  obtain ⟨A, c, rfl, hc⟩ := hv.rc.form
  clear h hx hl e1 hv
  go_enter Try.func106, Try.ntmps106
  have hf0 := Fr.alloc (Fr.refl no w) (.cells #[.string x.name, .slice A x.cols.length c, .bool x.uniq] 91)
  have HF0 := Lib.hid hf0
  clear hf0
  go_wp2_with (first | (go_at_call 107; go_loud (refine (wtext_any base p x.name l _ (H.out.later HF0.out) HL1.out).mono ?_; rintro e w1 ⟨rfl, hW1, hF1⟩; have hb := hF1.keep (heap_alloc_at w _) (Wm.other (heap_alloc_at w _) (by decide) (by omega)); have y1 : w1.cell? ⟨w.heap.size, 1, none⟩ = some (.slice A x.cols.length c) := cells_at hb 1 _ rfl; have HB := Lib.hid hb; have HW1 := Lib.hid hW1; have HF1 := Lib.hid hF1; clear hW1 hF1 hb)) | (go_at_call 125; go_loud (refine (wlist125_any base p K _ x.cols _ _ HW1.out ((HV.out.keep HF0.out (fun _ _ _ z => z)).keep HF1.out (fun k _ q => wm_old (hK k q) hpb)) hK HX.out.2 HX.out.1 HL2.out).mono ?_; rintro e w2 ⟨rfl, hW2, hF2⟩; have hb := hF2.keep HB.out (Wm.other HB.out (by decide) (by omega)); have y2 : w2.cell? ⟨w.heap.size, 2, none⟩ = some (.bool x.uniq) := cells_at hb 2 _ rfl; have HW2 := Lib.hid hW2; have HF2 := Lib.hid hF2; clear hW2 hF2 hb)) | (go_at_call 126; go_loud (refine (wflag_any base p x.uniq _ _ HW2.out HL3.out).mono ?_; rintro e w3 ⟨rfl, hW3, hF3⟩)) | fail)
  go_end0
  exact ⟨rfl, by rw [HE.out]; exact hW3, wm_trans (wm_trans (wm_trans (wm_no HF0.out) HF1.out) HF2.out) hF3⟩

set_option maxHeartbeats 1000000 in
set_option maxRecDepth 100000 in
theorem wlist110_any (base p : Nat) (K : Nat → Prop) (v : Value) (xs : List Ix) (svs : List Value) (l : List UInt8) (w : World) (h : WrAt w base p l) (hv : IdxAt w K v xs svs) (hK : ∀ k, K k → k < base) (hx : ∀ x ∈ xs, IxGood x) (hn : xs.length ≤ 4096) (hl : (l ++ (leN 8 xs.length ++ xs.flatMap ixB)).length ≤ 65536) :
    Calls Try.prog 110 #[.pointer (some ⟨p, 0, none⟩), v, .func (.func 106) #[.pointer (some ⟨p, 0, none⟩)] #[]] w (WrPost w base p (l ++ (leN 8 xs.length ++ xs.flatMap ixB))) := by
  obtain ⟨A, c, rfl, hc⟩ := hv.row.rc.form
  have H := Lib.hid h
  have HV := Lib.hid hv
  have HX := Lib.hid hx
  have HL := Lib.hid hl
  have hl8 : l.length + 8 ≤ 65536 := by simp [leN_length] at hl; omega
  have hpb := h.pb
  clear h hv hx hl
  have t0 : decide (4096 < (xs.length : Int)) = false := by simp; omega
  go_enter Try.func110, Try.ntmps110
  go_wp2_with (first | (go_at_call 109; go_loud (refine (wnum_any base p xs.length l _ H.out (by omega) (by omega)).mono ?_; rintro e w1 ⟨rfl, hW1, hF1⟩; obtain ⟨vv, hb, ho⟩ := hW1.ex; have x1 : w1.cell? ⟨p, 1, none⟩ = some (.bool false) := cells_at hb 1 _ rfl; have x2 := free_at hb 1; have HW1 := Lib.hid hW1; have HF1 := Lib.hid hF1; clear hF1 hb ho hW1)) | fail)
  have hq := HW1.out.flag
  have HQ := Lib.hid (And.intro hq.1 (wm_trans HF1.out hq.2))
  clear hq x1 x2 HW1 HF1
  generalize w1.setCell ⟨p, 1, none⟩ (.bool false) = w2 at *
  go_loopw [26] (fun i wr => ∃ k : Nat, k ≤ xs.length ∧ i = .int .i64 k ∧ Hid (WrAt wr base p (l ++ (leN 8 xs.length ++ (xs.take k).flatMap ixB))) ∧ Hid (Fr (Wm w base p) w wr)) (fun i _ => xs.length - (intOf i).toNat)
  case atStart => exact ⟨0, Nat.zero_le _, rfl, Lib.hid (by simpa using HQ.out.1), Lib.hid HQ.out.2⟩
  case round =>
    clear HQ H
    obtain ⟨k, hk, rfl, hW, hF⟩ := hrel
    by_cases hlt : k < xs.length
    · obtain ⟨x, hxk⟩ : ∃ x, xs[k]? = some x := ⟨_, List.getElem?_eq_getElem hlt⟩
      obtain ⟨u, hu⟩ : ∃ u, svs[k]? = some u := ⟨_, List.getElem?_eq_getElem (by rw [HV.out.len]; omega)⟩
      obtain ⟨q1, q2, q3⟩ := icells_at xs svs k x u hxk hu
      have hvk := HV.out.keep hF.out (fun k _ q => wm_old (hK k q) hpb)
      obtain ⟨b, off, rfl, e0⟩ := hvk.row.rc.at_ q1
      obtain ⟨b', off', hb', e1⟩ := hvk.row.rc.at_ q2
      obtain ⟨rfl, rfl⟩ : b = b' ∧ off = off' := by injection hb' with hb'; injection hb' with z1 z2; exact ⟨z1, z2⟩
      obtain ⟨b', off', hb', e2⟩ := hvk.row.rc.at_ q3
      obtain ⟨rfl, rfl⟩ : b = b' ∧ off = off' := by injection hb' with hb'; injection hb' with z1 z2; exact ⟨z1, z2⟩
      rw [← Nat.add_assoc] at e1 e2
      have hu2 := hvk.each k x u hxk hu
      obtain ⟨A', c', rfl, _⟩ := hu2.rc.form
      have HU2 := Lib.hid hu2
      clear hb' q1 q2 q3 hvk hu hu2
      have HL5 := Lib.hid (Nat.le_trans (flat_step ixB xs k x hxk l (leN 8 xs.length)).2 HL.out)
      have HFS := Lib.hid (flat_step ixB xs k x hxk l (leN 8 xs.length))
      have HG := Lib.hid (HX.out x (List.mem_of_getElem? hxk))
      have t1 : decide ((k : Int) < (xs.length : Int)) = true := by simp; omega
      have t2 : decide (k < xs.length) = true := by simp; omega
      have t3 : decide ((xs.length : Int) ≤ 4096) = true := by simp; omega
      have t4 : decide (xs.length ≤ 4096) = true := by simp; omega
      clear hxk
      go_wp2_with (first | (go_at_call 106; go_loud (refine (wix_any base p K _ x _ _ (hW.out.later ((Fr.refl no wr).alloc _)) (HU2.out.keep ((Fr.refl no wr).alloc _) (fun _ _ _ z => z)) hK HG.out HL5.out).mono ?_; rintro e w3 ⟨rfl, hW3, hF3⟩; have HW3 := Lib.hid hW3; have HF3 := Lib.hid hF3; clear hW3 hF3)) | fail)
      go_roundw
      case rel => exact ⟨k + 1, by omega, by go_num, Lib.hid (by rw [← HFS.out.1]; exact HW3.out), Lib.hid (wm_trans hF.out (wm_trans (wm_no ((Fr.refl no wr).alloc _)) HF3.out))⟩
      case measure => simp [intOf]; omega
    · have t1 : decide ((k : Int) < (xs.length : Int)) = false := by simp; omega
      have t2 : decide (k < xs.length) = false := by simp; omega
      have HT := Lib.hid (show xs.take k = xs from List.take_of_length_le (by omega))
      go_wp2_with fail
      go_end0
      have hW' := hW.out
      rw [HT.out] at hW'
      exact ⟨rfl, hW', hF.out⟩

def TabGood (t : Tab) : Prop := t.cols.length ≤ 4096 ∧ (∀ x ∈ t.cols, 0 ≤ x.2 ∧ x.2 ≤ 9223372036854775807) ∧ (0 ≤ t.key ∧ t.key ≤ 9223372036854775807) ∧ t.idx.length ≤ 4096 ∧ ∀ x ∈ t.idx, IxGood x
set_option maxHeartbeats 1000000 in
set_option maxRecDepth 100000 in
theorem wtab_any (base p : Nat) (K : Nat → Prop) (v : Value) (t : Tab) (l : List UInt8) (w : World) (h : WrAt w base p l) (hv : TabAt w K v t) (hK : ∀ k, K k → k < base) (hx : TabGood t) (hl : (l ++ tabB t).length ≤ 65536) :
    Calls Try.prog 87 #[.pointer (some ⟨p, 0, none⟩), v] w (WrPost w base p (l ++ tabB t)) := by
  have H := Lib.hid h
  have HX := Lib.hid hx
  have HV := Lib.hid hv
  have hlt := h.lt
  have hpb := h.pb
  obtain ⟨kn, hkn⟩ : ∃ n : Nat, t.key = n := ⟨t.key.toNat, by have := hx.2.2.1.1; omega⟩
  have hkb : kn < 9223372036854775808 := by have := hx.2.2.1.2; omega
  have e1 : l ++ tabB t = (((l ++ textB t.name) ++ (leN 8 t.cols.length ++ t.cols.flatMap colB)) ++ leN 8 kn) ++ (leN 8 t.idx.length ++ t.idx.flatMap ixB) := by simp [tabB, hkn]
  have HE := Lib.hid e1
  have HL4 := Lib.hid (show ((((l ++ textB t.name) ++ (leN 8 t.cols.length ++ t.cols.flatMap colB)) ++ leN 8 kn) ++ (leN 8 t.idx.length ++ t.idx.flatMap ixB)).length ≤ 65536 by rw [← e1]; exact hl)
  have HL3 := Lib.hid (show ((l ++ textB t.name) ++ (leN 8 t.cols.length ++ t.cols.flatMap colB)).length + 8 ≤ 65536 by have := HL4.out; simp only [List.length_append, leN_length] at this ⊢; omega)
  have HL2 := Lib.hid (show ((l ++ textB t.name) ++ (leN 8 t.cols.length ++ t.cols.flatMap colB)).length ≤ 65536 by have := HL3.out; omega)
  have HL1 := Lib.hid (show (l ++ textB t.name).length ≤ 65536 by have := HL2.out; rw [List.length_append] at this; omega)
  obtain ⟨vc, vi, svs, rfl, hc, hi⟩ := hv.ex
  obtain ⟨Ac, cc, rfl, hcc⟩ := hc.rc.form
  obtain ⟨Ai, ci, rfl, hci⟩ := hi.row.rc.form
  have HC := Lib.hid hc
  have HI := Lib.hid hi
  rw [hkn]
  clear h hx hl e1 hv hc hi hkn HV
  go_enter Try.func87, Try.ntmps87
  have hf0 := Fr.alloc (Fr.refl no w) (.cells #[.string t.name, .slice Ac t.cols.length cc, .int .i64 kn, .slice Ai t.idx.length ci] 41)
  have HF0 := Lib.hid hf0
  clear hf0
  go_wp2_with (first | (go_at_call 107; go_loud (refine (wtext_any base p t.name l _ (H.out.later HF0.out) HL1.out).mono ?_; rintro e w1 ⟨rfl, hW1, hF1⟩; have hb := hF1.keep (heap_alloc_at w _) (Wm.other (heap_alloc_at w _) (by decide) (by omega)); have y1 : w1.cell? ⟨w.heap.size, 1, none⟩ = some (.slice Ac t.cols.length cc) := cells_at hb 1 _ rfl; have HB := Lib.hid hb; have HW1 := Lib.hid hW1; have HF1 := Lib.hid hF1; clear hW1 hF1 hb)) | (go_at_call 108; go_loud (refine (wlist108_any base p K _ t.cols _ _ HW1.out ((HC.out.keep HF0.out (fun _ _ _ z => z)).keep HF1.out (fun k _ q => wm_old (hK k q) hpb)) hK HX.out.2.1 HX.out.1 HL2.out).mono ?_; rintro e w2 ⟨rfl, hW2, hF2⟩; have hb := hF2.keep HB.out (Wm.other HB.out (by decide) (by omega)); have y2 : w2.cell? ⟨w.heap.size, 2, none⟩ = some (.int .i64 kn) := cells_at hb 2 _ rfl; have HB2 := Lib.hid hb; have HW2 := Lib.hid hW2; have HF2 := Lib.hid hF2; clear hW2 hF2 hb)) | (go_at_call 109; go_loud (refine (wnum_any base p kn _ _ HW2.out hkb (by have := HL3.out; omega)).mono ?_; rintro e w3 ⟨rfl, hW3, hF3⟩; have hb := hF3.keep HB2.out (Wm.other HB2.out (by decide) (by omega)); have y3 : w3.cell? ⟨w.heap.size, 3, none⟩ = some (.slice Ai t.idx.length ci) := cells_at hb 3 _ rfl; have HW3 := Lib.hid hW3; have HF3 := Lib.hid hF3; clear hW3 hF3 hb)) | (go_at_call 110; go_loud (refine (wlist110_any base p K _ t.idx svs _ _ HW3.out ((((HI.out.keep HF0.out (fun _ _ _ z => z)).keep HF1.out (fun k _ q => wm_old (hK k q) hpb)).keep HF2.out (fun k _ q => wm_old (hK k q) hpb)).keep HF3.out (fun k _ q => wm_old (hK k q) hpb)) hK HX.out.2.2.2.2 HX.out.2.2.2.1 HL4.out).mono ?_; rintro e w4 ⟨rfl, hW4, hF4⟩)) | fail)
  go_end0
  exact ⟨rfl, by rw [HE.out]; exact hW4, wm_trans (wm_trans (wm_trans (wm_trans (wm_no HF0.out) HF1.out) HF2.out) HF3.out) hF4⟩
end Go.Proofs.Ythmjjbgjbcnjmaa
