import Derived.Test.YthmjjbgjbcnjmaaRk
import Derived.Test.YthmjjbgjbcnjmaaDi
namespace Go.Proofs.Ythmjjbgjbcnjmaa
open Go.RowKit Go.Hop

structure CRr (w : World) (b : Nat) (v : Value) (s : DSt) (ds : List Int) (k n : Nat) (wr : World) : Prop where
  le : k ≤ s.files.length
  nk : n ≤ k
  dsk : IsR wr b v ⟨(tearN k s.files ds).1, none, false⟩
  dr : (tearN k s.files ds).2 = ds.drop n
  fr : Fr (fun x => x = b ∨ some x = v.ownBlock) w wr

theorem CRr.step {w : World} {b : Nat} {v : Value} {s : DSt} {ds : List Int} {k n n' : Nat} {wr wr' : World} {p : ByteArray × File} (h : CRr w b v s ds k n wr) (hp : s.files[k]? = some p)
    (hd : IsR wr' b v ⟨(tearN k s.files ds).1.set k (p.1, (tstep p.2 (ds.drop n)).1), none, false⟩) (hfr : Fr (fun x => x = b ∨ some x = v.ownBlock) wr wr') (hn : (tstep p.2 (ds.drop n)).2 = ds.drop n') (hnk : n' ≤ k + 1) : CRr w b v s ds (k + 1) n' wr' := by
  have e := tearN_succ k s.files ds p hp
  rw [h.dr] at e
  have hk : k < s.files.length := (List.getElem?_eq_some_iff.1 hp).1
  exact ⟨hk, hnk, by rw [e]; exact hd, by rw [e]; exact hn, h.fr.trans hfr (fun _ _ q => q)⟩

theorem CRr.wrote {w : World} {b g cv : Nat} {s : DSt} {ds : List Int} {k n : Nat} {wr wr' : World} {name F1 : ByteArray} {f : File} {F2 : Int} (h : CRr w b (.slice (some ⟨g, 0, none⟩) s.files.length cv) s ds k n wr) (hp : s.files[k]? = some (name, f)) (hst : tstep f (ds.drop n) = ((F1, F2), ds.drop (n + 1)))
    (hfr : Fr no (((wr.setCell ⟨g, k * 3, none⟩ (.string name)).setCell ⟨g, k * 3 + 1, none⟩ (.string F1)).setCell ⟨g, k * 3 + 2, none⟩ (.int .i64 F2)) wr') : CRr w b (.slice (some ⟨g, 0, none⟩) s.files.length cv) s ds (k + 1) (n + 1) wr' := by
  have hF := tearN_get k s.files ds _ hp
  have hkk : k < (tearN k s.files ds).1.length := (List.getElem?_eq_some_iff.1 hF).1
  have hfit := h.dsk.ok.fit _ (List.mem_of_getElem? hF)
  have hsp := sput_at h.dsk.ok.srt k _ (F1, F2) hF
  have hfit' := tstep_fit f (ds.drop n) hfit
  rw [hst] at hfit'
  have hok := ok_put (s := ⟨(tearN k s.files ds).1, none, false⟩) h.dsk.ok name (F1, F2) hfit' (by rw [hsp]; simpa using h.dsk.ok.few) ⟨(tearN k s.files ds).1.set k (name, (F1, F2)), none, false⟩ (by rw [hsp]) h.dsk.ok.short (h.dsk.ok.nam _ (List.mem_of_getElem? hF))
  have h3 := h.dsk.set3 k (name, (F1, F2)) hkk hok
  refine h.step hp (by rw [hst]; exact h3.later hfr) ?_ (by rw [hst]) (by have := h.nk; omega)
  exact ((((Fr.refl _ wr).setCell _ _ (fun _ => .inr rfl)).setCell _ _ (fun _ => .inr rfl)).setCell _ _ (fun _ => .inr rfl)).trans hfr (fun _ _ q => q.elim)

set_option maxHeartbeats 2000000 in
set_option maxRecDepth 100000 in
theorem rcrash_any (b : Nat) (v : Value) (s : DSt) (dv : Value) (ds : List Int) (w : World) (h : IsR w b v s) (hd : Rd encI w dv ds) (hda : ds ≠ [] → ∀ k, dv.ownBlock = some k → k < w.heap.size ∧ k ≠ b ∧ v.ownBlock ≠ some k) (hdl : ds.length ≤ 140737488351232)
    (hdw : ∀ d ∈ ds, -9223372036854775808 ≤ d ∧ d ≤ 9223372036854775807) :
    Calls Try.prog 50 #[.pointer (some ⟨b, 0, none⟩), dv] w (RDone w b v (.int .i64 (dcrash s ds).1) (dcrash s ds).2) := by
  obtain ⟨A, c, hdv, hcl⟩ := hd.len
  obtain ⟨Av, cv, rfl, hcv⟩ := h.form
  have hf1 := free_at h.blk 1
  have hf2 := free_at h.blk 2
  have hc1 := cells_at h.blk 1 _ rfl
  have hc2 := cells_at h.blk 2 _ rfl
  subst hdv
  have HD := Lib.hid hd
  have HI := Lib.hid h
  have Hda := Lib.hid hda
  have Hdw := Lib.hid hdw
  have hlb := h.lt.1
  have hfew := h.ok.few
  clear hd h hda hdw
  by_cases h1 : 4096 < ds.length
  · have HR := Lib.hid (show dcrash s ds = (2, s) by simp [dcrash, h1])
    go_enter Try.func50, Try.ntmps50
    go_wp2
    go_ret
    rw [HR.out]
    exact RDone.same HI.out (Fr.refl _ _)
  · have HR := Lib.hid (show dcrash s ds = (0, ⟨tear s.files ds, none, false⟩) by simp [dcrash, h1])
    go_enter Try.func50, Try.ntmps50
    go_wp2_with fail
    have hfr1 : Fr (fun x => x = b) w ((w.setCell ⟨b, 2, none⟩ (.bool false)).setCell ⟨b, 1, none⟩ (.int .i64 (-1))) := ((Fr.refl (fun x => x = b) w).setCell ⟨b, 2, none⟩ _ (fun _ => rfl)).setCell ⟨b, 1, none⟩ _ (fun _ => rfl)
    have hI1 : IsR ((w.setCell ⟨b, 2, none⟩ (.bool false)).setCell ⟨b, 1, none⟩ (.int .i64 (-1))) b (.slice Av s.files.length cv) ⟨s.files, none, false⟩ := by
      obtain ⟨hb, hown, hne, hok⟩ := HI.out
      have h1 := heap_setCell_at (heap_setCell_at hb 2 (.bool false)) 1 (.int .i64 (-1))
      exact ⟨by simpa [rblk, leftR] using h1, hfr1.owns hown (fun k hk q => hne (by rw [hk, q])), hne, ⟨hok.srt, hok.few, hok.fit, hok.nam, by simp⟩⟩
    have HC0 := Lib.hid (show CRr w b (.slice Av s.files.length cv) s ds 0 0 _ from ⟨Nat.zero_le _, Nat.le_refl _, hI1, rfl, hfr1.mono (fun _ _ q => .inl q)⟩)
    clear hI1 hfr1
    go_loopw [5, 6] (fun u5 u6 wr => ∃ k n : Nat, u6 = .int .i64 k ∧ u5 = .int .i64 n ∧ Hid (CRr w b (.slice Av s.files.length cv) s ds k n wr)) (fun _ i _ => s.files.length - (intOf i).toNat)
    case atStart => exact ⟨0, 0, rfl, rfl, HC0⟩
    case round =>
      clear HC0
      obtain ⟨k, n, rfl, rfl, HC⟩ := hrel
      have hkl := HC.out.le
      have hnk := HC.out.nk
      have c0 : wr.cell? ⟨b, 0, none⟩ = some (.slice Av s.files.length cv) := cells_at HC.out.dsk.blk 0 _ rfl
      have hlw : b < wr.heap.size := HC.out.dsk.lt.1
      clear hc1 hc2 hf1 hf2
      by_cases hk : k < s.files.length
      · obtain ⟨p, hp⟩ : ∃ p, s.files[k]? = some p := ⟨_, List.getElem?_eq_getElem hk⟩
        have hF := tearN_get k s.files ds p hp
        have hfit := HC.out.dsk.ok.fit p (List.mem_of_getElem? hF)
        obtain ⟨g, rfl, e0, e1, e2, e3, e4, e5⟩ := HC.out.dsk.at_ k p hF
        obtain ⟨name, f1, f2⟩ := p
        simp only at hfit e0 e1 e2
        have f0' := e3 (k * 3)
        have f1' := e3 (k * 3 + 1)
        have f2' := e3 (k * 3 + 2)
        have hfit1 := hfit.1
        have hfit2 := hfit.2.1
        have hfit3 := hfit.2.2
        have Hp := Lib.hid hp
        have HF := Lib.hid hF
        have Hfit := Lib.hid hfit
        have hgb : g ≠ wr.heap.size := by omega
        have t1 : decide ((k : Int) < (s.files.length : Int)) = true := by simp; omega
        have t2 : decide (k < s.files.length) = true := by simp; omega
        clear e3 hF hfit hp
        by_cases hz : (f2 : Int) = f1.size
        · have hz' : (f2 == (f1.size : Int)) = true := by rw [beq_iff_eq]; exact hz
          have HZ := Lib.hid hz
          clear hz
          go_wp2_with fail
          go_roundw
          case rel =>
            have hst : tstep (f1, f2) (ds.drop n) = ((f1, f2), ds.drop n) := by simp only [tstep]; rw [if_pos (by have := HZ.out; omega)]
            have hfr : Fr no wr (wr.alloc (.cells #[.string name, .string f1, .int .i64 f2] 86)) := (Fr.refl _ _).alloc _
            refine ⟨k + 1, n, by go_num, rfl, Lib.hid (HC.out.step Hp.out ?_ (hfr.mono (fun _ _ q => q.elim)) ?_ (by omega))⟩
            · simp only [hst]
              rw [List.set_getElem_self' HF.out]
              exact HC.out.dsk.later hfr
            · rw [hst]
          case measure => simp [intOf]; omega
        · have hz' : (f2 == (f1.size : Int)) = false := by rw [beq_eq_false_iff_ne]; exact hz
          have HZ := Lib.hid hz
          have hgt : f2 < f1.size := by omega
          have hw0 : IntKind.i64.wrap ((f1.size : Int) - f2) = (f1.size : Int) - f2 := IntWalk.i64_in _ (by omega)
          have hw1 : IntKind.i64.wrap ((f1.size : Int) - f2 + 1) = (f1.size : Int) - f2 + 1 := IntWalk.i64_in _ (by omega)
          have hw2 : ¬ ((f1.size : Int) - f2 + 1 = 0) := by omega
          clear hz
          by_cases hn : n < ds.length
          · have hne : ds ≠ [] := by intro q; rw [q] at hn; simp at hn
            obtain ⟨d, hd⟩ : ∃ d, ds[n]? = some d := ⟨_, List.getElem?_eq_getElem hn⟩
            have hdv := (HD.out.keep HC.out.fr (fun q hq z => by
              obtain ⟨z1, z2, z3⟩ := Hda.out hne q hq
              rcases z with z | z
              · exact z2 z
              · exact z3 z.symm))
            obtain ⟨bd, od, rfl, hcd⟩ := hdv.at_ n d hd
            have hbd : bd < wr.heap.size := Nat.lt_of_lt_of_le (Hda.out hne bd rfl).1 HC.out.fr.size
            have hdr := Hdw.out d (List.mem_of_getElem? hd)
            have hd1 := hdr.1
            have hd2 := hdr.2
            have HDn := Lib.hid (show ds.drop n = d :: ds.drop (n + 1) by rw [List.drop_eq_getElem_cons hn]; congr 1; exact (List.getElem?_eq_some_iff.1 hd).2)
            have hdb1 : bd ≠ wr.heap.size := by omega
            clear hdv hdr hd
            go_wp2_with fail
            have hm0 : 0 ≤ max 0 d := by omega
            have hm1 : max 0 d ≤ 9223372036854775807 := by omega
            generalize hd0 : max 0 d = d0 at *
            have Hd0 := Lib.hid hd0
            clear hd0
            have hr1 := Int.emod_nonneg d0 hw2
            have hr2 := Int.emod_lt_of_pos d0 (show 0 < (f1.size : Int) - f2 + 1 by omega)
            have hw3 : IntKind.i64.wrap (d0.tmod ((f1.size : Int) - f2 + 1)) = d0 % ((f1.size : Int) - f2 + 1) := by rw [Int.tmod_eq_emod_of_nonneg hm0]; exact IntWalk.i64_in _ (by omega)
            have hw4 : IntKind.i64.wrap (f2 + d0 % ((f1.size : Int) - f2 + 1)) = f2 + d0 % ((f1.size : Int) - f2 + 1) := IntWalk.i64_in _ (by omega)
            refine wp_region_still_tail 13 (by kernel_rfl) (by kernel_rfl) ?_
            simp only [List.take_succ_cons, List.take_zero, List.drop_succ_cons, List.drop_zero, World.drew_eq]
            repeat still_step
            refine wpStill_nil ?_
            clear hw0 hw1 hw3 hw4
            have hk1 : 0 ≤ f2 + d0 % ((f1.size : Int) - f2 + 1) := by omega
            have hk2 : f2 + d0 % ((f1.size : Int) - f2 + 1) ≤ f1.size := by omega
            have Hst := Lib.hid (show tstep (f1, f2) (ds.drop n) = ((f1.extract 0 (f2 + d0 % ((f1.size : Int) - f2 + 1)).toNat, f2 + d0 % ((f1.size : Int) - f2 + 1)), ds.drop (n + 1)) by
              rw [HDn.out]
              simp only [tstep]
              rw [if_neg (by have := HZ.out; omega)]
              simp only [torn, List.headD_cons, List.tail_cons, Hd0.out])
            go_wp2_with fail
            generalize f2 + d0 % ((f1.size : Int) - f2 + 1) = k2 at *
            clear hr1 hr2
            refine wp_region_still_tail 7 (by kernel_rfl) (by kernel_rfl) ?_
            simp only [List.take_succ_cons, List.take_zero, List.drop_succ_cons, List.drop_zero, World.drew_eq]
            repeat still_step
            refine wpStill_nil ?_
            go_wp2_with fail
            go_roundw
            case rel => exact ⟨k + 1, n + 1, by go_num, by go_num, Lib.hid (HC.out.wrote Hp.out Hst.out (((Fr.refl no _).alloc _).drew.drew))⟩
            case measure => simp [intOf]; omega
          · have HDn := Lib.hid (show ds.drop n = [] from List.drop_of_length_le (by omega))
            have HDn' := Lib.hid (show ds.drop (n + 1) = [] from List.drop_of_length_le (by omega))
            go_wp2_with fail
            have hw3 : IntKind.i64.wrap ((0 : Int).tmod ((f1.size : Int) - f2 + 1)) = 0 := by rw [Int.zero_tmod]; rfl
            have hw4 : IntKind.i64.wrap (f2 + 0) = f2 := by rw [Int.add_zero]; exact IntWalk.i64_in _ (by omega)
            refine wp_region_still_tail 13 (by kernel_rfl) (by kernel_rfl) ?_
            simp only [List.take_succ_cons, List.take_zero, List.drop_succ_cons, List.drop_zero, World.drew_eq]
            repeat still_step
            refine wpStill_nil ?_
            clear hw0 hw1 hw3 hw4
            go_wp2_with fail
            refine wp_region_still_tail 7 (by kernel_rfl) (by kernel_rfl) ?_
            simp only [List.take_succ_cons, List.take_zero, List.drop_succ_cons, List.drop_zero, World.drew_eq]
            repeat still_step
            refine wpStill_nil ?_
            go_wp2_with fail
            go_roundw
            case rel =>
              have hst : tstep (f1, f2) (ds.drop n) = ((f1.extract 0 f2.toNat, f2), ds.drop (n + 1)) := by
                rw [HDn.out, HDn'.out]
                simp only [tstep]
                rw [if_neg (by have := HZ.out; omega)]
                simp [torn]
              exact ⟨k + 1, n + 1, by go_num, by go_num, Lib.hid (HC.out.wrote Hp.out hst (((Fr.refl no _).alloc _).drew.drew))⟩
            case measure => simp [intOf]; omega
      · have HE := Lib.hid (show dcrash s ds = (0, ⟨(tearN k s.files ds).1, none, false⟩) by
          have e : k = s.files.length := by omega
          rw [HR.out, e, tearN_all])
        have t1 : decide ((k : Int) < (s.files.length : Int)) = false := by simp; omega
        have t2 : decide (k < s.files.length) = false := by simp; omega
        go_wp2_with fail
        go_ret
        rw [HE.out]
        exact RDone.same HC.out.dsk HC.out.fr
end Go.Proofs.Ythmjjbgjbcnjmaa
