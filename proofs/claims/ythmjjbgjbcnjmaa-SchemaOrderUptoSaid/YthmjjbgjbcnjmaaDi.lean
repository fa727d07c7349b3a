import Derived.Test.YthmjjbgjbcnjmaaDh
import Derived.Test.YthmjjbgjbcnjmaaKc
import Derived.Deep.QuietTactic
import Derived.BigQuiet
import Derived.Deep.LoopGhost
namespace Go.Proofs.Ythmjjbgjbcnjmaa
open Go.RowKit Go.Hop Go.Sort

abbrev encI : Int → Value := Value.int .i64
abbrev encN : ByteArray × File → Value := fun p => Value.string p.1

structure CR (w : World) (a m : Nat) (s : DSt) (ds : List Int) (nv : Value) (k : Nat) (v1 : Value) (wr : World) : Prop where
  le : k ≤ s.files.length
  dsk : IsD wr a m ⟨(tearN k s.files ds).1, none, false⟩
  rd : Rd encI wr v1 (tearN k s.files ds).2
  own : ∀ b, v1.ownBlock = some b → b < w.heap.size ∧ b ≠ a ∧ b ≠ m
  rn : Rd encN wr nv s.files
  ownn : ∀ b, nv.ownBlock = some b → b < wr.heap.size ∧ b ≠ a ∧ b ≠ m
  fr : Fr (fun x => x = a ∨ x = m) w wr
  rng : ∀ d ∈ (tearN k s.files ds).2, -9223372036854775808 ≤ d ∧ d ≤ 9223372036854775807
def CrashRel (w : World) (a m : Nat) (s : DSt) (ds : List Int) (nv : Value) (i v1 : Value) (wr : World) : Prop := ∃ k : Nat, i = .int .i64 k ∧ CR w a m s ds nv k v1 wr

theorem List.set_getElem_self' {α : Type} {l : List α} {k : Nat} {x : α} (h : l[k]? = some x) : l.set k x = l := by
  apply List.ext_getElem?
  intro i
  rw [List.getElem?_set]
  split
  · rename_i e; subst e; rw [h]; have := (List.getElem?_eq_some_iff.1 h).1; simp [this]
  · rfl
theorem tstep_sub (f : File) (D : List Int) : ∀ d ∈ (tstep f D).2, d ∈ D := by
  intro d hd
  unfold tstep at hd
  split at hd
  · exact hd
  · exact List.mem_of_mem_tail hd
theorem tstep_short (f : File) (D : List Int) : (tstep f D).2.length ≤ D.length := by
  unfold tstep; split
  · exact Nat.le_refl _
  · simp
theorem tearN_short : ∀ (k : Nat) (fs : List (ByteArray × File)) (ds : List Int), (tearN k fs ds).2.length ≤ ds.length
  | 0, _, _ => Nat.le_refl _
  | _ + 1, [], _ => Nat.le_refl _
  | k + 1, (n, f) :: t, ds => by
    simp only [tearN]
    exact Nat.le_trans (tearN_short k t _) (tstep_short f ds)
theorem CR.step {w : World} {a m : Nat} {s : DSt} {ds : List Int} {nv : Value} {k : Nat} {v1 v1' : Value} {wr wr' : World} {p : ByteArray × File} (h : CR w a m s ds nv k v1 wr) (hp : s.files[k]? = some p)
    (hd : IsD wr' a m ⟨(tearN k s.files ds).1.set k (p.1, (tstep p.2 (tearN k s.files ds).2).1), none, false⟩) (hfr : Fr (fun x => x = a ∨ x = m) wr wr')
    (hrd : Rd encI wr' v1' (tstep p.2 (tearN k s.files ds).2).2) (ho : ∀ b, v1'.ownBlock = some b → v1.ownBlock = some b) : CR w a m s ds nv (k + 1) v1' wr' := by
  have e := tearN_succ k s.files ds p hp
  have hk : k < s.files.length := (List.getElem?_eq_some_iff.1 hp).1
  refine ⟨hk, by rw [e]; exact hd, by rw [e]; exact hrd, fun b hb => h.own b (ho b hb), h.rn.keep hfr (fun b hb q => by have := h.ownn b hb; omega), fun b hb => ?_, h.fr.trans hfr (fun _ _ q => q), by rw [e]; exact fun d hd => h.rng d (tstep_sub _ _ d hd)⟩
  have h1 := h.ownn b hb
  have h2 := hfr.size
  omega

set_option maxHeartbeats 2000000 in
set_option maxRecDepth 100000 in
theorem crash_any (a m : Nat) (s : DSt) (dv : Value) (ds : List Int) (w : World) (h : IsD w a m s) (hd : Rd encI w dv ds) (hda : ∀ k, dv.ownBlock = some k → k < w.heap.size ∧ k ≠ a ∧ k ≠ m) (hdl : ds.length ≤ 140737488351232)
    (hdw : ∀ d ∈ ds, -9223372036854775808 ≤ d ∧ d ≤ 9223372036854775807) :
    Calls Try.prog 49 #[.pointer (some ⟨a, 0, none⟩), dv] w (Done w a m (dcrash s ds)) := by
  obtain ⟨A, c, hdv, hdc⟩ := hd.len
  have hc1 := cells_at h.blk 1 _ rfl
  have hc2 := cells_at h.blk 2 _ rfl
  have hc3 := cells_at h.blk 3 _ rfl
  have hf1 := free_at h.blk 1
  have hf2 := free_at h.blk 2
  have hf3 := free_at h.blk 3
  subst hdv
  have HD := Lib.hid hd
  have HI := Lib.hid h
  have Hda := Lib.hid hda
  have Hdw := Lib.hid hdw
  have hlt := h.lt
  clear hd h hda hdw
  by_cases h1 : 4096 < ds.length
  · have HR := Lib.hid (show dcrash s ds = (2, s) by simp [dcrash, h1])
    go_enter Try.func49, Try.ntmps49
    go_wp2
    go_ret
    exact ⟨by rw [HR.out]; rfl, by rw [HR.out]; exact HI.out, Fr.refl _ _⟩
  · have HR := Lib.hid (show dcrash s ds = (0, ⟨tear s.files ds, none, false⟩) by simp [dcrash, h1])
    go_enter Try.func49, Try.ntmps49
    go_wp2_with fail
    have hI1 : IsD (((w.setCell ⟨a, 1, none⟩ (.bool false)).setCell ⟨a, 2, none⟩ (.bool false)).setCell ⟨a, 3, none⟩ (.int .i64 0)) a m ⟨s.files, none, false⟩ := by
      obtain ⟨hb, ⟨al, hm, hrel⟩, hne, hok⟩ := HI.out
      have h1 := heap_setCell_at (heap_setCell_at (heap_setCell_at hb 1 (.bool false)) 2 (.bool false)) 3 (.int .i64 0)
      refine ⟨by simpa [dblk] using h1, ⟨al, hm.keep ((((Fr.refl (fun x => x = a) w).setCell ⟨a, 1, none⟩ _ (fun _ => rfl)).setCell ⟨a, 2, none⟩ _ (fun _ => rfl)).setCell ⟨a, 3, none⟩ _ (fun _ => rfl)) (fun q => hne q.symm), hrel⟩, hne, ⟨hok.srt, hok.few, hok.fit, hok.nam, by simp⟩⟩
    have hfr1 : Fr (fun x => x = a) w (((w.setCell ⟨a, 1, none⟩ (.bool false)).setCell ⟨a, 2, none⟩ (.bool false)).setCell ⟨a, 3, none⟩ (.int .i64 0)) := (((Fr.refl (fun x => x = a) w).setCell ⟨a, 1, none⟩ _ (fun _ => rfl)).setCell ⟨a, 2, none⟩ _ (fun _ => rfl)).setCell ⟨a, 3, none⟩ _ (fun _ => rfl)
    generalize (((w.setCell ⟨a, 1, none⟩ (.bool false)).setCell ⟨a, 2, none⟩ (.bool false)).setCell ⟨a, 3, none⟩ (.int .i64 0)) = w1 at *
    refine (names_any a m _ w1 hI1).mono ?_
    rintro e w2 ⟨v, rfl, hown, hf2'⟩
    have hRn := Rd.of_owns (xs := s.files) (enc := encN) (by simpa using hown)
    obtain ⟨An, cn, hvn, hcn⟩ := hRn.len
    have hCR : CR w a m s ds v 0 (.slice A ds.length c) w2 := by
      have hlt1 := hI1.lt
      have hf2 : Fr (fun x => x = a ∨ x = m) w w2 := (hfr1.mono (fun _ _ q => .inl q)).trans hf2' (fun _ _ q => q.elim)
      exact ⟨Nat.zero_le _, hI1.later hf2', HD.out.keep hf2 (fun k hk q => by have := Hda.out k hk; omega), Hda.out, hRn, fun b hb => by have := hown.lt b hb; omega, hf2, Hdw.out⟩
    rw [hvn] at hCR ⊢
    have HCR := Lib.hid hCR
    clear hRn hown hI1 hfr1 hf2' hCR hvn
    have hfew := HI.out.ok.few
    go_wp2_with fail
    go_loopw [25, 1] (CrashRel w a m s ds (.slice An s.files.length cn)) (fun i _ _ => s.files.length - (intOf i).toNat)
    case atStart => exact ⟨0, rfl, HCR.out⟩
    case round =>
      clear HCR
      obtain ⟨k, rfl, hcr⟩ := hrel
      have HC := Lib.hid hcr
      clear hcr
      by_cases hk : k < s.files.length
      · obtain ⟨p, hp⟩ : ∃ p, s.files[k]? = some p := ⟨_, List.getElem?_eq_getElem hk⟩
        obtain ⟨bn, offn, rfl, hcell⟩ := HC.out.rn.at_ k p hp
        have hF := tearN_get k s.files ds p hp
        have hgF := Hop.get_at HC.out.dsk.ok.srt k p hF
        have hfit := HC.out.dsk.ok.fit p (List.mem_of_getElem? hF)
        obtain ⟨name, f1, f2⟩ := p
        simp only at hgF hfit
        obtain ⟨al, hm, hrel⟩ := HC.out.dsk.map
        have hg1 := (get_dflt hrel name).1
        have hfa : fileAt ⟨(tearN k s.files ds).1, none, false⟩ name = (f1, f2) := by simp only [fileAt, hgF, Option.getD]
        rw [hfa] at hg1
        have e0 : wr.cell? ⟨a, 0, none⟩ = some (.map (some m)) := cells_at HC.out.dsk.blk 0 _ rfl
        have e1 : wr.cell? ⟨bn, offn + k, none⟩ = some (.string name) := hcell
        have hla : a < wr.heap.size := HC.out.dsk.lt.1
        have hlm : m < wr.heap.size := HC.out.dsk.lt.2
        have hlb : bn < wr.heap.size := (HC.out.ownn bn rfl).1
        have hfit1 := hfit.1
        have hfit2 := hfit.2.1
        have hfit3 := hfit.2.2
        have Hp := Lib.hid hp
        have HgF := Lib.hid hgF
        have HF := Lib.hid hF
        have Hfit := Lib.hid hfit
        clear hc1 hc2 hc3 hf1 hf2 hf3 hcell hF hgF hfit hfa hp
        obtain ⟨A1, c1, rfl, hc1⟩ := HC.out.rd.len
        by_cases hz : (f1.size : Int) - f2 = 0
        · have hz' : ((f1.size : Int) - f2 == 0) = true := by rw [beq_iff_eq]; exact hz
          have HZ := Lib.hid hz
          clear hz
          go_wp2_with (first | (at_lookup; refine wp_look rfl _ _ _ rfl hm Try.underlying73 Try.underlying9 zeroF rfl _ rfl ?_) | fail)
          go_roundw
          case rel =>
            have hst : tstep (f1, f2) (tearN k s.files ds).2 = ((f1, f2), (tearN k s.files ds).2) := by simp only [tstep]; rw [if_pos HZ.out]
            have hfr : Fr no wr (wr.alloc (.cells #[.string f1, .int .i64 f2] 120)) := (Fr.refl _ _).alloc _
            refine ⟨k + 1, by go_num, HC.out.step Hp.out ?_ (hfr.mono (fun _ _ q => q.elim)) ?_ (fun b hb => hb)⟩
            · simp only [hst]
              rw [List.set_getElem_self' HF.out]
              exact HC.out.dsk.later hfr
            · rw [hst]; exact HC.out.rd.keep hfr (fun _ _ q => q)
          case measure => simp [intOf]; omega
        · have hz' : ((f1.size : Int) - f2 == 0) = false := by rw [beq_eq_false_iff_ne]; exact hz
          have HZ := Lib.hid hz
          have hgt : 1 ≤ (f1.size : Int) - f2 := by omega
          clear hz
          have hrd := HC.out.rd
          have hrng := HC.out.rng
          rcases hD : (tearN k s.files ds).2 with _ | ⟨d, D⟩
          · rw [hD] at hrd
            have HD2 := Lib.hid hD
            clear hD hrng
            rw [show (tearN k s.files ds).2.length = 0 by rw [HD2.out]; rfl] at *
            go_wp2_with (first | (at_lookup; refine wp_look rfl _ _ _ rfl hm Try.underlying73 Try.underlying9 zeroF rfl _ rfl ?_) | fail)
            refine wp_region_still_tail 8 (by kernel_rfl) (by kernel_rfl) ?_
            simp only [List.take_succ_cons, List.take_zero, List.drop_succ_cons, List.drop_zero, World.drew_eq]
            have hw1 : IntKind.i64.wrap ((f1.size : Int) - f2 + 1) = (f1.size : Int) - f2 + 1 := IntWalk.i64_in _ (by omega)
            have hw2 : ¬ ((f1.size : Int) - f2 + 1 = 0) := by omega
            repeat still_step
            refine wpStill_nil ?_
            go_wp2_with fail
            refine wp_region_still_tail 13 (by kernel_rfl) (by kernel_rfl) ?_
            simp only [List.take_succ_cons, List.take_zero, List.drop_succ_cons, List.drop_zero, World.drew_eq]
            repeat still_step
            refine wpStill_nil ?_
            have ht : Fr no wr (wr.alloc (.cells #[.string f1, .int .i64 f2] 120)).drew.drew := ((Fr.refl _ _).alloc _).drew.drew
            refine wp_store rfl _ _ _ rfl (hm.keep ht id) Try.underlying73 Try.underlying9 rfl _ rfl (.agg #[.string (f1.extract 0 f2.toNat), .int .i64 f2]) rfl ?_
            intro w3 hm3 hf3
            go_wp2
            go_roundw
            case rel =>
              have hst : tstep (f1, f2) (tearN k s.files ds).2 = ((f1.extract 0 f2.toNat, f2), []) := by
                rw [HD2.out]
                simp only [tstep]
                rw [if_neg HZ.out]
                simp [torn]
              have hfa := (ht.mono (fun _ _ q => q.elim) : Fr (fun x => x = a ∨ x = m) _ _).trans hf3 (fun _ _ q => .inr q)
              refine ⟨k + 1, by go_num, HC.out.step Hp.out ?_ hfa ?_ (fun b hb => hb)⟩
              · rw [← sput_at HC.out.dsk.ok.srt k _ _ HF.out]
                have hfit' := tstep_fit (f1, f2) (tearN k s.files ds).2 Hfit.out
                have q := (HC.out.dsk.later ht).put (name := name) (f := (tstep (f1, f2) (tearN k s.files ds).2).1) hf3 hrel (by rw [hst]; exact hm3) hfit' (by rw [sput_at HC.out.dsk.ok.srt k _ _ HF.out]; simpa using HC.out.dsk.ok.few) (HC.out.dsk.ok.nam _ (List.mem_of_getElem? HF.out))
                exact q
              · rw [hst]
                exact hrd.keep hfa (fun b hb q => by have := HC.out.own b hb; omega)
            case measure => simp [intOf]; omega
          · rw [hD] at hrd hrng
            have HD2 := Lib.hid hD
            clear hD
            rw [show (tearN k s.files ds).2.length = D.length + 1 by rw [HD2.out]; rfl] at *
            obtain ⟨b1, o1, rfl, hcd⟩ := hrd.at_ 0 d rfl
            have hlb1 : b1 < wr.heap.size := by have := HC.out.own b1 rfl; have := HC.out.fr.size; omega
            have hdr := hrng d (List.mem_cons_self)
            have hd1 := hdr.1
            have hd2 := hdr.2
            have hDl : D.length ≤ 140737488351232 := by have := tearN_short k s.files ds; rw [HD2.out, List.length_cons] at this; omega
            clear hrng hdr
            rw [Nat.add_zero] at hcd
            go_wp2_with (first | (at_lookup; refine wp_look rfl _ _ _ rfl hm Try.underlying73 Try.underlying9 zeroF rfl _ rfl ?_) | fail)
            have Hcap := Lib.hid hrd.tail
            have hw1 : IntKind.i64.wrap ((f1.size : Int) - f2 + 1) = (f1.size : Int) - f2 + 1 := IntWalk.i64_in _ (by omega)
            have hw2 : ¬ ((f1.size : Int) - f2 + 1 = 0) := by omega
            have hm0 : 0 ≤ max 0 d := by omega
            have hm1 : max 0 d ≤ 9223372036854775807 := by omega
            have HDD := Lib.hid (rfl : max 0 d = max 0 d)
            by_cases hcc : c1 = 1
            · subst hcc
              go_quiet (fail)
              go_wp2_with fail
              generalize hd0 : max 0 d = d0 at *
              have Hd0 := Lib.hid hd0
              clear hd0
              have hr1 := Int.emod_nonneg d0 hw2
              have hr2 := Int.emod_lt_of_pos d0 (show 0 < (f1.size : Int) - f2 + 1 by omega)
              have hw3 : IntKind.i64.wrap (d0.tmod ((f1.size : Int) - f2 + 1)) = d0 % ((f1.size : Int) - f2 + 1) := by rw [Int.tmod_eq_emod_of_nonneg hm0]; exact IntWalk.i64_in _ (by omega)
              have hw4 : IntKind.i64.wrap (f2 + d0 % ((f1.size : Int) - f2 + 1)) = f2 + d0 % ((f1.size : Int) - f2 + 1) := IntWalk.i64_in _ (by omega)
              refine wp_region_still_tail 8 (by kernel_rfl) (by kernel_rfl) ?_
              simp only [List.take_succ_cons, List.take_zero, List.drop_succ_cons, List.drop_zero, World.drew_eq]
              repeat still_step
              refine wpStill_nil ?_
              clear hw1 hw3 hw4
              go_wp2_with fail
              have hk1 : 0 ≤ f2 + d0 % ((f1.size : Int) - f2 + 1) := by omega
              have hk2 : f2 + d0 % ((f1.size : Int) - f2 + 1) ≤ f1.size := by omega
              have Hst := Lib.hid (show tstep (f1, f2) (tearN k s.files ds).2 = ((f1.extract 0 (f2 + d0 % ((f1.size : Int) - f2 + 1)).toNat, f2 + d0 % ((f1.size : Int) - f2 + 1)), D) by
                rw [HD2.out]
                simp only [tstep]
                rw [if_neg HZ.out]
                simp only [torn, List.headD_cons, List.tail_cons, Hd0.out])
              generalize f2 + d0 % ((f1.size : Int) - f2 + 1) = k2 at *
              clear hr1 hr2
              refine wp_region_still_tail 13 (by kernel_rfl) (by kernel_rfl) ?_
              simp only [List.take_succ_cons, List.take_zero, List.drop_succ_cons, List.drop_zero, World.drew_eq]
              repeat still_step
              refine wpStill_nil ?_
              have ht : Fr no wr (((wr.alloc (.cells #[.string f1, .int .i64 f2] 120)).drewN (nq + 1)).setCell ⟨wr.heap.size, 1, none⟩ (.int .i64 k2)).drew := ((((Fr.refl no wr).alloc _).drewN _).setCell _ _ (fun q => absurd q (by simp))).drew
              refine wp_store rfl _ _ _ rfl (hm.keep ht id) Try.underlying73 Try.underlying9 rfl _ rfl (.agg #[.string (f1.extract 0 k2.toNat), .int .i64 k2]) rfl ?_
              intro w3 hm3 hf3
              go_wp2
              go_roundw
              case rel =>
                have hst := Hst.out
                have hfa := (ht.mono (fun _ _ q => q.elim) : Fr (fun x => x = a ∨ x = m) _ _).trans hf3 (fun _ _ q => .inr q)
                refine ⟨k + 1, by go_num, HC.out.step Hp.out ?_ hfa ?_ (fun b hb => hb)⟩
                · rw [← sput_at HC.out.dsk.ok.srt k _ _ HF.out]
                  have hfit' := tstep_fit (f1, f2) (tearN k s.files ds).2 Hfit.out
                  have q := (HC.out.dsk.later ht).put (name := name) (f := (tstep (f1, f2) (tearN k s.files ds).2).1) hf3 hrel (by rw [hst]; exact hm3) hfit' (by rw [sput_at HC.out.dsk.ok.srt k _ _ HF.out]; simpa using HC.out.dsk.ok.few) (HC.out.dsk.ok.nam _ (List.mem_of_getElem? HF.out))
                  exact q
                · rw [hst]
                  have hrt := Hcap.out
                  rw [if_pos trivial, show (d :: D).length - 1 = 0 from by (rw [List.length_cons]; omega)] at hrt
                  exact hrt.keep hfa (fun b hb q => by have := HC.out.own b hb; omega)
              case measure => simp [intOf]; omega
            · have hcf : (c1 == 1) = false := by simpa using hcc
              go_quiet (fail)
              go_wp2_with fail
              generalize hd0 : max 0 d = d0 at *
              have Hd0 := Lib.hid hd0
              clear hd0
              have hr1 := Int.emod_nonneg d0 hw2
              have hr2 := Int.emod_lt_of_pos d0 (show 0 < (f1.size : Int) - f2 + 1 by omega)
              have hw3 : IntKind.i64.wrap (d0.tmod ((f1.size : Int) - f2 + 1)) = d0 % ((f1.size : Int) - f2 + 1) := by rw [Int.tmod_eq_emod_of_nonneg hm0]; exact IntWalk.i64_in _ (by omega)
              have hw4 : IntKind.i64.wrap (f2 + d0 % ((f1.size : Int) - f2 + 1)) = f2 + d0 % ((f1.size : Int) - f2 + 1) := IntWalk.i64_in _ (by omega)
              refine wp_region_still_tail 8 (by kernel_rfl) (by kernel_rfl) ?_
              simp only [List.take_succ_cons, List.take_zero, List.drop_succ_cons, List.drop_zero, World.drew_eq]
              repeat still_step
              refine wpStill_nil ?_
              clear hw1 hw3 hw4
              go_wp2_with fail
              have hk1 : 0 ≤ f2 + d0 % ((f1.size : Int) - f2 + 1) := by omega
              have hk2 : f2 + d0 % ((f1.size : Int) - f2 + 1) ≤ f1.size := by omega
              have Hst := Lib.hid (show tstep (f1, f2) (tearN k s.files ds).2 = ((f1.extract 0 (f2 + d0 % ((f1.size : Int) - f2 + 1)).toNat, f2 + d0 % ((f1.size : Int) - f2 + 1)), D) by
                rw [HD2.out]
                simp only [tstep]
                rw [if_neg HZ.out]
                simp only [torn, List.headD_cons, List.tail_cons, Hd0.out])
              generalize f2 + d0 % ((f1.size : Int) - f2 + 1) = k2 at *
              clear hr1 hr2
              refine wp_region_still_tail 13 (by kernel_rfl) (by kernel_rfl) ?_
              simp only [List.take_succ_cons, List.take_zero, List.drop_succ_cons, List.drop_zero, World.drew_eq]
              repeat still_step
              refine wpStill_nil ?_
              have ht : Fr no wr (((wr.alloc (.cells #[.string f1, .int .i64 f2] 120)).drewN (nq + 1)).setCell ⟨wr.heap.size, 1, none⟩ (.int .i64 k2)).drew := ((((Fr.refl no wr).alloc _).drewN _).setCell _ _ (fun q => absurd q (by simp))).drew
              refine wp_store rfl _ _ _ rfl (hm.keep ht id) Try.underlying73 Try.underlying9 rfl _ rfl (.agg #[.string (f1.extract 0 k2.toNat), .int .i64 k2]) rfl ?_
              intro w3 hm3 hf3
              go_wp2
              go_roundw
              case rel =>
                have hst := Hst.out
                have hfa := (ht.mono (fun _ _ q => q.elim) : Fr (fun x => x = a ∨ x = m) _ _).trans hf3 (fun _ _ q => .inr q)
                refine ⟨k + 1, by go_num, HC.out.step Hp.out ?_ hfa ?_ (fun b hb => hb)⟩
                · rw [← sput_at HC.out.dsk.ok.srt k _ _ HF.out]
                  have hfit' := tstep_fit (f1, f2) (tearN k s.files ds).2 Hfit.out
                  have q := (HC.out.dsk.later ht).put (name := name) (f := (tstep (f1, f2) (tearN k s.files ds).2).1) hf3 hrel (by rw [hst]; exact hm3) hfit' (by rw [sput_at HC.out.dsk.ok.srt k _ _ HF.out]; simpa using HC.out.dsk.ok.few) (HC.out.dsk.ok.nam _ (List.mem_of_getElem? HF.out))
                  exact q
                · rw [hst]
                  have hrt := Hcap.out
                  rw [if_neg hcc] at hrt
                  exact hrt.keep hfa (fun b hb q => by have := HC.out.own b hb; omega)
              case measure => simp [intOf]; omega
      · have HE := Lib.hid (show dcrash s ds = (0, ⟨(tearN k s.files ds).1, none, false⟩) by
          have := HC.out.le
          have e : k = s.files.length := by omega
          rw [HR.out, e, tearN_all])
        go_wp2
        go_ret
        exact ⟨by rw [HE.out]; rfl, by rw [HE.out]; exact HC.out.dsk, HC.out.fr⟩
end Go.Proofs.Ythmjjbgjbcnjmaa
