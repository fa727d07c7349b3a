import Derived.Test.YthmjjbgjbcnjmaaUh
import Derived.Deep.CutBlock
import Derived.Deep.DeepCutAuto
namespace Go.Proofs.Ythmjjbgjbcnjmaa
open Go.RowKit Go.Hop

theorem El34 : El Try.prog 34 41 4 72 := El.mk_ (.agg #[.string ⟨#[]⟩, .slice none 0 0, .int .i64 0, .slice none 0 0]) Try.underlying34 (by decide) rfl (by kernel_rfl)
theorem rc_new4 (w : World) (u v x y : Value) (t : Nat) (h : ∀ z ∈ [u, v, x, y], z.oneCell' = true := by simp [Value.oneCell']) : Rc (w.alloc (.cells #[u, v, x, y] t)) 4 (.slice (some ⟨w.heap.size, 0, none⟩) 1 1) 1 [u, v, x, y] :=
  rc_block (n := 1) (cs := [u, v, x, y]) (heap_alloc_at w _) rfl h
theorem zero4 (w : World) : (zeroValue 4).run Try.prog w = .ok (.bool false) w := by kernel_rfl
def SeenB (al : List (ByteArray × Value)) (ns : List ByteArray) : Prop := ∀ n, Hop.get al n = if seenB n ns = true then some (.bool true) else none
theorem SeenB.put {al : List (ByteArray × Value)} {ns : List ByteArray} (h : SeenB al ns) (n : ByteArray) : SeenB (Hop.put al n (.bool true)) (ns ++ [n]) := by
  intro k
  rw [get_put, h k]
  by_cases e : n = k
  · subst e; simp [seenB]
  · rw [if_neg e]
    have : seenB k (ns ++ [n]) = seenB k ns := by simp [seenB, e]
    rw [this]
theorem TwoC.blank {W w w' : World} {B a1 m1 a2 m2 : Nat} {S : Nat → Prop} (h : TwoC W w B a1 m1 a2 m2 [] []) (hf : Fr S w w') (hs : ∀ k, S k → B ≤ k) : TwoC W w' B a1 m1 a2 m2 [] [] := by
  obtain ⟨l1, l2, l3, l4⟩ := h.lo
  obtain ⟨i1, i2, i3, i4, i5⟩ := h.hi
  have hB : W.heap.size ≤ B := by omega
  exact ⟨h.fr.trans hf (fun i hi q => absurd hi (by have := hs i q; omega)), ((h.c1.rekey (K' := fun _ => False) id).keep hf (fun q => by have := hs _ q; omega) (fun q => by have := hs _ q; omega) (fun _ _ q => q.elim)).rekey (by omega),
    ((h.c2.rekey (K' := fun _ => False) id).keep hf (fun q => by have := hs _ q; omega) (fun q => by have := hs _ q; omega) (fun _ _ q => q.elim)).rekey (by omega), h.lo, ⟨i1, i2, i3, i4, Nat.le_trans i5 hf.size⟩, h.ne⟩
theorem extra_at (w : World) (d : ByteArray) : TabAt ((w.alloc (.cells #[.string ⟨#[97]⟩, .int .i64 2] 43)).alloc (.cells #[.string d, .slice (some ⟨w.heap.size, 0, none⟩) 1 1, .int .i64 1, .slice none 0 0] 41)) (fun k => w.heap.size ≤ k) (.agg #[.string d, .slice (some ⟨w.heap.size, 0, none⟩) 1 1, .int .i64 1, .slice none 0 0]) (extraT d) := by
  have hb : ((w.alloc (.cells #[.string ⟨#[97]⟩, .int .i64 2] 43)).alloc (.cells #[.string d, .slice (some ⟨w.heap.size, 0, none⟩) 1 1, .int .i64 1, .slice none 0 0] 41)).heap[w.heap.size]? = some (.cells #[.string ⟨#[97]⟩, .int .i64 2] 43 (0, 0)) :=
    (Below.heap_alloc _ _ w.heap.size (by simp)).trans (heap_alloc_at w _)
  refine ⟨_, _, [], rfl, ⟨rc_block (n := 1) (size := 2) (cs := [.string ⟨#[97]⟩, .int .i64 2]) hb rfl (by simp [Value.oneCell']), fun _ k hk => ?_⟩, rfl, ⟨rc_empty _ 3 none 0, fun q => absurd rfl q⟩, fun j x u hj => by simp [extraT] at hj⟩
  injection hk with hk
  subst hk
  exact ⟨heap_lt hb, Nat.le_refl _⟩
theorem rd_names {w : World} {base n : Nat} {v : Value} {l : Cat} (h : w.ownsRow base 9 1 v n (l.map (fun p => Value.string p.1))) : Rd (fun x => Value.string x) w v (l.map Prod.fst) := by
  have e : l.map (fun p => Value.string p.1) = (l.map Prod.fst).map (fun x => Value.string x) := by rw [List.map_map]; rfl
  rw [e] at h
  exact Rd.of_owns h
theorem beq_names {a b : ByteArray} (h : a ≠ b) : (a.toList == b.toList) = false := by
  rw [beq_eq_false_iff_ne, Lib.toList_data, Lib.toList_data]
  exact fun e => h (bl_inj e)

set_option maxHeartbeats 4000000 in
set_option maxRecDepth 100000 in
theorem order_any (A : Option Addr) (n c : Nat) (d : ByteArray) (ts : List Tab) (W : World) (hn : n ≤ c) (hts : TabsIn W A n ts) (hd : d.size ≤ 140737488351232) (hn2 : n ≤ 4611686018427387903) :
    Calls Try.prog 5 #[.slice A n c, .string d] W (AsBefore W (.bool true)) := by
  have HT := Lib.hid hts
  have hmm := @run_makeMap Try.prog
  have T1 : True := trivial
  clear hts
  go_enter Try.func5, Try.ntmps5
  go_upto_block 0 with (first | (go_at_call 15; clear T1; go_loud (refine (cnew_any (fun _ => False) _ id).mono ?_; rintro e w1 ⟨rfl, hI1, hf1⟩; have HI1 := Lib.hid hI1; have HF1 := Lib.hid hf1; clear hI1 hf1)) | (go_at_call 15; go_loud (refine (cnew_any (fun _ => False) _ id).mono ?_; rintro e w2 ⟨rfl, hI2, hf2⟩; have HC := Lib.hid (TwoC.made HI1.out HF1.out hI2 hf2); clear hI2 hf2 HI1 HF1)) | (go_at_call 16; go_loud (refine (sworks_any _).mono ?_; rintro e w3 ⟨rfl, hf3⟩; have HC3 := Lib.hid (HC.out.later hf3); clear hf3 HC)) | fail)
  have hC4 := HC3.out.later ((Fr.refl no w3).alloc (.map #[] 0))
  have hM4 := MapIs.made w3
  obtain ⟨i1, i2, i3, i4, i5⟩ := HC3.out.hi
  obtain ⟨l1, l2, l3, l4⟩ := HC3.out.lo
  have hmb : w3.heap.size < (w3.alloc (.map #[] 0)).heap.size := by simp
  have hBm : w1.heap.size + 2 ≤ w3.heap.size := i5
  have hB0 : W.heap.size ≤ w1.heap.size := l4
  have hWm := hC4.fr.size
  have HC4 := Lib.hid hC4
  have HM4 := Lib.hid hM4
  clear hC4 hM4 HC3 i1 i2 i3 i4 i5 l1 l2 l3 l4
  generalize (w3.alloc (.map #[] 0)) = wm at *
  generalize w3.heap.size = mb at *
  generalize w1.heap.size = sb at *
  go_cut [7] (fun u7 wc => InAt wc wm.heap.size (fun k => k < W.heap.size) u7 (pfold d (ts.take 20)).2 ∧ TwoC W wc (sb + 2) (W.heap.size + 1) W.heap.size (sb + 1) sb [] [])
  case first =>
    go_wp2_with fail
    go_loopw [7, 9] (fun vin i wr => ∃ (k : Nat) (al : List (ByteArray × Value)), i = .int .i64 k ∧ k ≤ n ∧ k ≤ 20 ∧ MapIs wr mb al ∧ Hid (SeenB al (pfold d (ts.take k)).1) ∧ Hid (InAt wr wm.heap.size (fun k => k < W.heap.size) vin (pfold d (ts.take k)).2) ∧ Hid (Fr (fun k => k = mb) wm wr)) (fun _ i _ => n - (intOf i).toNat)
    case atStart => exact ⟨0, [], rfl, by omega, by omega, HM4.out, Lib.hid (by intro n; simp [Hop.get, pfold, seenB]), Lib.hid (by simpa [pfold] using InAt.nil wm _ _), Lib.hid (Fr.refl _ _)⟩
    case round =>
      obtain ⟨k, al, rfl, hk, hk20, hm, hseen, hin, hF⟩ := hrel
      by_cases hgo : k < n ∧ k < 20
      · obtain ⟨hlt, h20⟩ := hgo
        have t1 : decide ((k : Int) < (n : Int)) = true := by simp; omega
        have t2 : decide (k < n) = true := by simp; omega
        have t3 : decide ((k : Int) < 20) = true := by simp; omega
        have t4 : decide (k < 20) = true := by simp; omega
        obtain ⟨t, ht⟩ : ∃ t, ts[k]? = some t := ⟨_, List.getElem?_eq_getElem (by have := HT.out.len; omega)⟩
        obtain ⟨b, off, A1, c1, A2, c2, rfl, hbW, htab, e0, e1, e2, e3⟩ := HT.out.at_ k t ht
        have hFW : Fr (fun k => k = mb) W wr := (HC4.out.fr.mono (fun _ _ q => q.elim)).trans hF.out (fun _ _ q => q)
        have hbm : b ≠ mb := by omega
        replace e0 := hFW.cell e0 hbm
        replace e1 := hFW.cell e1 hbm
        replace e2 := hFW.cell e2 hbm
        replace e3 := hFW.cell e3 hbm
        have HTAB := Lib.hid ((htab.keep hFW (fun k hk _ q => by have q' : k = mb := q; omega)).mono (K' := fun k => k < W.heap.size) (fun k _ q => q))
        have hsz := hFW.size
        have HFW := Lib.hid hFW
        have hget := hseen.out t.name
        have HST := Lib.hid (pfold_step d ts k t ht)
        have hml := hm.lt
        have hbs : b < wr.heap.size := by omega
        clear htab hFW ht
        cases hs : seenB t.name (pfold d (ts.take k)).1 with
        | true =>
          rw [hs, if_pos rfl] at hget
          have Hget := Lib.hid hget
          have HP := Lib.hid (show pstep d (pfold d (ts.take k)) t = ((pfold d (ts.take k)).1 ++ [t.name], (pfold d (ts.take k)).2) by unfold pstep; rw [if_pos (.inl hs)])
          clear hget hs
          go_wp2_with (first | (at_lookup; go_loud (refine wp_look rfl _ _ _ rfl hm Try.underlying37 Try.underlying9 zero4 rfl _ rfl ?_; rw [Hget.out])) | (at_mapUpdate; go_loud (refine wp_store rfl _ _ _ rfl hm Try.underlying37 Try.underlying9 rfl _ rfl (.bool true) rfl ?_; intro w5 hm5 hf5)) | fail)
          go_roundw
          case rel => exact ⟨k + 1, _, by go_num, by omega, by omega, hm5, Lib.hid (by rw [HST.out, HP.out]; exact hseen.out.put _), Lib.hid (by rw [HST.out, HP.out]; exact hin.out.keep hf5 (fun k _ q z => by have z' : k = mb := z; have q' : k < W.heap.size := q; omega) (fun k q z => by have z' : k = mb := z; subst z'; exact hin.out.notMap hm q)), Lib.hid (hF.out.trans hf5 (fun _ _ q => q))⟩
          case measure => simp [intOf]; omega
        | false =>
          rw [hs, if_neg (by simp)] at hget
          have Hget := Lib.hid hget
          clear hget
          by_cases hnd : t.name = d
          · have HP := Lib.hid (show pstep d (pfold d (ts.take k)) t = ((pfold d (ts.take k)).1 ++ [t.name], (pfold d (ts.take k)).2) by unfold pstep; rw [if_pos (.inr hnd)])
            have hb1 : (t.name.toList == d.toList) = true := by rw [hnd]; simp
            have hb2 : (t.name.toList != d.toList) = false := by rw [hnd]; simp
            clear hs hnd
            go_wp2_with (first | (at_lookup; go_loud (refine wp_look rfl _ _ _ rfl hm Try.underlying37 Try.underlying9 zero4 rfl _ rfl ?_; rw [Hget.out])) | (at_mapUpdate; go_loud (refine wp_store rfl _ _ _ rfl hm Try.underlying37 Try.underlying9 rfl _ rfl (.bool true) rfl ?_; intro w5 hm5 hf5)) | fail)
            go_roundw
            case rel => exact ⟨k + 1, _, by go_num, by omega, by omega, hm5, Lib.hid (by rw [HST.out, HP.out]; exact hseen.out.put _), Lib.hid (by rw [HST.out, HP.out]; exact hin.out.keep hf5 (fun k _ q z => by have z' : k = mb := z; have q' : k < W.heap.size := q; omega) (fun k q z => by have z' : k = mb := z; subst z'; exact hin.out.notMap hm q)), Lib.hid (hF.out.trans hf5 (fun _ _ q => q))⟩
            case measure => simp [intOf]; omega
          · have HP := Lib.hid (show pstep d (pfold d (ts.take k)) t = ((pfold d (ts.take k)).1 ++ [t.name], (pfold d (ts.take k)).2 ++ [t]) by
              unfold pstep
              rw [if_neg]
              rintro (q | q)
              · rw [hs] at q; cases q
              · exact hnd q)
            have hb1 := beq_names hnd
            have hb2 : (t.name.toList != d.toList) = true := by rw [bne, hb1]; rfl
            have hN := (pfold_ok d ts k).1
            have hmn := hin.out.notMap hm
            obtain ⟨vs, h1, h2, h3⟩ := hin.out.ex
            obtain ⟨Av, cv, rfl⟩ := owns_slice h2
            have hlo := fun k hk => (h2.lt k hk).1
            have HLO := Lib.hid hlo
            have HMN := Lib.hid hmn
            have H1 := Lib.hid h1
            have H2 := Lib.hid h2
            have H3 := Lib.hid h3
            have HE := Lib.hid e0
            clear hs hnd h1 h2 h3 hlo hmn
            generalize hNN : (pfold d (ts.take k)).2.length = N at *
            have HNN := Lib.hid hNN
            have q1 : N + 1 ≤ maxLen := by unfold maxLen; omega
            have q2 : (N + 1) * 72 ≤ 140737488355328 := by omega
            have hwr := hF.out.size
            have q3 : wm.heap.size ≤ (wr.alloc (.cells #[.string t.name, .slice A1 t.cols.length c1, .int .i64 t.key, .slice A2 t.idx.length c2] 41)).heap.size := by simp; omega
            have HQ := Lib.hid (And.intro q1 (And.intro q2 q3))
            clear hNN q1 q2 q3
            go_wp2_with (first | (at_lookup; go_loud (refine wp_look rfl _ _ _ rfl hm Try.underlying37 Try.underlying9 zero4 rfl _ rfl ?_; rw [Hget.out])) | (at_builtin; go_loud (refine wp_append rfl (.tmp 58) (.tmp 63) 34 rfl El34 (.slice Av N cv) N _ rfl (H2.out.alloc _) _ 1 [.string t.name, .slice A1 t.cols.length c1, .int .i64 t.key, .slice A2 t.idx.length c2] rfl (rc_new4 wr (.string t.name) (.slice A1 t.cols.length c1) (.int .i64 t.key) (.slice A2 t.idx.length c2) 41) HQ.out.1 HQ.out.2.1 HQ.out.2.2 ?_; intro v4 w4 ho4 hg4 hloc4; have hm4 := (hm.keep ((Fr.refl no wr).alloc _) id).keep (Fr.grown hg4) (fun q => HMN.out q.symm); have e6 : w4.cell? ⟨b, off + k * 4, none⟩ = some (.string t.name) := (Fr.grown hg4).cell (((Fr.refl no wr).alloc _).cell e0 id) (fun q => by have : wm.heap.size ≤ b := HLO.out _ q.symm; omega); have HO4 := Lib.hid ho4; have HG4 := Lib.hid hg4; clear ho4 hg4 hloc4 e0 e1 e2 e3)) | (at_mapUpdate; go_loud (refine wp_store rfl _ _ _ rfl hm4 Try.underlying37 Try.underlying9 rfl _ rfl (.bool true) rfl ?_; intro w5 hm5 hf5)) | fail)
            go_roundw
            case rel =>
              have hsn := InAt.snoc (H1.out.trans HNN.out.symm) H3.out HTAB.out ((Fr.refl no wr).alloc _) (fun k _ (hk : k < W.heap.size) q => by have := HLO.out k q; omega) (by rw [HNN.out]; exact HO4.out) HG4.out
              refine ⟨k + 1, _, by go_num, by omega, by omega, hm5, Lib.hid (by rw [HST.out, HP.out]; exact hseen.out.put _), Lib.hid (by rw [HST.out, HP.out]; exact hsn.keep hf5 (fun k _ q z => by have z' : k = mb := z; have q' : k < W.heap.size := q; omega) (fun k q z => by have z' : k = mb := z; subst z'; exact hsn.notMap hm4 q)), Lib.hid ?_⟩
              exact ((hF.out.alloc _).trans (Fr.grown HG4.out) (fun i hi q => absurd hi (by have := HLO.out i q.symm; omega))).trans hf5 (fun _ _ q => q)
            case measure => simp [intOf]; omega
      · have hkk : pfold d (ts.take k) = pfold d (ts.take 20) := by
          have hl := HT.out.len
          rcases (by omega : k = 20 ∨ n ≤ k) with q | q
          · rw [q]
          · rw [List.take_of_length_le (by omega), List.take_of_length_le (by omega)]
        have HKK := Lib.hid hkk
        have hblk := Lib.hid (HC4.out.blank hF.out (fun k (q : k = mb) => by omega))
        clear hkk
        rcases (by omega : n ≤ k ∨ (k < n ∧ 20 ≤ k)) with hge | ⟨hlt, hge⟩
        · have t1 : decide ((k : Int) < (n : Int)) = false := by simp; omega
          have t2 : decide (k < n) = false := by simp; omega
          go_wp2_with fail
          go_meet
          case rel => exact ⟨by rw [← HKK.out]; exact hin.out, hblk.out⟩
        · have t1 : decide ((k : Int) < (n : Int)) = true := by simp; omega
          have t2 : decide (k < n) = true := by simp; omega
          have t3 : decide ((k : Int) < 20) = false := by simp; omega
          have t4 : decide (k < 20) = false := by simp; omega
          go_wp2_with fail
          go_meet
          case rel => exact ⟨by rw [← HKK.out]; exact hin.out, hblk.out⟩
  case rest =>
    obtain ⟨hin, hC⟩ := hcut
    obtain ⟨p1, p2, p3⟩ := pfold_ok d ts 20
    have HOK := Lib.hid (fun t (ht : t ∈ (pfold d (ts.take 20)).2) => HT.out.ok t (p3 t ht).1)
    have HLAW := Lib.hid (order_law (pfold d (ts.take 20)).2 (extraT d) p2 (fun t ht => (p3 t ht).2.1) p1)
    generalize hins : (pfold d (ts.take 20)).2 = ins at *
    clear p2 p3 hins HM4 HC4
    obtain ⟨⟨Av, cv, rfl⟩, hown⟩ := hin.own
    have hcv : ins.length ≤ cv := by obtain ⟨vs, h1, h2, h3⟩ := hin.ex; exact (by rcases h2.2 with ⟨q, q2⟩ | ⟨g, cap, cur, q, _, _, q2, _⟩; injection q with _ q3 q4; omega; injection q with _ q3 q4; omega)
    have HIN := Lib.hid hin
    have HOWN := Lib.hid hown
    have HCC := Lib.hid hC
    have hsW := hC.fr.size
    have hsB := hC.hi.2.2.2.2
    clear hin hC hown
    go_upto_block 2 with fail
    have hx0 : TabAt ((wc.alloc (.cells #[.string ⟨#[97]⟩, .int .i64 2] 43)).alloc (.cells #[.string d, .slice (some ⟨wc.heap.size, 0, none⟩) 1 1, .int .i64 1, .slice none 0 0] 41)) (fun k => wc.heap.size ≤ k) (.agg #[.string d, .slice (some ⟨wc.heap.size, 0, none⟩) 1 1, .int .i64 1, .slice none 0 0]) (extraT d) := by
      exact extra_at wc d
    have hx1 := heap_alloc_at (wc.alloc (.cells #[.string ⟨#[97]⟩, .int .i64 2] 43)) (.cells #[.string d, .slice (some ⟨wc.heap.size, 0, none⟩) 1 1, .int .i64 1, .slice none 0 0] 41)
    have hfx := Fr.alloc (Fr.alloc (Fr.refl no wc) (.cells #[.string ⟨#[97]⟩, .int .i64 2] 43)) (.cells #[.string d, .slice (some ⟨wc.heap.size, 0, none⟩) 1 1, .int .i64 1, .slice none 0 0] 41)
    have hxs : wc.heap.size + 1 < ((wc.alloc (.cells #[.string ⟨#[97]⟩, .int .i64 2] 43)).alloc (.cells #[.string d, .slice (some ⟨wc.heap.size, 0, none⟩) 1 1, .int .i64 1, .slice none 0 0] 41)).heap.size := by simp
    have hx1' : ((wc.alloc (.cells #[.string ⟨#[97]⟩, .int .i64 2] 43)).alloc (.cells #[.string d, .slice (some ⟨wc.heap.size, 0, none⟩) 1 1, .int .i64 1, .slice none 0 0] 41)).heap[wc.heap.size + 1]? = some (.cells #[.string d, .slice (some ⟨wc.heap.size, 0, none⟩) 1 1, .int .i64 1, .slice none 0 0] 41 (0, 0)) := by simpa using hx1
    have HX0 := Lib.hid hx0
    have HX1 := Lib.hid hx1'
    have HINX := Lib.hid (HIN.out.later hfx)
    have HCX := Lib.hid (HCC.out.later hfx)
    clear hx0 hx1 hx1' hfx HIN HCC
    generalize ((wc.alloc (.cells #[.string ⟨#[97]⟩, .int .i64 2] 43)).alloc (.cells #[.string d, .slice (some ⟨wc.heap.size, 0, none⟩) 1 1, .int .i64 1, .slice none 0 0] 41)) = wx at *
    go_wp2_with fail
    go_loopw [77] (fun i wr => ∃ k : Nat, i = .int .i64 k ∧ k ≤ ins.length ∧ Hid (TwoC W wr (sb + 2) (W.heap.size + 1) W.heap.size (sb + 1) sb (createAll [] (ins.take k)) []) ∧ Hid (Fr (fun k => k = W.heap.size) wx wr)) (fun i _ => ins.length - (intOf i).toNat)
    case atStart => exact ⟨0, rfl, Nat.zero_le _, Lib.hid (by simpa [createAll] using HCX.out), Lib.hid (Fr.refl _ _)⟩
    case round =>
      clear HCX
      obtain ⟨k, rfl, hk, hC, hF⟩ := hrel
      have hinr := HINX.out.keep hF.out (fun k _ (q : k < W.heap.size) z => by have z' : k = W.heap.size := z; omega) (fun k q z => by have z' : k = W.heap.size := z; have := (HOWN.out k q).1; omega)
      by_cases hlt : k < ins.length
      · obtain ⟨t, ht⟩ : ∃ t, ins[k]? = some t := ⟨_, List.getElem?_eq_getElem hlt⟩
        obtain ⟨g, cap, A1, c1, A2, c2, hv, htab, e0, e1, e2, e3, _⟩ := hinr.at_ ht
        injection hv with hv1 hv2 hv3
        subst hv1
        have HTAB := Lib.hid htab
        have HTO := Lib.hid (HOK.out t (List.mem_of_getElem? ht))
        have HST := Lib.hid (createAll_step [] ins k t ht)
        have t1 : decide ((k : Int) < (ins.length : Int)) = true := by simp; omega
        have t2 : decide (k < ins.length) = true := by simp; omega
        have HLO := Lib.hid hC.out.hi.2.2.2.2
        clear hinr ht htab hv2 hv3
        go_wp2_with (first | (go_at_call 17; go_loud (refine (ccreate_any (fun k => sb + 2 ≤ k) _ _ _ (createAll [] (ins.take k)) _ t _ hC.out.c1 HTAB.out HTO.out.fit HTO.out.len HTO.out.ilen (fun k hk => by have := HLO.out; omega)).mono ?_; rintro e w4 ⟨rfl, hI4, hf4⟩; have HC4 := Lib.hid (hC.out.one hf4 hI4); have HF4 := Lib.hid hf4; clear hI4 hf4)) | fail)
        go_roundw
        case rel => exact ⟨k + 1, by go_num, by omega, Lib.hid (by rw [HST.out]; exact HC4.out), Lib.hid (hF.out.trans HF4.out (fun _ _ q => q))⟩
        case measure => simp [intOf]; omega
      · have hkk : ins.take k = ins := List.take_of_length_le (by omega)
        rw [hkk] at hC
        have t1 : decide ((k : Int) < (ins.length : Int)) = false := by simp; omega
        have t2 : decide (k < ins.length) = false := by simp; omega
        have HINR := Lib.hid hinr
        have hx1 := hF.out.keep HX1.out (by omega)
        obtain ⟨y0, y1, y2, y3, _⟩ := cells4 hx1
        have HXT := Lib.hid (HX0.out.keep hF.out (fun k _ (q : wc.heap.size ≤ k) z => by have z' : k = W.heap.size := z; omega))
        have HLO := Lib.hid hC.out.hi.2.2.2.2
        have HEX := Lib.hid (extraT_ok hd)
        clear hkk hinr hx1 HX0 HX1 HINX
        go_upto_block 4 with (first | (go_at_call 17; go_loud (refine (ccreate_any (fun k => sb + 2 ≤ k) _ _ _ [] _ (extraT d) _ hC.out.c2 HXT.out HEX.out.fit HEX.out.len HEX.out.ilen (fun k hk => by have := HLO.out; omega)).mono ?_; rintro e w4 ⟨rfl, hI4, hf4⟩; have HC4 := Lib.hid (hC.out.two hf4 hI4); have HF4 := Lib.hid hf4; clear hI4 hf4)) | fail)
        have HIN4 := Lib.hid (HINR.out.keep HF4.out (fun k _ (q : k < W.heap.size) z => by have z' : k = sb := z; omega) (fun k q z => by have z' : k = sb := z; have := (HOWN.out k q).1; omega))
        generalize hz0 : (ccreate [] (extraT d)).1 = z0 at *
        have HZ0 := Lib.hid hz0
        clear hz0 hF HINR HXT HLO y0 y1 y2 y3
        go_wp2_with fail
        go_loopw [13] (fun i wr => ∃ (r : Nat) (z : Int), i = .int .i64 z ∧ z = (r : Int) - 1 ∧ r ≤ ins.length ∧ Hid (TwoC W wr (sb + 2) (W.heap.size + 1) W.heap.size (sb + 1) sb (createAll [] ins) (createAll (ccreate [] (extraT d)).2 (ins.drop r).reverse)) ∧ Hid (Fr (fun k => k = sb) w4 wr)) (fun i _ => (intOf i + 1).toNat)
        case atStart => exact ⟨ins.length, _, rfl, rfl, Nat.le_refl _, Lib.hid (by simpa [createAll] using HC4.out), Lib.hid (Fr.refl _ _)⟩
        case round =>
          clear HC4
          obtain ⟨r, z, rfl, hz, hr, hC5, hF5⟩ := hrel
          cases r with
          | succ r =>
            obtain rfl : z = (r : Int) := by omega
            obtain ⟨t, ht⟩ : ∃ t, ins[r]? = some t := ⟨_, List.getElem?_eq_getElem (by omega)⟩
            obtain ⟨g, cap, A1, c1, A2, c2, hv, htab, e0, e1, e2, e3, _⟩ := (HIN4.out.keep hF5.out (fun k _ (q : k < W.heap.size) z => by have z' : k = sb := z; omega) (fun k q z => by have z' : k = sb := z; have := (HOWN.out k q).1; omega)).at_ ht
            injection hv with hv1 hv2 hv3
            subst hv1
            have HTAB := Lib.hid htab
            have HTO := Lib.hid (HOK.out t (List.mem_of_getElem? ht))
            have HST := Lib.hid (createAll_down (ccreate [] (extraT d)).2 ins r t ht)
            have t1 : decide ((0 : Int) ≤ (r : Int)) = true := by simp
            have HLO := Lib.hid hC5.out.hi.2.2.2.2
            clear ht htab hv2 hv3 hz
            go_wp2_with (first | (go_at_call 17; go_loud (refine (ccreate_any (fun k => sb + 2 ≤ k) _ _ _ _ _ t _ hC5.out.c2 HTAB.out HTO.out.fit HTO.out.len HTO.out.ilen (fun k hk => by have := HLO.out; omega)).mono ?_; rintro e w5 ⟨rfl, hI5, hf5⟩; have HC6 := Lib.hid (hC5.out.two hf5 hI5); have HF6 := Lib.hid hf5; clear hI5 hf5)) | fail)
            go_roundw
            case rel => exact ⟨r, _, rfl, rfl, by omega, Lib.hid (by rw [HST.out]; exact HC6.out), Lib.hid (hF5.out.trans HF6.out (fun _ _ q => q))⟩
            case measure => simp [intOf]
          | zero =>
            obtain rfl : z = -1 := by omega
            have t1 : decide ((0 : Int) ≤ -1) = false := rfl
            rw [List.drop_zero] at hC5
            have hl1 := HLAW.out.1
            have hl2 := HLAW.out.2
            have hnx : (extraT d).name = d := rfl
            rw [hnx] at hl1 hl2
            clear hnx HLAW hz
            generalize createAll (ccreate [] (extraT d)).2 ins.reverse = CB at *
            generalize createAll [] ins = CA at *
            have HL1 := Lib.hid hl1
            generalize hz1 : (cdrop CB d).1 = z1 at *
            have HZ1 := Lib.hid hz1
            clear hl1 hz1
            obtain ⟨se, fe, hse⟩ : ∃ se fe, cenc CA = (se, fe) := ⟨_, _, rfl⟩
            have HEN := Lib.hid hse
            have q2 : (se.toList == se.toList) = true := by simp
            have T2 : True := trivial
            have T1 : True := trivial
            clear hse
            by_cases hzz : z0 = 0
            · have q0 : (z0 == 0) = true := by simp [hzz]
              have q1 : (z1 == 0) = true := by simp [hl2.2 hzz]
              clear hl2 hzz
              go_wp2_with (first | (go_at_call 18; go_loud (refine (cdrop_any (fun k => sb + 2 ≤ k) _ _ CB d _ hC5.out.c2).mono ?_; rintro e w5 ⟨rfl, hI5, hf5⟩; rw [HL1.out] at hI5; rw [HZ1.out]; have HC6 := Lib.hid (hC5.out.two hf5 hI5); clear hI5 hf5)) | (go_at_call 19; clear T1; go_loud (refine (cenc_any _ _ _ CA _ HC6.out.c1).mono ?_; rintro e w6 ⟨rfl, hf6⟩; rw [HEN.out]; have HC7 := Lib.hid (HC6.out.later hf6); clear hf6)) | (go_at_call 19; go_loud (refine (cenc_any _ _ _ CA _ HC7.out.c2).mono ?_; rintro e w7 ⟨rfl, hf7⟩; rw [HEN.out]; have HC8 := Lib.hid (HC7.out.later hf7); clear hf7)) | (go_at_call 21; clear T2; go_loud (refine (cnames_any _ _ _ CA _ HC8.out.c1).mono ?_; rintro e w8 ⟨v8, rfl, ho8, hf8⟩; have HC9 := Lib.hid (HC8.out.later hf8); have HR8 := Lib.hid (rd_names ho8); clear hf8 ho8)) | (go_at_call 21; go_loud (refine (cnames_any _ _ _ CA _ HC9.out.c2).mono ?_; rintro e w9 ⟨v9, rfl, ho9, hf9⟩; have HC10 := Lib.hid (HC9.out.later hf9); have HR8b := Lib.hid (HR8.out.keep hf9 (fun _ _ z => z)); have HR9 := Lib.hid (rd_names ho9); clear hf9 ho9)) | (go_at_call 20; go_loud (refine (texts_any _ _ (CA.map Prod.fst) _ HR8b.out HR9.out (by have := HC10.out.c1.few; rw [List.length_map]; omega)).mono ?_; rintro e w10 ⟨rfl, hf10⟩)) | fail)
              go_ret
              exact ⟨by simp, HC10.out.fr.trans hf10 (fun _ _ z => z)⟩
            · have q0 : (z0 == 0) = false := by simp [hzz]
              have q1 : (z1 == 0) = false := by simp; exact fun q => hzz (hl2.1 q)
              clear hl2 hzz
              go_wp2_with (first | (go_at_call 18; go_loud (refine (cdrop_any (fun k => sb + 2 ≤ k) _ _ CB d _ hC5.out.c2).mono ?_; rintro e w5 ⟨rfl, hI5, hf5⟩; rw [HL1.out] at hI5; rw [HZ1.out]; have HC6 := Lib.hid (hC5.out.two hf5 hI5); clear hI5 hf5)) | (go_at_call 19; clear T1; go_loud (refine (cenc_any _ _ _ CA _ HC6.out.c1).mono ?_; rintro e w6 ⟨rfl, hf6⟩; rw [HEN.out]; have HC7 := Lib.hid (HC6.out.later hf6); clear hf6)) | (go_at_call 19; go_loud (refine (cenc_any _ _ _ CA _ HC7.out.c2).mono ?_; rintro e w7 ⟨rfl, hf7⟩; rw [HEN.out]; have HC8 := Lib.hid (HC7.out.later hf7); clear hf7)) | (go_at_call 21; clear T2; go_loud (refine (cnames_any _ _ _ CA _ HC8.out.c1).mono ?_; rintro e w8 ⟨v8, rfl, ho8, hf8⟩; have HC9 := Lib.hid (HC8.out.later hf8); have HR8 := Lib.hid (rd_names ho8); clear hf8 ho8)) | (go_at_call 21; go_loud (refine (cnames_any _ _ _ CA _ HC9.out.c2).mono ?_; rintro e w9 ⟨v9, rfl, ho9, hf9⟩; have HC10 := Lib.hid (HC9.out.later hf9); have HR8b := Lib.hid (HR8.out.keep hf9 (fun _ _ z => z)); have HR9 := Lib.hid (rd_names ho9); clear hf9 ho9)) | (go_at_call 20; go_loud (refine (texts_any _ _ (CA.map Prod.fst) _ HR8b.out HR9.out (by have := HC10.out.c1.few; rw [List.length_map]; omega)).mono ?_; rintro e w10 ⟨rfl, hf10⟩)) | fail)
              go_ret
              exact ⟨by simp, HC10.out.fr.trans hf10 (fun _ _ z => z)⟩
end Go.Proofs.Ythmjjbgjbcnjmaa
