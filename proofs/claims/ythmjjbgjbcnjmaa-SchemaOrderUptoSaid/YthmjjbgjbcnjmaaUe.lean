import Derived.Test.YthmjjbgjbcnjmaaUd
import Derived.Test.YthmjjbgjbcnjmaaTj
import Derived.Lib.BufferRead
namespace Go.Proofs.Ythmjjbgjbcnjmaa
open Go.RowKit Go.Hop

theorem flat_le {α : Type} (f : α → List UInt8) (c : Nat) : ∀ (l : List α), (∀ x ∈ l, (f x).length ≤ c) → (l.flatMap f).length ≤ l.length * c
  | [], _ => by simp
  | x :: l, h => by
    have h1 := h x List.mem_cons_self
    have h2 := flat_le f c l (fun y hy => h y (List.mem_cons_of_mem _ hy))
    rw [List.flatMap_cons, List.length_append, List.length_cons, Nat.add_mul, Nat.one_mul]; omega
theorem textB_len {s : ByteArray} (h : namedS s = true) : (textB s).length ≤ 40 := by
  have := namedS_size h
  rw [textB, List.length_append, leN_length, bl_len]; omega
theorem tabB_len {t : Tab} (h : checkT t = true) : (tabB t).length ≤ 5000 := by
  obtain ⟨⟨c1, c2, c3, c4, c5, c6⟩, c7, c8⟩ := check_parts h
  have h1 := textB_len c1
  have h2 := flat_le colB 48 t.cols (fun c hc => by
    have := textB_len (c7 c hc).1
    rw [colB, List.length_append, leN_length]; omega)
  have h3 := flat_le ixB 305 t.idx (fun x hx => by
    obtain ⟨z1, z2, z3, z4⟩ := c8 x hx
    have h4 := textB_len z1
    have h5 := flat_le (fun n : Int => leN 8 n.toNat) 8 x.cols (fun n _ => by rw [leN_length]; exact Nat.le_refl _)
    rw [ixB]
    simp only [List.length_append, leN_length, numsB, List.length_cons, List.length_nil]
    omega)
  rw [tabB]
  simp only [List.length_append, leN_length]
  omega
theorem tab_good {t : Tab} (h : checkT t = true) : TabGood t := by
  obtain ⟨⟨c1, c2, c3, c4, c5, c6⟩, c7, c8⟩ := check_parts h
  exact ⟨by omega, fun x hx => by have := c7 x hx; omega, by omega, by omega, fun x hx => ⟨by have := (c8 x hx).2.2.1; omega, fun n hn => by have := (c8 x hx).2.2.2 n hn; omega⟩⟩

/-- a row of bytes as a string -/
theorem conv_back {w : World} {base n : Nat} {v : Value} {l : List UInt8} (h : w.ownsRow base 5 1 v n (l.map encB)) (hn : n = l.length) : (convert 98 9 v).run Try.prog w = .ok (.string ⟨l.toArray⟩) w := by
  subst hn
  rcases h.2 with ⟨rfl, h0⟩ | ⟨g, cap, cur, rfl, hb, hg, _⟩
  · have : l = [] := List.eq_nil_of_length_eq_zero h0
    subst this
    exact Lib.run_convert_nil_bytes (P := Try.prog) w 98 9 5 0 Try.underlying98 Try.underlying5 Try.underlying9
  · refine run_convert_bytes_back (P := Try.prog) w 98 9 5 ⟨g, 0, none⟩ cap l Try.underlying98 Try.underlying5 Try.underlying9 (fun j hj => ?_)
    exact h.cells (g := g) rfl j _ (by rw [List.getElem?_map, List.getElem?_eq_getElem hj]; rfl)

set_option maxHeartbeats 1000000 in
set_option maxRecDepth 100000 in
theorem puttab_any (base : Nat) (K : Nat → Prop) (vb val : Value) (lb : List UInt8) (t : Tab) (w : World) (ho : w.ownsRow base 5 1 vb lb.length (lb.map encB)) (hbs : base ≤ w.heap.size) (hv : TabAt w K val t) (hck : checkT t = true) (hl : lb.length ≤ 33554432) :
    Calls Try.prog 56 #[vb, val] w fun e w' => ∃ v', e = .returned v' ∧ w'.ownsRow base 5 1 v' (lb ++ tabB t).length ((lb ++ tabB t).map encB) ∧ Fr (fun k => vb.ownBlock = some k) w w' := by
  have HO := Lib.hid ho
  have HLT := Lib.hid (fun k hk => (ho.lt k hk).2)
  have HV := Lib.hid (hv.mono (K' := fun k => k < w.heap.size) (fun k hk _ => hk))
  have HT := Lib.hid (tabB_len hck)
  have HG := Lib.hid (tab_good hck)
  obtain ⟨vc, vi, svs, rfl, hc, hi⟩ := hv.ex
  obtain ⟨Ac, cc, rfl, hcc⟩ := hc.rc.form
  obtain ⟨Ai, ci, rfl, hci⟩ := hi.row.rc.form
  generalize hN : lb.length = N at *
  have HN := Lib.hid hN
  obtain ⟨A, c, rfl⟩ := owns_slice ho
  clear ho hv hck hc hi hN
  go_enter Try.func56, Try.ntmps56
  have hf0 := Fr.alloc (Fr.alloc (Fr.refl no w) (.cells #[.string t.name, .slice Ac t.cols.length cc, .int .i64 t.key, .slice Ai t.idx.length ci] 41)) (.cells #[.slice none 0 0, .bool false] 135)
  have HF0 := Lib.hid hf0
  clear hf0
  have hW0 : WrAt ((w.alloc (.cells #[.string t.name, .slice Ac t.cols.length cc, .int .i64 t.key, .slice Ai t.idx.length ci] 41)).alloc (.cells #[.slice none 0 0, .bool false] 135)) w.heap.size (w.heap.size + 1) [] :=
    ⟨⟨.slice none 0 0, by simpa using heap_alloc_at (w.alloc (.cells #[.string t.name, .slice Ac t.cols.length cc, .int .i64 t.key, .slice Ai t.idx.length ci] 41)) (.cells #[.slice none 0 0, .bool false] 135), World.ownsRow_nil _ _ 5 1⟩, by omega⟩
  have HW0 := Lib.hid hW0
  clear hW0
  go_wp2_with (first | (go_at_call 87; go_loud (refine (wtab_any w.heap.size (w.heap.size + 1) (fun k => k < w.heap.size) _ t [] _ HW0.out (HV.out.keep HF0.out (fun _ _ _ z => z)) (fun k q => q) HG.out (by have := HT.out; simp; omega)).mono ?_; rintro e w1 ⟨rfl, hW1, hF1⟩; obtain ⟨v1, hb1, ho1⟩ := hW1.ex; have hsz1 := hF1.size; have HO2 := Lib.hid ((hF1.owns (HF0.out.owns HO.out (fun _ _ z => z)) (fun k hk => wm_old (HLT.out k hk) (by omega)))); rw [List.nil_append] at ho1; generalize hM : (tabB t).length = M at *; have hM2 : M ≤ 5000 := (by have := HT.out; omega); have HM := Lib.hid hM; obtain ⟨A1, c1, rfl⟩ := owns_slice ho1; have x0 : w1.cell? ⟨w.heap.size + 1, 0, none⟩ = some (.slice A1 M c1) := cells_at hb1 0 _ rfl; have HO1 := Lib.hid (Rc.of_owns ho1 (fun u hu => by obtain ⟨z, _, rfl⟩ := List.mem_map.1 hu; rfl)); have HF1 := Lib.hid hF1; clear hF1 hW1 hb1 ho1 hM HV HG HT)) | (at_builtin; go_loud (refine wp_append rfl (.tmp 11) (.tmp 15) 98 rfl El98 (.slice A N c) N _ rfl HO2.out _ M _ rfl HO1.out (by unfold maxLen; omega) (by omega) (by simp at hsz1; omega) ?_; intro v2 w2 ho2 hg2 hloc2; have HO3 := Lib.hid ho2; have HG2 := Lib.hid hg2; clear ho2 hg2 hloc2)) | fail)
  go_ret
  refine ⟨v2, rfl, ?_, ?_⟩
  · have h := HO3.out
    rw [← List.map_append, ← HN.out, ← HM.out, ← List.length_append] at h
    exact h
  · exact (((HF0.out.mono (fun _ _ q => q.elim)).trans HF1.out (fun i hi q => by
      rcases q with q | ⟨q, _⟩
      · omega
      · omega)).trans (Fr.grown HG2.out) (fun i hi q => q.symm))

theorem catB_step (l : Cat) (k : Nat) (p : ByteArray × Tab) (h : l[k]? = some p) : catB (l.take (k + 1)) = catB (l.take k) ++ tabB p.2 := by
  rw [List.take_add_one, h]; simp [catB]
theorem catB_len (l : Cat) (h : ∀ p ∈ l, checkT p.2 = true) : (catB l).length ≤ l.length * 5000 := flat_le _ _ l (fun p hp => tabB_len (h p hp))
theorem IsC.srt {K : Nat → Prop} {w : World} {a m : Nat} {l : Cat} (h : IsC w K a m l) : Srt l := by
  obtain ⟨ml, _, h2, _⟩ := h.map; exact h2.srt

set_option maxHeartbeats 1000000 in
set_option maxRecDepth 100000 in
theorem cenc_any (K : Nat → Prop) (a m : Nat) (l : Cat) (w : World) (h : IsC w K a m l) :
    Calls Try.prog 19 #[.pointer (some ⟨a, 0, none⟩)] w fun e w' => e = .returned (.tuple #[.string (cenc l).1, .int .i64 (cenc l).2]) ∧ Fr no w w' := by
  have H := Lib.hid h
  have hfew := h.few
  have hlt := h.lt
  have hne := h.ne
  clear h
  go_enter Try.func19, Try.ntmps19
  go_wp2_with (first | (go_at_call 21; go_loud (refine (cnames_any K a m l _ H.out).mono ?_; rintro e w1 ⟨v, rfl, ho1, hf1⟩; obtain ⟨An, cn, rfl⟩ := owns_slice ho1; have HO1 := Lib.hid ho1; have HF1 := Lib.hid hf1; clear ho1 hf1)) | fail)
  go_loopw [4, 10] (fun vb i wr => ∃ k : Nat, k ≤ l.length ∧ i = .int .i64 k ∧ Hid (wr.ownsRow w.heap.size 5 1 vb (catB (l.take k)).length ((catB (l.take k)).map encB)) ∧ Hid (wr.ownsRow w.heap.size 9 1 (.slice An l.length cn) l.length (l.map (fun p => Value.string p.1))) ∧ Hid (Fr no w wr)) (fun _ i _ => l.length - (intOf i).toNat)
  case atStart => exact ⟨0, Nat.zero_le _, rfl, Lib.hid (World.ownsRow_nil _ _ 5 1), HO1, HF1⟩
  case round =>
    clear HO1 HF1
    obtain ⟨k, hk, rfl, hrow, hnam, hF⟩ := hrel
    by_cases hlt2 : k < l.length
    · obtain ⟨⟨n, t⟩, hp⟩ : ∃ p, l[k]? = some p := ⟨_, List.getElem?_eq_getElem hlt2⟩
      obtain ⟨g, cg, hv, hgb, hgs, _⟩ := owns_form hnam.out (by omega)
      injection hv with hv1 hv2 hv3
      subst hv1
      have e0 := owns_at hnam.out (j := k) (u := .string n) (by rw [List.getElem?_map, hp]; rfl)
      have hI := H.out.later hF.out
      obtain ⟨ml, hm, hrel, htab⟩ := hI.map
      have c0 : _ = some (Value.map (some m)) := cells_at hI.blk 0 _ rfl
      have hgt := Hop.get_at H.out.srt k _ hp
      obtain ⟨g1, g2, g3⟩ := H.out.good _ (List.mem_of_getElem? hp)
      have HS := Lib.hid (catB_step l k _ hp)
      have HCL := Lib.hid (catB_len (l.take k) (fun p hp => (H.out.good p (List.mem_of_mem_take hp)).1))
      rcases IsC.at_ hrel htab n with ⟨z1, _⟩ | ⟨t', A1, n1, c1, A2, n2, c2, z1, z2, z3⟩
      · simp only at hgt; rw [hgt] at z1; cases z1
      simp only at hgt
      rw [hgt] at z1
      injection z1 with z1
      subst z1
      have Z2 := Lib.hid z2
      have Z3 := Lib.hid z3
      have HC := Lib.hid g1
      have HM := Lib.hid hm
      have hsz := hF.out.size
      clear hp hI hm hrel htab hgt g1 g2 g3 z2 z3 hv2 hv3
      have t1 : decide ((k : Int) < (l.length : Int)) = true := by simp; omega
      have t2 : decide (k < l.length) = true := by simp; omega
      go_wp2_with (first | (at_lookup; go_loud (refine wp_look rfl _ _ _ rfl HM.out Try.underlying87 Try.underlying9 zero41 rfl _ rfl ?_; rw [Z3.out])) | (go_at_call 56; go_loud (refine (puttab_any w.heap.size K _ _ _ t _ hrow.out hsz Z2.out HC.out (by have := HCL.out; rw [List.length_take] at this; omega)).mono ?_; rintro e w2 ⟨v2, rfl, ho2, hf2⟩; have HO2 := Lib.hid ho2; have HF2 := Lib.hid hf2; clear ho2 hf2)) | fail)
      go_roundw
      case rel =>
        refine ⟨k + 1, by omega, by go_num, Lib.hid (by rw [HS.out]; exact HO2.out), Lib.hid (HF2.out.owns hnam.out (fun q hq z => ?_)), Lib.hid (hF.out.trans HF2.out (fun i hi z => absurd hi (by have := (hrow.out.lt i z).1; omega)))⟩
        obtain ⟨_, cs, fz, u1⟩ := owns_u8 hrow.out q z
        rcases hnam.out.2 with ⟨u2, _⟩ | ⟨g', cap, cur, u2, _, u3, _⟩
        · rw [u2] at hq; cases hq
        · rw [u2] at hq
          injection hq with hq
          subst hq
          rw [u3] at u1
          injection u1 with u1; injection u1 with u4 u5; cases u5
      case measure => simp [intOf]; omega
    · have hkl : l.take k = l := List.take_of_length_le (by omega)
      rw [hkl] at hrow
      have t1 : decide ((k : Int) < (l.length : Int)) = false := by simp; omega
      have t2 : decide (k < l.length) = false := by simp; omega
      have hcv := conv_back hrow.out rfl
      have hN : (catB l).length = (catB l).length := rfl
      have ho := hrow.out
      clear hrow hnam hkl hN
      by_cases hbig : 262144 < (catB l).length
      · have HR := Lib.hid (show cenc l = (⟨#[]⟩, 2) by rw [cenc, if_pos hbig])
        generalize (catB l).length = N at *
        obtain ⟨Ab, cb, rfl⟩ := owns_slice ho
        have u1 : decide ((262144 : Int) < (N : Int)) = true := by simp; omega
        have u2 : decide (262144 < N) = true := by simp; omega
        clear ho hcv
        go_wp2_with fail
        go_ret2
        exact ⟨by rw [HR.out]; rfl, hF.out⟩
      · have HR := Lib.hid (show cenc l = (⟨(catB l).toArray⟩, 0) by rw [cenc, if_neg hbig])
        generalize (catB l).length = N at *
        obtain ⟨Ab, cb, rfl⟩ := owns_slice ho
        have u1 : decide ((262144 : Int) < (N : Int)) = false := by simp; omega
        have u2 : decide (262144 < N) = false := by simp; omega
        clear ho
        go_wp2_with fail
        go_ret2
        exact ⟨by rw [HR.out]; rfl, hF.out⟩
end Go.Proofs.Ythmjjbgjbcnjmaa
