import Derived.Test.YthmjjbgjbcnjmaaTg
namespace Go.Proofs.Ythmjjbgjbcnjmaa
open Go.RowKit Go.Hop
attribute [local go_sem ↓] Go.wp_at_zero Go.wp_at_succ

theorem look87 {w : World} {m : Nat} {al : List (ByteArray × Value)} (h : MapIs w m al) (n : ByteArray) : (Instr.lookup 87 (.map (some m)) (.string n) true).run Try.prog w = .ok (.tuple #[(get al n).getD (.agg #[.string ⟨#[]⟩, .slice none 0 0, .int .i64 0, .slice none 0 0]), .bool (get al n).isSome]) w := by
  have := h.look (P := Try.prog) Try.underlying87 Try.underlying9 zero41 n true
  simpa using this

theorem mem_put {β : Type} {l : List (ByteArray × β)} {k : ByteArray} {v : β} {q : ByteArray × β} (h : q ∈ put l k v) : q = (k, v) ∨ q ∈ l := by
  induction l with
  | nil => simp [put] at h; exact .inl h
  | cons p t ih =>
    obtain ⟨a, b⟩ := p
    simp only [put] at h
    split at h
    · next e =>
      subst e
      rcases List.mem_cons.1 h with h | h
      · exact .inl h
      · exact .inr (List.mem_cons_of_mem _ h)
    · rcases List.mem_cons.1 h with h | h
      · exact .inr (h ▸ List.mem_cons_self)
      · rcases ih h with q | q
        · exact .inl q
        · exact .inr (List.mem_cons_of_mem _ q)
theorem create_end {K : Nat → Prop} {a m : Nat} {l : Cat} {t : Tab} {w w4 w5 w6 : World} {r : Value} {ml : List ME} (hK : ∀ k, w.heap.size ≤ k → K k) (hI : IsC w4 K a m l) (hw : Fr no w w4) (h5 : Fr no w4 w5) (hr : TabAt w5 (fun k => w4.heap.size ≤ k) r t) (hfit : TabFit t) (hck : checkT t = true) (g1 : get l t.name = none) (hfull : ¬ 4096 ≤ l.length)
    (hrel : Rel (mapv Prod.snd ml) l) (htab : ∀ e ∈ ml, TabAt w4 K e.2.1 e.2.2) (hm6 : MapIs w6 m (put (mapv Prod.fst ml) t.name r)) (h6 : Fr (fun k => k = m) w5 w6) : IsC w6 K a m (sput l t.name t) ∧ Fr (fun k => k = m) w w6 := by
  have hsz := hw.size
  refine ⟨⟨h6.keep (h5.keep hI.blk id) hI.ne, ⟨put ml t.name (r, t), by rw [← put_mapv]; exact hm6, by rw [← put_mapv]; exact hrel.put _ _, fun e he => ?_⟩, hI.ne, hI.nk, ?_, fun p hp => ?_⟩, ((hw.mono (fun _ _ q => q.elim)).trans h5 (fun _ _ q => q.elim)).trans h6 (fun _ _ q => q)⟩
  · rcases mem_put he with rfl | he
    · exact (hr.mono (K' := K) (fun k _ q => hK k (by omega))).keep h6 (fun k _ q z => hI.nk (z ▸ q))
    · exact ((htab e he).keep h5 (fun _ _ _ q => q)).keep h6 (fun k _ q z => hI.nk (z ▸ q))
  · rw [len_sput hrel.srt, g1]; simp; omega
  · rcases mem_sput hp with rfl | hp
    · exact ⟨hck, rfl, hfit⟩
    · exact hI.good p hp

set_option maxHeartbeats 2000000 in
set_option maxRecDepth 100000 in
theorem ccreate_any (K K' : Nat → Prop) (a m : Nat) (l : Cat) (val : Value) (t : Tab) (w : World) (h : IsC w K a m l) (ht : TabAt w K' val t) (hf : TabFit t) (hlen : t.cols.length ≤ 2199023255552 ∧ t.idx.length ≤ 2199023255552) (hxl : ∀ x ∈ t.idx, x.cols.length ≤ 2199023255552)
    (hK : ∀ k, w.heap.size ≤ k → K k) :
    Calls Try.prog 17 #[.pointer (some ⟨a, 0, none⟩), val] w fun e w' => e = .returned (.int .i64 (ccreate l t).1) ∧ IsC w' K a m (ccreate l t).2 ∧ Fr (fun k => k = m) w w' := by
  have H := Lib.hid h
  have HT := Lib.hid ht
  have hlt := h.lt
  have hl1 := hlt.1
  obtain ⟨vc, vi, svs, rfl, hc, hi⟩ := ht.ex
  obtain ⟨A1, c1, rfl, _⟩ := hc.rc.form
  obtain ⟨A2, c2, rfl, _⟩ := hi.row.rc.form
  clear h ht hc hi
  cases hck : checkT t with
  | false =>
    have Hr := Lib.hid (show ccreate l t = (140, l) by simp [ccreate, hck])
    have He := Lib.hid (show errT t = 140 by simp [errT, hck])
    go_enter Try.func17, Try.ntmps17
    go_wp2_with (first | (go_at_call 27; go_loud (refine (check_any K' _ t _ (HT.out.later ((Fr.refl no w).alloc _)) hf).mono ?_; rintro e w1 ⟨rfl, hf1⟩; rw [He.out])) | fail)
    go_ret
    rw [Hr.out]
    have hfr := ((Fr.refl no w).alloc _).trans hf1 (fun _ _ z => z)
    exact ⟨rfl, H.out.later hfr, hfr.mono (fun _ _ q => q.elim)⟩
  | true =>
    have He := Lib.hid (show errT t = 0 by simp [errT, hck])
    go_enter Try.func17, Try.ntmps17
    go_wp2_with (first | (go_at_call 27; go_loud (refine (check_any K' _ t _ (HT.out.later ((Fr.refl no w).alloc _)) hf).mono ?_; rintro e w1 ⟨rfl, hf1⟩; rw [He.out])) | fail)
    obtain ⟨x0, x1, x2, x3, x4⟩ := cells4 (hf1.keep (heap_alloc_at w _) id)
    have hW := ((Fr.refl no w).alloc _).trans hf1 (fun _ _ z => z)
    have HW := Lib.hid hW
    have H1 := Lib.hid (H.out.later hW)
    clear hf1 hW
    obtain ⟨ml, hm, hrel, htab⟩ := H1.out.map
    have hc0 : w1.cell? ⟨a, 0, none⟩ = some (.map (some m)) := cells_at H1.out.blk 0 _ rfl
    have hcnt := fun (w' : World) (hf : Fr no w1 w') => (hm.keep hf id).count (P := Try.prog) Try.underlying87 3
    rcases IsC.at_ hrel htab t.name with ⟨g1, g2⟩ | ⟨t', B1, n1, d1, B2, n2, d2, g1, g2, g3⟩
    · have hS : ∀ w', Fr no w1 w' → (w'.cell? ⟨w.heap.size, 0, none⟩ = some (.string t.name) ∧ w'.cell? ⟨a, 0, none⟩ = some (.map (some m)) ∧ (Instr.lookup 87 (.map (some m)) (.string t.name) true).run Try.prog w' = .ok (.tuple #[.agg #[.string ⟨#[]⟩, .slice none 0 0, .int .i64 0, .slice none 0 0], .bool false]) w') := fun w' hf => ⟨hf.cell x0 id, hf.cell hc0 id, by have := look87 (hm.keep hf id) t.name; rw [g2] at this; exact this⟩
      have HS := Lib.hid hS
      have HM := Lib.hid hm
      have HRel := Lib.hid hrel
      have HTab := Lib.hid htab
      have HCN := Lib.hid hcnt
      clear hS hm hcnt g2 hrel htab
      have hfz := Fr.drew (Fr.alloc (Fr.refl no w1) (.cells #[.string ⟨#[]⟩, .slice none 0 0, .int .i64 0, .slice none 0 0] 41))
      have HFZ := Lib.hid hfz
      have hln : (mapv Prod.fst ml).length = l.length := by have := HRel.out.length; simpa [mapv] using this
      have hcn := HCN.out _ hfz
      rw [hln] at hcn
      obtain ⟨y0, y1, y2⟩ := HS.out _ hfz
      have hl4 := H.out.few
      clear hfz hln
      by_cases hfull : 4096 ≤ l.length
      · have Hr := Lib.hid (show ccreate l t = (2, l) by simp [ccreate, hck, g1, hfull])
        have t1 : decide ((4096 : Int) ≤ (l.length : Int)) = true := by simp; omega
        go_region_held3 (fun w' => w'.cell? ⟨w.heap.size, 0, none⟩ = some (.string t.name) ∧ w'.cell? ⟨a, 0, none⟩ = some (.map (some m)) ∧ (Instr.lookup 87 (.map (some m)) (.string t.name) true).run Try.prog w' = .ok (.tuple #[.agg #[.string ⟨#[]⟩, .slice none 0 0, .int .i64 0, .slice none 0 0], .bool false]) w') (first | (exact HS.out _ (Fr.refl no _)) | (exact HS.out _ (Fr.drew (Fr.refl no _))) | (exact HS.out _ (Fr.alloc (Fr.drew (Fr.refl no _)) _))) (fail)
        all_goals go_wp2_with fail
        all_goals go_ret
        all_goals rw [Hr.out]
        all_goals exact ⟨rfl, H1.out.later HFZ.out, (HW.out.trans HFZ.out (fun _ _ z => z)).mono (fun _ _ q => q.elim)⟩
      · have Hr := Lib.hid (show ccreate l t = (0, sput l t.name t) by simp [ccreate, hck, g1, hfull])
        have t1 : decide ((4096 : Int) ≤ (l.length : Int)) = false := by simp; omega
        have h9 := HFZ.out.cell x1 id
        have h10 := HFZ.out.cell x2 id
        have h11 := HFZ.out.cell x3 id
        have hpm : w.heap.size ≠ m := by have := hlt.2; omega
        have ham : a ≠ m := H.out.ne
        go_region_held3 (fun w' => w'.cell? ⟨w.heap.size, 0, none⟩ = some (.string t.name) ∧ w'.cell? ⟨a, 0, none⟩ = some (.map (some m)) ∧ (Instr.lookup 87 (.map (some m)) (.string t.name) true).run Try.prog w' = .ok (.tuple #[.agg #[.string ⟨#[]⟩, .slice none 0 0, .int .i64 0, .slice none 0 0], .bool false]) w') (first | (exact HS.out _ (Fr.refl no _)) | (exact HS.out _ (Fr.drew (Fr.refl no _))) | (exact HS.out _ (Fr.alloc (Fr.drew (Fr.refl no _)) _))) (fail)
        all_goals go_wp2_with fail
        all_goals go_region_held3 (fun w' => w'.cell? ⟨w.heap.size, 0, none⟩ = some (.string t.name) ∧ w'.cell? ⟨w.heap.size, 1, none⟩ = some (.slice A1 t.cols.length c1) ∧ w'.cell? ⟨w.heap.size, 2, none⟩ = some (.int .i64 t.key) ∧ w'.cell? ⟨w.heap.size, 3, none⟩ = some (.slice A2 t.idx.length c2) ∧ w'.cell? ⟨a, 0, none⟩ = some (.map (some m))) (first | (exact ⟨hf6.cell hS5.1 hpm, hf6.cell hS5.2.1 hpm, hf6.cell hS5.2.2.1 hpm, hf6.cell hS5.2.2.2.1 hpm, hf6.cell hS5.2.2.2.2 ham⟩) | (exact hS5) | (exact ⟨y0, h9, h10, h11, y1⟩)) (first | (go_at_call 55; go_loud (refine (own_any K' _ t _ ((HT.out.later HW.out).later (Fr.drew HFZ.out)) hf hlen hxl).mono ?_; rintro e w5 ⟨r, rfl, hr5, hf5⟩; obtain ⟨w6, hst, hm6, hf6⟩ := ((HM.out.keep (Fr.drew HFZ.out) id).keep hf5 id).store (P := Try.prog) Try.underlying87 Try.underlying9 t.name r; have hS5 := And.intro (hf5.cell (show World.cell? _ _ = _ from y0) id) (And.intro (hf5.cell (show World.cell? _ _ = _ from h9) id) (And.intro (hf5.cell (show World.cell? _ _ = _ from h10) id) (And.intro (hf5.cell (show World.cell? _ _ = _ from h11) id) (hf5.cell (show World.cell? _ _ = _ from y1) id)))))))
        all_goals go_wp2
        all_goals go_ret
        all_goals rw [Hr.out]
        all_goals exact ⟨rfl, create_end hK (H1.out.later (Fr.drew HFZ.out)) (HW.out.trans (Fr.drew HFZ.out) (fun _ _ z => z)) hf5 hr5 hf hck g1 hfull HRel.out (fun e he => (HTab.out e he).later (Fr.drew HFZ.out)) hm6 hf6⟩
    · have hS : ∀ w', Fr no w1 w' → (w'.cell? ⟨w.heap.size, 0, none⟩ = some (.string t.name) ∧ w'.cell? ⟨a, 0, none⟩ = some (.map (some m)) ∧ (Instr.lookup 87 (.map (some m)) (.string t.name) true).run Try.prog w' = .ok (.tuple #[.agg #[.string t'.name, .slice B1 n1 d1, .int .i64 t'.key, .slice B2 n2 d2], .bool true]) w') := fun w' hf => ⟨hf.cell x0 id, hf.cell hc0 id, by have := look87 (hm.keep hf id) t.name; rw [g3] at this; exact this⟩
      have HS := Lib.hid hS
      have Hr := Lib.hid (show ccreate l t = (6, l) by simp [ccreate, hck, g1])
      clear hS hm hcnt g2 g3 hrel htab
      go_region_held3 (fun w' => w'.cell? ⟨w.heap.size, 0, none⟩ = some (.string t.name) ∧ w'.cell? ⟨a, 0, none⟩ = some (.map (some m)) ∧ (Instr.lookup 87 (.map (some m)) (.string t.name) true).run Try.prog w' = .ok (.tuple #[.agg #[.string t'.name, .slice B1 n1 d1, .int .i64 t'.key, .slice B2 n2 d2], .bool true]) w') (first | (exact HS.out _ (Fr.refl no _)) | (exact HS.out _ (Fr.drew (Fr.refl no _))) | (exact HS.out _ (Fr.alloc (Fr.drew (Fr.refl no _)) _)) | (exact HS.out _ (Fr.drew (Fr.alloc (Fr.refl no _) _)))) (fail)
      all_goals go_wp2_with fail
      all_goals go_ret
      all_goals rw [Hr.out]
      all_goals exact ⟨rfl, H1.out.later (Fr.drew (Fr.alloc (Fr.refl no w1) _)), (HW.out.trans (Fr.drew (Fr.alloc (Fr.refl no w1) _)) (fun _ _ z => z)).mono (fun _ _ q => q.elim)⟩
end Go.Proofs.Ythmjjbgjbcnjmaa
