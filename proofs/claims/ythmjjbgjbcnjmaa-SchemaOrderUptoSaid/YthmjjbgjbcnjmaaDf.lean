import Derived.Test.YthmjjbgjbcnjmaaDe
namespace Go.Proofs.Ythmjjbgjbcnjmaa
open Go.RowKit Go.Hop

theorem alter_files (s : DSt) (name : ByteArray) : (dalter s name).2.files = s.files := by
  unfold dalter; split
  · split <;> exact chg_files s
  · rfl
theorem alter_zero {s : DSt} {name : ByteArray} (h : (dalter s name).1 = 0) : dknown s name = 0 := by
  unfold dalter at h; split at h
  · assumption
  · exact h
theorem known_there {s : DSt} {name : ByteArray} (h : dknown s name = 0) : ∃ f, get s.files name = some f := by
  unfold dknown at h
  split at h
  · cases h
  · split at h
    · cases h
    · cases hg : get s.files name with
      | none => rename_i q; exact absurd hg q
      | some f => exact ⟨f, rfl⟩
theorem knownF_of {s : DSt} {name : ByteArray} (h : dknown s name = 0) : knownF s name = fileAt s name := by simp [knownF, h]

theorem IsD.put {w w' : World} {a m : Nat} {s : DSt} {name : ByteArray} {f : File} {al : List (ByteArray × File)} (h : IsD w a m s) (hf : Fr (fun x => x = m) w w') (hrel : Rel al s.files)
    (hm : MapIs w' m (Hop.put (mapv encF al) name (.agg #[.string f.1, .int .i64 f.2]))) (hfit : f.1.size ≤ 262144 ∧ 0 ≤ f.2 ∧ f.2 ≤ f.1.size) (hl : (sput s.files name f).length ≤ 64) (hnm : name.size ≤ 32) :
    IsD w' a m { s with files := sput s.files name f } := by
  obtain ⟨hb, _, hne, hok⟩ := h
  refine ⟨hf.keep hb hne, ⟨Hop.put al name f, ?_, hrel.put name f⟩, hne, ok_put hok name f hfit hl _ rfl hok.short hnm⟩
  rw [← put_mapv]; exact hm
theorem IsD.drop {w w' : World} {a m : Nat} {s : DSt} {name : ByteArray} {al : List (ByteArray × File)} (h : IsD w a m s) (hf : Fr (fun x => x = m) w w') (hrel : Rel al s.files)
    (hm : MapIs w' m (Hop.del (mapv encF al) name)) : IsD w' a m { s with files := Hop.del s.files name } := by
  obtain ⟨hb, _, hne, hok⟩ := h
  refine ⟨hf.keep hb hne, ⟨Hop.del al name, ?_, hrel.del name⟩, hne, ⟨hok.srt.del name, Nat.le_trans (sub_del _ _).length_le hok.few, fun p hp => hok.fit p ((sub_del _ _).subset hp), fun p hp => hok.nam p ((sub_del _ _).subset hp), hok.short⟩⟩
  rw [← del_mapv]; exact hm
theorem len_del {β : Type} {l : List (ByteArray × β)} {k : ByteArray} (h : (get l k).isSome = true) : (del l k).length + 1 = l.length := by
  induction l with
  | nil => simp [Hop.get] at h
  | cons p t ih =>
    obtain ⟨a, b⟩ := p
    simp only [Hop.get, Hop.del] at h ⊢
    by_cases e : a = k
    · simp [e]
    · simp only [e, if_false] at h ⊢
      simp [ih h]
theorem fr_am {w w1 wt w2 : World} {a m : Nat} (h1 : Fr (fun k => k = a ∨ k = m) w w1) (h2 : Fr no w1 wt) (h3 : Fr (fun x => x = m) wt w2) : Fr (fun k => k = a ∨ k = m) w w2 :=
  (h1.trans h2 (fun _ _ q => q.elim)).trans h3 (fun _ _ q => .inr q)

set_option maxHeartbeats 1000000 in
set_option maxRecDepth 100000 in
theorem sync_any (a m : Nat) (s : DSt) (name : ByteArray) (w : World) (h : IsD w a m s) (hn : name.size ≤ 140737488351232) :
    Calls Try.prog 38 #[.pointer (some ⟨a, 0, none⟩), .string name] w (Done w a m (dsync s name)) := by
  have HI := Lib.hid h
  have hlt := h.lt
  have Hfit := Lib.hid (h.ok.file name)
  clear h
  by_cases hz : (dalter s name).1 = 0
  · have hk := alter_zero hz
    obtain ⟨f0, hf0⟩ := known_there hk
    have Hnm := Lib.hid (HI.out.ok.nam _ (get_some_mem hf0))
    have HF := Lib.hid (knownF_of hk)
    have HR := Lib.hid (show dsync s name = (0, { (dalter s name).2 with files := sput s.files name ((fileAt s name).1, (fileAt s name).1.size) }) by simp [dsync, hz])
    have HZ := Lib.hid hz
    have Hlen := Lib.hid (show (sput s.files name ((fileAt s name).1, ((fileAt s name).1.size : Int))).length ≤ 64 by rw [len_sput HI.out.ok.srt, hf0]; exact HI.out.ok.few)
    clear hz hk hf0
    generalize fileAt s name = f at *
    obtain ⟨f1, f2⟩ := f
    have hfit := Hfit.out.1
    simp only at hfit
    go_enter Try.func38, Try.ntmps38
    go_wp2_with (first | (go_at_call 78; refine (altered_any a m s name _ HI.out hn).mono ?_; rintro e w1 ⟨rfl, hI1, hf1⟩; rw [HF.out, HZ.out]; have HI1 := Lib.hid hI1; clear hI1; have hc0 : w1.cell? ⟨a, 0, none⟩ = some (.map (some m)) := cells_at HI1.out.blk 0 _ rfl; have hl1 := HI1.out.lt.1; have hl2 : a ≠ w1.heap.size := by omega) | fail)
    refine wp_region_still_tail 11 (by kernel_rfl) (by kernel_rfl) ?_
    simp only [List.take_succ_cons, List.take_zero, List.drop_succ_cons, List.drop_zero, World.drew_eq]
    repeat still_step
    refine wpStill_nil ?_
    obtain ⟨al, hm, hrel⟩ := HI1.out.map
    have ht : Fr no w1 (w1.alloc (.cells #[.string f1, .int .i64 f2] 120)).drew := ((Fr.refl _ _).alloc _).drew
    refine wp_store rfl _ _ _ rfl (hm.keep ht id) Try.underlying73 Try.underlying9 rfl _ rfl _ rfl ?_
    intro w2 hm2 hf2
    go_wp2
    go_ret
    exact ⟨by rw [HR.out]; rfl, by rw [HR.out]; have q := (HI1.out.later ht).put (f := (f1, (f1.size : Int))) hf2 hrel hm2 ⟨hfit, by simp, Int.le_refl _⟩ (by rw [alter_files]; exact Hlen.out) Hnm.out; rw [alter_files] at q; exact q, fr_am hf1 ht hf2⟩
  · have HR := Lib.hid (show dsync s name = dalter s name by simp [dsync, hz])
    have hz' : ((dalter s name).1 == 0) = false := by simpa using hz
    clear hz
    go_enter Try.func38, Try.ntmps38
    go_wp2_with (first | (go_at_call 78; refine (altered_any a m s name _ HI.out hn).mono ?_; rintro e w1 ⟨rfl, hI1, hf1⟩; have HI1 := Lib.hid hI1; clear hI1) | fail)
    go_ret
    exact ⟨by rw [HR.out]; rfl, by rw [HR.out]; exact HI1.out.later ((Fr.refl _ _).alloc _), hf1.alloc _⟩

set_option maxHeartbeats 1000000 in
set_option maxRecDepth 100000 in
theorem remove_any (a m : Nat) (s : DSt) (name : ByteArray) (w : World) (h : IsD w a m s) (hn : name.size ≤ 140737488351232) :
    Calls Try.prog 42 #[.pointer (some ⟨a, 0, none⟩), .string name] w (Done w a m (dremove s name)) := by
  have HI := Lib.hid h
  have hlt := h.lt
  clear h
  by_cases hz : (dalter s name).1 = 0
  · have HR := Lib.hid (show dremove s name = (0, { (dalter s name).2 with files := del s.files name }) by simp [dremove, hz])
    have HZ := Lib.hid hz
    clear hz
    go_enter Try.func42, Try.ntmps42
    go_wp2_with (first | (go_at_call 78; refine (altered_any a m s name _ HI.out hn).mono ?_; rintro e w1 ⟨rfl, hI1, hf1⟩; rw [HZ.out]; have HI1 := Lib.hid hI1; clear hI1; have hc0 : w1.cell? ⟨a, 0, none⟩ = some (.map (some m)) := cells_at HI1.out.blk 0 _ rfl; have hl1 := HI1.out.lt.1; have hl2 : a ≠ w1.heap.size := (by omega); obtain ⟨al, hm, hrel⟩ := HI1.out.map) | (at_delete; refine wp_drop rfl _ _ rfl (hm.keep ((Fr.refl no _).alloc _) id) Try.underlying73 Try.underlying9 rfl _ rfl ?_; intro w2 hm2 hf2) | fail)
    go_ret
    have ht : Fr no w1 (w1.alloc (.cells #[.string (knownF s name).1, .int .i64 (knownF s name).2] 120)) := (Fr.refl _ _).alloc _
    exact ⟨by rw [HR.out]; rfl, by rw [HR.out]; have q := (HI1.out.later ht).drop hf2 hrel hm2; rw [alter_files] at q; exact q, fr_am hf1 ht hf2⟩
  · have HR := Lib.hid (show dremove s name = dalter s name by simp [dremove, hz])
    have hz' : ((dalter s name).1 == 0) = false := by simpa using hz
    clear hz
    go_enter Try.func42, Try.ntmps42
    go_wp2_with (first | (go_at_call 78; refine (altered_any a m s name _ HI.out hn).mono ?_; rintro e w1 ⟨rfl, hI1, hf1⟩; have HI1 := Lib.hid hI1; clear hI1) | fail)
    go_ret
    exact ⟨by rw [HR.out]; rfl, by rw [HR.out]; exact HI1.out.later ((Fr.refl _ _).alloc _), hf1.alloc _⟩

set_option maxHeartbeats 1000000 in
set_option maxRecDepth 100000 in
theorem rename_any (a m : Nat) (s : DSt) (n1 n2 : ByteArray) (w : World) (h : IsD w a m s) (hn : n1.size ≤ 140737488351232) (hn2 : n2.size ≤ 140737488351232) :
    Calls Try.prog 40 #[.pointer (some ⟨a, 0, none⟩), .string n1, .string n2] w (Done w a m (drename s n1 n2)) := by
  have HI := Lib.hid h
  have hlt := h.lt
  clear h
  cases hn1 : named n1 with
  | false =>
    have HR := Lib.hid (show drename s n1 n2 = (10, s) by simp [drename, hn1])
    go_enter Try.func40, Try.ntmps40
    go_wp2_with (go_at_call 72; refine (may_any _ _ (by assumption)).mono ?_; rintro e w' ⟨rfl, rfl⟩)
    go_ret
    exact ⟨by rw [HR.out]; rfl, by rw [HR.out]; exact HI.out, Fr.refl _ _⟩
  | true =>
  cases hn2' : named n2 with
  | false =>
    have HR := Lib.hid (show drename s n1 n2 = (10, s) by simp [drename, hn2'])
    go_enter Try.func40, Try.ntmps40
    go_wp2_with (go_at_call 72; refine (may_any _ _ (by assumption)).mono ?_; rintro e w' ⟨rfl, rfl⟩)
    go_ret
    exact ⟨by rw [HR.out]; rfl, by rw [HR.out]; exact HI.out, Fr.refl _ _⟩
  | true =>
  by_cases hz : (dalter s n1).1 = 0
  · have hk := alter_zero hz
    obtain ⟨f0, hf0⟩ := known_there hk
    have HF := Lib.hid (knownF_of hk)
    have HR := Lib.hid (show drename s n1 n2 = (0, if n1 = n2 then (dalter s n1).2 else { (dalter s n1).2 with files := sput (del s.files n1) n2 (fileAt s n1) }) by simp [drename, hz, hn1, hn2'])
    have HZ := Lib.hid hz
    have Hf0 := Lib.hid hf0
    have HfA := Lib.hid (show fileAt s n1 = f0 by simp [fileAt, hf0])
    clear hz hk hf0
    go_enter Try.func40, Try.ntmps40
    go_wp2_with (first | (go_at_call 72; refine (may_any _ _ (by assumption)).mono ?_; rintro e w' ⟨rfl, rfl⟩) | (go_at_call 78; refine (altered_any a m s n1 _ HI.out hn).mono ?_; rintro e w1 ⟨rfl, hI1, hf1⟩; rw [HF.out, HfA.out, HZ.out]; have HI1 := Lib.hid hI1; clear hI1; have hc0 : w1.cell? ⟨a, 0, none⟩ = some (.map (some m)) := cells_at HI1.out.blk 0 _ rfl; have hl1 := HI1.out.lt.1; have hl2 : a ≠ w1.heap.size := (by omega); obtain ⟨al, hm, hrel⟩ := HI1.out.map) | (at_delete; refine wp_drop rfl _ _ rfl (hm.keep ((Fr.refl no _).alloc _) id) Try.underlying73 Try.underlying9 rfl _ rfl ?_; intro w2 hm2 hf2) | fail)
    have ht : Fr no w1 (w1.alloc (.cells #[.string f0.1, .int .i64 f0.2] 120)) := (Fr.refl _ _).alloc _
    have hI2 := (HI1.out.later ht).drop hf2 hrel hm2
    have HI2 := Lib.hid hI2
    have c0 : w2.cell? ⟨a, 0, none⟩ = some (.map (some m)) := cells_at hI2.blk 0 _ rfl
    have hne := hI2.ne
    clear hI2 hc0
    obtain ⟨e1, e2, e3, e4, e5⟩ := cells2 (hf2.keep (heap_alloc_at w1 _) (by have := HI1.out.lt.2; omega))
    have Hrel2 := Lib.hid (hrel.del n1)
    have hm2' := hm2
    rw [del_mapv] at hm2'
    go_frame
    refine wp_region_still_tail 6 (by kernel_rfl) (by kernel_rfl) ?_
    simp only [List.take_succ_cons, List.take_zero, List.drop_succ_cons, List.drop_zero, World.drew_eq]
    repeat still_step
    refine wpStill_nil ?_
    have ht2 : Fr no w2 w2.drew := (Fr.refl _ _).drew
    refine wp_store rfl _ _ _ rfl (hm2'.keep ht2 id) Try.underlying73 Try.underlying9 rfl _ rfl _ rfl ?_
    intro w3 hm3 hf3
    go_wp2
    go_ret
    have hfit := HI.out.ok.file n1
    rw [HfA.out] at hfit
    have hlen : (sput (del (dalter s n1).2.files n1) n2 f0).length ≤ 64 := by
      rw [alter_files]
      refine Nat.le_trans ?_ HI.out.ok.few
      rw [len_sput (HI.out.ok.srt.del n1)]
      have h1 := len_del (l := s.files) (by rw [Hf0.out]; rfl : (get s.files n1).isSome = true)
      split <;> omega
    have q := (HI2.out.later ht2).put (f := f0) hf3 Hrel2.out hm3 hfit hlen (named_size hn2')
    refine ⟨by rw [HR.out]; rfl, ?_, (fr_am hf1 ht hf2).trans ((ht2.mono (fun _ _ h => h.elim)).trans hf3 (fun _ _ h => .inr h)) (fun _ _ h => h)⟩
    rw [HR.out]
    by_cases hnn : n1 = n2
    · subst hnn
      rw [if_pos rfl]
      refine ⟨q.blk, ?_, hne, HI1.out.ok⟩
      refine ⟨put (del al n1) n1 f0, by rw [← put_mapv]; exact hm3, ⟨nodup_put (nodup_del hrel.nd n1) _ _, by rw [alter_files]; exact HI.out.ok.srt, fun k => ?_⟩⟩
      rw [get_put, get_del hrel.nd, hrel.eq, alter_files]
      by_cases hk : n1 = k
      · subst hk; rw [if_pos rfl]; exact Hf0.out.symm
      · rw [if_neg hk, if_neg hk]
    · rw [if_neg hnn, HfA.out]
      rw [alter_files] at q
      exact q
  · have HR := Lib.hid (show drename s n1 n2 = dalter s n1 by simp [drename, hz, hn1, hn2'])
    have hz' : ((dalter s n1).1 == 0) = false := by simpa using hz
    clear hz
    go_enter Try.func40, Try.ntmps40
    go_wp2_with (first | (go_at_call 72; refine (may_any _ _ (by assumption)).mono ?_; rintro e w' ⟨rfl, rfl⟩) | (go_at_call 78; refine (altered_any a m s n1 _ HI.out hn).mono ?_; rintro e w1 ⟨rfl, hI1, hf1⟩; have HI1 := Lib.hid hI1; clear hI1) | fail)
    go_ret
    exact ⟨by rw [HR.out]; rfl, by rw [HR.out]; exact HI1.out.later ((Fr.refl _ _).alloc _), hf1.alloc _⟩
end Go.Proofs.Ythmjjbgjbcnjmaa
