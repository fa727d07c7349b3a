import Derived.Test.YthmjjbgjbcnjmaaDd
namespace Go.Proofs.Ythmjjbgjbcnjmaa
open Go.RowKit Go.Hop

theorem known_def (s : DSt) (name : ByteArray) (h : named name = true) : dknown s name = if get s.files name = none then 5 else 0 := by simp [dknown, h]
def knownF (s : DSt) (name : ByteArray) : File := if dknown s name = 0 then fileAt s name else (⟨#[]⟩, 0)

set_option maxHeartbeats 1000000 in
set_option maxRecDepth 100000 in
theorem known_any (a m : Nat) (s : DSt) (name : ByteArray) (w : World) (h : IsD w a m s) (hn : name.size ≤ 140737488351232) :
    Calls Try.prog 81 #[.pointer (some ⟨a, 0, none⟩), .string name] w fun e w' => e = .returned (.tuple #[.agg #[.string (knownF s name).1, .int .i64 (knownF s name).2], .int .i64 (dknown s name)]) ∧ Fr no w w' := by
  have ha := h.lt.1
  have HI := Lib.hid h
  obtain ⟨hblk, ⟨al, hm, hrel⟩, hne, hok⟩ := h
  obtain ⟨hg1, hg2⟩ := get_dflt hrel name
  have hc0 : w.cell? ⟨a, 0, none⟩ = some (.map (some m)) := cells_at hblk 0 _ rfl
  have hla : a ≠ w.heap.size := by omega
  clear hblk
  cases hnm : named name with
  | false =>
    have HR := Lib.hid (show dknown s name = 10 by simp [dknown, hnm])
    have HK := Lib.hid (show knownF s name = (⟨#[]⟩, 0) by unfold knownF; rw [HR.out]; rfl)
    clear hg1 hg2
    go_enter Try.func81, Try.ntmps81
    go_wp2_with (go_at_call 72; refine (may_any _ _ (by assumption)).mono ?_; rintro e w' ⟨rfl, rfl⟩)
    exact bodyPost_ret (v := .tuple #[.agg #[.string ⟨#[]⟩, .int .i64 0], .int .i64 10]) (by simp [results, Try.results81, go_sem]) rfl ⟨by rw [HR.out, HK.out], (((Fr.refl _ _).alloc _))⟩
  | true =>
    cases hgs : (get s.files name).isSome with
    | false =>
      have HR := Lib.hid (show dknown s name = 5 by rw [known_def s name hnm]; cases hq : get s.files name <;> simp_all)
      have HK := Lib.hid (show knownF s name = (⟨#[]⟩, 0) by unfold knownF; rw [HR.out]; rfl)
      have hm' := hm.keep ((Fr.refl no w).alloc (.cells #[.string ⟨#[]⟩, .int .i64 0] 120)) id
      go_enter Try.func81, Try.ntmps81
      go_wp2_with (first | (go_at_call 72; refine (may_any _ _ (by assumption)).mono ?_; rintro e w' ⟨rfl, rfl⟩) | (at_lookup; refine wp_look rfl _ _ _ rfl hm' Try.underlying73 Try.underlying9 zeroF rfl _ rfl ?_))
      exact bodyPost_ret (v := .tuple #[.agg #[.string ⟨#[]⟩, .int .i64 0], .int .i64 5]) (by simp [results, Try.results81, go_sem]) rfl ⟨by rw [HR.out, HK.out], ((Fr.refl _ _).alloc _).alloc _⟩
    | true =>
      have HR := Lib.hid (show dknown s name = 0 by rw [known_def s name hnm]; cases hq : get s.files name <;> simp_all)
      have HK := Lib.hid (show knownF s name = fileAt s name by unfold knownF; rw [HR.out]; rfl)
      have hm' := hm.keep ((Fr.refl no w).alloc (.cells #[.string ⟨#[]⟩, .int .i64 0] 120)) id
      go_enter Try.func81, Try.ntmps81
      go_wp2_with (first | (go_at_call 72; refine (may_any _ _ (by assumption)).mono ?_; rintro e w' ⟨rfl, rfl⟩) | (at_lookup; refine wp_look rfl _ _ _ rfl hm' Try.underlying73 Try.underlying9 zeroF rfl _ rfl ?_))
      exact bodyPost_ret (v := .tuple #[.agg #[.string (fileAt s name).1, .int .i64 (fileAt s name).2], .int .i64 0]) (by simp [results, Try.results81, go_sem]) rfl ⟨by rw [HR.out, HK.out], ((Fr.refl _ _).alloc _).alloc _⟩

theorem known_cases (s : DSt) (name : ByteArray) : dknown s name = 10 ∨ dknown s name = 5 ∨ dknown s name = 0 := by
  unfold dknown; split
  · exact .inl rfl
  · split
    · exact .inr (.inl rfl)
    · exact .inr (.inr rfl)

/-- a disk behind blocks that were laid since -/
theorem IsD.later {w w' : World} {a m : Nat} {s : DSt} (h : IsD w a m s) (hf : Fr no w w') : IsD w' a m s := h.keep hf id id

theorem cells2 {w : World} {b t : Nat} {u v : Value} (h : w.heap[b]? = some (.cells #[u, v] t (0, 0))) :
    w.cell? ⟨b, 0, none⟩ = some u ∧ w.cell? ⟨b, 1, none⟩ = some v ∧ w.frozen? ⟨b, 0, none⟩ = false ∧ w.frozen? ⟨b, 1, none⟩ = false ∧ b < w.heap.size :=
  ⟨cells_at h 0 _ rfl, cells_at h 1 _ rfl, free_at h 0, free_at h 1, heap_lt h⟩
theorem result2 {w1 : World} {S : Nat → Prop} {w : World} {n : Nat} (hn : w.heap.size ≤ n) (h : Fr S w w1) (u v : Value) (o : Obj) : Fr S w (((w1.setCell ⟨n, 0, none⟩ u).setCell ⟨n, 1, none⟩ v).alloc o) :=
  ((h.setCell _ _ (fun q => absurd q (by show ¬ n < _; omega))).setCell _ _ (fun q => absurd q (by show ¬ n < _; omega))).alloc o
theorem IsD.result2 {w1 : World} {a m n : Nat} {s : DSt} (h : IsD w1 a m s) (ha : a ≠ n) (hm : m ≠ n) (u v : Value) (o : Obj) : IsD (((w1.setCell ⟨n, 0, none⟩ u).setCell ⟨n, 1, none⟩ v).alloc o) a m s :=
  h.keep ((((Fr.refl (fun x => x = n) w1).setCell ⟨n, 0, none⟩ u (fun _ => rfl)).setCell ⟨n, 1, none⟩ v (fun _ => rfl)).alloc o) ha hm
theorem result2' {w1 : World} {S : Nat → Prop} {w : World} {n : Nat} (hn : w.heap.size ≤ n) (h : Fr S w w1) (u v : Value) : Fr S w ((w1.setCell ⟨n, 0, none⟩ u).setCell ⟨n, 1, none⟩ v) :=
  ((h.setCell _ _ (fun q => absurd q (by show ¬ n < _; omega))).setCell _ _ (fun q => absurd q (by show ¬ n < _; omega)))
theorem IsD.result2' {w1 : World} {a m n : Nat} {s : DSt} (h : IsD w1 a m s) (ha : a ≠ n) (hm : m ≠ n) (u v : Value) : IsD ((w1.setCell ⟨n, 0, none⟩ u).setCell ⟨n, 1, none⟩ v) a m s :=
  h.keep (((Fr.refl (fun x => x = n) w1).setCell ⟨n, 0, none⟩ u (fun _ => rfl)).setCell ⟨n, 1, none⟩ v (fun _ => rfl)) ha hm
theorem IsD.changed {w w2 : World} {a m : Nat} {s : DSt} (h : IsD w a m s) (hf : Fr (fun x => x = a) w w2) (hb : w2.heap[a]? = some (dblk (.map (some m)) (chg s).2)) : IsD w2 a m (chg s).2 := by
  obtain ⟨al, h1, h2⟩ := h.map
  exact ⟨hb, ⟨al, h1.keep hf (fun q => h.ne q.symm), by rw [chg_files]; exact h2⟩, h.ne, h.ok.chg⟩

set_option maxHeartbeats 1000000 in
set_option maxRecDepth 100000 in
theorem altered_any (a m : Nat) (s : DSt) (name : ByteArray) (w : World) (h : IsD w a m s) (hn : name.size ≤ 140737488351232) :
    Calls Try.prog 78 #[.pointer (some ⟨a, 0, none⟩), .string name] w fun e w' => e = .returned (.tuple #[.agg #[.string (knownF s name).1, .int .i64 (knownF s name).2], .int .i64 (dalter s name).1]) ∧ IsD w' a m (dalter s name).2 ∧ Fr (fun k => k = a ∨ k = m) w w' := by
  have hlt := h.lt
  have hsh := h.ok.short
  have hna : a ≠ w.heap.size := by omega
  have hnm : m ≠ w.heap.size := by omega
  generalize hkf : knownF s name = kf
  obtain ⟨kf1, kf2⟩ := kf
  have HKF := Lib.hid hkf
  have HI := Lib.hid h
  clear hkf h
  rcases known_cases s name with hk | hk | hk
  · have HR := Lib.hid (show dalter s name = (10, s) by simp [dalter, hk])
    go_enter Try.func78, Try.ntmps78
    go_wp2_with (first | (go_at_call 81; refine (known_any a m s name _ (HI.out.later ((Fr.refl _ _).alloc _)) hn).mono ?_; rintro e w1 ⟨rfl, hf⟩; rw [HKF.out]; obtain ⟨e1, e2, e3, e4, e5⟩ := cells2 (hf.keep (heap_alloc_at w _) id)) | fail)
    have hfr : Fr no w w1 := ((Fr.refl _ _).alloc _).trans hf (fun _ _ q => q)
    exact bodyPost_ret (v := .tuple #[.agg #[.string kf1, .int .i64 kf2], .int .i64 10]) (by simp [results, Try.results78, go_sem, e1, e2, e5]) rfl ⟨by rw [HR.out], by rw [HR.out]; exact HI.out.later (result2 (Nat.le_refl _) hfr _ _ _), (result2 (Nat.le_refl _) hfr _ _ _).mono (fun _ _ q => q.elim)⟩
  · have HR := Lib.hid (show dalter s name = (5, s) by simp [dalter, hk])
    go_enter Try.func78, Try.ntmps78
    go_wp2_with (first | (go_at_call 81; refine (known_any a m s name _ (HI.out.later ((Fr.refl _ _).alloc _)) hn).mono ?_; rintro e w1 ⟨rfl, hf⟩; rw [HKF.out]; obtain ⟨e1, e2, e3, e4, e5⟩ := cells2 (hf.keep (heap_alloc_at w _) id)) | fail)
    have hfr : Fr no w w1 := ((Fr.refl _ _).alloc _).trans hf (fun _ _ q => q)
    exact bodyPost_ret (v := .tuple #[.agg #[.string kf1, .int .i64 kf2], .int .i64 5]) (by simp [results, Try.results78, go_sem, e1, e2, e5]) rfl ⟨by rw [HR.out], by rw [HR.out]; exact HI.out.later (result2 (Nat.le_refl _) hfr _ _ _), (result2 (Nat.le_refl _) hfr _ _ _).mono (fun _ _ q => q.elim)⟩
  · cases hcg : (chg s).1 with
    | false =>
      have HR := Lib.hid (show dalter s name = (11, (chg s).2) by simp [dalter, hk, hcg])
      go_enter Try.func78, Try.ntmps78
      go_wp2_with (first | (go_at_call 81; refine (known_any a m s name _ (HI.out.later ((Fr.refl _ _).alloc _)) hn).mono ?_; rintro e w1 ⟨rfl, hf⟩; rw [HKF.out]) | fail)
      have hfr : Fr no w w1 := ((Fr.refl _ _).alloc _).trans hf (fun _ _ q => q)
      have HI1 := Lib.hid ((HI.out.later hfr).later ((Fr.refl no w1).alloc (.cells #[.string kf1, .int .i64 kf2] 120)))
      have hsz := hf.size
      simp only [World.size_alloc] at hsz
      refine (change_any a _ s _ HI1.out.blk hsh).mono ?_
      rintro e w2 ⟨rfl, hb2, hf2⟩
      obtain ⟨e1, e2, e3, e4, e5⟩ := cells2 (hf2.keep ((Below.heap_alloc _ _ _ (heap_lt (hf.keep (heap_alloc_at w _) id))).trans (hf.keep (heap_alloc_at w _) id)) (fun q => hna q.symm))
      obtain ⟨f1, f2, f3, f4, f5⟩ := cells2 (hf2.keep (heap_alloc_at w1 _) (by omega))
      have HB2 := Lib.hid hb2
      clear hb2
      go_wp2
      have hf3 : Fr (fun k => k = a ∨ k = m) w w2 := ((hfr.mono (fun _ _ q => q.elim)).alloc _).trans hf2 (fun _ _ q => .inl q)
      exact bodyPost_ret (v := .tuple #[.agg #[.string kf1, .int .i64 kf2], .int .i64 11]) (by simp [results, Try.results78, go_sem, e1, e2]) rfl ⟨by rw [HR.out], by rw [HR.out]; exact (HI1.out.changed hf2 HB2.out).result2' hna hnm _ _, result2' (Nat.le_refl _) hf3 _ _⟩
    | true =>
      have HR := Lib.hid (show dalter s name = (0, (chg s).2) by simp [dalter, hk, hcg])
      go_enter Try.func78, Try.ntmps78
      go_wp2_with (first | (go_at_call 81; refine (known_any a m s name _ (HI.out.later ((Fr.refl _ _).alloc _)) hn).mono ?_; rintro e w1 ⟨rfl, hf⟩; rw [HKF.out]) | fail)
      have hfr : Fr no w w1 := ((Fr.refl _ _).alloc _).trans hf (fun _ _ q => q)
      have HI1 := Lib.hid ((HI.out.later hfr).later ((Fr.refl no w1).alloc (.cells #[.string kf1, .int .i64 kf2] 120)))
      have hsz := hf.size
      simp only [World.size_alloc] at hsz
      refine (change_any a _ s _ HI1.out.blk hsh).mono ?_
      rintro e w2 ⟨rfl, hb2, hf2⟩
      obtain ⟨e1, e2, e3, e4, e5⟩ := cells2 (hf2.keep ((Below.heap_alloc _ _ _ (heap_lt (hf.keep (heap_alloc_at w _) id))).trans (hf.keep (heap_alloc_at w _) id)) (fun q => hna q.symm))
      obtain ⟨f1, f2, f3, f4, f5⟩ := cells2 (hf2.keep (heap_alloc_at w1 _) (by omega))
      have HB2 := Lib.hid hb2
      clear hb2
      go_wp2
      have hf3 : Fr (fun k => k = a ∨ k = m) w w2 := ((hfr.mono (fun _ _ q => q.elim)).alloc _).trans hf2 (fun _ _ q => .inl q)
      exact bodyPost_ret (v := .tuple #[.agg #[.string kf1, .int .i64 kf2], .int .i64 0]) (by simp [results, Try.results78, go_sem, e1, e2]) rfl ⟨by rw [HR.out], by rw [HR.out]; exact (HI1.out.changed hf2 HB2.out).result2' hna hnm _ _, result2' (Nat.le_refl _) hf3 _ _⟩
end Go.Proofs.Ythmjjbgjbcnjmaa
