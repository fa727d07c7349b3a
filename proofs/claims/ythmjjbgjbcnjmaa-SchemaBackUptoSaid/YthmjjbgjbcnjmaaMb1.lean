/-
  Contracts of the functions that the statement reaches, and the plain laws behind it: this seat's texts Df, Rd, Re, Rf, Rg, Rh, Ri, Rj, Rk, Dg, Kb, one behind the other.
-/
import Derived.Test.YthmjjbgjbcnjmaaMb0
import Derived.Sort.Walk0
import Derived.Sort.KeysCollected

namespace Go.Proofs.Ythmjjbgjbcnjmaa
open Go.RowKit Go.Hop

theorem alter_files (s : DSt) (name : ByteArray) : (dalter s name).2.files = s.files := by
  unfold dalter; split
  · split <;> exact chg_files s
  · rfl
theorem alter_zero {s : DSt} {name : ByteArray} (h : (dalter s name).1 = 0) : dknown s name = 0 := by
  unfold dalter at h; split at h
  · assumption
  · exact h
theorem known_there {s : DSt} {name : ByteArray} (h : dknown s name = 0) : ∃ f, get s.files name = some f := by
  unfold dknown at h
  split at h
  · cases h
  · split at h
    · cases h
    · cases hg : get s.files name with
      | none => rename_i q; exact absurd hg q
      | some f => exact ⟨f, rfl⟩
theorem knownF_of {s : DSt} {name : ByteArray} (h : dknown s name = 0) : knownF s name = fileAt s name := by simp [knownF, h]

theorem IsD.put {w w' : World} {a m : Nat} {s : DSt} {name : ByteArray} {f : File} {al : List (ByteArray × File)} (h : IsD w a m s) (hf : Fr (fun x => x = m) w w') (hrel : Rel al s.files)
    (hm : MapIs w' m (Hop.put (mapv encF al) name (.agg #[.string f.1, .int .i64 f.2]))) (hfit : f.1.size ≤ 262144 ∧ 0 ≤ f.2 ∧ f.2 ≤ f.1.size) (hl : (sput s.files name f).length ≤ 64) (hnm : name.size ≤ 32) :
    IsD w' a m { s with files := sput s.files name f } := by
  obtain ⟨hb, _, hne, hok⟩ := h
  refine ⟨hf.keep hb hne, ⟨Hop.put al name f, ?_, hrel.put name f⟩, hne, ok_put hok name f hfit hl _ rfl hok.short hnm⟩
  rw [← put_mapv]; exact hm
theorem IsD.drop {w w' : World} {a m : Nat} {s : DSt} {name : ByteArray} {al : List (ByteArray × File)} (h : IsD w a m s) (hf : Fr (fun x => x = m) w w') (hrel : Rel al s.files)
    (hm : MapIs w' m (Hop.del (mapv encF al) name)) : IsD w' a m { s with files := Hop.del s.files name } := by
  obtain ⟨hb, _, hne, hok⟩ := h
  refine ⟨hf.keep hb hne, ⟨Hop.del al name, ?_, hrel.del name⟩, hne, ⟨hok.srt.del name, Nat.le_trans (sub_del _ _).length_le hok.few, fun p hp => hok.fit p ((sub_del _ _).subset hp), fun p hp => hok.nam p ((sub_del _ _).subset hp), hok.short⟩⟩
  rw [← del_mapv]; exact hm
theorem len_del {β : Type} {l : List (ByteArray × β)} {k : ByteArray} (h : (get l k).isSome = true) : (del l k).length + 1 = l.length := by
  induction l with
  | nil => simp [Hop.get] at h
  | cons p t ih =>
    obtain ⟨a, b⟩ := p
    simp only [Hop.get, Hop.del] at h ⊢
    by_cases e : a = k
    · simp [e]
    · simp only [e, if_false] at h ⊢
      simp [ih h]
theorem fr_am {w w1 wt w2 : World} {a m : Nat} (h1 : Fr (fun k => k = a ∨ k = m) w w1) (h2 : Fr no w1 wt) (h3 : Fr (fun x => x = m) wt w2) : Fr (fun k => k = a ∨ k = m) w w2 :=
  (h1.trans h2 (fun _ _ q => q.elim)).trans h3 (fun _ _ q => .inr q)

set_option maxHeartbeats 1000000 in
set_option maxRecDepth 100000 in
theorem sync_any (a m : Nat) (s : DSt) (name : ByteArray) (w : World) (h : IsD w a m s) (hn : name.size ≤ 140737488351232) :
    Calls Try.prog 38 #[.pointer (some ⟨a, 0, none⟩), .string name] w (Done w a m (dsync s name)) := by
  have HI := Lib.hid h
  have hlt := h.lt
  have Hfit := Lib.hid (h.ok.file name)
  clear h
  by_cases hz : (dalter s name).1 = 0
  · have hk := alter_zero hz
    obtain ⟨f0, hf0⟩ := known_there hk
    have Hnm := Lib.hid (HI.out.ok.nam _ (get_some_mem hf0))
    have HF := Lib.hid (knownF_of hk)
    have HR := Lib.hid (show dsync s name = (0, { (dalter s name).2 with files := sput s.files name ((fileAt s name).1, (fileAt s name).1.size) }) by simp [dsync, hz])
    have HZ := Lib.hid hz
    have Hlen := Lib.hid (show (sput s.files name ((fileAt s name).1, ((fileAt s name).1.size : Int))).length ≤ 64 by rw [len_sput HI.out.ok.srt, hf0]; exact HI.out.ok.few)
    clear hz hk hf0
    generalize fileAt s name = f at *
    obtain ⟨f1, f2⟩ := f
    have hfit := Hfit.out.1
    simp only at hfit
    go_enter Try.func38, Try.ntmps38
    go_wp2_with (first | (go_at_call 78; refine (altered_any a m s name _ HI.out hn).mono ?_; rintro e w1 ⟨rfl, hI1, hf1⟩; rw [HF.out, HZ.out]; have HI1 := Lib.hid hI1; clear hI1; have hc0 : w1.cell? ⟨a, 0, none⟩ = some (.map (some m)) := cells_at HI1.out.blk 0 _ rfl; have hl1 := HI1.out.lt.1; have hl2 : a ≠ w1.heap.size := by omega) | fail)
    refine wp_region_still_tail 11 (by kernel_rfl) (by kernel_rfl) ?_
    simp only [List.take_succ_cons, List.take_zero, List.drop_succ_cons, List.drop_zero, World.drew_eq]
    repeat still_step
    refine wpStill_nil ?_
    obtain ⟨al, hm, hrel⟩ := HI1.out.map
    have ht : Fr no w1 (w1.alloc (.cells #[.string f1, .int .i64 f2] 120)).drew := ((Fr.refl _ _).alloc _).drew
    refine wp_store rfl _ _ _ rfl (hm.keep ht id) Try.underlying73 Try.underlying9 rfl _ rfl _ rfl ?_
    intro w2 hm2 hf2
    go_wp2
    go_ret
    exact ⟨by rw [HR.out]; rfl, by rw [HR.out]; have q := (HI1.out.later ht).put (f := (f1, (f1.size : Int))) hf2 hrel hm2 ⟨hfit, by simp, Int.le_refl _⟩ (by rw [alter_files]; exact Hlen.out) Hnm.out; rw [alter_files] at q; exact q, fr_am hf1 ht hf2⟩
  · have HR := Lib.hid (show dsync s name = dalter s name by simp [dsync, hz])
    have hz' : ((dalter s name).1 == 0) = false := by simpa using hz
    clear hz
    go_enter Try.func38, Try.ntmps38
    go_wp2_with (first | (go_at_call 78; refine (altered_any a m s name _ HI.out hn).mono ?_; rintro e w1 ⟨rfl, hI1, hf1⟩; have HI1 := Lib.hid hI1; clear hI1) | fail)
    go_ret
    exact ⟨by rw [HR.out]; rfl, by rw [HR.out]; exact HI1.out.later ((Fr.refl _ _).alloc _), hf1.alloc _⟩

set_option maxHeartbeats 1000000 in
set_option maxRecDepth 100000 in
theorem remove_any (a m : Nat) (s : DSt) (name : ByteArray) (w : World) (h : IsD w a m s) (hn : name.size ≤ 140737488351232) :
    Calls Try.prog 42 #[.pointer (some ⟨a, 0, none⟩), .string name] w (Done w a m (dremove s name)) := by
  have HI := Lib.hid h
  have hlt := h.lt
  clear h
  by_cases hz : (dalter s name).1 = 0
  · have HR := Lib.hid (show dremove s name = (0, { (dalter s name).2 with files := del s.files name }) by simp [dremove, hz])
    have HZ := Lib.hid hz
    clear hz
    go_enter Try.func42, Try.ntmps42
    go_wp2_with (first | (go_at_call 78; refine (altered_any a m s name _ HI.out hn).mono ?_; rintro e w1 ⟨rfl, hI1, hf1⟩; rw [HZ.out]; have HI1 := Lib.hid hI1; clear hI1; have hc0 : w1.cell? ⟨a, 0, none⟩ = some (.map (some m)) := cells_at HI1.out.blk 0 _ rfl; have hl1 := HI1.out.lt.1; have hl2 : a ≠ w1.heap.size := (by omega); obtain ⟨al, hm, hrel⟩ := HI1.out.map) | (at_delete; refine wp_drop rfl _ _ rfl (hm.keep ((Fr.refl no _).alloc _) id) Try.underlying73 Try.underlying9 rfl _ rfl ?_; intro w2 hm2 hf2) | fail)
    go_ret
    have ht : Fr no w1 (w1.alloc (.cells #[.string (knownF s name).1, .int .i64 (knownF s name).2] 120)) := (Fr.refl _ _).alloc _
    exact ⟨by rw [HR.out]; rfl, by rw [HR.out]; have q := (HI1.out.later ht).drop hf2 hrel hm2; rw [alter_files] at q; exact q, fr_am hf1 ht hf2⟩
  · have HR := Lib.hid (show dremove s name = dalter s name by simp [dremove, hz])
    have hz' : ((dalter s name).1 == 0) = false := by simpa using hz
    clear hz
    go_enter Try.func42, Try.ntmps42
    go_wp2_with (first | (go_at_call 78; refine (altered_any a m s name _ HI.out hn).mono ?_; rintro e w1 ⟨rfl, hI1, hf1⟩; have HI1 := Lib.hid hI1; clear hI1) | fail)
    go_ret
    exact ⟨by rw [HR.out]; rfl, by rw [HR.out]; exact HI1.out.later ((Fr.refl _ _).alloc _), hf1.alloc _⟩

set_option maxHeartbeats 1000000 in
set_option maxRecDepth 100000 in
theorem rename_any (a m : Nat) (s : DSt) (n1 n2 : ByteArray) (w : World) (h : IsD w a m s) (hn : n1.size ≤ 140737488351232) (hn2 : n2.size ≤ 140737488351232) :
    Calls Try.prog 40 #[.pointer (some ⟨a, 0, none⟩), .string n1, .string n2] w (Done w a m (drename s n1 n2)) := by
  have HI := Lib.hid h
  have hlt := h.lt
  clear h
  cases hn1 : named n1 with
  | false =>
    have HR := Lib.hid (show drename s n1 n2 = (10, s) by simp [drename, hn1])
    go_enter Try.func40, Try.ntmps40
    go_wp2_with (go_at_call 72; refine (may_any _ _ (by assumption)).mono ?_; rintro e w' ⟨rfl, rfl⟩)
    go_ret
    exact ⟨by rw [HR.out]; rfl, by rw [HR.out]; exact HI.out, Fr.refl _ _⟩
  | true =>
  cases hn2' : named n2 with
  | false =>
    have HR := Lib.hid (show drename s n1 n2 = (10, s) by simp [drename, hn2'])
    go_enter Try.func40, Try.ntmps40
    go_wp2_with (go_at_call 72; refine (may_any _ _ (by assumption)).mono ?_; rintro e w' ⟨rfl, rfl⟩)
    go_ret
    exact ⟨by rw [HR.out]; rfl, by rw [HR.out]; exact HI.out, Fr.refl _ _⟩
  | true =>
  by_cases hz : (dalter s n1).1 = 0
  · have hk := alter_zero hz
    obtain ⟨f0, hf0⟩ := known_there hk
    have HF := Lib.hid (knownF_of hk)
    have HR := Lib.hid (show drename s n1 n2 = (0, if n1 = n2 then (dalter s n1).2 else { (dalter s n1).2 with files := sput (del s.files n1) n2 (fileAt s n1) }) by simp [drename, hz, hn1, hn2'])
    have HZ := Lib.hid hz
    have Hf0 := Lib.hid hf0
    have HfA := Lib.hid (show fileAt s n1 = f0 by simp [fileAt, hf0])
    clear hz hk hf0
    go_enter Try.func40, Try.ntmps40
    go_wp2_with (first | (go_at_call 72; refine (may_any _ _ (by assumption)).mono ?_; rintro e w' ⟨rfl, rfl⟩) | (go_at_call 78; refine (altered_any a m s n1 _ HI.out hn).mono ?_; rintro e w1 ⟨rfl, hI1, hf1⟩; rw [HF.out, HfA.out, HZ.out]; have HI1 := Lib.hid hI1; clear hI1; have hc0 : w1.cell? ⟨a, 0, none⟩ = some (.map (some m)) := cells_at HI1.out.blk 0 _ rfl; have hl1 := HI1.out.lt.1; have hl2 : a ≠ w1.heap.size := (by omega); obtain ⟨al, hm, hrel⟩ := HI1.out.map) | (at_delete; refine wp_drop rfl _ _ rfl (hm.keep ((Fr.refl no _).alloc _) id) Try.underlying73 Try.underlying9 rfl _ rfl ?_; intro w2 hm2 hf2) | fail)
    have ht : Fr no w1 (w1.alloc (.cells #[.string f0.1, .int .i64 f0.2] 120)) := (Fr.refl _ _).alloc _
    have hI2 := (HI1.out.later ht).drop hf2 hrel hm2
    have HI2 := Lib.hid hI2
    have c0 : w2.cell? ⟨a, 0, none⟩ = some (.map (some m)) := cells_at hI2.blk 0 _ rfl
    have hne := hI2.ne
    clear hI2 hc0
    obtain ⟨e1, e2, e3, e4, e5⟩ := cells2 (hf2.keep (heap_alloc_at w1 _) (by have := HI1.out.lt.2; omega))
    have Hrel2 := Lib.hid (hrel.del n1)
    have hm2' := hm2
    rw [del_mapv] at hm2'
    go_frame
    refine wp_region_still_tail 6 (by kernel_rfl) (by kernel_rfl) ?_
    simp only [List.take_succ_cons, List.take_zero, List.drop_succ_cons, List.drop_zero, World.drew_eq]
    repeat still_step
    refine wpStill_nil ?_
    have ht2 : Fr no w2 w2.drew := (Fr.refl _ _).drew
    refine wp_store rfl _ _ _ rfl (hm2'.keep ht2 id) Try.underlying73 Try.underlying9 rfl _ rfl _ rfl ?_
    intro w3 hm3 hf3
    go_wp2
    go_ret
    have hfit := HI.out.ok.file n1
    rw [HfA.out] at hfit
    have hlen : (sput (del (dalter s n1).2.files n1) n2 f0).length ≤ 64 := by
      rw [alter_files]
      refine Nat.le_trans ?_ HI.out.ok.few
      rw [len_sput (HI.out.ok.srt.del n1)]
      have h1 := len_del (l := s.files) (by rw [Hf0.out]; rfl : (get s.files n1).isSome = true)
      split <;> omega
    have q := (HI2.out.later ht2).put (f := f0) hf3 Hrel2.out hm3 hfit hlen (named_size hn2')
    refine ⟨by rw [HR.out]; rfl, ?_, (fr_am hf1 ht hf2).trans ((ht2.mono (fun _ _ h => h.elim)).trans hf3 (fun _ _ h => .inr h)) (fun _ _ h => h)⟩
    rw [HR.out]
    by_cases hnn : n1 = n2
    · subst hnn
      rw [if_pos rfl]
      refine ⟨q.blk, ?_, hne, HI1.out.ok⟩
      refine ⟨put (del al n1) n1 f0, by rw [← put_mapv]; exact hm3, ⟨nodup_put (nodup_del hrel.nd n1) _ _, by rw [alter_files]; exact HI.out.ok.srt, fun k => ?_⟩⟩
      rw [get_put, get_del hrel.nd, hrel.eq, alter_files]
      by_cases hk : n1 = k
      · subst hk; rw [if_pos rfl]; exact Hf0.out.symm
      · rw [if_neg hk, if_neg hk]
    · rw [if_neg hnn, HfA.out]
      rw [alter_files] at q
      exact q
  · have HR := Lib.hid (show drename s n1 n2 = dalter s n1 by simp [drename, hz, hn1, hn2'])
    have hz' : ((dalter s n1).1 == 0) = false := by simpa using hz
    clear hz
    go_enter Try.func40, Try.ntmps40
    go_wp2_with (first | (go_at_call 72; refine (may_any _ _ (by assumption)).mono ?_; rintro e w' ⟨rfl, rfl⟩) | (go_at_call 78; refine (altered_any a m s n1 _ HI.out hn).mono ?_; rintro e w1 ⟨rfl, hI1, hf1⟩; have HI1 := Lib.hid hI1; clear hI1) | fail)
    go_ret
    exact ⟨by rw [HR.out]; rfl, by rw [HR.out]; exact HI1.out.later ((Fr.refl _ _).alloc _), hf1.alloc _⟩
end Go.Proofs.Ythmjjbgjbcnjmaa

namespace Go.Proofs.Ythmjjbgjbcnjmaa
open Go.RowKit Go.Hop

theorem El86 : El Try.prog 76 86 3 40 := El.mk_ (.agg #[.string ⟨#[]⟩, .string ⟨#[]⟩, .int .i64 0]) Try.underlying76 (by decide) rfl (by kernel_rfl)

/-- where a name belongs -/
structure At (l : List (ByteArray × File)) (name : ByteArray) (k : Nat) : Prop where
  le : k ≤ l.length
  lt : ∀ j q, j < k → l[j]? = some q → bl q.1 < bl name
  ge : ∀ q, l[k]? = some q → ¬ bl q.1 < bl name

theorem less_of (a b : ByteArray) : Op.bytesLess a.toList b.toList = decide (bl a < bl b) := by
  rw [Lib.toList_data, Lib.toList_data]; exact Proofs.bytesLess_eq _ _
theorem beq_name (a b : ByteArray) : (a.toList == b.toList) = decide (a = b) := by
  rw [Lib.toList_data, Lib.toList_data]
  by_cases h : a = b
  · subst h; simp
  · rw [decide_eq_false h, beq_eq_false_iff_ne]
    exact fun e => h (bl_inj e)

theorem cells3 {w : World} {b t : Nat} {u v x : Value} (h : w.heap[b]? = some (.cells #[u, v, x] t (0, 0))) :
    w.cell? ⟨b, 0, none⟩ = some u ∧ w.cell? ⟨b, 1, none⟩ = some v ∧ w.cell? ⟨b, 2, none⟩ = some x ∧ b < w.heap.size :=
  ⟨cells_at h 0 _ rfl, cells_at h 1 _ rfl, cells_at h 2 _ rfl, heap_lt h⟩
theorem rc_new (w : World) (u v x : Value) (t : Nat) (h : ∀ y ∈ [u, v, x], y.oneCell' = true := by simp [Value.oneCell']) : Rc (w.alloc (.cells #[u, v, x] t)) 3 (.slice (some ⟨w.heap.size, 0, none⟩) 1 1) 1 [u, v, x] :=
  ⟨_, _, rfl, Nat.le_refl _, rfl, h, fun j y hj => ⟨_, _, rfl, by
    rw [Nat.zero_add]
    exact cells_at (heap_alloc_at w _) j y (by simpa using hj)⟩⟩
theorem drop_lt {w : World} {size n g c : Nat} {cs : List Value} (h : Rc w size (.slice (some ⟨g, 0, none⟩) n c) n cs) (k : Nat) (hk : k < n) : Rc w size (.slice (some ⟨g, k * size, none⟩) (n - k) (c - k)) (n - k) (cs.drop (k * size)) := by
  have hc : n ≤ c := by
    obtain ⟨A, c', e, hc, _⟩ := h
    injection e with _ _ e3
    omega
  have := h.drop k (by omega)
  rw [if_neg (by omega)] at this
  simpa [add_at] using this
theorem rc_empty (w : World) (size : Nat) (A : Option Addr) (c : Nat) : Rc w size (.slice A 0 c) 0 [] := ⟨A, c, rfl, Nat.zero_le _, by simp, by simp, fun j u h => by simp at h⟩
theorem owns_slice {w : World} {base size n : Nat} {e : TypeId} {v : Value} {xs : List Value} (h : w.ownsRow base e size v n xs) : ∃ A c, v = .slice A n c := by
  rcases h.2 with ⟨rfl, rfl⟩ | ⟨g, cap, cur, rfl, _⟩
  · exact ⟨none, 0, rfl⟩
  · exact ⟨_, cap, rfl⟩
/-- a row that is newer than w -/
def New (w : World) (v : Value) : Prop := ∀ k, v.ownBlock = some k → w.heap.size ≤ k
theorem new_nil (w : World) : New w (.slice none 0 0) := fun k h => by cases h
theorem grow_new {w w1 w2 : World} {v v' : Value} (h : Fr no w w1) (hv : New w v) (hg : w1.grownBy w2 v.ownBlock) (hl : v'.ownBlock = v.ownBlock ∨ v'.ownBlock = some w1.heap.size) : Fr no w w2 ∧ New w v' := by
  refine ⟨h.trans (Fr.grown hg) (fun i hi q => absurd (hv i q.symm) (by omega)), fun k hk => ?_⟩
  rcases hl with hl | hl
  · exact hv k (hl ▸ hk)
  · rw [hl] at hk; injection hk with hk; have := h.size; omega
/-- the call has ended with this answer and state -/
def RDone (w : World) (b : Nat) (v : Value) (r : Value) (s' : DSt) (e : Ending) (w' : World) : Prop :=
  ∃ v', e = .returned r ∧ IsR w' b v' s' ∧ Fr (fun k => k = b ∨ some k = v.ownBlock) w w' ∧ (∀ g, v'.ownBlock = some g → v.ownBlock = some g ∨ w.heap.size ≤ g)
theorem rebuilt {vo : Value} {w wb w3 : World} {o : Obj} {b : Nat} {v3 : Value} {n : Nat} {xs : List Value} {s s' : DSt} (hw : wb = w.alloc o) (hb : w.heap[b]? = some (rblk vo s)) (h3 : Fr no wb w3) (hv : New wb v3) (ho : w3.ownsRow 0 86 3 v3 n xs)
    (hx : xs = fcells s'.files) (hn : n = s'.files.length) (hl : leftR s' = leftR s) (hd : s'.down = s.down) (hok : s'.Ok) : IsR (w3.setCell ⟨b, 0, none⟩ v3) b v3 s' ∧ Fr (fun k => k = b) w (w3.setCell ⟨b, 0, none⟩ v3) ∧ New w v3 := by
  subst hw
  have hf : Fr no w w3 := ((Fr.refl no w).alloc o).trans h3 (fun _ _ z => z)
  have hlt := heap_lt hb
  have hne : v3.ownBlock ≠ some b := fun q => by have := hv b q; simp at this; omega
  refine ⟨⟨?_, ?_, hne, hok⟩, (hf.mono (fun _ _ q => q.elim)).setCell _ _ (fun _ => rfl), fun k hk => by have := hv k hk; simp at this; omega⟩
  · have := heap_setCell_at (hf.keep hb id) 0 v3
    simp only [rblk, hl, hd]
    simpa [rblk] using this
  · rw [← hx, ← hn]
    exact (Fr.setCell (S := fun k => k = b) (Fr.refl _ w3) ⟨b, 0, none⟩ v3 (fun _ => rfl)).owns ho (fun k hk q => hne (q ▸ hk))
theorem rebuilt' {vo : Value} {w w3 : World} {b : Nat} {v3 : Value} {n : Nat} {xs : List Value} {s s' : DSt} (hb : w.heap[b]? = some (rblk vo s)) (hf : Fr no w w3) (hv : New w v3) (ho : w3.ownsRow 0 86 3 v3 n xs)
    (hx : xs = fcells s'.files) (hn : n = s'.files.length) (hl : leftR s' = leftR s) (hd : s'.down = s.down) (hok : s'.Ok) : RDone w b vo (.tuple #[]) s' (.returned (.tuple #[])) (w3.setCell ⟨b, 0, none⟩ v3) := by
  have hlt := heap_lt hb
  have hne : v3.ownBlock ≠ some b := fun q => by have := hv b q; omega
  refine ⟨v3, rfl, ⟨?_, ?_, hne, hok⟩, ((hf.mono (fun _ _ q => q.elim)).setCell _ _ (fun _ => .inl rfl)), fun k hk => .inr (hv k hk)⟩
  · have := heap_setCell_at (hf.keep hb id) 0 v3
    simp only [rblk, hl, hd]
    simpa [rblk] using this
  · rw [← hx, ← hn]
    exact (Fr.setCell (S := fun k => k = b) (Fr.refl _ w3) ⟨b, 0, none⟩ v3 (fun _ => rfl)).owns ho (fun k hk q => hne (q ▸ hk))
theorem IsR.set3 {W : World} {b g n c : Nat} {s : DSt} (h : IsR W b (.slice (some ⟨g, 0, none⟩) n c) s) (k : Nat) (p : ByteArray × File) (hk : k < s.files.length) (hok : ({ s with files := s.files.set k p } : DSt).Ok) :
    IsR (((W.setCell ⟨g, k * 3, none⟩ (.string p.1)).setCell ⟨g, k * 3 + 1, none⟩ (.string p.2.1)).setCell ⟨g, k * 3 + 2, none⟩ (.int .i64 p.2.2)) b (.slice (some ⟨g, 0, none⟩) n c) { s with files := s.files.set k p } := by
  have hn : n = s.files.length := by
    rcases h.own.2 with ⟨q, _⟩ | ⟨g', cap', cur, q, _⟩
    · cases q
    · injection q
  subst hn
  have hne : b ≠ g := fun q => h.ne (by rw [q]; rfl)
  refine ⟨?_, ?_, h.ne, hok⟩
  · rw [Below.heap_setCell _ _ _ _ hne, Below.heap_setCell _ _ _ _ hne, Below.heap_setCell _ _ _ _ hne]
    exact h.blk
  · have := owns_set (owns_set (owns_set h.own (k * 3) (.string p.1)) (k * 3 + 1) (.string p.2.1)) (k * 3 + 2) (.int .i64 p.2.2)
    rw [fcells_set _ _ _ hk] at this
    simpa using this

set_option maxHeartbeats 4000000 in
set_option maxRecDepth 100000 in
theorem put_any (b : Nat) (v : Value) (s : DSt) (name f1 : ByteArray) (f2 : Int) (w : World) (h : IsR w b v s) (hnm : name.size ≤ 32) (hfit : f1.size ≤ 262144 ∧ 0 ≤ f2 ∧ f2 ≤ f1.size) (hl : (sput s.files name (f1, f2)).length ≤ 64) :
    Calls Try.prog 77 #[.pointer (some ⟨b, 0, none⟩), .agg #[.string name, .string f1, .int .i64 f2]] w (RDone w b v (.tuple #[]) { s with files := sput s.files name (f1, f2) }) := by
  obtain ⟨A, c, rfl, hc⟩ := h.form
  have hlt := h.lt
  have hfew := h.ok.few
  have hlb : b < w.heap.size := hlt.1
  have HI := Lib.hid h
  have Hl := Lib.hid hl
  have HIw := Lib.hid (h.later ((Fr.refl no w).alloc (.cells #[.string name, .string f1, .int .i64 f2] 86)))
  have HRc := Lib.hid (Rc.of_owns HIw.out.own (fcells_one _))
  clear h hl
  have h0 : w.cell? ⟨b, 0, none⟩ = some (.slice A s.files.length c) := cells_at HI.out.blk 0 _ rfl
  have h0f : w.frozen? ⟨b, 0, none⟩ = false := free_at HI.out.blk 0
  have Hlt := Lib.hid hlt
  clear hlt
  go_enter Try.func77, Try.ntmps77
  go_wp2_with fail
  go_loopw [4] (fun i wr => ∃ k q : Nat, i = .int .i64 k ∧ k ≤ s.files.length ∧ Hid (∀ j p, j < k → s.files[j]? = some p → bl p.1 < bl name) ∧ wr = (w.alloc (.cells #[.string name, .string f1, .int .i64 f2] 86)).drewN q) (fun i _ => s.files.length - (intOf i).toNat)
  case atStart => exact ⟨0, 0, rfl, Nat.zero_le _, fun j p hj => by omega, rfl⟩
  case round =>
    obtain ⟨k, q, rfl, hk, hbef, rfl⟩ := hrel
    by_cases hlen : k < s.files.length
    · obtain ⟨p, hp⟩ : ∃ p, s.files[k]? = some p := ⟨_, List.getElem?_eq_getElem hlen⟩
      obtain ⟨g, rfl, e0, e1, e2, e3, e4, e5⟩ := HI.out.at_ k p hp
      have Hp := Lib.hid hp
      have HE := Lib.hid (And.intro e3 e4)
      clear hp e3 e4
      have t1 : decide ((k : Int) < (s.files.length : Int)) = true := by simp; omega
      have t2 : decide (k < s.files.length) = true := by simp; omega
      by_cases hq : bl p.1 < bl name
      · have t3 : Op.bytesLess p.1.toList name.toList = true := by rw [less_of]; simpa using hq
        have HQ := Lib.hid hq
        clear hq
        go_wp2_with fail
        go_quiet (fail)
        go_wp2_with fail
        go_roundw
        case rel => exact ⟨k + 1, _, by go_num, by omega, fun j p' hj hp' => by
          by_cases e : j = k
          · subst e; rw [Hp.out] at hp'; injection hp' with hp'; subst hp'; exact HQ.out
          · exact hbef.out j p' (by omega) hp', rfl⟩
        case measure => simp [intOf]; omega
      · have t3 : Op.bytesLess p.1.toList name.toList = false := by rw [less_of]; simpa using hq
        have HQ := Lib.hid hq
        clear hq
        by_cases heq : p.1 = name
        · have t4 : (p.1.toList == name.toList) = true := by rw [beq_name]; simpa using heq
          have HE2 := Lib.hid heq
          clear heq
          go_wp2_with fail
          go_quiet (fail)
          go_wp2_with fail
          go_quiet (fail)
          go_wp2_with fail
          have hgb : g ≠ b := HE.out.2
          have f0 := HE.out.1 (k * 3)
          have f1' := HE.out.1 (k * 3 + 1)
          have f2' := HE.out.1 (k * 3 + 2)
          refine wp_region_still_tail 7 (by kernel_rfl) (by kernel_rfl) ?_
          simp only [List.take_succ_cons, List.take_zero, List.drop_succ_cons, List.drop_zero, World.drew_eq]
          repeat still_step
          refine wpStill_nil ?_
          go_wp2_with fail
          refine bodyPost_ret (results_none rfl _ _ _) rfl ?_
          have hsp := (sput_at_place (f1, f2) name s.files k hbef.out (fun p' hp' => by rw [Hp.out] at hp'; injection hp' with hp'; subst hp'; exact HQ.out) hk).1 ⟨p, Hp.out, HE2.out⟩
          refine ⟨_, rfl, ?_, ?_, fun g hg => .inl hg⟩
          · rw [hsp]
            refine (HIw.out.later ((Fr.refl no _).drewN _)).set3 k (name, (f1, f2)) hlen (ok_put HI.out.ok name (f1, f2) hfit Hl.out _ hsp.symm HI.out.ok.short hnm)
          · exact (((((Fr.refl _ w).alloc _).drewN _).setCell _ _ (fun _ => .inr rfl)).setCell _ _ (fun _ => .inr rfl)).setCell _ _ (fun _ => .inr rfl)
        · have t4 : (p.1.toList == name.toList) = false := by rw [beq_name]; simpa using heq
          have HE2 := Lib.hid heq
          clear heq
          go_wp2_with fail
          go_quiet (fail)
          go_wp2_with fail
          go_quiet (fail)
          go_wp2_with (first | (at_builtin; refine wp_append rfl (.tmp 55) (.tmp 61) 76 rfl El86 _ _ _ rfl (World.ownsRow_nil _ 0 86 3) _ _ _ rfl ((HRc.out.keep ((Fr.refl no _).drewN _) (fun _ _ z => z)).take k hk) (by unfold maxLen; omega) (by omega) (Nat.zero_le _) ?_; intro v1 w1 ho1 hg1 hloc1; obtain ⟨hn1, hv1⟩ := grow_new ((Fr.refl no (w.alloc (.cells #[.string name, .string f1, .int .i64 f2] 86))).drewN _) (new_nil _) hg1 hloc1; obtain ⟨x0, x1, x2, x3⟩ := cells3 (hn1.keep (heap_alloc_at w _) id); have HO1 := Lib.hid ho1; have HN1 := Lib.hid hn1; have HV1 := Lib.hid hv1; clear hg1 ho1 hloc1 hn1 hv1) | (at_builtin; refine wp_append rfl (.tmp 63) (.tmp 65) 76 rfl El86 _ _ _ rfl (HO1.out.alloc _) _ 1 [.string name, .string f1, .int .i64 f2] rfl (rc_new _ _ _ _ _) (by unfold maxLen; omega) (by omega) (Nat.zero_le _) ?_; intro v2 w2 ho2 hg2 hloc2; obtain ⟨hn2, hv2⟩ := grow_new (HN1.out.alloc _) HV1.out hg2 hloc2; have y0 := (((Fr.refl no w).alloc _).trans hn2 (fun _ _ z => z)).cell h0 id; have y1 := HI.out.lt.1; have HO2 := Lib.hid ho2; have HN2 := Lib.hid hn2; have HV2 := Lib.hid hv2; clear hg2 ho2 hloc2 hn2 hv2) | (at_builtin; refine wp_append rfl (.tmp 68) (.tmp 74) 76 rfl El86 _ _ _ rfl HO2.out _ _ _ rfl (drop_lt (HRc.out.keep HN2.out (fun _ _ z => z)) k hlen) (by unfold maxLen; omega) (by omega) (Nat.zero_le _) ?_; intro v3 w3 ho3 hg3 hloc3; obtain ⟨A3, c3, rfl⟩ := owns_slice ho3; obtain ⟨hn3, hv3⟩ := grow_new HN2.out HV2.out hg3 hloc3; have hn4 := ((Fr.refl no w).alloc _).trans hn3 (fun _ _ z => z); have z0 := hn4.cell h0 id; have z1 := free_at (hn4.keep HI.out.blk id) 0; clear hn4; have HO3 := Lib.hid ho3; have HN3 := Lib.hid hn3; have HV3 := Lib.hid hv3; clear hg3 ho3 hloc3 hn3 hv3) | fail)
          refine bodyPost_end (results_none rfl _ _ _) rfl ?_
          have hsp := (sput_at_place (f1, f2) name s.files k hbef.out (fun p' hp' => by rw [Hp.out] at hp'; injection hp' with hp'; subst hp'; exact HQ.out) hk).2 (fun p' hp' => by rw [Hp.out] at hp'; injection hp' with hp'; subst hp'; exact HE2.out)
          have hO := HO3.out
          have hV := HV3.out
          rw [show 0 + k + 1 + (s.files.length - k) = k + 1 + (s.files.length - k) by omega] at hO hV
          obtain ⟨r1, r2, r3⟩ := rebuilt (s' := { s with files := sput s.files name (f1, f2) }) rfl HI.out.blk HN3.out hV hO
            (by simp only [hsp]; rw [fcells_append, fcells_take, fcells_drop, List.nil_append, List.append_assoc]; rfl) (by simp only [hsp]; simp; omega) rfl rfl (ok_put HI.out.ok name (f1, f2) hfit Hl.out _ rfl HI.out.ok.short hnm)
          exact ⟨_, rfl, r1, r2.mono (fun _ _ q => .inl q), fun g hg => .inr (r3 g hg)⟩
    · obtain rfl : k = s.files.length := by omega
      have t1 : decide ((s.files.length : Int) < (s.files.length : Int)) = false := by simp
      have t2 : decide (s.files.length < s.files.length) = false := by simp
      go_wp2_with fail
      go_quiet (fail)
      go_wp2_with fail
      go_quiet (fail)
      go_wp2_with (first | (at_builtin; refine wp_append rfl (.tmp 55) (.tmp 61) 76 rfl El86 _ _ _ rfl (World.ownsRow_nil _ 0 86 3) _ _ _ rfl ((HRc.out.keep ((Fr.refl no _).drewN _) (fun _ _ z => z)).take s.files.length (Nat.le_refl _)) (by unfold maxLen; omega) (by omega) (Nat.zero_le _) ?_; intro v1 w1 ho1 hg1 hloc1; obtain ⟨hn1, hv1⟩ := grow_new ((Fr.refl no (w.alloc (.cells #[.string name, .string f1, .int .i64 f2] 86))).drewN _) (new_nil _) hg1 hloc1; obtain ⟨x0, x1, x2, x3⟩ := cells3 (hn1.keep (heap_alloc_at w _) id); have HO1 := Lib.hid ho1; have HN1 := Lib.hid hn1; have HV1 := Lib.hid hv1; clear hg1 ho1 hloc1 hn1 hv1) | (at_builtin; refine wp_append rfl (.tmp 63) (.tmp 65) 76 rfl El86 _ _ _ rfl (HO1.out.alloc _) _ 1 [.string name, .string f1, .int .i64 f2] rfl (rc_new _ _ _ _ _) (by unfold maxLen; omega) (by omega) (Nat.zero_le _) ?_; intro v2 w2 ho2 hg2 hloc2; obtain ⟨hn2, hv2⟩ := grow_new (HN1.out.alloc _) HV1.out hg2 hloc2; have y0 := (((Fr.refl no w).alloc _).trans hn2 (fun _ _ z => z)).cell h0 id; have y1 := HI.out.lt.1; have HO2 := Lib.hid ho2; have HN2 := Lib.hid hn2; have HV2 := Lib.hid hv2; clear hg2 ho2 hloc2 hn2 hv2) | (at_builtin; refine wp_append rfl (.tmp 68) (.tmp 74) 76 rfl El86 _ _ _ rfl HO2.out _ 0 [] rfl (rc_empty _ _ _ _) (by unfold maxLen; omega) (by omega) (Nat.zero_le _) ?_; intro v3 w3 ho3 hg3 hloc3; obtain ⟨A3, c3, rfl⟩ := owns_slice ho3; obtain ⟨hn3, hv3⟩ := grow_new HN2.out HV2.out hg3 hloc3; have hn4 := ((Fr.refl no w).alloc _).trans hn3 (fun _ _ z => z); have z0 := hn4.cell h0 id; have z1 := free_at (hn4.keep HI.out.blk id) 0; clear hn4; have HO3 := Lib.hid ho3; have HN3 := Lib.hid hn3; have HV3 := Lib.hid hv3; clear hg3 ho3 hloc3 hn3 hv3) | fail)
      all_goals
        refine bodyPost_end (results_none rfl _ _ _) rfl ?_
        have hnone : s.files[s.files.length]? = none := by simp
        have hsp := (sput_at_place (f1, f2) name s.files s.files.length hbef.out (fun p' hp' => by rw [hnone] at hp'; cases hp') hk).2 (fun p' hp' => by rw [hnone] at hp'; cases hp')
        have hO := HO3.out
        have hV := HV3.out
        rw [show 0 + s.files.length + 1 + 0 = s.files.length + 1 by omega] at hO hV
        obtain ⟨r1, r2, r3⟩ := rebuilt (s' := { s with files := sput s.files name (f1, f2) }) rfl HI.out.blk HN3.out hV hO
          (by simp only [hsp]; rw [fcells_append, fcells_take, List.nil_append, List.append_nil, List.drop_length]; rfl) (by simp only [hsp]; simp) rfl rfl (ok_put HI.out.ok name (f1, f2) hfit Hl.out _ rfl HI.out.ok.short hnm)
        exact ⟨_, rfl, r1, r2.mono (fun _ _ q => .inl q), fun g hg => .inr (r3 g hg)⟩
end Go.Proofs.Ythmjjbgjbcnjmaa

namespace Go.Proofs.Ythmjjbgjbcnjmaa
open Go.RowKit Go.Hop

theorem pl_del {β : Type} : ∀ {l : List (ByteArray × β)} {k : ByteArray} {i : Nat}, pl l k = some i → del l k = l.take i ++ l.drop (i + 1)
  | [], _, _, h => by simp [pl] at h
  | (a, b) :: t, k, i, h => by
    simp only [pl] at h
    split at h
    · rename_i e; injection h with h; subst h; simp [del, e]
    · rename_i e
      cases hp : pl t k with
      | none => simp [hp] at h
      | some j =>
        simp only [hp, Option.map_some, Option.some.injEq] at h
        subst h
        simp [del, e, pl_del hp]

set_option maxHeartbeats 4000000 in
set_option maxRecDepth 100000 in
theorem drop_any (b : Nat) (v : Value) (s : DSt) (i : Nat) (w : World) (h : IsR w b v s) (hi : i < s.files.length) (hok : ({ s with files := s.files.take i ++ s.files.drop (i + 1) } : DSt).Ok) :
    Calls Try.prog 80 #[.pointer (some ⟨b, 0, none⟩), .int .i64 i] w (RDone w b v (.tuple #[]) { s with files := s.files.take i ++ s.files.drop (i + 1) }) := by
  obtain ⟨A, c, rfl, hc⟩ := h.form
  have hfew := h.ok.few
  obtain ⟨p, hp⟩ : ∃ p, s.files[i]? = some p := ⟨_, List.getElem?_eq_getElem hi⟩
  obtain ⟨g, rfl, _, _, _, _, e4, e5⟩ := h.at_ i p hp
  have hlb := h.lt.1
  have HI := Lib.hid h
  have HRc := Lib.hid (Rc.of_owns h.own (fcells_one _))
  clear h hp e4
  have h0 : w.cell? ⟨b, 0, none⟩ = some (.slice (some ⟨g, 0, none⟩) s.files.length c) := cells_at HI.out.blk 0 _ rfl
  by_cases hlast : i + 1 < s.files.length
  · go_enter Try.func80, Try.ntmps80
    go_wp2_with (first | (at_builtin; refine wp_append rfl (.tmp 5) (.tmp 11) 76 rfl El86 _ _ _ rfl (World.ownsRow_nil _ 0 86 3) _ _ _ rfl (HRc.out.take i (by omega)) (by unfold maxLen; omega) (by omega) (Nat.zero_le _) ?_; intro v1 w1 ho1 hg1 hloc1; obtain ⟨hn1, hv1⟩ := grow_new (Fr.refl no w) (new_nil _) hg1 hloc1; have y0 := hn1.cell h0 id; have HO1 := Lib.hid ho1; have HN1 := Lib.hid hn1; have HV1 := Lib.hid hv1; clear hg1 ho1 hloc1 hn1 hv1) | (at_builtin; refine wp_append rfl (.tmp 14) (.tmp 21) 76 rfl El86 _ _ _ rfl HO1.out _ _ _ rfl (drop_lt (HRc.out.keep HN1.out (fun _ _ z => z)) (i + 1) hlast) (by unfold maxLen; omega) (by omega) (Nat.zero_le _) ?_; intro v3 w3 ho3 hg3 hloc3; obtain ⟨A3, c3, rfl⟩ := owns_slice ho3; obtain ⟨hn3, hv3⟩ := grow_new HN1.out HV1.out hg3 hloc3; have z0 := hn3.cell h0 id; have z1 := free_at (hn3.keep HI.out.blk id) 0; have HO3 := Lib.hid ho3; have HN3 := Lib.hid hn3; have HV3 := Lib.hid hv3; clear hg3 ho3 hloc3 hn3 hv3) | fail)
    refine bodyPost_end (results_none rfl _ _ _) rfl ?_
    have hO := HO3.out
    have hV := HV3.out
    rw [show 0 + i + (s.files.length - (i + 1)) = i + (s.files.length - (i + 1)) by omega] at hO hV
    exact rebuilt' HI.out.blk HN3.out hV hO (by rw [fcells_append, fcells_take, fcells_drop, List.nil_append]) (by simp; omega) rfl rfl hok
  · have hil : i + 1 = s.files.length := by omega
    have HIL := Lib.hid hil
    have hsub : s.files.length - (i + 1) = 0 := by omega
    clear hil
    by_cases hcc : c = i + 1
    · subst hcc
      go_enter Try.func80, Try.ntmps80
      go_wp2_with (first | (at_builtin; refine wp_append rfl (.tmp 5) (.tmp 11) 76 rfl El86 _ _ _ rfl (World.ownsRow_nil _ 0 86 3) _ _ _ rfl (HRc.out.take i (by omega)) (by unfold maxLen; omega) (by omega) (Nat.zero_le _) ?_; intro v1 w1 ho1 hg1 hloc1; obtain ⟨hn1, hv1⟩ := grow_new (Fr.refl no w) (new_nil _) hg1 hloc1; have y0 := hn1.cell h0 id; have HO1 := Lib.hid ho1; have HN1 := Lib.hid hn1; have HV1 := Lib.hid hv1; clear hg1 ho1 hloc1 hn1 hv1) | (at_builtin; refine wp_append rfl (.tmp 14) (.tmp 21) 76 rfl El86 _ _ _ rfl HO1.out _ 0 [] rfl (rc_empty _ _ _ _) (by unfold maxLen; omega) (by omega) (Nat.zero_le _) ?_; intro v3 w3 ho3 hg3 hloc3; obtain ⟨A3, c3, rfl⟩ := owns_slice ho3; obtain ⟨hn3, hv3⟩ := grow_new HN1.out HV1.out hg3 hloc3; have z0 := hn3.cell h0 id; have z1 := free_at (hn3.keep HI.out.blk id) 0; have HO3 := Lib.hid ho3; have HN3 := Lib.hid hn3; have HV3 := Lib.hid hv3; clear hg3 ho3 hloc3 hn3 hv3) | fail)
      refine bodyPost_end (results_none rfl _ _ _) rfl ?_
      have hO := HO3.out
      have hV := HV3.out
      rw [show 0 + i + 0 = i by omega] at hO hV
      exact rebuilt' HI.out.blk HN3.out hV hO (by rw [fcells_append, fcells_take, List.nil_append, List.append_nil, HIL.out, List.drop_length]; simp [fcells]) (by simp; omega) rfl rfl hok
    · have hcc2 : ¬ (c = i + 1) := hcc
      go_enter Try.func80, Try.ntmps80
      go_wp2_with (first | (at_builtin; refine wp_append rfl (.tmp 5) (.tmp 11) 76 rfl El86 _ _ _ rfl (World.ownsRow_nil _ 0 86 3) _ _ _ rfl (HRc.out.take i (by omega)) (by unfold maxLen; omega) (by omega) (Nat.zero_le _) ?_; intro v1 w1 ho1 hg1 hloc1; obtain ⟨hn1, hv1⟩ := grow_new (Fr.refl no w) (new_nil _) hg1 hloc1; have y0 := hn1.cell h0 id; have HO1 := Lib.hid ho1; have HN1 := Lib.hid hn1; have HV1 := Lib.hid hv1; clear hg1 ho1 hloc1 hn1 hv1) | (at_builtin; refine wp_append rfl (.tmp 14) (.tmp 21) 76 rfl El86 _ _ _ rfl HO1.out _ 0 [] rfl (rc_empty _ _ _ _) (by unfold maxLen; omega) (by omega) (Nat.zero_le _) ?_; intro v3 w3 ho3 hg3 hloc3; obtain ⟨A3, c3, rfl⟩ := owns_slice ho3; obtain ⟨hn3, hv3⟩ := grow_new HN1.out HV1.out hg3 hloc3; have z0 := hn3.cell h0 id; have z1 := free_at (hn3.keep HI.out.blk id) 0; have HO3 := Lib.hid ho3; have HN3 := Lib.hid hn3; have HV3 := Lib.hid hv3; clear hg3 ho3 hloc3 hn3 hv3) | fail)
      refine bodyPost_end (results_none rfl _ _ _) rfl ?_
      have hO := HO3.out
      have hV := HV3.out
      rw [show 0 + i + 0 = i by omega] at hO hV
      exact rebuilt' HI.out.blk HN3.out hV hO (by rw [fcells_append, fcells_take, List.nil_append, List.append_nil, HIL.out, List.drop_length]; simp [fcells]) (by simp; omega) rfl rfl hok
end Go.Proofs.Ythmjjbgjbcnjmaa

namespace Go.Proofs.Ythmjjbgjbcnjmaa
open Go.RowKit Go.Hop

theorem plI_cases {β : Type} (l : List (ByteArray × β)) (k : ByteArray) : (∃ i v, pl l k = some i ∧ plI l k = i ∧ l[i]? = some (k, v) ∧ get l k = some v ∧ i < l.length) ∨ (pl l k = none ∧ plI l k = -1 ∧ get l k = none) := by
  cases h : pl l k with
  | none => exact .inr ⟨rfl, by simp [plI, h], pl_none h⟩
  | some i =>
    obtain ⟨v, h1, h2⟩ := pl_some h
    exact .inl ⟨i, v, rfl, by simp [plI, h], h1, h2, (List.getElem?_eq_some_iff.1 h1).1⟩
def knownI (s : DSt) (name : ByteArray) : Int := if dknown s name = 0 then plI s.files name else 0

set_option maxHeartbeats 400000 in
theorem rknown_any (b : Nat) (v : Value) (s : DSt) (name : ByteArray) (w : World) (h : IsR w b v s) (hn : name.size ≤ 140737488351232) :
    Calls Try.prog 79 #[.pointer (some ⟨b, 0, none⟩), .string name] w fun e w' => e = .returned (.tuple #[.int .i64 (knownI s name), .int .i64 (dknown s name)]) ∧ w = w' := by
  have HI := Lib.hid h
  clear h
  cases hnm : named name with
  | false =>
    have HR := Lib.hid (show dknown s name = 10 by simp [dknown, hnm])
    go_enter Try.func79, Try.ntmps79
    go_wp2_with (go_at_call 74; refine (named_any _ _ hn).mono ?_; rintro e w' ⟨rfl, rfl⟩)
    go_ret2
    exact ⟨by rw [show knownI s name = 0 by unfold knownI; rw [HR.out]; rfl, HR.out]; rfl, rfl⟩
  | true =>
    rcases plI_cases s.files name with ⟨i, f, h1, h2, h3, h4, h5⟩ | ⟨h1, h2, h3⟩
    · have HR := Lib.hid (show dknown s name = 0 by rw [show dknown s name = if get s.files name = none then 5 else 0 by simp [dknown, hnm], h4]; rfl)
      have H2 := Lib.hid h2
      have hi : i ≤ 64 := by have := HI.out.ok.few; omega
      clear h1 h2 h3 h4
      go_enter Try.func79, Try.ntmps79
      go_wp2_with (first | (go_at_call 74; refine (named_any _ _ hn).mono ?_; rintro e w' ⟨rfl, rfl⟩) | (go_at_call 75; refine (find_any b v s name _ HI.out).mono ?_; rintro e w' ⟨rfl, rfl⟩; rw [H2.out]) | fail)
      go_ret2
      exact ⟨by rw [show knownI s name = (i : Int) by unfold knownI; rw [HR.out, H2.out]; rfl, HR.out]; rfl, rfl⟩
    · have HR := Lib.hid (show dknown s name = 5 by rw [show dknown s name = if get s.files name = none then 5 else 0 by simp [dknown, hnm], h3]; rfl)
      have H2 := Lib.hid h2
      clear h1 h2 h3
      go_enter Try.func79, Try.ntmps79
      go_wp2_with (first | (go_at_call 74; refine (named_any _ _ hn).mono ?_; rintro e w' ⟨rfl, rfl⟩) | (go_at_call 75; refine (find_any b v s name _ HI.out).mono ?_; rintro e w' ⟨rfl, rfl⟩; rw [H2.out]) | fail)
      go_ret2
      exact ⟨by rw [show knownI s name = 0 by unfold knownI; rw [HR.out]; rfl, HR.out]; rfl, rfl⟩
end Go.Proofs.Ythmjjbgjbcnjmaa

namespace Go.Proofs.Ythmjjbgjbcnjmaa
open Go.RowKit Go.Hop

theorem IsR.changed {w w2 : World} {b : Nat} {v : Value} {s : DSt} (h : IsR w b v s) (hf : Fr (fun x => x = b) w w2) (hb : w2.heap[b]? = some (rblk v (chg s).2)) : IsR w2 b v (chg s).2 :=
  ⟨hb, by rw [chg_files]; exact hf.owns h.own (fun k hk q => h.ne (by rw [hk, q])), h.ne, h.ok.chg⟩
theorem RDone.same {w w' : World} {b : Nat} {v r : Value} {s' : DSt} (h : IsR w' b v s') (hf : Fr (fun k => k = b ∨ some k = v.ownBlock) w w') : RDone w b v r s' (.returned r) w' := ⟨v, rfl, h, hf, fun _ h => .inl h⟩
theorem RDone.before {w w1 w2 : World} {b : Nat} {v r r' : Value} {s' : DSt} {e : Ending} (h : Fr (fun k => k = b ∨ some k = v.ownBlock) w w1) (hd : RDone w1 b v r s' e w2) (he : e = .returned r → e = .returned r') : RDone w b v r' s' e w2 := by
  obtain ⟨v', q1, q2, q3, q4⟩ := hd
  exact ⟨v', he q1, q2, h.trans q3 (fun _ _ z => z), fun g hg => (q4 g hg).imp id (fun z => Nat.le_trans h.size z)⟩
theorem RDone.state {w w' : World} {b : Nat} {v r : Value} {s' s'' : DSt} {e : Ending} (h : RDone w b v r s' e w') (hs : s' = s'') : RDone w b v r s'' e w' := hs ▸ h

theorem IsR.set1 {W : World} {b g n c : Nat} {s : DSt} (h : IsR W b (.slice (some ⟨g, 0, none⟩) n c) s) (k : Nat) (p : ByteArray × File) (x : Int) (hk : s.files[k]? = some p) (hok : ({ s with files := s.files.set k (p.1, (p.2.1, x)) } : DSt).Ok) :
    IsR (W.setCell ⟨g, k * 3 + 2, none⟩ (.int .i64 x)) b (.slice (some ⟨g, 0, none⟩) n c) { s with files := s.files.set k (p.1, (p.2.1, x)) } := by
  have hn : n = s.files.length := by
    rcases h.own.2 with ⟨q, _⟩ | ⟨g', cap', cur, q, _⟩
    · cases q
    · injection q
  subst hn
  have hne : b ≠ g := fun q => h.ne (by rw [q]; rfl)
  obtain ⟨hlt, he⟩ := List.getElem?_eq_some_iff.mp hk
  refine ⟨?_, ?_, h.ne, hok⟩
  · rw [Below.heap_setCell _ _ _ _ hne]
    exact h.blk
  · have := owns_set h.own (k * 3 + 2) (.int .i64 x)
    have hc := fcells_set s.files k (p.1, (p.2.1, x)) hlt
    obtain ⟨q0, q1, q2⟩ := fcells_at s.files k p hk
    have e0 : (fcells s.files).set (k * 3) (.string p.1) = fcells s.files := List.ext_getElem? fun j => by
      rw [List.getElem?_set]; split
      · next q => subst q; rw [q0]; split <;> simp_all
      · rfl
    have e1 : (fcells s.files).set (k * 3 + 1) (.string p.2.1) = fcells s.files := List.ext_getElem? fun j => by
      rw [List.getElem?_set]; split
      · next q => subst q; rw [q1]; split <;> simp_all
      · rfl
    dsimp only at hc
    rw [e0, e1] at hc
    rw [hc] at this
    simpa using this
theorem RDone.isr {w : World} {b : Nat} {v : Value} {s s' : DSt} (h : IsR w b v s) (hs : s = s') : IsR w b v s' := hs ▸ h
theorem IsR.drew {w : World} {b : Nat} {v : Value} {s : DSt} (h : IsR w b v s) : IsR w.drew b v s := (World.drew_eq w) ▸ h.later ((Fr.refl no w).drewN 1)

set_option maxHeartbeats 1000000 in
set_option maxRecDepth 100000 in
theorem rsync_any (b : Nat) (v : Value) (s : DSt) (name : ByteArray) (w : World) (h : IsR w b v s) (hn : name.size ≤ 140737488351232) :
    Calls Try.prog 39 #[.pointer (some ⟨b, 0, none⟩), .string name] w (RDone w b v (.int .i64 (dsync s name).1) (dsync s name).2) := by
  have HI := Lib.hid h
  have hsh := h.ok.short
  clear h
  by_cases hk : dknown s name = 0
  · obtain ⟨f, hf⟩ := known_there hk
    rcases plI_cases s.files name with ⟨i, f', h1, h2, h3, h4, h5⟩ | ⟨h1, h2, h3⟩
    · have hff : f = f' := by rw [hf] at h4; injection h4
      subst hff
      have HK := Lib.hid (show knownI s name = (i : Int) by rw [knownI, if_pos hk, h2])
      have Hk := Lib.hid hk
      have H3 := Lib.hid h3
      have hi64 : i ≤ 64 := by have := HI.out.ok.few; omega
      have Hfa := Lib.hid (show fileAt s name = f by simp [fileAt, hf])
      have Hf := Lib.hid hf
      clear hk hf h1 h2 h3 h4
      cases hcg : (chg s).1 with
      | false =>
        have HR := Lib.hid (show dsync s name = (11, (chg s).2) by simp [dsync, dalter, Hk.out, hcg])
        go_enter Try.func39, Try.ntmps39
        go_wp2_with (first | (go_at_call 79; refine (rknown_any b v s name _ HI.out hn).mono ?_; rintro e w' ⟨rfl, rfl⟩; rw [HK.out, Hk.out]) | (go_at_call 76; refine (rchange_any b v s _ HI.out.blk hsh).mono ?_; rintro e w1 ⟨rfl, hb1, hf1⟩; have HB := Lib.hid hb1; clear hb1) | fail)
        go_ret
        rw [HR.out]
        exact RDone.same (HI.out.changed hf1 HB.out) (hf1.mono (fun _ _ q => .inl q))
      | true =>
        have HR := Lib.hid (show dsync s name = (0, { (chg s).2 with files := sput s.files name (f.1, f.1.size) }) by simp [dsync, dalter, Hk.out, hcg, Hfa.out])
        obtain ⟨A, c, rfl, hc⟩ := HI.out.form
        go_enter Try.func39, Try.ntmps39
        go_wp2_with (first | (go_at_call 79; refine (rknown_any b _ s name _ HI.out hn).mono ?_; rintro e w' ⟨rfl, rfl⟩; rw [HK.out, Hk.out]) | (go_at_call 76; refine (rchange_any b _ s _ HI.out.blk hsh).mono ?_; rintro e w1 ⟨rfl, hb1, hf1⟩; have HI1 := Lib.hid (HI.out.changed hf1 hb1); clear hb1) | fail)
        obtain ⟨g, rfl, e0, e1, e2, e3, e4, e5⟩ := HI1.out.at_ i (name, f) (by rw [chg_files]; exact H3.out)
        have c0 : w1.cell? ⟨b, 0, none⟩ = some (.slice (some ⟨g, 0, none⟩) s.files.length c) := cells_at HI1.out.blk 0 _ rfl
        have f2' := e3 (i * 3 + 2)
        have HE := Lib.hid e4
        clear e3 e4
        simp only at e0 e1 e2
        refine wp_region_still_tail 16 (by kernel_rfl) (by kernel_rfl) ?_
        simp only [List.take_succ_cons, List.take_zero, List.drop_succ_cons, List.drop_zero, World.drew_eq]
        repeat still_step
        refine wpStill_nil ?_
        go_wp2_with fail
        go_ret
        rw [HR.out]
        have hsp := sput_at HI.out.ok.srt i (name, f) (f.1, (f.1.size : Int)) H3.out
        have hfit := HI.out.ok.fit (name, f) (List.mem_of_getElem? H3.out)
        have hp1 := HI1.out.set1 i (name, f) f.1.size (by rw [chg_files]; exact H3.out) (ok_put (s := s) HI.out.ok name (f.1, (f.1.size : Int)) ⟨hfit.1, by omega, Int.le_refl _⟩ (by rw [hsp, List.length_set]; exact HI.out.ok.few) _ (by rw [hsp, chg_files]) HI1.out.ok.short (HI.out.ok.nam (name, f) (List.mem_of_getElem? H3.out)))
        refine RDone.same (RDone.isr hp1.drew (by rw [hsp, chg_files])) (((hf1.mono (fun _ _ q => .inl q)).setCell _ _ (fun _ => .inr rfl)).drew)
    · rw [h3] at hf; cases hf
  · have hk' : (dknown s name != 0) = true := by simpa using hk
    have HR := Lib.hid (show dsync s name = (dknown s name, s) by simp [dsync, dalter, hk])
    have HK := Lib.hid (show knownI s name = 0 by rw [knownI, if_neg hk])
    clear hk
    go_enter Try.func39, Try.ntmps39
    go_wp2_with (first | (go_at_call 79; refine (rknown_any b v s name _ HI.out hn).mono ?_; rintro e w' ⟨rfl, rfl⟩; rw [HK.out]) | fail)
    go_ret
    rw [HR.out]
    exact RDone.same HI.out (Fr.refl _ _)
end Go.Proofs.Ythmjjbgjbcnjmaa

namespace Go.Proofs.Ythmjjbgjbcnjmaa
open Go.RowKit Go.Hop

theorem ok_del {s : DSt} (h : s.Ok) (name : ByteArray) : ({ s with files := del s.files name } : DSt).Ok :=
  ⟨h.srt.del name, Nat.le_trans (sub_del _ _).length_le h.few, fun p hp => h.fit p ((sub_del _ _).subset hp), fun p hp => h.nam p ((sub_del _ _).subset hp), h.short⟩
theorem RDone.eqn {w w' : World} {b : Nat} {v r r' : Value} {s s' : DSt} {e : Ending} (h : RDone w b v r s e w') (hr : e = .returned r → e = .returned r') (hs : s = s') : RDone w b v r' s' e w' := by
  subst hs; obtain ⟨v', q1, q2⟩ := h; exact ⟨v', hr q1, q2⟩

set_option maxHeartbeats 1000000 in
set_option maxRecDepth 100000 in
theorem rremove_any (b : Nat) (v : Value) (s : DSt) (name : ByteArray) (w : World) (h : IsR w b v s) (hn : name.size ≤ 140737488351232) :
    Calls Try.prog 43 #[.pointer (some ⟨b, 0, none⟩), .string name] w (RDone w b v (.int .i64 (dremove s name).1) (dremove s name).2) := by
  have HI := Lib.hid h
  have hsh := h.ok.short
  clear h
  by_cases hk : dknown s name = 0
  · obtain ⟨f, hf⟩ := known_there hk
    rcases plI_cases s.files name with ⟨i, f', h1, h2, h3, h4, h5⟩ | ⟨h1, h2, h3⟩
    · have HK := Lib.hid (show knownI s name = (i : Int) by rw [knownI, if_pos hk, h2])
      have Hk := Lib.hid hk
      have hi64 : i ≤ 64 := by have := HI.out.ok.few; omega
      have Hpl := Lib.hid (pl_del h1)
      clear hk hf h1 h2 h3 h4
      cases hcg : (chg s).1 with
      | false =>
        have HR := Lib.hid (show dremove s name = (11, (chg s).2) by simp [dremove, dalter, Hk.out, hcg])
        go_enter Try.func43, Try.ntmps43
        go_wp2_with (first | (go_at_call 79; refine (rknown_any b v s name _ HI.out hn).mono ?_; rintro e w' ⟨rfl, rfl⟩; rw [HK.out, Hk.out]) | (go_at_call 76; refine (rchange_any b v s _ HI.out.blk hsh).mono ?_; rintro e w1 ⟨rfl, hb1, hf1⟩; have HB := Lib.hid hb1; clear hb1) | fail)
        go_ret
        rw [HR.out]
        exact RDone.same (HI.out.changed hf1 HB.out) (hf1.mono (fun _ _ q => .inl q))
      | true =>
        have HR := Lib.hid (show dremove s name = (0, { (chg s).2 with files := del s.files name }) by simp [dremove, dalter, Hk.out, hcg])
        go_enter Try.func43, Try.ntmps43
        go_wp2_with (first | (go_at_call 79; refine (rknown_any b _ s name _ HI.out hn).mono ?_; rintro e w' ⟨rfl, rfl⟩; rw [HK.out, Hk.out]) | (go_at_call 76; refine (rchange_any b _ s _ HI.out.blk hsh).mono ?_; rintro e w1 ⟨rfl, hb1, hf1⟩; have HI1 := Lib.hid (HI.out.changed hf1 hb1); clear hb1) | (go_at_call 80; refine (drop_any b _ _ i _ HI1.out (by rw [chg_files]; exact h5) (by have q := ok_del HI1.out.ok name; rw [chg_files, Hpl.out] at q; rw [chg_files]; exact q)).mono ?_; intro e w2 hd; obtain ⟨v', rfl, hd2⟩ := hd; have HD := Lib.hid hd2; clear hd2) | fail)
        go_ret
        rw [HR.out]
        exact RDone.state (RDone.before (hf1.mono (fun _ _ q => .inl q)) ⟨v', rfl, HD.out⟩ id) (by rw [chg_files, Hpl.out])
    · rw [h3] at hf; cases hf
  · have hk' : (dknown s name != 0) = true := by simpa using hk
    have HR := Lib.hid (show dremove s name = (dknown s name, s) by simp [dremove, dalter, hk])
    have HK := Lib.hid (show knownI s name = 0 by rw [knownI, if_neg hk])
    clear hk
    go_enter Try.func43, Try.ntmps43
    go_wp2_with (first | (go_at_call 79; refine (rknown_any b v s name _ HI.out hn).mono ?_; rintro e w' ⟨rfl, rfl⟩; rw [HK.out]) | fail)
    go_ret
    rw [HR.out]
    exact RDone.same HI.out (Fr.refl _ _)

set_option maxHeartbeats 1000000 in
set_option maxRecDepth 100000 in
theorem rread_any (b : Nat) (v : Value) (s : DSt) (name : ByteArray) (w : World) (h : IsR w b v s) (hn : name.size ≤ 140737488351232) :
    Calls Try.prog 45 #[.pointer (some ⟨b, 0, none⟩), .string name] w fun e w' => e = .returned (.tuple #[.string (dread s name).1, .int .i64 (dread s name).2]) ∧ Fr no w w' := by
  have HI := Lib.hid h
  by_cases hk : dknown s name = 0
  · obtain ⟨f, hf⟩ := known_there hk
    rcases plI_cases s.files name with ⟨i, f', h1, h2, h3, h4, h5⟩ | ⟨h1, h2, h3⟩
    · have hff : f = f' := by rw [hf] at h4; injection h4
      subst hff
      have HK := Lib.hid (show knownI s name = (i : Int) by rw [knownI, if_pos hk, h2])
      have HR := Lib.hid (show dread s name = (f.1, 0) by simp [dread, hk, fileAt, hf])
      have Hk := Lib.hid hk
      have hi64 : i ≤ 64 := by have := HI.out.ok.few; omega
      obtain ⟨A, c, rfl, hc⟩ := HI.out.form
      obtain ⟨g, rfl, e0, e1, e2, e3, e4, e5⟩ := HI.out.at_ i (name, f) h3
      have c0 : w.cell? ⟨b, 0, none⟩ = some (.slice (some ⟨g, 0, none⟩) s.files.length c) := cells_at HI.out.blk 0 _ rfl
      simp only at e0 e1 e2
      clear hk hf h1 h2 h3 h4 e3 e4 h
      go_enter Try.func45, Try.ntmps45
      go_wp2_with (first | (go_at_call 79; refine (rknown_any b _ s name _ HI.out hn).mono ?_; rintro e w' ⟨rfl, rfl⟩; rw [HK.out, Hk.out]) | fail)
      go_ret2
      exact ⟨by rw [HR.out]; rfl, Fr.refl _ _⟩
    · rw [h3] at hf; cases hf
  · have hk' : (dknown s name != 0) = true := by simpa using hk
    have HR := Lib.hid (show dread s name = (⟨#[]⟩, dknown s name) by simp [dread, hk])
    have HK := Lib.hid (show knownI s name = 0 by rw [knownI, if_neg hk])
    clear hk h
    go_enter Try.func45, Try.ntmps45
    go_wp2_with (first | (go_at_call 79; refine (rknown_any b v s name _ HI.out hn).mono ?_; rintro e w' ⟨rfl, rfl⟩; rw [HK.out]) | fail)
    go_ret2
    exact ⟨by rw [HR.out]; rfl, Fr.refl _ _⟩

set_option maxHeartbeats 1000000 in
theorem rfuse_any (b : Nat) (v : Value) (s : DSt) (n : Int) (w : World) (h : IsR w b v s) (hn : n ≤ 9223372036854775807) :
    Calls Try.prog 47 #[.pointer (some ⟨b, 0, none⟩), .int .i64 n] w (RDone w b v (.int .i64 (dfuse s n).1) (dfuse s n).2) := by
  have hc1 := cells_at h.blk 1 _ rfl
  have hf1 := free_at h.blk 1
  have HI := Lib.hid h
  clear h
  by_cases h0 : n < 0
  · have HR := Lib.hid (show dfuse s n = (1, s) by simp [dfuse, h0])
    go_enter Try.func47, Try.ntmps47
    go_wp2
    go_ret
    rw [HR.out]
    exact RDone.same HI.out (Fr.refl _ _)
  · have HR := Lib.hid (show dfuse s n = (0, { s with fuse := some n.toNat }) by simp [dfuse, h0])
    go_enter Try.func47, Try.ntmps47
    go_wp2
    go_ret
    rw [HR.out]
    obtain ⟨hb, hown, hne, hok⟩ := HI.out
    have hfr : Fr (fun x => x = b) w (w.setCell ⟨b, 1, none⟩ (.int .i64 n)) := (Fr.refl (fun x => x = b) w).setCell ⟨b, 1, none⟩ _ (fun _ => rfl)
    refine RDone.same ⟨?_, hfr.owns hown (fun k hk q => hne (by rw [hk, q])), hne, ⟨hok.srt, hok.few, hok.fit, hok.nam, by simp; omega⟩⟩ (hfr.mono (fun _ _ q => .inl q))
    have h1 := heap_setCell_at hb 1 (.int .i64 n)
    have e : ((n.toNat : Nat) : Int) = n := by omega
    simpa [rblk, leftR, e] using h1

theorem rnew_any (w : World) : Calls Try.prog 10 #[] w fun e w' => e = .returned (.pointer (some ⟨w.heap.size, 0, none⟩)) ∧ IsR w' w.heap.size (.slice none 0 0) DSt.new ∧ Fr no w w' := by
  go_enter Try.func10, Try.ntmps10
  go_wp2
  go_ret
  refine ⟨rfl, ⟨?_, World.ownsRow_nil _ 0 86 3, (fun h => by cases h), DSt.Ok.new⟩, (Fr.refl _ _).alloc _⟩
  exact heap_alloc_at w (.cells #[.slice none 0 0, .int .i64 (-1), .bool false] 78)
end Go.Proofs.Ythmjjbgjbcnjmaa

namespace Go.Proofs.Ythmjjbgjbcnjmaa
open Go.RowKit Go.Hop

theorem dappend_dapp1 {s : DSt} {name data : ByteArray} (hnm : named name = true) : dappend s name data = dapp1 s (fileAt s name) (get s.files name).isSome name data := by
  unfold dappend dapp1
  rw [hnm]
  cases get s.files name <;> simp

/-- the end of Append: the local file stands in a block newer than w -/
theorem rapp_end {w wp w1 : World} {b : Nat} {v : Value} {s s' : DSt} {name : ByteArray} {f : File} {e : Ending} {w3 : World} {g : Nat} {u : Value} (hs : s' = { (chg s).2 with files := sput (chg s).2.files name f })
    (h0 : Fr no w wp) (h1 : Fr (fun x => x = b) wp w1) (hg : w.heap.size ≤ g)
    (hd : ∃ v', IsR w3 b v' { (chg s).2 with files := sput (chg s).2.files name f } ∧ Fr (fun k => k = b ∨ some k = v.ownBlock) (w1.setCell ⟨g, 1, none⟩ u) w3 ∧ (∀ q, v'.ownBlock = some q → v.ownBlock = some q ∨ (w1.setCell ⟨g, 1, none⟩ u).heap.size ≤ q)) (he : e = .returned (.int .i64 0)) :
    RDone w b v (.int .i64 0) s' e w3 := by
  subst hs he
  obtain ⟨v', q1, q2, q3⟩ := hd
  have hfr : Fr (fun k => k = b ∨ some k = v.ownBlock) w (w1.setCell ⟨g, 1, none⟩ u) := ((h0.mono (fun _ _ q => q.elim)).trans h1 (fun _ _ q => .inl q)).setCell _ _ (fun q => absurd q (by show ¬ g < w.heap.size; omega))
  exact RDone.before hfr ⟨v', rfl, q1, q2, q3⟩ id

set_option maxHeartbeats 1000000 in
set_option maxRecDepth 100000 in
theorem rappend_any (b : Nat) (v : Value) (s : DSt) (name data : ByteArray) (w : World) (h : IsR w b v s) (hn : name.size ≤ 140737488351232) (hd : data.size ≤ 140737488351232) :
    Calls Try.prog 37 #[.pointer (some ⟨b, 0, none⟩), .string name, .string data] w (RDone w b v (.int .i64 (dappend s name data).1) (dappend s name data).2) := by
  cases hnm : named name with
  | false =>
    have HR := Lib.hid (show dappend s name data = (10, s) by simp [dappend, hnm])
    go_enter Try.func37, Try.ntmps37
    go_wp2_with (go_at_call 74; refine (named_any _ _ hn).mono ?_; rintro e w' ⟨rfl, rfl⟩)
    go_ret
    rw [HR.out]
    exact RDone.same h (Fr.refl _ _)
  | true =>
  rw [dappend_dapp1 hnm]
  have HI := Lib.hid h
  have hsh := h.ok.short
  have hfew := h.ok.few
  obtain ⟨A, c, rfl, hc⟩ := h.form
  have c0 : w.cell? ⟨b, 0, none⟩ = some (.slice A s.files.length c) := cells_at h.blk 0 _ rfl
  have hlb := h.lt.1
  have hnb : b ≠ w.heap.size := by omega
  have Hnm := Lib.hid (named_size hnm)
  clear h
  rcases plI_cases s.files name with ⟨i, f, h1, h2, h3, h4, h5⟩ | ⟨h1, h2, h3⟩
  · have hi64 : i ≤ 64 := by omega
    obtain ⟨g, rfl, e0, e1, e2, e3, e4, e5⟩ := HI.out.at_ i (name, f) h3
    have Hfit := Lib.hid (show f.1.size ≤ 262144 ∧ 0 ≤ f.2 ∧ f.2 ≤ f.1.size from HI.out.ok.fit (name, f) (List.mem_of_getElem? h3))
    have hf1 := Hfit.out.1
    have H4 := Lib.hid h4
    have H2 := Lib.hid h2
    rw [show fileAt s name = f by simp [fileAt, h4], show (get s.files name).isSome = true by rw [h4]; rfl]
    simp only at e0 e1 e2 hf1
    have hge : w.heap.size ≠ g := by omega
    clear h1 h2 h3 h4 e3 e4
    by_cases hbig : 262144 < f.1.size + data.size
    · have HR := Lib.hid (show dapp1 s f true name data = (2, s) by simp [dapp1, hbig])
      go_enter Try.func37, Try.ntmps37
      go_wp2_with (first | (go_at_call 74; refine (named_any _ _ hn).mono ?_; rintro e w' ⟨rfl, rfl⟩) | (go_at_call 75; refine (find_any b _ s name _ HI.out).mono ?_; rintro e w' ⟨rfl, rfl⟩; rw [H2.out]) | fail)
      go_ret
      rw [HR.out]
      have hfr := (Fr.refl no w).alloc (.cells #[.string name, .string f.1, .int .i64 f.2] 86)
      exact RDone.same (HI.out.later hfr) (hfr.mono (fun _ _ q => q.elim))
    · have hfr := (Fr.refl no w).alloc (.cells #[.string name, .string f.1, .int .i64 f.2] 86)
      have hk := heap_alloc_at w (.cells #[.string name, .string f.1, .int .i64 f.2] 86)
      have HFR := Lib.hid hfr
      have HK := Lib.hid hk
      clear hfr hk
      cases hcg : (chg s).1 with
      | false =>
        have HR := Lib.hid (show dapp1 s f true name data = (11, (chg s).2) by simp [dapp1, hbig, hcg])
        go_enter Try.func37, Try.ntmps37
        go_wp2_with (first | (go_at_call 74; refine (named_any _ _ hn).mono ?_; rintro e w' ⟨rfl, rfl⟩) | (go_at_call 75; refine (find_any b _ s name _ HI.out).mono ?_; rintro e w' ⟨rfl, rfl⟩; rw [H2.out]) | (go_at_call 76; refine (rchange_any b _ s _ (HI.out.later HFR.out).blk hsh).mono ?_; rintro e w1 ⟨rfl, hb1, hf1⟩; have HB := Lib.hid hb1; clear hb1) | fail)
        go_ret
        rw [HR.out]
        exact RDone.same ((HI.out.later HFR.out).changed hf1 HB.out) ((HFR.out.mono (fun _ _ q => q.elim)).trans hf1 (fun _ _ q => .inl q))
      | true =>
        have HR := Lib.hid (show dapp1 s f true name data = (0, { (chg s).2 with files := sput s.files name (f.1 ++ data, f.2) }) by simp [dapp1, hbig, hcg])
        have Hl := Lib.hid (show (sput (chg s).2.files name (f.1 ++ data, f.2)).length ≤ 64 by rw [chg_files, len_sput HI.out.ok.srt, H4.out]; exact hfew)
        go_enter Try.func37, Try.ntmps37
        go_wp2_with (first | (go_at_call 74; refine (named_any _ _ hn).mono ?_; rintro e w' ⟨rfl, rfl⟩) | (go_at_call 75; refine (find_any b _ s name _ HI.out).mono ?_; rintro e w' ⟨rfl, rfl⟩; rw [H2.out]) | (go_at_call 76; refine (rchange_any b _ s _ (HI.out.later HFR.out).blk hsh).mono ?_; rintro e w1 ⟨rfl, hb1, hfc⟩; have HI1 := Lib.hid ((HI.out.later HFR.out).changed hfc hb1); clear hb1; obtain ⟨x0, x1, x2, x3⟩ := cells3 (hfc.keep HK.out (fun q => hnb q.symm)); have x4 := free_at (hfc.keep HK.out (fun q => hnb q.symm)) 1; have HFC := Lib.hid hfc; clear hfc) | (go_at_call 77; go_loud (refine (put_any b _ (chg s).2 name _ f.2 _ (HI1.out.keep ((Fr.refl (fun x => x = w.heap.size) w1).setCell _ _ (fun _ => rfl)) hnb (fun k hk => by have := HI.out.lt.2 k hk; omega)) Hnm.out (by rw [ByteArray.size_append]; have := Hfit.out; omega) Hl.out).mono ?_; intro e w2 hd; obtain ⟨v', rfl, hd2⟩ := hd; have HD := Lib.hid hd2; clear hd2)) | fail)
        go_ret
        rw [HR.out]
        exact rapp_end (by rw [chg_files]) HFR.out HFC.out (Nat.le_refl _) ⟨v', HD.out⟩ rfl
  · have H3 := Lib.hid h3
    have H2 := Lib.hid h2
    rw [show fileAt s name = (⟨#[]⟩, 0) by simp [fileAt, h3], show (get s.files name).isSome = false by rw [h3]; rfl]
    clear h1 h2 h3
    have hz0 : (⟨#[]⟩ : ByteArray).size = 0 := rfl
    by_cases hbig : 262144 < data.size
    · have HR := Lib.hid (show dapp1 s (⟨#[]⟩, 0) false name data = (2, s) by simp [dapp1, hz0, hbig])
      go_enter Try.func37, Try.ntmps37
      go_wp2_with (first | (go_at_call 74; refine (named_any _ _ hn).mono ?_; rintro e w' ⟨rfl, rfl⟩) | (go_at_call 75; refine (find_any b _ s name _ HI.out).mono ?_; rintro e w' ⟨rfl, rfl⟩; rw [H2.out]) | fail)
      go_ret
      rw [HR.out]
      have hfr := (Fr.refl no w).alloc (.cells #[.string name, .string ⟨#[]⟩, .int .i64 0] 86)
      exact RDone.same (HI.out.later hfr) (hfr.mono (fun _ _ q => q.elim))
    · by_cases hfull : 64 ≤ s.files.length
      · have HR := Lib.hid (show dapp1 s (⟨#[]⟩, 0) false name data = (2, s) by simp [dapp1, hfull])
        go_enter Try.func37, Try.ntmps37
        go_wp2_with (first | (go_at_call 74; refine (named_any _ _ hn).mono ?_; rintro e w' ⟨rfl, rfl⟩) | (go_at_call 75; refine (find_any b _ s name _ HI.out).mono ?_; rintro e w' ⟨rfl, rfl⟩; rw [H2.out]) | fail)
        go_ret
        rw [HR.out]
        have hfr := (Fr.refl no w).alloc (.cells #[.string name, .string ⟨#[]⟩, .int .i64 0] 86)
        exact RDone.same (HI.out.later hfr) (hfr.mono (fun _ _ q => q.elim))
      · have HFR := Lib.hid ((Fr.refl no w).alloc (.cells #[.string name, .string ⟨#[]⟩, .int .i64 0] 86))
        have HK := Lib.hid (heap_alloc_at w (.cells #[.string name, .string ⟨#[]⟩, .int .i64 0] 86))
        cases hcg : (chg s).1 with
        | false =>
          have HR := Lib.hid (show dapp1 s (⟨#[]⟩, 0) false name data = (11, (chg s).2) by simp [dapp1, hz0, hbig, hfull, hcg])
          go_enter Try.func37, Try.ntmps37
          go_wp2_with (first | (go_at_call 74; refine (named_any _ _ hn).mono ?_; rintro e w' ⟨rfl, rfl⟩) | (go_at_call 75; refine (find_any b _ s name _ HI.out).mono ?_; rintro e w' ⟨rfl, rfl⟩; rw [H2.out]) | (go_at_call 76; refine (rchange_any b _ s _ (HI.out.later HFR.out).blk hsh).mono ?_; rintro e w1 ⟨rfl, hb1, hf1⟩; have HB := Lib.hid hb1; clear hb1) | fail)
          go_ret
          rw [HR.out]
          exact RDone.same ((HI.out.later HFR.out).changed hf1 HB.out) ((HFR.out.mono (fun _ _ q => q.elim)).trans hf1 (fun _ _ q => .inl q))
        | true =>
          have HR := Lib.hid (show dapp1 s (⟨#[]⟩, 0) false name data = (0, { (chg s).2 with files := sput s.files name (⟨#[]⟩ ++ data, 0) }) by simp [dapp1, hz0, hbig, hfull, hcg])
          have Hl := Lib.hid (show (sput (chg s).2.files name (⟨#[]⟩ ++ data, (0 : Int))).length ≤ 64 by rw [chg_files, len_sput HI.out.ok.srt, H3.out]; simp; omega)
          go_enter Try.func37, Try.ntmps37
          go_wp2_with (first | (go_at_call 74; refine (named_any _ _ hn).mono ?_; rintro e w' ⟨rfl, rfl⟩) | (go_at_call 75; refine (find_any b _ s name _ HI.out).mono ?_; rintro e w' ⟨rfl, rfl⟩; rw [H2.out]) | (go_at_call 76; refine (rchange_any b _ s _ (HI.out.later HFR.out).blk hsh).mono ?_; rintro e w1 ⟨rfl, hb1, hfc⟩; have HI1 := Lib.hid ((HI.out.later HFR.out).changed hfc hb1); clear hb1; obtain ⟨x0, x1, x2, x3⟩ := cells3 (hfc.keep HK.out (fun q => hnb q.symm)); have x4 := free_at (hfc.keep HK.out (fun q => hnb q.symm)) 1; have HFC := Lib.hid hfc; clear hfc) | (go_at_call 77; go_loud (refine (put_any b _ (chg s).2 name _ 0 _ (HI1.out.keep ((Fr.refl (fun x => x = w.heap.size) w1).setCell _ _ (fun _ => rfl)) hnb (fun k hk => by have := HI.out.lt.2 k hk; omega)) Hnm.out (by rw [ByteArray.size_append]; have e : (⟨#[]⟩ : ByteArray).size = 0 := rfl; omega) Hl.out).mono ?_; intro e w2 hd; obtain ⟨v', rfl, hd2⟩ := hd; have HD := Lib.hid hd2; clear hd2)) | fail)
          go_ret
          rw [HR.out]
          exact rapp_end (by rw [chg_files]) HFR.out HFC.out (Nat.le_refl _) ⟨v', HD.out⟩ rfl
end Go.Proofs.Ythmjjbgjbcnjmaa

namespace Go.Proofs.Ythmjjbgjbcnjmaa
open Go.RowKit Go.Hop

theorem RDone.after {w w1 w2 w3 : World} {b g : Nat} {v v1 r : Value} {s2 : DSt} {e : Ending} (h1 : Fr (fun k => k = b ∨ some k = v.ownBlock) w w1) (hv : ∀ q, v1.ownBlock = some q → v.ownBlock = some q ∨ w.heap.size ≤ q) (h2 : Fr (fun k => k = g) w1 w2) (hg : w.heap.size ≤ g)
    (h3 : RDone w2 b v1 r s2 e w3) : RDone w b v r s2 e w3 := by
  obtain ⟨v', q1, q2, q3, q4⟩ := h3
  have h12 := h1.trans h2 (fun i hi q => absurd hi (by subst q; omega))
  refine ⟨v', q1, q2, h12.trans q3 (fun i hi q => ?_), fun q hq => ?_⟩
  · rcases q with q | q
    · exact .inl q
    · rcases hv i q.symm with z | z
      · exact .inr z.symm
      · omega
  · rcases q4 q hq with z | z
    · exact hv q z
    · exact .inr (Nat.le_trans h12.size z)

set_option maxHeartbeats 1000000 in
set_option maxRecDepth 100000 in
theorem rrename_any (b : Nat) (v : Value) (s : DSt) (n1 n2 : ByteArray) (w : World) (h : IsR w b v s) (hn : n1.size ≤ 140737488351232) (hn2 : n2.size ≤ 140737488351232) :
    Calls Try.prog 41 #[.pointer (some ⟨b, 0, none⟩), .string n1, .string n2] w (RDone w b v (.int .i64 (drename s n1 n2).1) (drename s n1 n2).2) := by
  have HI := Lib.hid h
  have hsh := h.ok.short
  clear h
  cases hn1 : named n1 with
  | false =>
    have HR := Lib.hid (show drename s n1 n2 = (10, s) by simp [drename, hn1])
    go_enter Try.func41, Try.ntmps41
    go_wp2_with (go_at_call 74; refine (named_any _ _ (by assumption)).mono ?_; rintro e w' ⟨rfl, rfl⟩)
    go_ret
    rw [HR.out]
    exact RDone.same HI.out (Fr.refl _ _)
  | true =>
  cases hn2' : named n2 with
  | false =>
    have HR := Lib.hid (show drename s n1 n2 = (10, s) by simp [drename, hn2'])
    go_enter Try.func41, Try.ntmps41
    go_wp2_with (go_at_call 74; refine (named_any _ _ (by assumption)).mono ?_; rintro e w' ⟨rfl, rfl⟩)
    go_ret
    rw [HR.out]
    exact RDone.same HI.out (Fr.refl _ _)
  | true =>
  by_cases hk : dknown s n1 = 0
  · obtain ⟨f, hf⟩ := known_there hk
    rcases plI_cases s.files n1 with ⟨i, f', h1, h2, h3, h4, h5⟩ | ⟨h1, h2, h3⟩
    · have hff : f = f' := by rw [hf] at h4; injection h4
      subst hff
      have HK := Lib.hid (show knownI s n1 = (i : Int) by rw [knownI, if_pos hk, h2])
      have Hk := Lib.hid hk
      have H3 := Lib.hid h3
      have hi64 : i ≤ 64 := by have := HI.out.ok.few; omega
      have Hpl := Lib.hid (pl_del h1)
      have Hfa := Lib.hid (show fileAt s n1 = f by simp [fileAt, hf])
      have Hf := Lib.hid hf
      clear hk hf h1 h2 h3 h4
      cases hcg : (chg s).1 with
      | false =>
        have HR := Lib.hid (show drename s n1 n2 = (11, (chg s).2) by simp [drename, dalter, Hk.out, hcg, hn1, hn2'])
        go_enter Try.func41, Try.ntmps41
        go_wp2_with (first | (go_at_call 74; refine (named_any _ _ (by assumption)).mono ?_; rintro e w' ⟨rfl, rfl⟩) | (go_at_call 79; refine (rknown_any b v s n1 _ HI.out hn).mono ?_; rintro e w' ⟨rfl, rfl⟩; rw [HK.out, Hk.out]) | (go_at_call 76; refine (rchange_any b v s _ HI.out.blk hsh).mono ?_; rintro e w1 ⟨rfl, hb1, hf1⟩; have HB := Lib.hid hb1; clear hb1) | fail)
        go_ret
        rw [HR.out]
        exact RDone.same (HI.out.changed hf1 HB.out) (hf1.mono (fun _ _ q => .inl q))
      | true =>
        by_cases hnn : n1 = n2
        · have HR := Lib.hid (show drename s n1 n2 = (0, (chg s).2) by unfold drename dalter; rw [if_neg (by simp [hn1, hn2']), if_pos Hk.out, if_neg (by simp [hcg]), if_pos rfl, if_pos hnn])
          have hbt : (n1.toList == n2.toList) = true := by rw [beq_name]; simpa using hnn
          have HNN := Lib.hid hnn
          clear hnn
          go_enter Try.func41, Try.ntmps41
          go_wp2_with (first | (go_at_call 74; refine (named_any _ _ (by assumption)).mono ?_; rintro e w' ⟨rfl, rfl⟩) | (go_at_call 79; refine (rknown_any b v s n1 _ HI.out hn).mono ?_; rintro e w' ⟨rfl, rfl⟩; rw [HK.out, Hk.out]) | (go_at_call 76; refine (rchange_any b v s _ HI.out.blk hsh).mono ?_; rintro e w1 ⟨rfl, hb1, hf1⟩; have HB := Lib.hid hb1; clear hb1) | fail)
          go_ret
          rw [HR.out]
          exact RDone.same (HI.out.changed hf1 HB.out) (hf1.mono (fun _ _ q => .inl q))
        · have HR := Lib.hid (show drename s n1 n2 = (0, { (chg s).2 with files := sput (del s.files n1) n2 f }) by simp [drename, dalter, Hk.out, hcg, hn1, hn2', hnn, Hfa.out])
          have hbt : (n1.toList == n2.toList) = false := by rw [beq_name]; simpa using hnn
          have HNN := Lib.hid hnn
          have Hfit := Lib.hid (show f.1.size ≤ 262144 ∧ 0 ≤ f.2 ∧ f.2 ≤ f.1.size from HI.out.ok.fit (n1, f) (List.mem_of_getElem? H3.out))
          have Hlen := Lib.hid (show (sput (s.files.take i ++ s.files.drop (i + 1)) n2 f).length ≤ 64 by
            rw [← Hpl.out, len_sput (HI.out.ok.srt.del n1)]
            have q1 := len_del (l := s.files) (by rw [Hf.out]; rfl : (get s.files n1).isSome = true)
            have q2 := HI.out.ok.few
            split <;> omega)
          clear hnn
          obtain ⟨A, c, rfl, hc⟩ := HI.out.form
          go_enter Try.func41, Try.ntmps41
          go_wp2_with (first | (go_at_call 74; refine (named_any _ _ (by assumption)).mono ?_; rintro e w' ⟨rfl, rfl⟩) | (go_at_call 79; refine (rknown_any b _ s n1 _ HI.out hn).mono ?_; rintro e w' ⟨rfl, rfl⟩; rw [HK.out, Hk.out]) | (go_at_call 76; go_loud (refine (rchange_any b _ s _ HI.out.blk hsh).mono ?_; rintro e w1 ⟨rfl, hb1, hf1⟩; have hi1 := HI.out.changed hf1 hb1; have HI1 := Lib.hid hi1; clear hb1; obtain ⟨g, rfl, e0, e1, e2, e3, e4, e5⟩ := hi1.at_ i (n1, f) (by rw [chg_files]; exact H3.out); have c0 : w1.cell? ⟨b, 0, none⟩ = some (.slice (some ⟨g, 0, none⟩) s.files.length c) := cells_at HI1.out.blk 0 _ rfl; clear hi1 e3 e4; simp only at e0 e1 e2)) | (go_at_call 80; go_loud (refine (drop_any b _ _ i _ (HI1.out.later ((Fr.refl no _).alloc (.cells #[.string n1, .string f.1, .int .i64 f.2] 86))) (by rw [chg_files]; exact h5) (by have q := ok_del HI1.out.ok n1; rw [chg_files, Hpl.out] at q; rw [chg_files]; exact q)).mono ?_; intro e w2 hd; obtain ⟨v1, rfl, hd2, hd3, hd4⟩ := hd; have HD := Lib.hid hd2; have hkk := hd3.keep (heap_alloc_at w1 (.cells #[.string n1, .string f.1, .int .i64 f.2] 86)) (fun q => (by have l1 := HI1.out.lt; rcases q with q | q; (· omega); have := l1.2 _ q.symm; omega)); obtain ⟨x0, x1, x2, x3⟩ := cells3 hkk; have x4 := free_at hkk 0; clear hkk; have HD3 := Lib.hid hd3; have HD4 := Lib.hid hd4; clear hd2 hd3 hd4)) | (go_at_call 77; go_loud (refine (put_any b _ _ n2 f.1 f.2 _ (HD.out.keep ((Fr.refl (fun x => x = w1.heap.size) w2).setCell _ _ (fun _ => rfl)) (by have := HI1.out.lt.1; omega) (fun k hk => by rcases HD4.out k hk with z | z; (· have := HI1.out.lt.2 k z; omega); simp at z; omega)) (named_size hn2') Hfit.out (by rw [chg_files]; exact Hlen.out)).mono ?_; intro e w3 hd; obtain ⟨v2, rfl, hd2⟩ := hd; have HE := Lib.hid hd2; clear hd2)) | fail)
          go_ret
          rw [HR.out]
          have hfa := (hf1.mono (T := fun k => k = b ∨ some k = (Value.slice (some ⟨g, 0, none⟩) s.files.length c).ownBlock) (fun _ _ q => .inl q)).alloc (.cells #[.string n1, .string f.1, .int .i64 f.2] 86)
          have hsz := hf1.size
          refine RDone.state (RDone.after (hfa.trans HD3.out (fun _ _ q => q)) (fun q hq => (HD4.out q hq).imp id (fun z => by simp at z; omega)) ((Fr.refl (fun x => x = w1.heap.size) w2).setCell _ _ (fun _ => rfl)) hsz ⟨v2, rfl, HE.out⟩) (by rw [chg_files, Hpl.out])
    · rw [h3] at hf; cases hf
  · have hk' : (dknown s n1 != 0) = true := by simpa using hk
    have HR := Lib.hid (show drename s n1 n2 = (dknown s n1, s) by simp [drename, dalter, hk, hn1, hn2'])
    have HK := Lib.hid (show knownI s n1 = 0 by rw [knownI, if_neg hk])
    clear hk
    go_enter Try.func41, Try.ntmps41
    go_wp2_with (first | (go_at_call 74; refine (named_any _ _ (by assumption)).mono ?_; rintro e w' ⟨rfl, rfl⟩) | (go_at_call 79; refine (rknown_any b v s n1 _ HI.out hn).mono ?_; rintro e w' ⟨rfl, rfl⟩; rw [HK.out]) | fail)
    go_ret
    rw [HR.out]
    exact RDone.same HI.out (Fr.refl _ _)
end Go.Proofs.Ythmjjbgjbcnjmaa

namespace Go.Proofs.Ythmjjbgjbcnjmaa
open Go.RowKit Go.Hop

theorem El50 : El Try.prog 50 9 1 16 := El.mk_ (.string ⟨#[]⟩) Try.underlying50 (by decide) rfl (by kernel_rfl)
theorem rc_new1 (w : World) (u : Value) (t : Nat) (h : u.oneCell' = true := by simp [Value.oneCell']) : Rc (w.alloc (.cells #[u] t)) 1 (.slice (some ⟨w.heap.size, 0, none⟩) 1 1) 1 [u] :=
  ⟨_, _, rfl, Nat.le_refl _, rfl, by simpa using h, fun j y hj => ⟨_, _, rfl, by
    rw [Nat.zero_add]
    exact cells_at (heap_alloc_at w _) j y (by simpa using hj)⟩⟩
structure NR (w : World) (s : DSt) (k : Nat) (v : Value) (wr : World) : Prop where
  le : k ≤ s.files.length
  own : wr.ownsRow w.heap.size 9 1 v k ((s.files.take k).map (fun p => Value.string p.1))
  fr : Fr no w wr

set_option maxHeartbeats 1000000 in
set_option maxRecDepth 100000 in
theorem rnames_any (b : Nat) (v : Value) (s : DSt) (w : World) (h : IsR w b v s) :
    Calls Try.prog 53 #[.pointer (some ⟨b, 0, none⟩)] w fun e w' => ∃ r, e = .returned r ∧ w'.ownsRow w.heap.size 9 1 r s.files.length (s.files.map (fun p => Value.string p.1)) ∧ Fr no w w' := by
  obtain ⟨A, c, rfl, hc⟩ := h.form
  have hfew := h.ok.few
  have hlb := h.lt.1
  have HI := Lib.hid h
  clear h
  go_enter Try.func53, Try.ntmps53
  go_wp2_with fail
  go_loopw [3, 4] (fun r i wr => ∃ k : Nat, i = .int .i64 k ∧ Hid (NR w s k r wr)) (fun _ i _ => s.files.length - (intOf i).toNat)
  case atStart => exact ⟨0, rfl, Lib.hid ⟨Nat.zero_le _, World.ownsRow_nil _ _ _ _, Fr.refl _ _⟩⟩
  case round =>
    obtain ⟨k, rfl, HN⟩ := hrel
    have hk := HN.out.le
    have HIw := Lib.hid (HI.out.later HN.out.fr)
    have c0 : wr.cell? ⟨b, 0, none⟩ = some (.slice A s.files.length c) := cells_at HIw.out.blk 0 _ rfl
    by_cases hlen : k < s.files.length
    · obtain ⟨p, hp⟩ : ∃ p, s.files[k]? = some p := ⟨_, List.getElem?_eq_getElem hlen⟩
      obtain ⟨g, rfl, e0, e1, e2, e3, e4, e5⟩ := HIw.out.at_ k p hp
      have Hp := Lib.hid hp
      have t1 : decide ((k : Int) < (s.files.length : Int)) = true := by simp; omega
      have t2 : decide (k < s.files.length) = true := by simp; omega
      clear hp e3 e4
      go_wp2_with (first | (at_builtin; go_loud (refine wp_append rfl (.tmp 14) (.tmp 23) 50 rfl El50 _ _ _ rfl (HN.out.own.alloc _) _ 1 [.string p.1] rfl (rc_new1 _ _ _) (by unfold maxLen; omega) (by omega) (by have := HN.out.fr.size; simp; omega) ?_; intro v1 w1 ho1 hg1 hloc1; have HO := Lib.hid ho1; have HG := Lib.hid hg1; clear ho1 hg1 hloc1)) | fail)
      go_roundw
      case rel => exact ⟨k + 1, by go_num, Lib.hid ⟨by omega, by rw [List.take_add_one, Hp.out]; simpa using HO.out, (HN.out.fr.alloc _).trans (Fr.grown HG.out) (fun j hj q => absurd (HN.out.own.lt j q.symm).1 (by omega))⟩⟩
      case measure => simp [intOf]; omega
    · have t1 : decide ((k : Int) < (s.files.length : Int)) = false := by simp; omega
      have t2 : decide (k < s.files.length) = false := by simp; omega
      go_wp2_with fail
      go_ret
      have e : k = s.files.length := by omega
      have ho := HN.out.own
      rw [e, List.take_length] at ho
      exact ⟨_, rfl, ho, HN.out.fr⟩
end Go.Proofs.Ythmjjbgjbcnjmaa

namespace Go.Proofs.Ythmjjbgjbcnjmaa
open Go.RowKit Go.Hop

set_option maxHeartbeats 1000000 in
theorem read_any (a m : Nat) (s : DSt) (name : ByteArray) (w : World) (h : IsD w a m s) (hn : name.size ≤ 140737488351232) :
    Calls Try.prog 44 #[.pointer (some ⟨a, 0, none⟩), .string name] w fun e w' => e = .returned (.tuple #[.string (dread s name).1, .int .i64 (dread s name).2]) ∧ Fr no w w' := by
  have HR := Lib.hid (show dread s name = ((knownF s name).1, dknown s name) by unfold dread knownF; split <;> rfl)
  have HI := Lib.hid h
  clear h
  go_enter Try.func44, Try.ntmps44
  go_wp2_with (first | (go_at_call 81; refine (known_any a m s name _ HI.out hn).mono ?_; rintro e w1 ⟨rfl, hf1⟩) | fail)
  go_ret2
  exact ⟨by rw [HR.out]; rfl, hf1.alloc _⟩

set_option maxHeartbeats 1000000 in
theorem fuse_any (a m : Nat) (s : DSt) (n : Int) (w : World) (h : IsD w a m s) (hn : n ≤ 9223372036854775807) :
    Calls Try.prog 46 #[.pointer (some ⟨a, 0, none⟩), .int .i64 n] w (Done w a m (dfuse s n)) := by
  have hc1 := cells_at h.blk 1 _ rfl
  have hc3 := cells_at h.blk 3 _ rfl
  have hf1 := free_at h.blk 1
  have hf3 := free_at h.blk 3
  have HI := Lib.hid h
  clear h
  by_cases h0 : n < 0
  · have HR := Lib.hid (show dfuse s n = (1, s) by simp [dfuse, h0])
    go_enter Try.func46, Try.ntmps46
    go_wp2
    go_ret
    exact ⟨by rw [HR.out]; rfl, by rw [HR.out]; exact HI.out, Fr.refl _ _⟩
  · have HR := Lib.hid (show dfuse s n = (0, { s with fuse := some n.toNat }) by simp [dfuse, h0])
    go_enter Try.func46, Try.ntmps46
    go_wp2
    go_ret
    obtain ⟨hb, ⟨al, hm, hrel⟩, hne, hok⟩ := HI.out
    have hfr : Fr (fun x => x = a) w ((w.setCell ⟨a, 1, none⟩ (.bool true)).setCell ⟨a, 3, none⟩ (.int .i64 n)) := ((Fr.refl (fun x => x = a) w).setCell ⟨a, 1, none⟩ _ (fun _ => rfl)).setCell ⟨a, 3, none⟩ _ (fun _ => rfl)
    refine ⟨by rw [HR.out]; rfl, ?_, hfr.mono (fun _ _ q => .inl q)⟩
    rw [HR.out]
    refine ⟨?_, ⟨al, hm.keep hfr (fun q => hne q.symm), hrel⟩, hne, ⟨hok.srt, hok.few, hok.fit, hok.nam, by simp; omega⟩⟩
    have h1 := heap_setCell_at (heap_setCell_at hb 1 (.bool true)) 3 (.int .i64 n)
    have e : ((n.toNat : Nat) : Int) = n := by omega
    simpa [dblk, e] using h1

theorem new_any (w : World) : Calls Try.prog 9 #[] w fun e w' => e = .returned (.pointer (some ⟨w.heap.size + 1, 0, none⟩)) ∧ IsD w' (w.heap.size + 1) w.heap.size DSt.new ∧ Fr no w w' := by
  have hmm := @run_makeMap Try.prog
  go_enter Try.func9, Try.ntmps9
  go_wp2
  go_ret
  refine ⟨rfl, ⟨?_, ⟨[], ?_, Rel.nil⟩, by omega, DSt.Ok.new⟩, ((Fr.refl _ _).alloc _).alloc _⟩
  · have := heap_alloc_at (w.alloc (.map #[] 0)) (.cells #[.map (some w.heap.size), .bool false, .bool false, .int .i64 0] 75)
    simpa [dblk, DSt.new] using this
  · exact (MapIs.made w).keep ((Fr.refl no _).alloc _) id
end Go.Proofs.Ythmjjbgjbcnjmaa

/-
  A map's keys, sorted: from the entries of a map to what the library's contracts on slices.Sorted(maps.Keys(m)) speak of.
-/
namespace Go.Hop
open Go.RowKit Go.MapKept Go.Sort
open Go.WideElems (Fit rd rg rg_of rd_mk)

/-- an element that is not looked into -/
def anyE : Value → Option (DataW Unit × List MemPlace) := fun _ => some (.nil, [])
theorem MapIs.owns {P : Program} {w : World} {m : Nat} {k : TypeId} {l : List (ByteArray × Value)} (h : MapIs w m l) (hk : P.underlying k = some .string) (hl : ∀ p ∈ l, p.1.size ≤ maxLen) (hlen : l.length ≤ maxLen) :
    ∃ D : DataW Unit, w.ownsMap P k anyE m l.length D ∧ (strKeys D).Perm (l.map (fun p => bl p.1)) ∧ Maps.size D = l.length := by
  obtain ⟨es, clock, hb, hs, he⟩ := h
  have hsz : es.size = l.length := by have := congrArg List.length he; simpa using this
  have hrd : ∀ x ∈ es.toList, ∃ p ∈ l, x.key = .string p.1 ∧ rd P k anyE x = some (.string (bl p.1), .nil) := by
    intro x hx
    have hm : (x.key, x.val) ∈ l.map encE := by rw [← he]; exact List.mem_map.2 ⟨x, hx, rfl⟩
    obtain ⟨p, hp, hq⟩ := List.mem_map.1 hm
    have hkey : x.key = .string p.1 := (congrArg Prod.fst hq).symm
    refine ⟨p, hp, hkey, ?_⟩
    have := rd_mk (P := P) (k := k) (R := anyE) (key := x.key) (val := x.val) (born := x.born) (kl := .string (bl p.1)) (yv := (.nil, [])) (by rw [hkey]; exact WideMaps.keyOf_string_mk hk (hl p hp)) rfl
    exact this
  refine ⟨_, ⟨es, clock, hb, ⟨by omega, hs, fun x hx => by obtain ⟨p, _, _, h2⟩ := hrd x hx; exact ⟨_, h2⟩⟩, by omega, rfl⟩, ?_, ?_⟩
  · have h1 := (WideShapes.sorted_perm (es.toList.map (rg P k anyE))).map (fun p => strOf p.1)
    refine h1.trans ?_
    rw [List.map_map]
    have : es.toList.map ((fun p => strOf p.1) ∘ rg P k anyE) = l.map (fun p => bl p.1) := by
      have e1 : es.toList.map ((fun p => strOf p.1) ∘ rg P k anyE) = (es.toList.map (fun e => (e.key, e.val))).map (fun q => match q.1 with | .string s => bl s | _ => []) := by
        rw [List.map_map]
        refine List.map_congr_left fun x hx => ?_
        obtain ⟨p, _, hkey, h2⟩ := hrd x hx
        show strOf (rg P k anyE x).1 = _
        rw [rg_of h2]
        show bl p.1 = (match x.key with | .string s => bl s | _ => [])
        rw [hkey]
      rw [e1, he, List.map_map]
      rfl
    rw [this]
  · show ((es.toList.map (rg P k anyE)).foldr DataW.insert []).length = _
    rw [DataW.length_sorted, List.length_map]
    simpa using hsz

theorem le_of_lt' {a b : List UInt8} (h : a < b) : a ≤ b := List.le_iff_lt_or_eq.2 (.inl h)
/-- the sorted keys are those of the list in order -/
theorem sorted_names {β : Type} {al l : List (ByteArray × β)} (h : Rel al l) {ss : List (List UInt8)} (hp : ss.Perm (al.map (fun p => bl p.1))) : ss.mergeSort (fun x y => decide (x ≤ y)) = l.map (fun p => bl p.1) := by
  refine List.Perm.eq_of_pairwise (le := fun a b => decide (a ≤ b) = true) (fun a b _ _ h1 h2 => List.le_antisymm (of_decide_eq_true h1) (of_decide_eq_true h2)) ?_ ?_ ?_
  · exact List.pairwise_mergeSort (le := fun a b => decide (a ≤ b)) (fun a b c h1 h2 => decide_eq_true (List.le_trans (of_decide_eq_true h1) (of_decide_eq_true h2))) (fun a b => by
      rcases List.le_total a b with q | q <;> simp [q]) ss
  · rw [List.pairwise_map]
    exact List.Pairwise.imp (fun {a b} q => decide_eq_true (le_of_lt' q)) h.srt
  · refine (List.mergeSort_perm _ _).trans (hp.trans ?_)
    have := h.perm.map bl
    rw [List.map_map, List.map_map] at this
    exact this
end Go.Hop
