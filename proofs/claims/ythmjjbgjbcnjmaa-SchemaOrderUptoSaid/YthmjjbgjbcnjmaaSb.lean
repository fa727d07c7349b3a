import Derived.Test.YthmjjbgjbcnjmaaSa
import Derived.Deep.RegionHeld3
import Derived.Deep.DrawnRows
namespace Go.Proofs.Ythmjjbgjbcnjmaa
open Go.RowKit Go.Hop
attribute [local go_sem ↓] Go.wp_at_zero Go.wp_at_succ

/-- the two disks, in one state -/
structure Two (w : World) (a m b : Nat) (v : Value) (s : DSt) : Prop where
  d : IsD w a m s
  r : IsR w b v s
  ab : a ≠ b
  mb : m ≠ b
  va : v.ownBlock ≠ some a
  vm : v.ownBlock ≠ some m
def Four (a m b : Nat) (v : Value) (k : Nat) : Prop := k = a ∨ k = m ∨ k = b ∨ some k = v.ownBlock
theorem Two.keep {S : Nat → Prop} {w w' : World} {a m b : Nat} {v : Value} {s : DSt} (h : Two w a m b v s) (hf : Fr S w w') (hs : ∀ k, S k → ¬ Four a m b v k) : Two w' a m b v s :=
  ⟨h.d.keep hf (fun q => hs _ q (.inl rfl)) (fun q => hs _ q (.inr (.inl rfl))), h.r.keep hf (fun q => hs _ q (.inr (.inr (.inl rfl)))) (fun k hk q => hs _ q (.inr (.inr (.inr hk.symm)))), h.ab, h.mb, h.va, h.vm⟩
theorem Two.later {w w' : World} {a m b : Nat} {v : Value} {s : DSt} (h : Two w a m b v s) (hf : Fr no w w') : Two w' a m b v s := h.keep hf (fun _ q => q.elim)
theorem Two.lt {w : World} {a m b : Nat} {v : Value} {s : DSt} (h : Two w a m b v s) : ∀ k, Four a m b v k → k < w.heap.size := by
  rintro k (rfl | rfl | rfl | q)
  · exact h.d.lt.1
  · exact h.d.lt.2
  · exact h.r.lt.1
  · exact h.r.lt.2 k q.symm
/-- both disks have done the same -/
def Both (w : World) (a m b : Nat) (v : Value) (s' : DSt) (w' : World) : Prop := ∃ v', Two w' a m b v' s' ∧ Fr (Four a m b v) w w' ∧ ∀ g, v'.ownBlock = some g → v.ownBlock = some g ∨ w.heap.size ≤ g
theorem both_of {w w1 w2 w3 : World} {a m b : Nat} {v v' : Value} {s s' : DSt} (h : Two w a m b v s) (hd : IsD w1 a m s') (hf1 : Fr (fun k => k = a ∨ k = m) w w1) (h12 : Fr no w1 w2)
    (hr : IsR w3 b v' s') (hf3 : Fr (fun k => k = b ∨ some k = v.ownBlock) w2 w3) (hv : ∀ g, v'.ownBlock = some g → v.ownBlock = some g ∨ w2.heap.size ≤ g) : Both w a m b v s' w3 := by
  have hl := h.lt
  have hs1 := hf1.size
  have hs2 := h12.size
  have hd3 : IsD w3 a m s' := (hd.later h12).keep hf3 (fun q => by rcases q with q | q; exact h.ab q; exact h.va q.symm) (fun q => by rcases q with q | q; exact h.mb q; exact h.vm q.symm)
  refine ⟨v', ⟨hd3, hr, h.ab, h.mb, fun q => ?_, fun q => ?_⟩, ?_, fun g hg => (hv g hg).imp id (fun z => by omega)⟩
  · rcases hv a q with z | z
    · exact h.va z
    · have := hl a (.inl rfl); omega
  · rcases hv m q with z | z
    · exact h.vm z
    · have := hl m (.inr (.inl rfl)); omega
  · exact ((hf1.mono (fun _ _ q => by rcases q with q | q; exact .inl q; exact .inr (.inl q))).trans h12 (fun _ _ q => q.elim)).trans hf3 (fun _ _ q => by rcases q with q | q; exact .inr (.inr (.inl q)); exact .inr (.inr (.inr q)))
theorem Both.before {w w1 w2 : World} {a m b : Nat} {v : Value} {s' : DSt} (hf : Fr no w w1) (h : Both w1 a m b v s' w2) : Both w a m b v s' w2 := by
  obtain ⟨v', h1, h2, h3⟩ := h
  exact ⟨v', h1, (hf.mono (fun _ _ q => q.elim)).trans h2 (fun _ _ q => q), fun g hg => (h3 g hg).imp id (fun z => Nat.le_trans hf.size z)⟩
theorem Both.after {w w1 w2 : World} {a m b : Nat} {v : Value} {s' : DSt} (h : Both w a m b v s' w1) (hf : Fr no w1 w2) : Both w a m b v s' w2 := by
  obtain ⟨v', h1, h2, h3⟩ := h
  exact ⟨v', h1.later hf, h2.trans hf (fun _ _ q => q.elim), h3⟩
/-- an act's cells -/
def ActAt (w : World) (p : Nat) (k : Int) (name data : ByteArray) (n : Int) (dv : Value) : Prop :=
  w.cell? ⟨p, 0, none⟩ = some (.int .i64 k) ∧ w.cell? ⟨p, 1, none⟩ = some (.string name) ∧ w.cell? ⟨p, 2, none⟩ = some (.string data) ∧ w.cell? ⟨p, 3, none⟩ = some (.int .i64 n) ∧ w.cell? ⟨p, 4, none⟩ = some dv
theorem ActAt.keep {S : Nat → Prop} {w w' : World} {p : Nat} {k : Int} {name data : ByteArray} {n : Int} {dv : Value} (h : ActAt w p k name data n dv) (hf : Fr S w w') (hp : ¬ S p) : ActAt w' p k name data n dv :=
  ⟨hf.cell h.1 hp, hf.cell h.2.1 hp, hf.cell h.2.2.1 hp, hf.cell h.2.2.2.1 hp, hf.cell h.2.2.2.2 hp⟩
theorem ActAt.new (w : World) (k : Int) (name data : ByteArray) (n : Int) (dv : Value) (t : Nat) : ActAt (w.alloc (.cells #[.int .i64 k, .string name, .string data, .int .i64 n, dv] t)) w.heap.size k name data n dv := by
  have h := heap_alloc_at w (.cells #[.int .i64 k, .string name, .string data, .int .i64 n, dv] t)
  exact ⟨cells_at h 0 _ rfl, cells_at h 1 _ rfl, cells_at h 2 _ rfl, cells_at h 3 _ rfl, cells_at h 4 _ rfl⟩
/-- every file's name is one that is allowed -/
def Names (s : DSt) : Prop := ∀ p ∈ s.files, named p.1 = true
theorem Names.of {s s' : DSt} (h : Names s) (e : s'.files = s.files) : Names s' := by unfold Names; rw [e]; exact h
theorem Names.chg {s : DSt} (h : Names s) : Names (Hop.chg s).2 := h.of (chg_files s)
theorem Names.put {s : DSt} (h : Names s) {name : ByteArray} {f : File} (hn : named name = true) {s' : DSt} (e : s'.files = sput s.files name f) : Names s' := by
  intro p hp
  rw [e] at hp
  rcases mem_sput hp with rfl | hp
  · exact hn
  · exact h p hp
theorem Names.del {s : DSt} (h : Names s) (name : ByteArray) {s' : DSt} (e : s'.files = Hop.del s.files name) : Names s' := fun p hp => h p ((sub_del _ _).subset (e ▸ hp))
theorem known_named {s : DSt} {name : ByteArray} (h : dknown s name = 0) : named name = true := by
  cases hn : named name with
  | true => rfl
  | false => simp [dknown, hn] at h
theorem Names.append {s : DSt} (h : Names s) (name data : ByteArray) : Names (dappend s name data).2 := by
  unfold dappend
  cases hn : named name with
  | false => simpa using h
  | true =>
    simp only [Bool.true_eq_false, if_false]
    split
    · exact h
    · split
      · exact h.chg
      · exact h.put hn rfl
theorem Names.sync {s : DSt} (h : Names s) (name : ByteArray) : Names (dsync s name).2 := by
  unfold dsync
  simp only
  split
  · next hz => exact h.put (known_named (alter_zero hz)) rfl
  · exact h.of (alter_files s name)
theorem Names.rename {s : DSt} (h : Names s) (a b : ByteArray) : Names (drename s a b).2 := by
  unfold drename
  split
  · exact h
  · next hn =>
    simp only
    split
    · split
      · exact h.of (alter_files s a)
      · have hb : named b = true := by
          cases hb : named b with
          | true => rfl
          | false => exact absurd (.inr hb) hn
        exact (h.del a (s' := ⟨Hop.del s.files a, none, false⟩) rfl).put hb rfl
    · exact h.of (alter_files s a)
theorem Names.remove {s : DSt} (h : Names s) (name : ByteArray) : Names (dremove s name).2 := by
  unfold dremove
  simp only
  split
  · exact h.del name rfl
  · exact h.of (alter_files s name)
theorem Names.fuse {s : DSt} (h : Names s) (n : Int) : Names (dfuse s n).2 := by unfold dfuse; split <;> exact h
theorem Names.crash {s : DSt} (h : Names s) (ds : List Int) : Names (dcrash s ds).2 := by
  unfold dcrash
  split
  · exact h
  · intro p hp
    have hk := tearN_keys s.files.length s.files ds
    rw [tearN_all] at hk
    have : p.1 ∈ (tear s.files ds).map (·.1) := List.mem_map.2 ⟨p, hp, rfl⟩
    rw [hk] at this
    obtain ⟨q, hq, e⟩ := List.mem_map.1 this
    rw [← e]; exact h q hq
def StepPost (w : World) (a m b : Nat) (v : Value) (s : DSt) (e : Ending) (w' : World) : Prop := e = .returned (.bool true) ∧ ∃ s', (Names s → Names s') ∧ Both w a m b v s' w'

theorem Two.r1 {w w1 : World} {o : Obj} {a m b : Nat} {v : Value} {s : DSt} (h : Two w a m b v s) (hf : Fr (fun k => k = a ∨ k = m) (w.alloc o).drew w1) : IsR w1 b v s :=
  (h.r.later (Fr.drew (Fr.alloc (Fr.refl no w) o))).keep hf (fun q => by rcases q with q | q; exact h.ab q.symm; exact h.mb q.symm) (fun k hk q => by rcases q with q | q; exact h.va (q ▸ hk); exact h.vm (q ▸ hk))
theorem ActAt.keep1 {w w1 : World} {o : Obj} {a m b : Nat} {v : Value} {s : DSt} {k : Int} {name data : ByteArray} {n : Int} {dv : Value} (h : ActAt (w.alloc o) w.heap.size k name data n dv) (h2 : Two w a m b v s) (hf : Fr (fun k => k = a ∨ k = m) (w.alloc o).drew w1) : ActAt w1 w.heap.size k name data n dv :=
  (h.keep (Fr.drew (Fr.refl no _)) id).keep hf (fun q => by have l := h2.lt; rcases q with q | q; exact absurd (l _ (.inl q)) (by omega); exact absurd (l _ (.inr (.inl q))) (by omega))
theorem ActAt.keep2 {w w1 w2 : World} {a m b : Nat} {v : Value} {s : DSt} {k : Int} {name data : ByteArray} {n : Int} {dv : Value} (h : ActAt w1 w.heap.size k name data n dv) (h2 : Two w a m b v s) (hf : Fr (fun k => k = b ∨ some k = v.ownBlock) w1 w2) : ActAt w2 w.heap.size k name data n dv :=
  h.keep hf (fun q => by have l := h2.lt; rcases q with q | q; exact absurd (l _ (.inr (.inr (.inl q)))) (by omega); exact absurd (l _ (.inr (.inr (.inr q)))) (by omega))

set_option maxHeartbeats 1000000 in
set_option maxRecDepth 100000 in
theorem step_append (a m b : Nat) (v : Value) (s : DSt) (k : Int) (name data : ByteArray) (n : Int) (dv : Value) (w : World) (h : Two w a m b v s) (hn : name.size ≤ 140737488351232) (hd : data.size ≤ 140737488351232) (hn2 : n ≤ 9223372036854775807) (hk : -9223372036854775808 ≤ k ∧ k ≤ 9223372036854775807)
   (hone : dv.oneCell' = true) (hr : k.tmod 7 % 7 = 0) : Calls Try.prog 12 #[.pointer (some ⟨a, 0, none⟩), .pointer (some ⟨b, 0, none⟩), .agg #[.int .i64 k, .string name, .string data, .int .i64 n, dv]] w (StepPost w a m b v s) := by
  have H := Lib.hid h
  have HR := Lib.hid hr
  have hnew := ActAt.new w k name data n dv 31
  clear h hr
  go_enter Try.func12, Try.ntmps12
  go_wp2_with (first | (go_at_call 35; refine (among_any k _ hk).mono ?_; rintro e w' ⟨rfl, rfl⟩; rw [HR.out]) | fail)
  go_region_held3 (fun w' => w'.cell? ⟨w.heap.size, 0, none⟩ = some (.int .i64 k) ∧ w'.cell? ⟨w.heap.size, 1, none⟩ = some (.string name) ∧ w'.cell? ⟨w.heap.size, 2, none⟩ = some (.string data) ∧ w'.cell? ⟨w.heap.size, 3, none⟩ = some (.int .i64 n) ∧ w'.cell? ⟨w.heap.size, 4, none⟩ = some dv) (first | (exact hnew2) | (exact hnew1) | (exact hnew) | (exact hnew.keep (Fr.drew (Fr.refl no _)) id)) (first | (go_at_call 36; refine (append_any a m s name data _ (H.out.d.later (Fr.drew (Fr.alloc (Fr.refl no w) _))) hn hd).mono ?_; rintro e w1 ⟨rfl, hI1, hf1⟩; have hr1 := H.out.r1 hf1; have hnew1 := hnew.keep1 H.out hf1) | (go_at_call 37; refine (rappend_any b v s name data _ hr1 hn hd).mono ?_; rintro e w2 ⟨v2, rfl, hI2, hf2, hv2⟩; have hnew2 := hnew1.keep2 H.out hf2))
  all_goals go_wp2
  all_goals go_ret
  all_goals exact ⟨by simp, _, fun q => q.append _ _, Both.before (Fr.drew (Fr.alloc (Fr.refl no w) _)) (both_of (H.out.later (Fr.drew (Fr.alloc (Fr.refl no w) _))) hI1 hf1 (Fr.refl no _) hI2 hf2 hv2)⟩

set_option maxHeartbeats 1000000 in
set_option maxRecDepth 100000 in
theorem step_sync (a m b : Nat) (v : Value) (s : DSt) (k : Int) (name data : ByteArray) (n : Int) (dv : Value) (w : World) (h : Two w a m b v s) (hn : name.size ≤ 140737488351232) (hd : data.size ≤ 140737488351232) (hn2 : n ≤ 9223372036854775807) (hk : -9223372036854775808 ≤ k ∧ k ≤ 9223372036854775807)
   (hone : dv.oneCell' = true) (hr : k.tmod 7 % 7 = 1) : Calls Try.prog 12 #[.pointer (some ⟨a, 0, none⟩), .pointer (some ⟨b, 0, none⟩), .agg #[.int .i64 k, .string name, .string data, .int .i64 n, dv]] w (StepPost w a m b v s) := by
  have H := Lib.hid h
  have HR := Lib.hid hr
  have hnew := ActAt.new w k name data n dv 31
  clear h hr
  go_enter Try.func12, Try.ntmps12
  go_wp2_with (first | (go_at_call 35; refine (among_any k _ hk).mono ?_; rintro e w' ⟨rfl, rfl⟩; rw [HR.out]) | fail)
  go_region_held3 (fun w' => w'.cell? ⟨w.heap.size, 0, none⟩ = some (.int .i64 k) ∧ w'.cell? ⟨w.heap.size, 1, none⟩ = some (.string name) ∧ w'.cell? ⟨w.heap.size, 2, none⟩ = some (.string data) ∧ w'.cell? ⟨w.heap.size, 3, none⟩ = some (.int .i64 n) ∧ w'.cell? ⟨w.heap.size, 4, none⟩ = some dv) (first | (exact hnew2) | (exact hnew1) | (exact hnew) | (exact hnew.keep (Fr.drew (Fr.refl no _)) id)) (first | (go_at_call 38; refine (sync_any a m s name _ (H.out.d.later (Fr.drew (Fr.alloc (Fr.refl no w) _))) hn).mono ?_; rintro e w1 ⟨rfl, hI1, hf1⟩; have hr1 := H.out.r1 hf1; have hnew1 := hnew.keep1 H.out hf1) | (go_at_call 39; refine (rsync_any b v s name _ hr1 hn).mono ?_; rintro e w2 ⟨v2, rfl, hI2, hf2, hv2⟩; have hnew2 := hnew1.keep2 H.out hf2))
  all_goals go_wp2
  all_goals go_ret
  all_goals exact ⟨by simp, _, fun q => q.sync _, Both.before (Fr.drew (Fr.alloc (Fr.refl no w) _)) (both_of (H.out.later (Fr.drew (Fr.alloc (Fr.refl no w) _))) hI1 hf1 (Fr.refl no _) hI2 hf2 hv2)⟩

set_option maxHeartbeats 1000000 in
set_option maxRecDepth 100000 in
theorem step_rename (a m b : Nat) (v : Value) (s : DSt) (k : Int) (name data : ByteArray) (n : Int) (dv : Value) (w : World) (h : Two w a m b v s) (hn : name.size ≤ 140737488351232) (hd : data.size ≤ 140737488351232) (hn2 : n ≤ 9223372036854775807) (hk : -9223372036854775808 ≤ k ∧ k ≤ 9223372036854775807)
   (hone : dv.oneCell' = true) (hr : k.tmod 7 % 7 = 2) : Calls Try.prog 12 #[.pointer (some ⟨a, 0, none⟩), .pointer (some ⟨b, 0, none⟩), .agg #[.int .i64 k, .string name, .string data, .int .i64 n, dv]] w (StepPost w a m b v s) := by
  have H := Lib.hid h
  have HR := Lib.hid hr
  have hnew := ActAt.new w k name data n dv 31
  clear h hr
  go_enter Try.func12, Try.ntmps12
  go_wp2_with (first | (go_at_call 35; refine (among_any k _ hk).mono ?_; rintro e w' ⟨rfl, rfl⟩; rw [HR.out]) | fail)
  go_region_held3 (fun w' => w'.cell? ⟨w.heap.size, 0, none⟩ = some (.int .i64 k) ∧ w'.cell? ⟨w.heap.size, 1, none⟩ = some (.string name) ∧ w'.cell? ⟨w.heap.size, 2, none⟩ = some (.string data) ∧ w'.cell? ⟨w.heap.size, 3, none⟩ = some (.int .i64 n) ∧ w'.cell? ⟨w.heap.size, 4, none⟩ = some dv) (first | (exact hnew2) | (exact hnew1) | (exact hnew) | (exact hnew.keep (Fr.drew (Fr.refl no _)) id)) (first | (go_at_call 40; refine (rename_any a m s name data _ (H.out.d.later (Fr.drew (Fr.alloc (Fr.refl no w) _))) hn hd).mono ?_; rintro e w1 ⟨rfl, hI1, hf1⟩; have hr1 := H.out.r1 hf1; have hnew1 := hnew.keep1 H.out hf1) | (go_at_call 41; refine (rrename_any b v s name data _ hr1 hn hd).mono ?_; rintro e w2 ⟨v2, rfl, hI2, hf2, hv2⟩; have hnew2 := hnew1.keep2 H.out hf2))
  all_goals go_wp2
  all_goals go_ret
  all_goals exact ⟨by simp, _, fun q => q.rename _ _, Both.before (Fr.drew (Fr.alloc (Fr.refl no w) _)) (both_of (H.out.later (Fr.drew (Fr.alloc (Fr.refl no w) _))) hI1 hf1 (Fr.refl no _) hI2 hf2 hv2)⟩

set_option maxHeartbeats 1000000 in
set_option maxRecDepth 100000 in
theorem step_remove (a m b : Nat) (v : Value) (s : DSt) (k : Int) (name data : ByteArray) (n : Int) (dv : Value) (w : World) (h : Two w a m b v s) (hn : name.size ≤ 140737488351232) (hd : data.size ≤ 140737488351232) (hn2 : n ≤ 9223372036854775807) (hk : -9223372036854775808 ≤ k ∧ k ≤ 9223372036854775807)
   (hone : dv.oneCell' = true) (hr : k.tmod 7 % 7 = 3) : Calls Try.prog 12 #[.pointer (some ⟨a, 0, none⟩), .pointer (some ⟨b, 0, none⟩), .agg #[.int .i64 k, .string name, .string data, .int .i64 n, dv]] w (StepPost w a m b v s) := by
  have H := Lib.hid h
  have HR := Lib.hid hr
  have hnew := ActAt.new w k name data n dv 31
  clear h hr
  go_enter Try.func12, Try.ntmps12
  go_wp2_with (first | (go_at_call 35; refine (among_any k _ hk).mono ?_; rintro e w' ⟨rfl, rfl⟩; rw [HR.out]) | fail)
  go_region_held3 (fun w' => w'.cell? ⟨w.heap.size, 0, none⟩ = some (.int .i64 k) ∧ w'.cell? ⟨w.heap.size, 1, none⟩ = some (.string name) ∧ w'.cell? ⟨w.heap.size, 2, none⟩ = some (.string data) ∧ w'.cell? ⟨w.heap.size, 3, none⟩ = some (.int .i64 n) ∧ w'.cell? ⟨w.heap.size, 4, none⟩ = some dv) (first | (exact hnew2) | (exact hnew1) | (exact hnew) | (exact hnew.keep (Fr.drew (Fr.refl no _)) id)) (first | (go_at_call 42; refine (remove_any a m s name _ (H.out.d.later (Fr.drew (Fr.alloc (Fr.refl no w) _))) hn).mono ?_; rintro e w1 ⟨rfl, hI1, hf1⟩; have hr1 := H.out.r1 hf1; have hnew1 := hnew.keep1 H.out hf1) | (go_at_call 43; refine (rremove_any b v s name _ hr1 hn).mono ?_; rintro e w2 ⟨v2, rfl, hI2, hf2, hv2⟩; have hnew2 := hnew1.keep2 H.out hf2))
  all_goals go_wp2
  all_goals go_ret
  all_goals exact ⟨by simp, _, fun q => q.remove _, Both.before (Fr.drew (Fr.alloc (Fr.refl no w) _)) (both_of (H.out.later (Fr.drew (Fr.alloc (Fr.refl no w) _))) hI1 hf1 (Fr.refl no _) hI2 hf2 hv2)⟩

set_option maxHeartbeats 1000000 in
set_option maxRecDepth 100000 in
theorem step_fuse (a m b : Nat) (v : Value) (s : DSt) (k : Int) (name data : ByteArray) (n : Int) (dv : Value) (w : World) (h : Two w a m b v s) (hn : name.size ≤ 140737488351232) (hd : data.size ≤ 140737488351232) (hn2 : n ≤ 9223372036854775807) (hk : -9223372036854775808 ≤ k ∧ k ≤ 9223372036854775807)
   (hone : dv.oneCell' = true) (hr : k.tmod 7 % 7 = 5) : Calls Try.prog 12 #[.pointer (some ⟨a, 0, none⟩), .pointer (some ⟨b, 0, none⟩), .agg #[.int .i64 k, .string name, .string data, .int .i64 n, dv]] w (StepPost w a m b v s) := by
  have H := Lib.hid h
  have HR := Lib.hid hr
  have hnew := ActAt.new w k name data n dv 31
  clear h hr
  go_enter Try.func12, Try.ntmps12
  go_wp2_with (first | (go_at_call 35; refine (among_any k _ hk).mono ?_; rintro e w' ⟨rfl, rfl⟩; rw [HR.out]) | fail)
  go_region_held3 (fun w' => w'.cell? ⟨w.heap.size, 0, none⟩ = some (.int .i64 k) ∧ w'.cell? ⟨w.heap.size, 1, none⟩ = some (.string name) ∧ w'.cell? ⟨w.heap.size, 2, none⟩ = some (.string data) ∧ w'.cell? ⟨w.heap.size, 3, none⟩ = some (.int .i64 n) ∧ w'.cell? ⟨w.heap.size, 4, none⟩ = some dv) (first | (exact hnew2) | (exact hnew1) | (exact hnew) | (exact hnew.keep (Fr.drew (Fr.refl no _)) id)) (first | (go_at_call 46; refine (fuse_any a m s n _ (H.out.d.later (Fr.drew (Fr.alloc (Fr.refl no w) _))) hn2).mono ?_; rintro e w1 ⟨rfl, hI1, hf1⟩; have hr1 := H.out.r1 hf1; have hnew1 := hnew.keep1 H.out hf1) | (go_at_call 47; refine (rfuse_any b v s n _ hr1 hn2).mono ?_; rintro e w2 ⟨v2, rfl, hI2, hf2, hv2⟩; have hnew2 := hnew1.keep2 H.out hf2))
  all_goals go_wp2
  all_goals go_ret
  all_goals exact ⟨by simp, _, fun q => q.fuse _, Both.before (Fr.drew (Fr.alloc (Fr.refl no w) _)) (both_of (H.out.later (Fr.drew (Fr.alloc (Fr.refl no w) _))) hI1 hf1 (Fr.refl no _) hI2 hf2 hv2)⟩

set_option maxHeartbeats 1000000 in
set_option maxRecDepth 100000 in
theorem step_read (a m b : Nat) (v : Value) (s : DSt) (k : Int) (name data : ByteArray) (n : Int) (dv : Value) (w : World) (h : Two w a m b v s) (hn : name.size ≤ 140737488351232) (hk : -9223372036854775808 ≤ k ∧ k ≤ 9223372036854775807)
   (hone : dv.oneCell' = true) (hr : k.tmod 7 % 7 = 4) : Calls Try.prog 12 #[.pointer (some ⟨a, 0, none⟩), .pointer (some ⟨b, 0, none⟩), .agg #[.int .i64 k, .string name, .string data, .int .i64 n, dv]] w (StepPost w a m b v s) := by
  have H := Lib.hid h
  have HR := Lib.hid hr
  have hnew := ActAt.new w k name data n dv 31
  clear h hr
  go_enter Try.func12, Try.ntmps12
  go_wp2_with (first | (go_at_call 35; refine (among_any k _ hk).mono ?_; rintro e w' ⟨rfl, rfl⟩; rw [HR.out]) | (go_at_call 44; go_loud (refine (read_any a m s name _ (H.out.d.later ((Fr.refl no w).alloc _)) hn).mono ?_; rintro e w1 ⟨rfl, hf1⟩; obtain ⟨q0, q1, q2, q3, q4⟩ := hnew.keep hf1 id)) | (go_at_call 45; go_loud (refine (rread_any b v s name _ (H.out.r.later (((Fr.refl no w).alloc _).trans hf1 (fun _ _ z => z))) hn).mono ?_; rintro e w2 ⟨rfl, hf2⟩)) | fail)
  go_ret
  have hf := ((((Fr.refl no w).alloc (.cells #[.int .i64 k, .string name, .string data, .int .i64 n, dv] 31)).trans hf1 (fun _ _ z => z)).trans hf2 (fun _ _ z => z))
  exact ⟨by simp, s, id, v, H.out.later hf, hf.mono (fun _ _ q => q.elim), fun g hg => .inl hg⟩
end Go.Proofs.Ythmjjbgjbcnjmaa
