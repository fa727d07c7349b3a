import Derived.Test.YthmjjbgjbcnjmaaRc
import Derived.Sort.Walk0
import Derived.Test.YthmjjbgjbcnjmaaDf
namespace Go.Proofs.Ythmjjbgjbcnjmaa
open Go.RowKit Go.Hop

theorem El86 : El Try.prog 76 86 3 40 := El.mk_ (.agg #[.string ⟨#[]⟩, .string ⟨#[]⟩, .int .i64 0]) Try.underlying76 (by decide) rfl (by kernel_rfl)

/-- where a name belongs -/
structure At (l : List (ByteArray × File)) (name : ByteArray) (k : Nat) : Prop where
  le : k ≤ l.length
  lt : ∀ j q, j < k → l[j]? = some q → bl q.1 < bl name
  ge : ∀ q, l[k]? = some q → ¬ bl q.1 < bl name

theorem less_of (a b : ByteArray) : Op.bytesLess a.toList b.toList = decide (bl a < bl b) := by
  rw [Lib.toList_data, Lib.toList_data]; exact Proofs.bytesLess_eq _ _
theorem beq_name (a b : ByteArray) : (a.toList == b.toList) = decide (a = b) := by
  rw [Lib.toList_data, Lib.toList_data]
  by_cases h : a = b
  · subst h; simp
  · rw [decide_eq_false h, beq_eq_false_iff_ne]
    exact fun e => h (bl_inj e)

theorem cells3 {w : World} {b t : Nat} {u v x : Value} (h : w.heap[b]? = some (.cells #[u, v, x] t (0, 0))) :
    w.cell? ⟨b, 0, none⟩ = some u ∧ w.cell? ⟨b, 1, none⟩ = some v ∧ w.cell? ⟨b, 2, none⟩ = some x ∧ b < w.heap.size :=
  ⟨cells_at h 0 _ rfl, cells_at h 1 _ rfl, cells_at h 2 _ rfl, heap_lt h⟩
theorem rc_new (w : World) (u v x : Value) (t : Nat) (h : ∀ y ∈ [u, v, x], y.oneCell' = true := by simp [Value.oneCell']) : Rc (w.alloc (.cells #[u, v, x] t)) 3 (.slice (some ⟨w.heap.size, 0, none⟩) 1 1) 1 [u, v, x] :=
  ⟨_, _, rfl, Nat.le_refl _, rfl, h, fun j y hj => ⟨_, _, rfl, by
    rw [Nat.zero_add]
    exact cells_at (heap_alloc_at w _) j y (by simpa using hj)⟩⟩
theorem drop_lt {w : World} {size n g c : Nat} {cs : List Value} (h : Rc w size (.slice (some ⟨g, 0, none⟩) n c) n cs) (k : Nat) (hk : k < n) : Rc w size (.slice (some ⟨g, k * size, none⟩) (n - k) (c - k)) (n - k) (cs.drop (k * size)) := by
  have hc : n ≤ c := by
    obtain ⟨A, c', e, hc, _⟩ := h
    injection e with _ _ e3
    omega
  have := h.drop k (by omega)
  rw [if_neg (by omega)] at this
  simpa [add_at] using this
theorem rc_empty (w : World) (size : Nat) (A : Option Addr) (c : Nat) : Rc w size (.slice A 0 c) 0 [] := ⟨A, c, rfl, Nat.zero_le _, by simp, by simp, fun j u h => by simp at h⟩
theorem owns_slice {w : World} {base size n : Nat} {e : TypeId} {v : Value} {xs : List Value} (h : w.ownsRow base e size v n xs) : ∃ A c, v = .slice A n c := by
  rcases h.2 with ⟨rfl, rfl⟩ | ⟨g, cap, cur, rfl, _⟩
  · exact ⟨none, 0, rfl⟩
  · exact ⟨_, cap, rfl⟩
/-- a row that is newer than w -/
def New (w : World) (v : Value) : Prop := ∀ k, v.ownBlock = some k → w.heap.size ≤ k
theorem new_nil (w : World) : New w (.slice none 0 0) := fun k h => by cases h
theorem grow_new {w w1 w2 : World} {v v' : Value} (h : Fr no w w1) (hv : New w v) (hg : w1.grownBy w2 v.ownBlock) (hl : v'.ownBlock = v.ownBlock ∨ v'.ownBlock = some w1.heap.size) : Fr no w w2 ∧ New w v' := by
  refine ⟨h.trans (Fr.grown hg) (fun i hi q => absurd (hv i q.symm) (by omega)), fun k hk => ?_⟩
  rcases hl with hl | hl
  · exact hv k (hl ▸ hk)
  · rw [hl] at hk; injection hk with hk; have := h.size; omega
/-- the call has ended with this answer and state -/
def RDone (w : World) (b : Nat) (v : Value) (r : Value) (s' : DSt) (e : Ending) (w' : World) : Prop :=
  ∃ v', e = .returned r ∧ IsR w' b v' s' ∧ Fr (fun k => k = b ∨ some k = v.ownBlock) w w' ∧ (∀ g, v'.ownBlock = some g → v.ownBlock = some g ∨ w.heap.size ≤ g)
theorem rebuilt {vo : Value} {w wb w3 : World} {o : Obj} {b : Nat} {v3 : Value} {n : Nat} {xs : List Value} {s s' : DSt} (hw : wb = w.alloc o) (hb : w.heap[b]? = some (rblk vo s)) (h3 : Fr no wb w3) (hv : New wb v3) (ho : w3.ownsRow 0 86 3 v3 n xs)
    (hx : xs = fcells s'.files) (hn : n = s'.files.length) (hl : leftR s' = leftR s) (hd : s'.down = s.down) (hok : s'.Ok) : IsR (w3.setCell ⟨b, 0, none⟩ v3) b v3 s' ∧ Fr (fun k => k = b) w (w3.setCell ⟨b, 0, none⟩ v3) ∧ New w v3 := by
  subst hw
  have hf : Fr no w w3 := ((Fr.refl no w).alloc o).trans h3 (fun _ _ z => z)
  have hlt := heap_lt hb
  have hne : v3.ownBlock ≠ some b := fun q => by have := hv b q; simp at this; omega
  refine ⟨⟨?_, ?_, hne, hok⟩, (hf.mono (fun _ _ q => q.elim)).setCell _ _ (fun _ => rfl), fun k hk => by have := hv k hk; simp at this; omega⟩
  · have := heap_setCell_at (hf.keep hb id) 0 v3
    simp only [rblk, hl, hd]
    simpa [rblk] using this
  · rw [← hx, ← hn]
    exact (Fr.setCell (S := fun k => k = b) (Fr.refl _ w3) ⟨b, 0, none⟩ v3 (fun _ => rfl)).owns ho (fun k hk q => hne (q ▸ hk))
theorem rebuilt' {vo : Value} {w w3 : World} {b : Nat} {v3 : Value} {n : Nat} {xs : List Value} {s s' : DSt} (hb : w.heap[b]? = some (rblk vo s)) (hf : Fr no w w3) (hv : New w v3) (ho : w3.ownsRow 0 86 3 v3 n xs)
    (hx : xs = fcells s'.files) (hn : n = s'.files.length) (hl : leftR s' = leftR s) (hd : s'.down = s.down) (hok : s'.Ok) : RDone w b vo (.tuple #[]) s' (.returned (.tuple #[])) (w3.setCell ⟨b, 0, none⟩ v3) := by
  have hlt := heap_lt hb
  have hne : v3.ownBlock ≠ some b := fun q => by have := hv b q; omega
  refine ⟨v3, rfl, ⟨?_, ?_, hne, hok⟩, ((hf.mono (fun _ _ q => q.elim)).setCell _ _ (fun _ => .inl rfl)), fun k hk => .inr (hv k hk)⟩
  · have := heap_setCell_at (hf.keep hb id) 0 v3
    simp only [rblk, hl, hd]
    simpa [rblk] using this
  · rw [← hx, ← hn]
    exact (Fr.setCell (S := fun k => k = b) (Fr.refl _ w3) ⟨b, 0, none⟩ v3 (fun _ => rfl)).owns ho (fun k hk q => hne (q ▸ hk))
theorem IsR.set3 {W : World} {b g n c : Nat} {s : DSt} (h : IsR W b (.slice (some ⟨g, 0, none⟩) n c) s) (k : Nat) (p : ByteArray × File) (hk : k < s.files.length) (hok : ({ s with files := s.files.set k p } : DSt).Ok) :
    IsR (((W.setCell ⟨g, k * 3, none⟩ (.string p.1)).setCell ⟨g, k * 3 + 1, none⟩ (.string p.2.1)).setCell ⟨g, k * 3 + 2, none⟩ (.int .i64 p.2.2)) b (.slice (some ⟨g, 0, none⟩) n c) { s with files := s.files.set k p } := by
  have hn : n = s.files.length := by
    rcases h.own.2 with ⟨q, _⟩ | ⟨g', cap', cur, q, _⟩
    · cases q
    · injection q
  subst hn
  have hne : b ≠ g := fun q => h.ne (by rw [q]; rfl)
  refine ⟨?_, ?_, h.ne, hok⟩
  · rw [Below.heap_setCell _ _ _ _ hne, Below.heap_setCell _ _ _ _ hne, Below.heap_setCell _ _ _ _ hne]
    exact h.blk
  · have := owns_set (owns_set (owns_set h.own (k * 3) (.string p.1)) (k * 3 + 1) (.string p.2.1)) (k * 3 + 2) (.int .i64 p.2.2)
    rw [fcells_set _ _ _ hk] at this
    simpa using this

set_option maxHeartbeats 4000000 in
set_option maxRecDepth 100000 in
theorem put_any (b : Nat) (v : Value) (s : DSt) (name f1 : ByteArray) (f2 : Int) (w : World) (h : IsR w b v s) (hnm : name.size ≤ 32) (hfit : f1.size ≤ 262144 ∧ 0 ≤ f2 ∧ f2 ≤ f1.size) (hl : (sput s.files name (f1, f2)).length ≤ 64) :
    Calls Try.prog 77 #[.pointer (some ⟨b, 0, none⟩), .agg #[.string name, .string f1, .int .i64 f2]] w (RDone w b v (.tuple #[]) { s with files := sput s.files name (f1, f2) }) := by
  obtain ⟨A, c, rfl, hc⟩ := h.form
  have hlt := h.lt
  have hfew := h.ok.few
  have hlb : b < w.heap.size := hlt.1
  have HI := Lib.hid h
  have Hl := Lib.hid hl
  have HIw := Lib.hid (h.later ((Fr.refl no w).alloc (.cells #[.string name, .string f1, .int .i64 f2] 86)))
  have HRc := Lib.hid (Rc.of_owns HIw.out.own (fcells_one _))
  clear h hl
  have h0 : w.cell? ⟨b, 0, none⟩ = some (.slice A s.files.length c) := cells_at HI.out.blk 0 _ rfl
  have h0f : w.frozen? ⟨b, 0, none⟩ = false := free_at HI.out.blk 0
  have Hlt := Lib.hid hlt
  clear hlt
  go_enter Try.func77, Try.ntmps77
  go_wp2_with fail
  go_loopw [4] (fun i wr => ∃ k q : Nat, i = .int .i64 k ∧ k ≤ s.files.length ∧ Hid (∀ j p, j < k → s.files[j]? = some p → bl p.1 < bl name) ∧ wr = (w.alloc (.cells #[.string name, .string f1, .int .i64 f2] 86)).drewN q) (fun i _ => s.files.length - (intOf i).toNat)
  case atStart => exact ⟨0, 0, rfl, Nat.zero_le _, fun j p hj => by omega, rfl⟩
  case round =>
    obtain ⟨k, q, rfl, hk, hbef, rfl⟩ := hrel
    by_cases hlen : k < s.files.length
    · obtain ⟨p, hp⟩ : ∃ p, s.files[k]? = some p := ⟨_, List.getElem?_eq_getElem hlen⟩
      obtain ⟨g, rfl, e0, e1, e2, e3, e4, e5⟩ := HI.out.at_ k p hp
      have Hp := Lib.hid hp
      have HE := Lib.hid (And.intro e3 e4)
      clear hp e3 e4
      have t1 : decide ((k : Int) < (s.files.length : Int)) = true := by simp; omega
      have t2 : decide (k < s.files.length) = true := by simp; omega
      by_cases hq : bl p.1 < bl name
      · have t3 : Op.bytesLess p.1.toList name.toList = true := by rw [less_of]; simpa using hq
        have HQ := Lib.hid hq
        clear hq
        go_wp2_with fail
        go_quiet (fail)
        go_wp2_with fail
        go_roundw
        case rel => exact ⟨k + 1, _, by go_num, by omega, fun j p' hj hp' => by
          by_cases e : j = k
          · subst e; rw [Hp.out] at hp'; injection hp' with hp'; subst hp'; exact HQ.out
          · exact hbef.out j p' (by omega) hp', rfl⟩
        case measure => simp [intOf]; omega
      · have t3 : Op.bytesLess p.1.toList name.toList = false := by rw [less_of]; simpa using hq
        have HQ := Lib.hid hq
        clear hq
        by_cases heq : p.1 = name
        · have t4 : (p.1.toList == name.toList) = true := by rw [beq_name]; simpa using heq
          have HE2 := Lib.hid heq
          clear heq
          go_wp2_with fail
          go_quiet (fail)
          go_wp2_with fail
          go_quiet (fail)
          go_wp2_with fail
          have hgb : g ≠ b := HE.out.2
          have f0 := HE.out.1 (k * 3)
          have f1' := HE.out.1 (k * 3 + 1)
          have f2' := HE.out.1 (k * 3 + 2)
          refine wp_region_still_tail 7 (by kernel_rfl) (by kernel_rfl) ?_
          simp only [List.take_succ_cons, List.take_zero, List.drop_succ_cons, List.drop_zero, World.drew_eq]
          repeat still_step
          refine wpStill_nil ?_
          go_wp2_with fail
          refine bodyPost_ret (results_none rfl _ _ _) rfl ?_
          have hsp := (sput_at_place (f1, f2) name s.files k hbef.out (fun p' hp' => by rw [Hp.out] at hp'; injection hp' with hp'; subst hp'; exact HQ.out) hk).1 ⟨p, Hp.out, HE2.out⟩
          refine ⟨_, rfl, ?_, ?_, fun g hg => .inl hg⟩
          · rw [hsp]
            refine (HIw.out.later ((Fr.refl no _).drewN _)).set3 k (name, (f1, f2)) hlen (ok_put HI.out.ok name (f1, f2) hfit Hl.out _ hsp.symm HI.out.ok.short hnm)
          · exact (((((Fr.refl _ w).alloc _).drewN _).setCell _ _ (fun _ => .inr rfl)).setCell _ _ (fun _ => .inr rfl)).setCell _ _ (fun _ => .inr rfl)
        · have t4 : (p.1.toList == name.toList) = false := by rw [beq_name]; simpa using heq
          have HE2 := Lib.hid heq
          clear heq
          go_wp2_with fail
          go_quiet (fail)
          go_wp2_with fail
          go_quiet (fail)
          go_wp2_with (first | (at_builtin; refine wp_append rfl (.tmp 55) (.tmp 61) 76 rfl El86 _ _ _ rfl (World.ownsRow_nil _ 0 86 3) _ _ _ rfl ((HRc.out.keep ((Fr.refl no _).drewN _) (fun _ _ z => z)).take k hk) (by unfold maxLen; omega) (by omega) (Nat.zero_le _) ?_; intro v1 w1 ho1 hg1 hloc1; obtain ⟨hn1, hv1⟩ := grow_new ((Fr.refl no (w.alloc (.cells #[.string name, .string f1, .int .i64 f2] 86))).drewN _) (new_nil _) hg1 hloc1; obtain ⟨x0, x1, x2, x3⟩ := cells3 (hn1.keep (heap_alloc_at w _) id); have HO1 := Lib.hid ho1; have HN1 := Lib.hid hn1; have HV1 := Lib.hid hv1; clear hg1 ho1 hloc1 hn1 hv1) | (at_builtin; refine wp_append rfl (.tmp 63) (.tmp 65) 76 rfl El86 _ _ _ rfl (HO1.out.alloc _) _ 1 [.string name, .string f1, .int .i64 f2] rfl (rc_new _ _ _ _ _) (by unfold maxLen; omega) (by omega) (Nat.zero_le _) ?_; intro v2 w2 ho2 hg2 hloc2; obtain ⟨hn2, hv2⟩ := grow_new (HN1.out.alloc _) HV1.out hg2 hloc2; have y0 := (((Fr.refl no w).alloc _).trans hn2 (fun _ _ z => z)).cell h0 id; have y1 := HI.out.lt.1; have HO2 := Lib.hid ho2; have HN2 := Lib.hid hn2; have HV2 := Lib.hid hv2; clear hg2 ho2 hloc2 hn2 hv2) | (at_builtin; refine wp_append rfl (.tmp 68) (.tmp 74) 76 rfl El86 _ _ _ rfl HO2.out _ _ _ rfl (drop_lt (HRc.out.keep HN2.out (fun _ _ z => z)) k hlen) (by unfold maxLen; omega) (by omega) (Nat.zero_le _) ?_; intro v3 w3 ho3 hg3 hloc3; obtain ⟨A3, c3, rfl⟩ := owns_slice ho3; obtain ⟨hn3, hv3⟩ := grow_new HN2.out HV2.out hg3 hloc3; have hn4 := ((Fr.refl no w).alloc _).trans hn3 (fun _ _ z => z); have z0 := hn4.cell h0 id; have z1 := free_at (hn4.keep HI.out.blk id) 0; clear hn4; have HO3 := Lib.hid ho3; have HN3 := Lib.hid hn3; have HV3 := Lib.hid hv3; clear hg3 ho3 hloc3 hn3 hv3) | fail)
          refine bodyPost_end (results_none rfl _ _ _) rfl ?_
          have hsp := (sput_at_place (f1, f2) name s.files k hbef.out (fun p' hp' => by rw [Hp.out] at hp'; injection hp' with hp'; subst hp'; exact HQ.out) hk).2 (fun p' hp' => by rw [Hp.out] at hp'; injection hp' with hp'; subst hp'; exact HE2.out)
          have hO := HO3.out
          have hV := HV3.out
          rw [show 0 + k + 1 + (s.files.length - k) = k + 1 + (s.files.length - k) by omega] at hO hV
          obtain ⟨r1, r2, r3⟩ := rebuilt (s' := { s with files := sput s.files name (f1, f2) }) rfl HI.out.blk HN3.out hV hO
            (by simp only [hsp]; rw [fcells_append, fcells_take, fcells_drop, List.nil_append, List.append_assoc]; rfl) (by simp only [hsp]; simp; omega) rfl rfl (ok_put HI.out.ok name (f1, f2) hfit Hl.out _ rfl HI.out.ok.short hnm)
          exact ⟨_, rfl, r1, r2.mono (fun _ _ q => .inl q), fun g hg => .inr (r3 g hg)⟩
    · obtain rfl : k = s.files.length := by omega
      have t1 : decide ((s.files.length : Int) < (s.files.length : Int)) = false := by simp
      have t2 : decide (s.files.length < s.files.length) = false := by simp
      go_wp2_with fail
      go_quiet (fail)
      go_wp2_with fail
      go_quiet (fail)
      go_wp2_with (first | (at_builtin; refine wp_append rfl (.tmp 55) (.tmp 61) 76 rfl El86 _ _ _ rfl (World.ownsRow_nil _ 0 86 3) _ _ _ rfl ((HRc.out.keep ((Fr.refl no _).drewN _) (fun _ _ z => z)).take s.files.length (Nat.le_refl _)) (by unfold maxLen; omega) (by omega) (Nat.zero_le _) ?_; intro v1 w1 ho1 hg1 hloc1; obtain ⟨hn1, hv1⟩ := grow_new ((Fr.refl no (w.alloc (.cells #[.string name, .string f1, .int .i64 f2] 86))).drewN _) (new_nil _) hg1 hloc1; obtain ⟨x0, x1, x2, x3⟩ := cells3 (hn1.keep (heap_alloc_at w _) id); have HO1 := Lib.hid ho1; have HN1 := Lib.hid hn1; have HV1 := Lib.hid hv1; clear hg1 ho1 hloc1 hn1 hv1) | (at_builtin; refine wp_append rfl (.tmp 63) (.tmp 65) 76 rfl El86 _ _ _ rfl (HO1.out.alloc _) _ 1 [.string name, .string f1, .int .i64 f2] rfl (rc_new _ _ _ _ _) (by unfold maxLen; omega) (by omega) (Nat.zero_le _) ?_; intro v2 w2 ho2 hg2 hloc2; obtain ⟨hn2, hv2⟩ := grow_new (HN1.out.alloc _) HV1.out hg2 hloc2; have y0 := (((Fr.refl no w).alloc _).trans hn2 (fun _ _ z => z)).cell h0 id; have y1 := HI.out.lt.1; have HO2 := Lib.hid ho2; have HN2 := Lib.hid hn2; have HV2 := Lib.hid hv2; clear hg2 ho2 hloc2 hn2 hv2) | (at_builtin; refine wp_append rfl (.tmp 68) (.tmp 74) 76 rfl El86 _ _ _ rfl HO2.out _ 0 [] rfl (rc_empty _ _ _ _) (by unfold maxLen; omega) (by omega) (Nat.zero_le _) ?_; intro v3 w3 ho3 hg3 hloc3; obtain ⟨A3, c3, rfl⟩ := owns_slice ho3; obtain ⟨hn3, hv3⟩ := grow_new HN2.out HV2.out hg3 hloc3; have hn4 := ((Fr.refl no w).alloc _).trans hn3 (fun _ _ z => z); have z0 := hn4.cell h0 id; have z1 := free_at (hn4.keep HI.out.blk id) 0; clear hn4; have HO3 := Lib.hid ho3; have HN3 := Lib.hid hn3; have HV3 := Lib.hid hv3; clear hg3 ho3 hloc3 hn3 hv3) | fail)
      all_goals
        refine bodyPost_end (results_none rfl _ _ _) rfl ?_
        have hnone : s.files[s.files.length]? = none := by simp
        have hsp := (sput_at_place (f1, f2) name s.files s.files.length hbef.out (fun p' hp' => by rw [hnone] at hp'; cases hp') hk).2 (fun p' hp' => by rw [hnone] at hp'; cases hp')
        have hO := HO3.out
        have hV := HV3.out
        rw [show 0 + s.files.length + 1 + 0 = s.files.length + 1 by omega] at hO hV
        obtain ⟨r1, r2, r3⟩ := rebuilt (s' := { s with files := sput s.files name (f1, f2) }) rfl HI.out.blk HN3.out hV hO
          (by simp only [hsp]; rw [fcells_append, fcells_take, List.nil_append, List.append_nil, List.drop_length]; rfl) (by simp only [hsp]; simp) rfl rfl (ok_put HI.out.ok name (f1, f2) hfit Hl.out _ rfl HI.out.ok.short hnm)
        exact ⟨_, rfl, r1, r2.mono (fun _ _ q => .inl q), fun g hg => .inr (r3 g hg)⟩
end Go.Proofs.Ythmjjbgjbcnjmaa
