import Derived.Test.YthmjjbgjbcnjmaaUb
import Derived.Lib.AppendStr
namespace Go.Proofs.Ythmjjbgjbcnjmaa
open Go.RowKit Go.Hop
attribute [local go_sem ↓] Go.wp_at_zero Go.wp_at_succ

/-! ### A writer of bytes -/
theorem El98 : El Try.prog 98 5 1 1 := El.mk_ (.int .u8 0) Try.underlying98 (by decide) rfl (by kernel_rfl)
/-- a block of bytes -/
def U8 (w : World) (k : Nat) : Prop := ∃ cs fz, w.heap[k]? = some (.cells cs 5 fz)
/-- what a writer's call may turn -/
def Wm (w : World) (base p : Nat) : Nat → Prop := fun k => k = p ∨ (base ≤ k ∧ U8 w k)
/-- a writer at block p, that has written l -/
structure WrAt (w : World) (base p : Nat) (l : List UInt8) : Prop where
  ex : ∃ v, w.heap[p]? = some (.cells #[v, .bool false] 135 (0, 0)) ∧ w.ownsRow base 5 1 v l.length (l.map encB)
  pb : base ≤ p
theorem wm_trans {w w1 w2 : World} {base p : Nat} (h : Fr (Wm w base p) w w1) (k : Fr (Wm w1 base p) w1 w2) : Fr (Wm w base p) w w2 := by
  refine h.trans k (fun i hi q => ?_)
  rcases q with q | ⟨q1, cs, fz, q2⟩
  · exact .inl q
  · by_cases z : Wm w base p i
    · exact z
    · exact .inr ⟨q1, cs, fz, by rw [← h.block i hi z]; exact q2⟩
theorem wm_no {w w1 : World} {base p : Nat} (h : Fr no w w1) : Fr (Wm w base p) w w1 := h.mono (fun _ _ q => q.elim)
/-- the bytes' own block -/
theorem owns_u8 {w : World} {base n : Nat} {v : Value} {xs : List Value} (h : w.ownsRow base 5 1 v n xs) : ∀ k, v.ownBlock = some k → base ≤ k ∧ U8 w k := by
  intro k hk
  rcases h.2 with ⟨rfl, _⟩ | ⟨g, cap, cur, rfl, hb, hg, _⟩
  · cases hk
  · injection hk with hk; subst hk
    exact ⟨hb, _, _, hg⟩
theorem WrAt.later {w w' : World} {base p : Nat} {l : List UInt8} (h : WrAt w base p l) (hf : Fr no w w') : WrAt w' base p l := by
  obtain ⟨v, h1, h2⟩ := h.ex
  exact ⟨⟨v, hf.keep h1 id, hf.owns h2 (fun _ _ q => q)⟩, h.pb⟩
theorem WrAt.lt {w : World} {base p : Nat} {l : List UInt8} (h : WrAt w base p l) : p < w.heap.size := by
  obtain ⟨v, h1, h2⟩ := h.ex; exact heap_lt h1
/-- a block of another kind stays -/
theorem Wm.other {w : World} {base p k : Nat} {cs : Array Value} {e : TypeId} {fz : Nat × Nat} (h : w.heap[k]? = some (.cells cs e fz)) (he : e ≠ 5) (hp : k ≠ p) : ¬ Wm w base p k := by
  rintro (q | ⟨_, cs', fz', q⟩)
  · exact hp q
  · rw [h] at q
    injection q with q; injection q with q1 q2; exact he q2
def WrPost (w : World) (base p : Nat) (l : List UInt8) (e : Ending) (w' : World) : Prop := e = .returned (.tuple #[]) ∧ WrAt w' base p l ∧ Fr (Wm w base p) w w'
theorem wm_row {w : World} {base p : Nat} {v u b : Value} (hb : w.heap[p]? = some (.cells #[u, b] 135 (0, 0))) (h : ∀ k, v.ownBlock = some k → base ≤ k ∧ U8 w k) (q : some p = v.ownBlock) : False := by
  obtain ⟨_, cs', fz', q2⟩ := h p q.symm
  rw [hb] at q2
  injection q2 with q2; injection q2 with q3 q4; cases q4
/-- the store of the new row -/
theorem WrAt.put {w w0 w1 : World} {base p : Nat} {l news : List UInt8} {v v' : Value} {cs : List Value} {n : Nat} (hp : base ≤ p) (hb : w.heap[p]? = some (.cells #[v, .bool false] 135 (0, 0))) (ho : w.ownsRow base 5 1 v l.length (l.map encB)) (h0 : Fr no w w0)
    (hn : w1.ownsRow base 5 1 v' n cs) (hcs : cs = (l ++ news).map encB) (hnl : n = (l ++ news).length) (hg : w0.grownBy w1 v.ownBlock) : WrAt (w1.setCell ⟨p, 0, none⟩ v') base p (l ++ news) ∧ Fr (Wm w base p) w (w1.setCell ⟨p, 0, none⟩ v') := by
  subst hcs hnl
  have hpv : ¬ some p = v.ownBlock := fun q => by
    obtain ⟨_, cs', fz', q2⟩ := owns_u8 ho p q.symm
    rw [hb] at q2
    injection q2 with q2; injection q2 with q3 q4; cases q4
  have hp1 : w1.heap[p]? = some (.cells #[v, .bool false] 135 (0, 0)) := (Fr.grown hg).keep (h0.keep hb id) hpv
  have hf1 : Fr (Wm w base p) w w1 := (wm_no h0).trans ((Fr.grown hg).mono (T := fun k => some k = v.ownBlock) (fun _ _ q => q)) (fun i _ q => .inr (owns_u8 ho i q.symm))
  refine ⟨⟨⟨v', ?_, ?_⟩, hp⟩, hf1.setCell _ _ (fun _ => .inl rfl)⟩
  · have := heap_setCell_at hp1 0 v'
    simpa using this
  · refine ((Fr.refl (fun k => k = p) w1).setCell _ _ (fun _ => rfl)).owns hn (fun k hk q => ?_)
    subst q
    obtain ⟨_, cs', fz', q2⟩ := owns_u8 hn k hk
    rw [hp1] at q2
    injection q2 with q2; injection q2 with q3 q4; cases q4

theorem enc_snoc (l : List UInt8) (c : UInt8) : l.map encB ++ [encB c] = (l ++ [c]).map encB := by simp
theorem enc_low (m : Nat) : Value.int .u8 ((m : Int) % 256) = encB (UInt8.ofNat m) := by
  show _ = Value.int .u8 ((UInt8.ofNat m).toNat : Int)
  rw [u8_ofNat, Int.natCast_emod]
  rfl

set_option maxHeartbeats 1000000 in
set_option maxRecDepth 100000 in
theorem wnum_any (base p n : Nat) (l : List UInt8) (w : World) (h : WrAt w base p l) (hn : n < 9223372036854775808) (hl : l.length + 8 ≤ 1048576) :
    Calls Try.prog 109 #[.pointer (some ⟨p, 0, none⟩), .int .i64 n] w (WrPost w base p (l ++ leN 8 n)) := by
  have H := Lib.hid h
  clear h
  go_enter Try.func109, Try.ntmps109
  go_wp2
  go_loopw [1, 4] (fun x i wr => ∃ k : Nat, k ≤ 8 ∧ i = .int .i64 k ∧ x = .int .i64 ((n / 256 ^ k : Nat) : Int) ∧ Hid (WrAt wr base p (l ++ leN k n)) ∧ Hid (Fr (Wm w base p) w wr)) (fun _ i _ => 8 - (intOf i).toNat)
  case atStart => exact ⟨0, by omega, rfl, by simp, Lib.hid (by simpa [leN] using H.out), Lib.hid (Fr.refl _ _)⟩
  case round =>
    clear H
    obtain ⟨k, hk, rfl, rfl, hW, hF⟩ := hrel
    by_cases hlt : k < 8
    · obtain ⟨v, hb, ho⟩ := hW.out.ex
      have hpb := hW.out.pb
      have hps := heap_lt hb
      have hlen : (l ++ leN k n).length = l.length + k := by rw [List.length_append, leN_length]
      generalize hN : (l ++ leN k n).length = N at *
      obtain ⟨A, c, rfl⟩ := owns_slice ho
      have x0 : wr.cell? ⟨p, 0, none⟩ = some (.slice A N c) := cells_at hb 0 _ rfl
      have x1 := free_at hb 0
      have HB := Lib.hid hb
      have HO := Lib.hid ho
      have HU := Lib.hid (owns_u8 ho)
      have Hn := Lib.hid hn
      have hm : n / 256 ^ k ≤ 9223372036854775807 := Nat.le_trans (Nat.div_le_self _ _) (by omega)
      generalize hmm : n / 256 ^ k = m at *
      have HM := Lib.hid hmm
      have HN := Lib.hid hN
      have hN1 : N ≤ 1048576 := by omega
      have hbs : base ≤ wr.heap.size := by omega
      clear hb ho hn hmm hlen hN
      have t1 : decide ((k : Int) < 8) = true := by simp; omega
      have t2 : decide (k < 8) = true := by simp; omega
      go_wp2_with (first | (at_builtin; go_loud (refine wp_append rfl (.tmp 10) (.tmp 13) 98 rfl El98 (.slice A N c) N _ rfl (HO.out.alloc _) _ 1 [.int .u8 ((m : Int) % 256)] rfl (rc_new1 _ _ _) (by unfold maxLen; omega) (by omega) (by simp; omega) ?_; intro v1 w1 ho1 hg1 hloc1; obtain ⟨A1, c1, hv1⟩ := owns_slice ho1; subst hv1; have y0 : w1.cell? ⟨p, 0, none⟩ = some (.slice A N c) := cells_at ((Fr.grown hg1).keep (((Fr.refl no wr).alloc _).keep HB.out id) (fun q => wm_row HB.out HU.out q)) 0 _ rfl; have y1 : w1.frozen? ⟨p, 0, none⟩ = false := free_at ((Fr.grown hg1).keep (((Fr.refl no wr).alloc _).keep HB.out id) (fun q => wm_row HB.out HU.out q)) 0; have HO1 := Lib.hid ho1; have HG1 := Lib.hid hg1; clear ho1 hg1 hloc1 x0 x1)) | fail)
      go_roundw
      case rel =>
        obtain ⟨q1, q2⟩ := WrAt.put (news := [UInt8.ofNat m]) hpb HB.out (by rw [HN.out]; exact HO.out) ((Fr.refl no wr).alloc _) HO1.out (by rw [enc_low, enc_snoc]) (by rw [List.length_append, HN.out]; rfl) HG1.out
        refine ⟨k + 1, by omega, by go_num, ?_, Lib.hid ?_, Lib.hid (wm_trans hF.out q2)⟩
        · rw [Nat.pow_succ, ← Nat.div_div_eq_div_mul, HM.out]; rfl
        · rw [leN_snoc, HM.out, ← List.append_assoc]; exact q1
      case measure => simp [intOf]; omega
    · have hk8 : k = 8 := by omega
      have t1 : decide ((k : Int) < 8) = false := by simp; omega
      have t2 : decide (k < 8) = false := by simp; omega
      have HK := Lib.hid hk8
      clear hk8
      go_wp2_with fail
      go_end0
      have hW' := hW.out
      rw [HK.out] at hW'
      exact ⟨rfl, hW', hF.out⟩

theorem WrPost.to {w w1 : World} {base p : Nat} {l l' : List UInt8} {e : Ending} {w' : World} (h1 : Fr (Wm w base p) w w1) (h2 : WrPost w1 base p l e w') (hl : l = l') : WrPost w base p l' e w' := by
  subst hl
  exact ⟨h2.1, h2.2.1, wm_trans h1 h2.2.2⟩
theorem wfull_any (base p : Nat) (l : List UInt8) (w : World) (h : WrAt w base p l) (hl : l.length ≤ 65536) :
    Calls Try.prog 127 #[.pointer (some ⟨p, 0, none⟩)] w fun e w' => e = .returned (.bool false) ∧ w = w' := by
  obtain ⟨v, hb, ho⟩ := h.ex
  obtain ⟨A, c, rfl⟩ := owns_slice ho
  generalize l.length = N at *
  have x0 : w.cell? ⟨p, 0, none⟩ = some (.slice A N c) := cells_at hb 0 _ rfl
  have t1 : decide (65536 < (N : Int)) = false := by simp; omega
  clear hb ho h
  go_enter Try.func127, Try.ntmps127
  go_wp2
  go_ret
  exact ⟨rfl, rfl⟩

set_option maxHeartbeats 1000000 in
set_option maxRecDepth 100000 in
theorem wtext_any (base p : Nat) (s : ByteArray) (l : List UInt8) (w : World) (h : WrAt w base p l) (hl : (l ++ textB s).length ≤ 65536) :
    Calls Try.prog 107 #[.pointer (some ⟨p, 0, none⟩), .string s] w (WrPost w base p (l ++ textB s)) := by
  have hl2 : l.length + 8 + s.size ≤ 65536 := by simpa [textB, leN_length, Nat.add_assoc] using hl
  have H := Lib.hid h
  obtain ⟨i0, hi, hz0, hz1, hz2⟩ := info_parts (show (Try.prog.info? 5).map (fun i => (i.zero, i.size, i.bytes)) = some (some (.int .u8 0), 1, 1) by kernel_rfl)
  have HI := Lib.hid (And.intro hi (And.intro hz0 (And.intro hz1 hz2)))
  clear h hl hi hz0 hz1 hz2
  go_enter Try.func107, Try.ntmps107
  go_wp2_with (first | (go_at_call 109; go_loud (refine (wnum_any base p s.size l _ H.out (by omega) (by omega)).mono ?_; rintro e w1 ⟨rfl, hW1, hF1⟩; have HF1 := Lib.hid hF1; obtain ⟨v, hb, ho⟩ := hW1.ex; have hpb := hW1.pb; have hlen : (l ++ leN 8 s.size).length = l.length + 8 := (by rw [List.length_append, leN_length]); generalize hN : (l ++ leN 8 s.size).length = N at *; obtain ⟨A, c, rfl⟩ := owns_slice ho; have x0 : w1.cell? ⟨p, 0, none⟩ = some (.slice A N c) := cells_at hb 0 _ rfl; have x1 := free_at hb 0; have hps := heap_lt hb; have HW1 := Lib.hid hW1; have HB := Lib.hid hb; have HO := Lib.hid ho; have HU := Lib.hid (owns_u8 ho); have HN := Lib.hid hN; have hN2 : N + s.size ≤ 65536 := (by omega); clear hF1 hb ho hN hW1 hlen)) | (go_at_call 127; go_loud (refine (wfull_any base p _ _ HW1.out (by rw [HN.out]; omega)).mono ?_; rintro e w2 ⟨rfl, rfl⟩)) | (at_builtin; go_loud (refine Lib.wpList_append_own_string _ rfl (.tmp 15) (.tmp 16) 98 9 rfl base 5 i0 Try.underlying98 Try.underlying9 HI.out.1 HI.out.2.1 HI.out.2.2.1 HI.out.2.2.2 (.slice A N c) N _ rfl HO.out s rfl (by unfold maxLen; omega) (by omega) (by omega) ?_; intro v1 w3 ho1 hg1 hnil; obtain ⟨A1, c1, hv1⟩ := owns_slice ho1; subst hv1; have y0 : w3.cell? ⟨p, 0, none⟩ = some (.slice A N c) := cells_at ((Fr.grown hg1).keep HB.out (fun q => wm_row HB.out HU.out q)) 0 _ rfl; have y1 : w3.frozen? ⟨p, 0, none⟩ = false := free_at ((Fr.grown hg1).keep HB.out (fun q => wm_row HB.out HU.out q)) 0; have HO1 := Lib.hid ho1; have HG1 := Lib.hid hg1; clear ho1 hg1 hnil x0 x1)) | fail)
  go_end0
  obtain ⟨q1, q2⟩ := WrAt.put (w := w1) (news := bl s) hpb HB.out (by rw [HN.out]; exact HO.out) (Fr.refl no w1) HO1.out (by rw [List.map_append (l₁ := l ++ leN 8 s.size)]; rfl) (by rw [List.length_append, HN.out, bl_len]) HG1.out
  exact ⟨rfl, by rw [textB, ← List.append_assoc]; exact q1, wm_trans HF1.out q2⟩

theorem wplace_any (base p n : Nat) (l : List UInt8) (w : World) (h : WrAt w base p l) (hn : n < 9223372036854775808) (hl : l.length + 8 ≤ 1048576) :
    Calls Try.prog 124 #[.pointer (some ⟨p, 0, none⟩), .int .i64 n] w (WrPost w base p (l ++ leN 8 n)) := by
  go_enter Try.func124, Try.ntmps124
  go_wp2_with (first | (go_at_call 109; go_loud (refine (wnum_any base p n l _ h hn hl).mono ?_; rintro e w1 ⟨rfl, hW1, hF1⟩)) | fail)
  go_end0
  exact ⟨rfl, hW1, hF1⟩

set_option maxHeartbeats 1000000 in
set_option maxRecDepth 100000 in
theorem wcol_any (base p : Nat) (x : Col) (l : List UInt8) (w : World) (h : WrAt w base p l) (hc : 0 ≤ x.2 ∧ x.2 ≤ 9223372036854775807) (hl : (l ++ colB x).length ≤ 65536) :
    Calls Try.prog 105 #[.pointer (some ⟨p, 0, none⟩), .agg #[.string x.1, .int .i64 x.2]] w (WrPost w base p (l ++ colB x)) := by
  obtain ⟨nm, kd⟩ := x
  obtain ⟨kn, rfl⟩ : ∃ n : Nat, kd = n := ⟨kd.toNat, by simp only at hc; omega⟩
  have hl1 : (l ++ textB nm).length ≤ 65536 := by simp [colB, leN_length] at hl ⊢; omega
  have hl2 : (l ++ textB nm).length + 8 ≤ 1048576 := by omega
  have hk : kn < 9223372036854775808 := by simp only at hc; omega
  have H := Lib.hid h
  have HL := Lib.hid (And.intro hl1 hl2)
  have hlt := h.lt
  clear h hc hl hl1 hl2
  go_enter Try.func105, Try.ntmps105
  have hf0 := Fr.alloc (Fr.refl no w) (.cells #[.string nm, .int .i64 kn] 43)
  have HF0 := Lib.hid hf0
  clear hf0
  go_wp2_with (first | (go_at_call 107; go_loud (refine (wtext_any base p nm l _ (H.out.later HF0.out) HL.out.1).mono ?_; rintro e w1 ⟨rfl, hW1, hF1⟩; have hb := hF1.keep (heap_alloc_at w _) (Wm.other (heap_alloc_at w _) (by decide) (by omega)); have y1 : w1.cell? ⟨w.heap.size, 1, none⟩ = some (.int .i64 kn) := cells_at hb 1 _ rfl; have HW1 := Lib.hid hW1; have HF1 := Lib.hid hF1; clear hW1 hF1 hb)) | (go_at_call 109; go_loud (refine (wnum_any base p kn _ _ HW1.out hk HL.out.2).mono ?_; rintro e w2 ⟨rfl, hW2, hF2⟩)) | fail)
  go_end0
  exact ⟨rfl, by rw [colB, ← List.append_assoc]; exact hW2, wm_trans (wm_trans (wm_no HF0.out) HF1.out) hF2⟩
end Go.Proofs.Ythmjjbgjbcnjmaa
