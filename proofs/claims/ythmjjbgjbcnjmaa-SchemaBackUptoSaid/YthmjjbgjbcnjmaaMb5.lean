/-
  Contracts of the functions that the statement reaches, and the plain laws behind it: this seat's texts Uc, Ud, Th, Ti, Tj, Ue, Uf, Ug, one behind the other.
-/
import Derived.Test.YthmjjbgjbcnjmaaMb4
import Derived.Lib.AppendStr
import Derived.Laws.ResultCell
import Derived.Test.YthmjjbgjbcnjmaaMb2
import Derived.Lib.BufferRead
import Derived.Deep.QuietTactic
import Derived.BigQuiet

namespace Go.Proofs.Ythmjjbgjbcnjmaa
open Go.RowKit Go.Hop
attribute [local go_sem ↓] Go.wp_at_zero Go.wp_at_succ

/-! ### A writer of bytes -/
theorem El98 : El Try.prog 98 5 1 1 := El.mk_ (.int .u8 0) Try.underlying98 (by decide) rfl (by kernel_rfl)
/-- a block of bytes -/
def U8 (w : World) (k : Nat) : Prop := ∃ cs fz, w.heap[k]? = some (.cells cs 5 fz)
/-- what a writer's call may turn -/
def Wm (w : World) (base p : Nat) : Nat → Prop := fun k => k = p ∨ (base ≤ k ∧ U8 w k)
/-- a writer at block p, that has written l -/
structure WrAt (w : World) (base p : Nat) (l : List UInt8) : Prop where
  ex : ∃ v, w.heap[p]? = some (.cells #[v, .bool false] 135 (0, 0)) ∧ w.ownsRow base 5 1 v l.length (l.map encB)
  pb : base ≤ p
theorem wm_trans {w w1 w2 : World} {base p : Nat} (h : Fr (Wm w base p) w w1) (k : Fr (Wm w1 base p) w1 w2) : Fr (Wm w base p) w w2 := by
  refine h.trans k (fun i hi q => ?_)
  rcases q with q | ⟨q1, cs, fz, q2⟩
  · exact .inl q
  · by_cases z : Wm w base p i
    · exact z
    · exact .inr ⟨q1, cs, fz, by rw [← h.block i hi z]; exact q2⟩
theorem wm_no {w w1 : World} {base p : Nat} (h : Fr no w w1) : Fr (Wm w base p) w w1 := h.mono (fun _ _ q => q.elim)
/-- the bytes' own block -/
theorem owns_u8 {w : World} {base n : Nat} {v : Value} {xs : List Value} (h : w.ownsRow base 5 1 v n xs) : ∀ k, v.ownBlock = some k → base ≤ k ∧ U8 w k := by
  intro k hk
  rcases h.2 with ⟨rfl, _⟩ | ⟨g, cap, cur, rfl, hb, hg, _⟩
  · cases hk
  · injection hk with hk; subst hk
    exact ⟨hb, _, _, hg⟩
theorem WrAt.later {w w' : World} {base p : Nat} {l : List UInt8} (h : WrAt w base p l) (hf : Fr no w w') : WrAt w' base p l := by
  obtain ⟨v, h1, h2⟩ := h.ex
  exact ⟨⟨v, hf.keep h1 id, hf.owns h2 (fun _ _ q => q)⟩, h.pb⟩
theorem WrAt.lt {w : World} {base p : Nat} {l : List UInt8} (h : WrAt w base p l) : p < w.heap.size := by
  obtain ⟨v, h1, h2⟩ := h.ex; exact heap_lt h1
/-- a block of another kind stays -/
theorem Wm.other {w : World} {base p k : Nat} {cs : Array Value} {e : TypeId} {fz : Nat × Nat} (h : w.heap[k]? = some (.cells cs e fz)) (he : e ≠ 5) (hp : k ≠ p) : ¬ Wm w base p k := by
  rintro (q | ⟨_, cs', fz', q⟩)
  · exact hp q
  · rw [h] at q
    injection q with q; injection q with q1 q2; exact he q2
def WrPost (w : World) (base p : Nat) (l : List UInt8) (e : Ending) (w' : World) : Prop := e = .returned (.tuple #[]) ∧ WrAt w' base p l ∧ Fr (Wm w base p) w w'
theorem wm_row {w : World} {base p : Nat} {v u b : Value} (hb : w.heap[p]? = some (.cells #[u, b] 135 (0, 0))) (h : ∀ k, v.ownBlock = some k → base ≤ k ∧ U8 w k) (q : some p = v.ownBlock) : False := by
  obtain ⟨_, cs', fz', q2⟩ := h p q.symm
  rw [hb] at q2
  injection q2 with q2; injection q2 with q3 q4; cases q4
/-- the store of the new row -/
theorem WrAt.put {w w0 w1 : World} {base p : Nat} {l news : List UInt8} {v v' : Value} {cs : List Value} {n : Nat} (hp : base ≤ p) (hb : w.heap[p]? = some (.cells #[v, .bool false] 135 (0, 0))) (ho : w.ownsRow base 5 1 v l.length (l.map encB)) (h0 : Fr no w w0)
    (hn : w1.ownsRow base 5 1 v' n cs) (hcs : cs = (l ++ news).map encB) (hnl : n = (l ++ news).length) (hg : w0.grownBy w1 v.ownBlock) : WrAt (w1.setCell ⟨p, 0, none⟩ v') base p (l ++ news) ∧ Fr (Wm w base p) w (w1.setCell ⟨p, 0, none⟩ v') := by
  subst hcs hnl
  have hpv : ¬ some p = v.ownBlock := fun q => by
    obtain ⟨_, cs', fz', q2⟩ := owns_u8 ho p q.symm
    rw [hb] at q2
    injection q2 with q2; injection q2 with q3 q4; cases q4
  have hp1 : w1.heap[p]? = some (.cells #[v, .bool false] 135 (0, 0)) := (Fr.grown hg).keep (h0.keep hb id) hpv
  have hf1 : Fr (Wm w base p) w w1 := (wm_no h0).trans ((Fr.grown hg).mono (T := fun k => some k = v.ownBlock) (fun _ _ q => q)) (fun i _ q => .inr (owns_u8 ho i q.symm))
  refine ⟨⟨⟨v', ?_, ?_⟩, hp⟩, hf1.setCell _ _ (fun _ => .inl rfl)⟩
  · have := heap_setCell_at hp1 0 v'
    simpa using this
  · refine ((Fr.refl (fun k => k = p) w1).setCell _ _ (fun _ => rfl)).owns hn (fun k hk q => ?_)
    subst q
    obtain ⟨_, cs', fz', q2⟩ := owns_u8 hn k hk
    rw [hp1] at q2
    injection q2 with q2; injection q2 with q3 q4; cases q4

theorem enc_snoc (l : List UInt8) (c : UInt8) : l.map encB ++ [encB c] = (l ++ [c]).map encB := by simp
theorem enc_low (m : Nat) : Value.int .u8 ((m : Int) % 256) = encB (UInt8.ofNat m) := by
  show _ = Value.int .u8 ((UInt8.ofNat m).toNat : Int)
  rw [u8_ofNat, Int.natCast_emod]
  rfl

set_option maxHeartbeats 1000000 in
set_option maxRecDepth 100000 in
theorem wnum_any (base p n : Nat) (l : List UInt8) (w : World) (h : WrAt w base p l) (hn : n < 9223372036854775808) (hl : l.length + 8 ≤ 1048576) :
    Calls Try.prog 109 #[.pointer (some ⟨p, 0, none⟩), .int .i64 n] w (WrPost w base p (l ++ leN 8 n)) := by
  have H := Lib.hid h
  clear h
  go_enter Try.func109, Try.ntmps109
  go_wp2
  go_loopw [1, 4] (fun x i wr => ∃ k : Nat, k ≤ 8 ∧ i = .int .i64 k ∧ x = .int .i64 ((n / 256 ^ k : Nat) : Int) ∧ Hid (WrAt wr base p (l ++ leN k n)) ∧ Hid (Fr (Wm w base p) w wr)) (fun _ i _ => 8 - (intOf i).toNat)
  case atStart => exact ⟨0, by omega, rfl, by simp, Lib.hid (by simpa [leN] using H.out), Lib.hid (Fr.refl _ _)⟩
  case round =>
    clear H
    obtain ⟨k, hk, rfl, rfl, hW, hF⟩ := hrel
    by_cases hlt : k < 8
    · obtain ⟨v, hb, ho⟩ := hW.out.ex
      have hpb := hW.out.pb
      have hps := heap_lt hb
      have hlen : (l ++ leN k n).length = l.length + k := by rw [List.length_append, leN_length]
      generalize hN : (l ++ leN k n).length = N at *
      obtain ⟨A, c, rfl⟩ := owns_slice ho
      have x0 : wr.cell? ⟨p, 0, none⟩ = some (.slice A N c) := cells_at hb 0 _ rfl
      have x1 := free_at hb 0
      have HB := Lib.hid hb
      have HO := Lib.hid ho
      have HU := Lib.hid (owns_u8 ho)
      have Hn := Lib.hid hn
      have hm : n / 256 ^ k ≤ 9223372036854775807 := Nat.le_trans (Nat.div_le_self _ _) (by omega)
      generalize hmm : n / 256 ^ k = m at *
      have HM := Lib.hid hmm
      have HN := Lib.hid hN
      have hN1 : N ≤ 1048576 := by omega
      have hbs : base ≤ wr.heap.size := by omega
      clear hb ho hn hmm hlen hN
      have t1 : decide ((k : Int) < 8) = true := by simp; omega
      have t2 : decide (k < 8) = true := by simp; omega
      go_wp2_with (first | (at_builtin; go_loud (refine wp_append rfl (.tmp 10) (.tmp 13) 98 rfl El98 (.slice A N c) N _ rfl (HO.out.alloc _) _ 1 [.int .u8 ((m : Int) % 256)] rfl (rc_new1 _ _ _) (by unfold maxLen; omega) (by omega) (by simp; omega) ?_; intro v1 w1 ho1 hg1 hloc1; obtain ⟨A1, c1, hv1⟩ := owns_slice ho1; subst hv1; have y0 : w1.cell? ⟨p, 0, none⟩ = some (.slice A N c) := cells_at ((Fr.grown hg1).keep (((Fr.refl no wr).alloc _).keep HB.out id) (fun q => wm_row HB.out HU.out q)) 0 _ rfl; have y1 : w1.frozen? ⟨p, 0, none⟩ = false := free_at ((Fr.grown hg1).keep (((Fr.refl no wr).alloc _).keep HB.out id) (fun q => wm_row HB.out HU.out q)) 0; have HO1 := Lib.hid ho1; have HG1 := Lib.hid hg1; clear ho1 hg1 hloc1 x0 x1)) | fail)
      go_roundw
      case rel =>
        obtain ⟨q1, q2⟩ := WrAt.put (news := [UInt8.ofNat m]) hpb HB.out (by rw [HN.out]; exact HO.out) ((Fr.refl no wr).alloc _) HO1.out (by rw [enc_low, enc_snoc]) (by rw [List.length_append, HN.out]; rfl) HG1.out
        refine ⟨k + 1, by omega, by go_num, ?_, Lib.hid ?_, Lib.hid (wm_trans hF.out q2)⟩
        · rw [Nat.pow_succ, ← Nat.div_div_eq_div_mul, HM.out]; rfl
        · rw [leN_snoc, HM.out, ← List.append_assoc]; exact q1
      case measure => simp [intOf]; omega
    · have hk8 : k = 8 := by omega
      have t1 : decide ((k : Int) < 8) = false := by simp; omega
      have t2 : decide (k < 8) = false := by simp; omega
      have HK := Lib.hid hk8
      clear hk8
      go_wp2_with fail
      go_end0
      have hW' := hW.out
      rw [HK.out] at hW'
      exact ⟨rfl, hW', hF.out⟩

theorem WrPost.to {w w1 : World} {base p : Nat} {l l' : List UInt8} {e : Ending} {w' : World} (h1 : Fr (Wm w base p) w w1) (h2 : WrPost w1 base p l e w') (hl : l = l') : WrPost w base p l' e w' := by
  subst hl
  exact ⟨h2.1, h2.2.1, wm_trans h1 h2.2.2⟩
theorem wfull_any (base p : Nat) (l : List UInt8) (w : World) (h : WrAt w base p l) (hl : l.length ≤ 65536) :
    Calls Try.prog 127 #[.pointer (some ⟨p, 0, none⟩)] w fun e w' => e = .returned (.bool false) ∧ w = w' := by
  obtain ⟨v, hb, ho⟩ := h.ex
  obtain ⟨A, c, rfl⟩ := owns_slice ho
  generalize l.length = N at *
  have x0 : w.cell? ⟨p, 0, none⟩ = some (.slice A N c) := cells_at hb 0 _ rfl
  have t1 : decide (65536 < (N : Int)) = false := by simp; omega
  clear hb ho h
  go_enter Try.func127, Try.ntmps127
  go_wp2
  go_ret
  exact ⟨rfl, rfl⟩

set_option maxHeartbeats 1000000 in
set_option maxRecDepth 100000 in
theorem wtext_any (base p : Nat) (s : ByteArray) (l : List UInt8) (w : World) (h : WrAt w base p l) (hl : (l ++ textB s).length ≤ 65536) :
    Calls Try.prog 107 #[.pointer (some ⟨p, 0, none⟩), .string s] w (WrPost w base p (l ++ textB s)) := by
  have hl2 : l.length + 8 + s.size ≤ 65536 := by simpa [textB, leN_length, Nat.add_assoc] using hl
  have H := Lib.hid h
  obtain ⟨i0, hi, hz0, hz1, hz2⟩ := info_parts (show (Try.prog.info? 5).map (fun i => (i.zero, i.size, i.bytes)) = some (some (.int .u8 0), 1, 1) by kernel_rfl)
  have HI := Lib.hid (And.intro hi (And.intro hz0 (And.intro hz1 hz2)))
  clear h hl hi hz0 hz1 hz2
  go_enter Try.func107, Try.ntmps107
  go_wp2_with (first | (go_at_call 109; go_loud (refine (wnum_any base p s.size l _ H.out (by omega) (by omega)).mono ?_; rintro e w1 ⟨rfl, hW1, hF1⟩; have HF1 := Lib.hid hF1; obtain ⟨v, hb, ho⟩ := hW1.ex; have hpb := hW1.pb; have hlen : (l ++ leN 8 s.size).length = l.length + 8 := (by rw [List.length_append, leN_length]); generalize hN : (l ++ leN 8 s.size).length = N at *; obtain ⟨A, c, rfl⟩ := owns_slice ho; have x0 : w1.cell? ⟨p, 0, none⟩ = some (.slice A N c) := cells_at hb 0 _ rfl; have x1 := free_at hb 0; have hps := heap_lt hb; have HW1 := Lib.hid hW1; have HB := Lib.hid hb; have HO := Lib.hid ho; have HU := Lib.hid (owns_u8 ho); have HN := Lib.hid hN; have hN2 : N + s.size ≤ 65536 := (by omega); clear hF1 hb ho hN hW1 hlen)) | (go_at_call 127; go_loud (refine (wfull_any base p _ _ HW1.out (by rw [HN.out]; omega)).mono ?_; rintro e w2 ⟨rfl, rfl⟩)) | (at_builtin; go_loud (refine Lib.wpList_append_own_string _ rfl (.tmp 15) (.tmp 16) 98 9 rfl base 5 i0 Try.underlying98 Try.underlying9 HI.out.1 HI.out.2.1 HI.out.2.2.1 HI.out.2.2.2 (.slice A N c) N _ rfl HO.out s rfl (by unfold maxLen; omega) (by omega) (by omega) ?_; intro v1 w3 ho1 hg1 hnil; obtain ⟨A1, c1, hv1⟩ := owns_slice ho1; subst hv1; have y0 : w3.cell? ⟨p, 0, none⟩ = some (.slice A N c) := cells_at ((Fr.grown hg1).keep HB.out (fun q => wm_row HB.out HU.out q)) 0 _ rfl; have y1 : w3.frozen? ⟨p, 0, none⟩ = false := free_at ((Fr.grown hg1).keep HB.out (fun q => wm_row HB.out HU.out q)) 0; have HO1 := Lib.hid ho1; have HG1 := Lib.hid hg1; clear ho1 hg1 hnil x0 x1)) | fail)
  go_end0
  obtain ⟨q1, q2⟩ := WrAt.put (w := w1) (news := bl s) hpb HB.out (by rw [HN.out]; exact HO.out) (Fr.refl no w1) HO1.out (by rw [List.map_append (l₁ := l ++ leN 8 s.size)]; rfl) (by rw [List.length_append, HN.out, bl_len]) HG1.out
  exact ⟨rfl, by rw [textB, ← List.append_assoc]; exact q1, wm_trans HF1.out q2⟩

theorem wplace_any (base p n : Nat) (l : List UInt8) (w : World) (h : WrAt w base p l) (hn : n < 9223372036854775808) (hl : l.length + 8 ≤ 1048576) :
    Calls Try.prog 124 #[.pointer (some ⟨p, 0, none⟩), .int .i64 n] w (WrPost w base p (l ++ leN 8 n)) := by
  go_enter Try.func124, Try.ntmps124
  go_wp2_with (first | (go_at_call 109; go_loud (refine (wnum_any base p n l _ h hn hl).mono ?_; rintro e w1 ⟨rfl, hW1, hF1⟩)) | fail)
  go_end0
  exact ⟨rfl, hW1, hF1⟩

set_option maxHeartbeats 1000000 in
set_option maxRecDepth 100000 in
theorem wcol_any (base p : Nat) (x : Col) (l : List UInt8) (w : World) (h : WrAt w base p l) (hc : 0 ≤ x.2 ∧ x.2 ≤ 9223372036854775807) (hl : (l ++ colB x).length ≤ 65536) :
    Calls Try.prog 105 #[.pointer (some ⟨p, 0, none⟩), .agg #[.string x.1, .int .i64 x.2]] w (WrPost w base p (l ++ colB x)) := by
  obtain ⟨nm, kd⟩ := x
  obtain ⟨kn, rfl⟩ : ∃ n : Nat, kd = n := ⟨kd.toNat, by simp only at hc; omega⟩
  have hl1 : (l ++ textB nm).length ≤ 65536 := by simp [colB, leN_length] at hl ⊢; omega
  have hl2 : (l ++ textB nm).length + 8 ≤ 1048576 := by omega
  have hk : kn < 9223372036854775808 := by simp only at hc; omega
  have H := Lib.hid h
  have HL := Lib.hid (And.intro hl1 hl2)
  have hlt := h.lt
  clear h hc hl hl1 hl2
  go_enter Try.func105, Try.ntmps105
  have hf0 := Fr.alloc (Fr.refl no w) (.cells #[.string nm, .int .i64 kn] 43)
  have HF0 := Lib.hid hf0
  clear hf0
  go_wp2_with (first | (go_at_call 107; go_loud (refine (wtext_any base p nm l _ (H.out.later HF0.out) HL.out.1).mono ?_; rintro e w1 ⟨rfl, hW1, hF1⟩; have hb := hF1.keep (heap_alloc_at w _) (Wm.other (heap_alloc_at w _) (by decide) (by omega)); have y1 : w1.cell? ⟨w.heap.size, 1, none⟩ = some (.int .i64 kn) := cells_at hb 1 _ rfl; have HW1 := Lib.hid hW1; have HF1 := Lib.hid hF1; clear hW1 hF1 hb)) | (go_at_call 109; go_loud (refine (wnum_any base p kn _ _ HW1.out hk HL.out.2).mono ?_; rintro e w2 ⟨rfl, hW2, hF2⟩)) | fail)
  go_end0
  exact ⟨rfl, by rw [colB, ← List.append_assoc]; exact hW2, wm_trans (wm_trans (wm_no HF0.out) HF1.out) hF2⟩
end Go.Proofs.Ythmjjbgjbcnjmaa

namespace Go.Proofs.Ythmjjbgjbcnjmaa
open Go.RowKit Go.Hop

theorem wm_old {w : World} {base p k : Nat} (hk : k < base) (hp : base ≤ p) : ¬ Wm w base p k := by
  rintro (q | ⟨q, _⟩) <;> omega
theorem WrAt.flag {w : World} {base p : Nat} {l : List UInt8} (h : WrAt w base p l) : WrAt (w.setCell ⟨p, 1, none⟩ (.bool false)) base p l ∧ Fr (Wm w base p) w (w.setCell ⟨p, 1, none⟩ (.bool false)) := by
  obtain ⟨v, hb, ho⟩ := h.ex
  refine ⟨⟨⟨v, ?_, ?_⟩, h.pb⟩, (Fr.refl _ w).setCell _ _ (fun _ => .inl rfl)⟩
  · have := heap_setCell_at hb 1 (.bool false)
    simpa using this
  · refine ((Fr.refl (fun k => k = p) w).setCell _ _ (fun _ => rfl)).owns ho (fun k hk q => ?_)
    subst q
    exact wm_row hb (owns_u8 ho) hk.symm
theorem flat_step {α : Type} (enc : α → List UInt8) (l : List α) (k : Nat) (x : α) (hx : l[k]? = some x) (pre : List UInt8) (hd : List UInt8) :
    (pre ++ (hd ++ (l.take k).flatMap enc)) ++ enc x = pre ++ (hd ++ (l.take (k + 1)).flatMap enc) ∧ ((pre ++ (hd ++ (l.take k).flatMap enc)) ++ enc x).length ≤ (pre ++ (hd ++ l.flatMap enc)).length := by
  have e : (pre ++ (hd ++ (l.take k).flatMap enc)) ++ enc x = pre ++ (hd ++ (l.take (k + 1)).flatMap enc) := by
    rw [List.take_add_one, hx]; simp
  refine ⟨e, ?_⟩
  rw [e]
  have : l.flatMap enc = (l.take (k + 1)).flatMap enc ++ (l.drop (k + 1)).flatMap enc := by rw [← List.flatMap_append, List.take_append_drop]
  rw [this]; simp only [List.length_append]; omega

set_option maxHeartbeats 1000000 in
set_option maxRecDepth 100000 in
theorem wflag_any (base p : Nat) (u : Bool) (l : List UInt8) (w : World) (h : WrAt w base p l) (hl : (l ++ [if u then 1 else 0]).length ≤ 65536) :
    Calls Try.prog 126 #[.pointer (some ⟨p, 0, none⟩), .bool u] w (WrPost w base p (l ++ [if u then 1 else 0])) := by
  obtain ⟨v, hb, ho⟩ := h.ex
  have hpb := h.pb
  have hN1 : l.length + 1 ≤ 65536 := by simpa using hl
  generalize hN : l.length = N at *
  obtain ⟨A, c, rfl⟩ := owns_slice ho
  have x0 : w.cell? ⟨p, 0, none⟩ = some (.slice A N c) := cells_at hb 0 _ rfl
  have x1 := free_at hb 0
  have hps := heap_lt hb
  have hbs : base ≤ w.heap.size := by omega
  have HB := Lib.hid hb
  have HO := Lib.hid ho
  have HU := Lib.hid (owns_u8 ho)
  have HN := Lib.hid hN
  clear h hb ho hN hl
  cases u
  · go_enter Try.func126, Try.ntmps126
    go_wp2_with (first | (at_builtin; go_loud (refine wp_append rfl (.tmp 10) (.tmp 12) 98 rfl El98 (.slice A N c) N _ rfl (HO.out.alloc _) _ 1 [.int .u8 0] rfl (rc_new1 _ _ _) (by unfold maxLen; omega) (by omega) (by simp; omega) ?_; intro v1 w1 ho1 hg1 hloc1; obtain ⟨A1, c1, hv1⟩ := owns_slice ho1; subst hv1; have y0 : w1.cell? ⟨p, 0, none⟩ = some (.slice A N c) := cells_at ((Fr.grown hg1).keep (((Fr.refl no w).alloc _).keep HB.out id) (fun q => wm_row HB.out HU.out q)) 0 _ rfl; have y1 : w1.frozen? ⟨p, 0, none⟩ = false := free_at ((Fr.grown hg1).keep (((Fr.refl no w).alloc _).keep HB.out id) (fun q => wm_row HB.out HU.out q)) 0; have HO1 := Lib.hid ho1; have HG1 := Lib.hid hg1; clear ho1 hg1 hloc1 x0 x1)) | fail)
    go_end0
    obtain ⟨q1, q2⟩ := WrAt.put (news := [0]) hpb HB.out (by rw [HN.out]; exact HO.out) ((Fr.refl no w).alloc _) HO1.out (by rw [List.map_append]; rfl) (by rw [List.length_append, HN.out]; rfl) HG1.out
    exact ⟨rfl, q1, q2⟩
  · go_enter Try.func126, Try.ntmps126
    go_wp2_with (first | (at_builtin; go_loud (refine wp_append rfl (.tmp 10) (.tmp 12) 98 rfl El98 (.slice A N c) N _ rfl (HO.out.alloc _) _ 1 [.int .u8 1] rfl (rc_new1 _ _ _) (by unfold maxLen; omega) (by omega) (by simp; omega) ?_; intro v1 w1 ho1 hg1 hloc1; obtain ⟨A1, c1, hv1⟩ := owns_slice ho1; subst hv1; have y0 : w1.cell? ⟨p, 0, none⟩ = some (.slice A N c) := cells_at ((Fr.grown hg1).keep (((Fr.refl no w).alloc _).keep HB.out id) (fun q => wm_row HB.out HU.out q)) 0 _ rfl; have y1 : w1.frozen? ⟨p, 0, none⟩ = false := free_at ((Fr.grown hg1).keep (((Fr.refl no w).alloc _).keep HB.out id) (fun q => wm_row HB.out HU.out q)) 0; have HO1 := Lib.hid ho1; have HG1 := Lib.hid hg1; clear ho1 hg1 hloc1 x0 x1)) | fail)
    go_end0
    obtain ⟨q1, q2⟩ := WrAt.put (news := [1]) hpb HB.out (by rw [HN.out]; exact HO.out) ((Fr.refl no w).alloc _) HO1.out (by rw [List.map_append]; rfl) (by rw [List.length_append, HN.out]; rfl) HG1.out
    exact ⟨rfl, q1, q2⟩

set_option maxHeartbeats 1000000 in
set_option maxRecDepth 100000 in
theorem wlist125_any (base p : Nat) (K : Nat → Prop) (v : Value) (xs : List Int) (l : List UInt8) (w : World) (h : WrAt w base p l) (hv : RcK w K 1 v xs.length (xs.map encI)) (hK : ∀ k, K k → k < base) (hx : ∀ x ∈ xs, 0 ≤ x ∧ x ≤ 9223372036854775807) (hn : xs.length ≤ 4096) (hl : (l ++ (leN 8 xs.length ++ xs.flatMap (fun n : Int => leN 8 n.toNat))).length ≤ 65536) :
    Calls Try.prog 125 #[.pointer (some ⟨p, 0, none⟩), v, .func (.func 124) #[.pointer (some ⟨p, 0, none⟩)] #[]] w (WrPost w base p (l ++ (leN 8 xs.length ++ xs.flatMap (fun n : Int => leN 8 n.toNat)))) := by
  obtain ⟨A, c, rfl, hc⟩ := hv.rc.form
  have H := Lib.hid h
  have HV := Lib.hid hv
  have HX := Lib.hid hx
  have HL := Lib.hid hl
  have hl8 : l.length + 8 ≤ 65536 := by simp [leN_length] at hl; omega
  have hpb := h.pb
  clear h hv hx hl
  have t0 : decide (4096 < (xs.length : Int)) = false := by simp; omega
  go_enter Try.func125, Try.ntmps125
  go_wp2_with (first | (go_at_call 109; go_loud (refine (wnum_any base p xs.length l _ H.out (by omega) (by omega)).mono ?_; rintro e w1 ⟨rfl, hW1, hF1⟩; obtain ⟨vv, hb, ho⟩ := hW1.ex; have x1 : w1.cell? ⟨p, 1, none⟩ = some (.bool false) := cells_at hb 1 _ rfl; have x2 := free_at hb 1; have HW1 := Lib.hid hW1; have HF1 := Lib.hid hF1; clear hF1 hb ho hW1)) | fail)
  have hq := HW1.out.flag
  have HQ := Lib.hid (And.intro hq.1 (wm_trans HF1.out hq.2))
  clear hq x1 x2 HW1 HF1
  generalize w1.setCell ⟨p, 1, none⟩ (.bool false) = w2 at *
  go_loopw [26] (fun i wr => ∃ k : Nat, k ≤ xs.length ∧ i = .int .i64 k ∧ Hid (WrAt wr base p (l ++ (leN 8 xs.length ++ (xs.take k).flatMap (fun n : Int => leN 8 n.toNat)))) ∧ Hid (Fr (Wm w base p) w wr)) (fun i _ => xs.length - (intOf i).toNat)
  case atStart => exact ⟨0, Nat.zero_le _, rfl, Lib.hid (by simpa using HQ.out.1), Lib.hid HQ.out.2⟩
  case round =>
    clear HQ H
    obtain ⟨k, hk, rfl, hW, hF⟩ := hrel
    by_cases hlt : k < xs.length
    · obtain ⟨x, hxk⟩ : ∃ x, xs[k]? = some x := ⟨_, List.getElem?_eq_getElem hlt⟩
      have q1 : (xs.map encI)[k]? = some (.int .i64 x) := by rw [List.getElem?_map, hxk]; rfl
      obtain ⟨b, off, rfl, e0⟩ := (HV.out.keep hF.out (fun k _ q => wm_old (hK k q) hpb)).rc.at_ q1
      clear q1
      obtain ⟨m, rfl⟩ : ∃ m : Nat, x = m := ⟨x.toNat, by have := HX.out x (List.mem_of_getElem? hxk); omega⟩
      have hl5 : (l ++ (leN 8 xs.length ++ (xs.take k).flatMap (fun n : Int => leN 8 n.toNat))).length + 8 ≤ 1048576 := by have h1 := (flat_step (fun n : Int => leN 8 n.toNat) xs k _ hxk l (leN 8 xs.length)).2; have h2 := HL.out; rw [List.length_append, leN_length] at h1; omega
      have HFS := Lib.hid (flat_step (fun n : Int => leN 8 n.toNat) xs k ((m : Nat) : Int) hxk l (leN 8 xs.length))
      have HG := Lib.hid (HX.out ((m : Nat) : Int) (List.mem_of_getElem? hxk))
      have t1 : decide ((k : Int) < (xs.length : Int)) = true := by simp; omega
      have t2 : decide (k < xs.length) = true := by simp; omega
      have t3 : decide ((xs.length : Int) ≤ 4096) = true := by simp; omega
      have t4 : decide (xs.length ≤ 4096) = true := by simp; omega
      clear hxk
      go_wp2_with (first | (go_at_call 124; go_loud (refine (wplace_any base p m _ _ hW.out (by have := HG.out; omega) hl5).mono ?_; rintro e w3 ⟨rfl, hW3, hF3⟩; have HW3 := Lib.hid hW3; have HF3 := Lib.hid hF3; clear hW3 hF3)) | fail)
      go_roundw
      case rel => exact ⟨k + 1, by omega, by go_num, Lib.hid (by rw [← HFS.out.1]; exact HW3.out), Lib.hid (wm_trans hF.out HF3.out)⟩
      case measure => simp [intOf]; omega
    · have t1 : decide ((k : Int) < (xs.length : Int)) = false := by simp; omega
      have t2 : decide (k < xs.length) = false := by simp; omega
      have HT := Lib.hid (show xs.take k = xs from List.take_of_length_le (by omega))
      go_wp2_with fail
      go_end0
      have hW' := hW.out
      rw [HT.out] at hW'
      exact ⟨rfl, hW', hF.out⟩

set_option maxHeartbeats 1000000 in
set_option maxRecDepth 100000 in
theorem wlist108_any (base p : Nat) (K : Nat → Prop) (v : Value) (xs : List Col) (l : List UInt8) (w : World) (h : WrAt w base p l) (hv : RcK w K 2 v xs.length (ccells xs)) (hK : ∀ k, K k → k < base) (hx : ∀ x ∈ xs, 0 ≤ x.2 ∧ x.2 ≤ 9223372036854775807) (hn : xs.length ≤ 4096) (hl : (l ++ (leN 8 xs.length ++ xs.flatMap colB)).length ≤ 65536) :
    Calls Try.prog 108 #[.pointer (some ⟨p, 0, none⟩), v, .func (.func 105) #[.pointer (some ⟨p, 0, none⟩)] #[]] w (WrPost w base p (l ++ (leN 8 xs.length ++ xs.flatMap colB))) := by
  obtain ⟨A, c, rfl, hc⟩ := hv.rc.form
  have H := Lib.hid h
  have HV := Lib.hid hv
  have HX := Lib.hid hx
  have HL := Lib.hid hl
  have hl8 : l.length + 8 ≤ 65536 := by simp [leN_length] at hl; omega
  have hpb := h.pb
  clear h hv hx hl
  have t0 : decide (4096 < (xs.length : Int)) = false := by simp; omega
  go_enter Try.func108, Try.ntmps108
  go_wp2_with (first | (go_at_call 109; go_loud (refine (wnum_any base p xs.length l _ H.out (by omega) (by omega)).mono ?_; rintro e w1 ⟨rfl, hW1, hF1⟩; obtain ⟨vv, hb, ho⟩ := hW1.ex; have x1 : w1.cell? ⟨p, 1, none⟩ = some (.bool false) := cells_at hb 1 _ rfl; have x2 := free_at hb 1; have HW1 := Lib.hid hW1; have HF1 := Lib.hid hF1; clear hF1 hb ho hW1)) | fail)
  have hq := HW1.out.flag
  have HQ := Lib.hid (And.intro hq.1 (wm_trans HF1.out hq.2))
  clear hq x1 x2 HW1 HF1
  generalize w1.setCell ⟨p, 1, none⟩ (.bool false) = w2 at *
  go_loopw [26] (fun i wr => ∃ k : Nat, k ≤ xs.length ∧ i = .int .i64 k ∧ Hid (WrAt wr base p (l ++ (leN 8 xs.length ++ (xs.take k).flatMap colB))) ∧ Hid (Fr (Wm w base p) w wr)) (fun i _ => xs.length - (intOf i).toNat)
  case atStart => exact ⟨0, Nat.zero_le _, rfl, Lib.hid (by simpa using HQ.out.1), Lib.hid HQ.out.2⟩
  case round =>
    clear HQ H
    obtain ⟨k, hk, rfl, hW, hF⟩ := hrel
    by_cases hlt : k < xs.length
    · obtain ⟨x, hxk⟩ : ∃ x, xs[k]? = some x := ⟨_, List.getElem?_eq_getElem hlt⟩
      obtain ⟨q1, q2⟩ := ccells_at xs k x hxk
      have hrk := (HV.out.keep hF.out (fun k _ q => wm_old (hK k q) hpb)).rc
      obtain ⟨b, off, rfl, e0⟩ := hrk.at_ q1
      obtain ⟨b', off', hb', e1⟩ := hrk.at_ q2
      obtain ⟨rfl, rfl⟩ : b = b' ∧ off = off' := by injection hb' with hb'; injection hb' with z1 z2; exact ⟨z1, z2⟩
      rw [← Nat.add_assoc] at e1
      clear hb' q1 q2 hrk
      have HL5 := Lib.hid (Nat.le_trans (flat_step colB xs k x hxk l (leN 8 xs.length)).2 HL.out)
      have HFS := Lib.hid (flat_step colB xs k x hxk l (leN 8 xs.length))
      have HG := Lib.hid (HX.out x (List.mem_of_getElem? hxk))
      have t1 : decide ((k : Int) < (xs.length : Int)) = true := by simp; omega
      have t2 : decide (k < xs.length) = true := by simp; omega
      have t3 : decide ((xs.length : Int) ≤ 4096) = true := by simp; omega
      have t4 : decide (xs.length ≤ 4096) = true := by simp; omega
      clear hxk
      go_wp2_with (first | (go_at_call 105; go_loud (refine (wcol_any base p x _ _ (hW.out.later ((Fr.refl no wr).alloc _)) HG.out HL5.out).mono ?_; rintro e w3 ⟨rfl, hW3, hF3⟩; have HW3 := Lib.hid hW3; have HF3 := Lib.hid hF3; clear hW3 hF3)) | fail)
      go_roundw
      case rel => exact ⟨k + 1, by omega, by go_num, Lib.hid (by rw [← HFS.out.1]; exact HW3.out), Lib.hid (wm_trans hF.out (wm_trans (wm_no ((Fr.refl no wr).alloc _)) HF3.out))⟩
      case measure => simp [intOf]; omega
    · have t1 : decide ((k : Int) < (xs.length : Int)) = false := by simp; omega
      have t2 : decide (k < xs.length) = false := by simp; omega
      have HT := Lib.hid (show xs.take k = xs from List.take_of_length_le (by omega))
      go_wp2_with fail
      go_end0
      have hW' := hW.out
      rw [HT.out] at hW'
      exact ⟨rfl, hW', hF.out⟩

def IxGood (x : Ix) : Prop := x.cols.length ≤ 4096 ∧ ∀ n ∈ x.cols, 0 ≤ n ∧ n ≤ 9223372036854775807
set_option maxHeartbeats 1000000 in
set_option maxRecDepth 100000 in
theorem wix_any (base p : Nat) (K : Nat → Prop) (v : Value) (x : Ix) (l : List UInt8) (w : World) (h : WrAt w base p l) (hv : RcK w K 1 v x.cols.length (x.cols.map encI)) (hK : ∀ k, K k → k < base) (hx : IxGood x) (hl : (l ++ ixB x).length ≤ 65536) :
    Calls Try.prog 106 #[.pointer (some ⟨p, 0, none⟩), .agg #[.string x.name, v, .bool x.uniq]] w (WrPost w base p (l ++ ixB x)) := by
  have H := Lib.hid h
  have HX := Lib.hid hx
  have HV := Lib.hid hv
  have hlt := h.lt
  have hpb := h.pb
  have e1 : l ++ ixB x = ((l ++ textB x.name) ++ (leN 8 x.cols.length ++ x.cols.flatMap (fun n : Int => leN 8 n.toNat))) ++ [if x.uniq then 1 else 0] := by simp [ixB, numsB]
  have HE := Lib.hid e1
  have HL3 := Lib.hid (show (((l ++ textB x.name) ++ (leN 8 x.cols.length ++ x.cols.flatMap (fun n : Int => leN 8 n.toNat))) ++ [if x.uniq then 1 else 0]).length ≤ 65536 by rw [← e1]; exact hl)
  have HL2 := Lib.hid (show ((l ++ textB x.name) ++ (leN 8 x.cols.length ++ x.cols.flatMap (fun n : Int => leN 8 n.toNat))).length ≤ 65536 by have := HL3.out; rw [List.length_append] at this; omega)
  have HL1 := Lib.hid (show (l ++ textB x.name).length ≤ 65536 by have := HL2.out; rw [List.length_append] at this; omega)
  obtain ⟨A, c, rfl, hc⟩ := hv.rc.form
  clear h hx hl e1 hv
  go_enter Try.func106, Try.ntmps106
  have hf0 := Fr.alloc (Fr.refl no w) (.cells #[.string x.name, .slice A x.cols.length c, .bool x.uniq] 91)
  have HF0 := Lib.hid hf0
  clear hf0
  go_wp2_with (first | (go_at_call 107; go_loud (refine (wtext_any base p x.name l _ (H.out.later HF0.out) HL1.out).mono ?_; rintro e w1 ⟨rfl, hW1, hF1⟩; have hb := hF1.keep (heap_alloc_at w _) (Wm.other (heap_alloc_at w _) (by decide) (by omega)); have y1 : w1.cell? ⟨w.heap.size, 1, none⟩ = some (.slice A x.cols.length c) := cells_at hb 1 _ rfl; have HB := Lib.hid hb; have HW1 := Lib.hid hW1; have HF1 := Lib.hid hF1; clear hW1 hF1 hb)) | (go_at_call 125; go_loud (refine (wlist125_any base p K _ x.cols _ _ HW1.out ((HV.out.keep HF0.out (fun _ _ _ z => z)).keep HF1.out (fun k _ q => wm_old (hK k q) hpb)) hK HX.out.2 HX.out.1 HL2.out).mono ?_; rintro e w2 ⟨rfl, hW2, hF2⟩; have hb := hF2.keep HB.out (Wm.other HB.out (by decide) (by omega)); have y2 : w2.cell? ⟨w.heap.size, 2, none⟩ = some (.bool x.uniq) := cells_at hb 2 _ rfl; have HW2 := Lib.hid hW2; have HF2 := Lib.hid hF2; clear hW2 hF2 hb)) | (go_at_call 126; go_loud (refine (wflag_any base p x.uniq _ _ HW2.out HL3.out).mono ?_; rintro e w3 ⟨rfl, hW3, hF3⟩)) | fail)
  go_end0
  exact ⟨rfl, by rw [HE.out]; exact hW3, wm_trans (wm_trans (wm_trans (wm_no HF0.out) HF1.out) HF2.out) hF3⟩

set_option maxHeartbeats 1000000 in
set_option maxRecDepth 100000 in
theorem wlist110_any (base p : Nat) (K : Nat → Prop) (v : Value) (xs : List Ix) (svs : List Value) (l : List UInt8) (w : World) (h : WrAt w base p l) (hv : IdxAt w K v xs svs) (hK : ∀ k, K k → k < base) (hx : ∀ x ∈ xs, IxGood x) (hn : xs.length ≤ 4096) (hl : (l ++ (leN 8 xs.length ++ xs.flatMap ixB)).length ≤ 65536) :
    Calls Try.prog 110 #[.pointer (some ⟨p, 0, none⟩), v, .func (.func 106) #[.pointer (some ⟨p, 0, none⟩)] #[]] w (WrPost w base p (l ++ (leN 8 xs.length ++ xs.flatMap ixB))) := by
  obtain ⟨A, c, rfl, hc⟩ := hv.row.rc.form
  have H := Lib.hid h
  have HV := Lib.hid hv
  have HX := Lib.hid hx
  have HL := Lib.hid hl
  have hl8 : l.length + 8 ≤ 65536 := by simp [leN_length] at hl; omega
  have hpb := h.pb
  clear h hv hx hl
  have t0 : decide (4096 < (xs.length : Int)) = false := by simp; omega
  go_enter Try.func110, Try.ntmps110
  go_wp2_with (first | (go_at_call 109; go_loud (refine (wnum_any base p xs.length l _ H.out (by omega) (by omega)).mono ?_; rintro e w1 ⟨rfl, hW1, hF1⟩; obtain ⟨vv, hb, ho⟩ := hW1.ex; have x1 : w1.cell? ⟨p, 1, none⟩ = some (.bool false) := cells_at hb 1 _ rfl; have x2 := free_at hb 1; have HW1 := Lib.hid hW1; have HF1 := Lib.hid hF1; clear hF1 hb ho hW1)) | fail)
  have hq := HW1.out.flag
  have HQ := Lib.hid (And.intro hq.1 (wm_trans HF1.out hq.2))
  clear hq x1 x2 HW1 HF1
  generalize w1.setCell ⟨p, 1, none⟩ (.bool false) = w2 at *
  go_loopw [26] (fun i wr => ∃ k : Nat, k ≤ xs.length ∧ i = .int .i64 k ∧ Hid (WrAt wr base p (l ++ (leN 8 xs.length ++ (xs.take k).flatMap ixB))) ∧ Hid (Fr (Wm w base p) w wr)) (fun i _ => xs.length - (intOf i).toNat)
  case atStart => exact ⟨0, Nat.zero_le _, rfl, Lib.hid (by simpa using HQ.out.1), Lib.hid HQ.out.2⟩
  case round =>
    clear HQ H
    obtain ⟨k, hk, rfl, hW, hF⟩ := hrel
    by_cases hlt : k < xs.length
    · obtain ⟨x, hxk⟩ : ∃ x, xs[k]? = some x := ⟨_, List.getElem?_eq_getElem hlt⟩
      obtain ⟨u, hu⟩ : ∃ u, svs[k]? = some u := ⟨_, List.getElem?_eq_getElem (by rw [HV.out.len]; omega)⟩
      obtain ⟨q1, q2, q3⟩ := icells_at xs svs k x u hxk hu
      have hvk := HV.out.keep hF.out (fun k _ q => wm_old (hK k q) hpb)
      obtain ⟨b, off, rfl, e0⟩ := hvk.row.rc.at_ q1
      obtain ⟨b', off', hb', e1⟩ := hvk.row.rc.at_ q2
      obtain ⟨rfl, rfl⟩ : b = b' ∧ off = off' := by injection hb' with hb'; injection hb' with z1 z2; exact ⟨z1, z2⟩
      obtain ⟨b', off', hb', e2⟩ := hvk.row.rc.at_ q3
      obtain ⟨rfl, rfl⟩ : b = b' ∧ off = off' := by injection hb' with hb'; injection hb' with z1 z2; exact ⟨z1, z2⟩
      rw [← Nat.add_assoc] at e1 e2
      have hu2 := hvk.each k x u hxk hu
      obtain ⟨A', c', rfl, _⟩ := hu2.rc.form
      have HU2 := Lib.hid hu2
      clear hb' q1 q2 q3 hvk hu hu2
      have HL5 := Lib.hid (Nat.le_trans (flat_step ixB xs k x hxk l (leN 8 xs.length)).2 HL.out)
      have HFS := Lib.hid (flat_step ixB xs k x hxk l (leN 8 xs.length))
      have HG := Lib.hid (HX.out x (List.mem_of_getElem? hxk))
      have t1 : decide ((k : Int) < (xs.length : Int)) = true := by simp; omega
      have t2 : decide (k < xs.length) = true := by simp; omega
      have t3 : decide ((xs.length : Int) ≤ 4096) = true := by simp; omega
      have t4 : decide (xs.length ≤ 4096) = true := by simp; omega
      clear hxk
      go_wp2_with (first | (go_at_call 106; go_loud (refine (wix_any base p K _ x _ _ (hW.out.later ((Fr.refl no wr).alloc _)) (HU2.out.keep ((Fr.refl no wr).alloc _) (fun _ _ _ z => z)) hK HG.out HL5.out).mono ?_; rintro e w3 ⟨rfl, hW3, hF3⟩; have HW3 := Lib.hid hW3; have HF3 := Lib.hid hF3; clear hW3 hF3)) | fail)
      go_roundw
      case rel => exact ⟨k + 1, by omega, by go_num, Lib.hid (by rw [← HFS.out.1]; exact HW3.out), Lib.hid (wm_trans hF.out (wm_trans (wm_no ((Fr.refl no wr).alloc _)) HF3.out))⟩
      case measure => simp [intOf]; omega
    · have t1 : decide ((k : Int) < (xs.length : Int)) = false := by simp; omega
      have t2 : decide (k < xs.length) = false := by simp; omega
      have HT := Lib.hid (show xs.take k = xs from List.take_of_length_le (by omega))
      go_wp2_with fail
      go_end0
      have hW' := hW.out
      rw [HT.out] at hW'
      exact ⟨rfl, hW', hF.out⟩

def TabGood (t : Tab) : Prop := t.cols.length ≤ 4096 ∧ (∀ x ∈ t.cols, 0 ≤ x.2 ∧ x.2 ≤ 9223372036854775807) ∧ (0 ≤ t.key ∧ t.key ≤ 9223372036854775807) ∧ t.idx.length ≤ 4096 ∧ ∀ x ∈ t.idx, IxGood x
set_option maxHeartbeats 1000000 in
set_option maxRecDepth 100000 in
theorem wtab_any (base p : Nat) (K : Nat → Prop) (v : Value) (t : Tab) (l : List UInt8) (w : World) (h : WrAt w base p l) (hv : TabAt w K v t) (hK : ∀ k, K k → k < base) (hx : TabGood t) (hl : (l ++ tabB t).length ≤ 65536) :
    Calls Try.prog 87 #[.pointer (some ⟨p, 0, none⟩), v] w (WrPost w base p (l ++ tabB t)) := by
  have H := Lib.hid h
  have HX := Lib.hid hx
  have HV := Lib.hid hv
  have hlt := h.lt
  have hpb := h.pb
  obtain ⟨kn, hkn⟩ : ∃ n : Nat, t.key = n := ⟨t.key.toNat, by have := hx.2.2.1.1; omega⟩
  have hkb : kn < 9223372036854775808 := by have := hx.2.2.1.2; omega
  have e1 : l ++ tabB t = (((l ++ textB t.name) ++ (leN 8 t.cols.length ++ t.cols.flatMap colB)) ++ leN 8 kn) ++ (leN 8 t.idx.length ++ t.idx.flatMap ixB) := by simp [tabB, hkn]
  have HE := Lib.hid e1
  have HL4 := Lib.hid (show ((((l ++ textB t.name) ++ (leN 8 t.cols.length ++ t.cols.flatMap colB)) ++ leN 8 kn) ++ (leN 8 t.idx.length ++ t.idx.flatMap ixB)).length ≤ 65536 by rw [← e1]; exact hl)
  have HL3 := Lib.hid (show ((l ++ textB t.name) ++ (leN 8 t.cols.length ++ t.cols.flatMap colB)).length + 8 ≤ 65536 by have := HL4.out; simp only [List.length_append, leN_length] at this ⊢; omega)
  have HL2 := Lib.hid (show ((l ++ textB t.name) ++ (leN 8 t.cols.length ++ t.cols.flatMap colB)).length ≤ 65536 by have := HL3.out; omega)
  have HL1 := Lib.hid (show (l ++ textB t.name).length ≤ 65536 by have := HL2.out; rw [List.length_append] at this; omega)
  obtain ⟨vc, vi, svs, rfl, hc, hi⟩ := hv.ex
  obtain ⟨Ac, cc, rfl, hcc⟩ := hc.rc.form
  obtain ⟨Ai, ci, rfl, hci⟩ := hi.row.rc.form
  have HC := Lib.hid hc
  have HI := Lib.hid hi
  rw [hkn]
  clear h hx hl e1 hv hc hi hkn HV
  go_enter Try.func87, Try.ntmps87
  have hf0 := Fr.alloc (Fr.refl no w) (.cells #[.string t.name, .slice Ac t.cols.length cc, .int .i64 kn, .slice Ai t.idx.length ci] 41)
  have HF0 := Lib.hid hf0
  clear hf0
  go_wp2_with (first | (go_at_call 107; go_loud (refine (wtext_any base p t.name l _ (H.out.later HF0.out) HL1.out).mono ?_; rintro e w1 ⟨rfl, hW1, hF1⟩; have hb := hF1.keep (heap_alloc_at w _) (Wm.other (heap_alloc_at w _) (by decide) (by omega)); have y1 : w1.cell? ⟨w.heap.size, 1, none⟩ = some (.slice Ac t.cols.length cc) := cells_at hb 1 _ rfl; have HB := Lib.hid hb; have HW1 := Lib.hid hW1; have HF1 := Lib.hid hF1; clear hW1 hF1 hb)) | (go_at_call 108; go_loud (refine (wlist108_any base p K _ t.cols _ _ HW1.out ((HC.out.keep HF0.out (fun _ _ _ z => z)).keep HF1.out (fun k _ q => wm_old (hK k q) hpb)) hK HX.out.2.1 HX.out.1 HL2.out).mono ?_; rintro e w2 ⟨rfl, hW2, hF2⟩; have hb := hF2.keep HB.out (Wm.other HB.out (by decide) (by omega)); have y2 : w2.cell? ⟨w.heap.size, 2, none⟩ = some (.int .i64 kn) := cells_at hb 2 _ rfl; have HB2 := Lib.hid hb; have HW2 := Lib.hid hW2; have HF2 := Lib.hid hF2; clear hW2 hF2 hb)) | (go_at_call 109; go_loud (refine (wnum_any base p kn _ _ HW2.out hkb (by have := HL3.out; omega)).mono ?_; rintro e w3 ⟨rfl, hW3, hF3⟩; have hb := hF3.keep HB2.out (Wm.other HB2.out (by decide) (by omega)); have y3 : w3.cell? ⟨w.heap.size, 3, none⟩ = some (.slice Ai t.idx.length ci) := cells_at hb 3 _ rfl; have HW3 := Lib.hid hW3; have HF3 := Lib.hid hF3; clear hW3 hF3 hb)) | (go_at_call 110; go_loud (refine (wlist110_any base p K _ t.idx svs _ _ HW3.out ((((HI.out.keep HF0.out (fun _ _ _ z => z)).keep HF1.out (fun k _ q => wm_old (hK k q) hpb)).keep HF2.out (fun k _ q => wm_old (hK k q) hpb)).keep HF3.out (fun k _ q => wm_old (hK k q) hpb)) hK HX.out.2.2.2.2 HX.out.2.2.2.1 HL4.out).mono ?_; rintro e w4 ⟨rfl, hW4, hF4⟩)) | fail)
  go_end0
  exact ⟨rfl, by rw [HE.out]; exact hW4, wm_trans (wm_trans (wm_trans (wm_trans (wm_no HF0.out) HF1.out) HF2.out) HF3.out) hF4⟩
end Go.Proofs.Ythmjjbgjbcnjmaa

namespace Go.Proofs.Ythmjjbgjbcnjmaa
open Go.RowKit Go.Hop
attribute [local go_sem ↓] Go.wp_at_zero Go.wp_at_succ

theorem look87 {w : World} {m : Nat} {al : List (ByteArray × Value)} (h : MapIs w m al) (n : ByteArray) : (Instr.lookup 87 (.map (some m)) (.string n) true).run Try.prog w = .ok (.tuple #[(get al n).getD (.agg #[.string ⟨#[]⟩, .slice none 0 0, .int .i64 0, .slice none 0 0]), .bool (get al n).isSome]) w := by
  have := h.look (P := Try.prog) Try.underlying87 Try.underlying9 zero41 n true
  simpa using this

theorem mem_put {β : Type} {l : List (ByteArray × β)} {k : ByteArray} {v : β} {q : ByteArray × β} (h : q ∈ put l k v) : q = (k, v) ∨ q ∈ l := by
  induction l with
  | nil => simp [put] at h; exact .inl h
  | cons p t ih =>
    obtain ⟨a, b⟩ := p
    simp only [put] at h
    split at h
    · next e =>
      subst e
      rcases List.mem_cons.1 h with h | h
      · exact .inl h
      · exact .inr (List.mem_cons_of_mem _ h)
    · rcases List.mem_cons.1 h with h | h
      · exact .inr (h ▸ List.mem_cons_self)
      · rcases ih h with q | q
        · exact .inl q
        · exact .inr (List.mem_cons_of_mem _ q)
theorem create_end {K : Nat → Prop} {a m : Nat} {l : Cat} {t : Tab} {w w4 w5 w6 : World} {r : Value} {ml : List ME} (hK : ∀ k, w.heap.size ≤ k → K k) (hI : IsC w4 K a m l) (hw : Fr no w w4) (h5 : Fr no w4 w5) (hr : TabAt w5 (fun k => w4.heap.size ≤ k) r t) (hfit : TabFit t) (hck : checkT t = true) (g1 : get l t.name = none) (hfull : ¬ 4096 ≤ l.length)
    (hrel : Rel (mapv Prod.snd ml) l) (htab : ∀ e ∈ ml, TabAt w4 K e.2.1 e.2.2) (hm6 : MapIs w6 m (put (mapv Prod.fst ml) t.name r)) (h6 : Fr (fun k => k = m) w5 w6) : IsC w6 K a m (sput l t.name t) ∧ Fr (fun k => k = m) w w6 := by
  have hsz := hw.size
  refine ⟨⟨h6.keep (h5.keep hI.blk id) hI.ne, ⟨put ml t.name (r, t), by rw [← put_mapv]; exact hm6, by rw [← put_mapv]; exact hrel.put _ _, fun e he => ?_⟩, hI.ne, hI.nk, ?_, fun p hp => ?_⟩, ((hw.mono (fun _ _ q => q.elim)).trans h5 (fun _ _ q => q.elim)).trans h6 (fun _ _ q => q)⟩
  · rcases mem_put he with rfl | he
    · exact (hr.mono (K' := K) (fun k _ q => hK k (by omega))).keep h6 (fun k _ q z => hI.nk (z ▸ q))
    · exact ((htab e he).keep h5 (fun _ _ _ q => q)).keep h6 (fun k _ q z => hI.nk (z ▸ q))
  · rw [len_sput hrel.srt, g1]; simp; omega
  · rcases mem_sput hp with rfl | hp
    · exact ⟨hck, rfl, hfit⟩
    · exact hI.good p hp

set_option maxHeartbeats 2000000 in
set_option maxRecDepth 100000 in
theorem ccreate_any (K K' : Nat → Prop) (a m : Nat) (l : Cat) (val : Value) (t : Tab) (w : World) (h : IsC w K a m l) (ht : TabAt w K' val t) (hf : TabFit t) (hlen : t.cols.length ≤ 2199023255552 ∧ t.idx.length ≤ 2199023255552) (hxl : ∀ x ∈ t.idx, x.cols.length ≤ 2199023255552)
    (hK : ∀ k, w.heap.size ≤ k → K k) :
    Calls Try.prog 17 #[.pointer (some ⟨a, 0, none⟩), val] w fun e w' => e = .returned (.int .i64 (ccreate l t).1) ∧ IsC w' K a m (ccreate l t).2 ∧ Fr (fun k => k = m) w w' := by
  have H := Lib.hid h
  have HT := Lib.hid ht
  have hlt := h.lt
  have hl1 := hlt.1
  obtain ⟨vc, vi, svs, rfl, hc, hi⟩ := ht.ex
  obtain ⟨A1, c1, rfl, _⟩ := hc.rc.form
  obtain ⟨A2, c2, rfl, _⟩ := hi.row.rc.form
  clear h ht hc hi
  cases hck : checkT t with
  | false =>
    have Hr := Lib.hid (show ccreate l t = (140, l) by simp [ccreate, hck])
    have He := Lib.hid (show errT t = 140 by simp [errT, hck])
    go_enter Try.func17, Try.ntmps17
    go_wp2_with (first | (go_at_call 27; go_loud (refine (check_any K' _ t _ (HT.out.later ((Fr.refl no w).alloc _)) hf).mono ?_; rintro e w1 ⟨rfl, hf1⟩; rw [He.out])) | fail)
    go_ret
    rw [Hr.out]
    have hfr := ((Fr.refl no w).alloc _).trans hf1 (fun _ _ z => z)
    exact ⟨rfl, H.out.later hfr, hfr.mono (fun _ _ q => q.elim)⟩
  | true =>
    have He := Lib.hid (show errT t = 0 by simp [errT, hck])
    go_enter Try.func17, Try.ntmps17
    go_wp2_with (first | (go_at_call 27; go_loud (refine (check_any K' _ t _ (HT.out.later ((Fr.refl no w).alloc _)) hf).mono ?_; rintro e w1 ⟨rfl, hf1⟩; rw [He.out])) | fail)
    obtain ⟨x0, x1, x2, x3, x4⟩ := cells4 (hf1.keep (heap_alloc_at w _) id)
    have hW := ((Fr.refl no w).alloc _).trans hf1 (fun _ _ z => z)
    have HW := Lib.hid hW
    have H1 := Lib.hid (H.out.later hW)
    clear hf1 hW
    obtain ⟨ml, hm, hrel, htab⟩ := H1.out.map
    have hc0 : w1.cell? ⟨a, 0, none⟩ = some (.map (some m)) := cells_at H1.out.blk 0 _ rfl
    have hcnt := fun (w' : World) (hf : Fr no w1 w') => (hm.keep hf id).count (P := Try.prog) Try.underlying87 3
    rcases IsC.at_ hrel htab t.name with ⟨g1, g2⟩ | ⟨t', B1, n1, d1, B2, n2, d2, g1, g2, g3⟩
    · have hS : ∀ w', Fr no w1 w' → (w'.cell? ⟨w.heap.size, 0, none⟩ = some (.string t.name) ∧ w'.cell? ⟨a, 0, none⟩ = some (.map (some m)) ∧ (Instr.lookup 87 (.map (some m)) (.string t.name) true).run Try.prog w' = .ok (.tuple #[.agg #[.string ⟨#[]⟩, .slice none 0 0, .int .i64 0, .slice none 0 0], .bool false]) w') := fun w' hf => ⟨hf.cell x0 id, hf.cell hc0 id, by have := look87 (hm.keep hf id) t.name; rw [g2] at this; exact this⟩
      have HS := Lib.hid hS
      have HM := Lib.hid hm
      have HRel := Lib.hid hrel
      have HTab := Lib.hid htab
      have HCN := Lib.hid hcnt
      clear hS hm hcnt g2 hrel htab
      have hfz := Fr.drew (Fr.alloc (Fr.refl no w1) (.cells #[.string ⟨#[]⟩, .slice none 0 0, .int .i64 0, .slice none 0 0] 41))
      have HFZ := Lib.hid hfz
      have hln : (mapv Prod.fst ml).length = l.length := by have := HRel.out.length; simpa [mapv] using this
      have hcn := HCN.out _ hfz
      rw [hln] at hcn
      obtain ⟨y0, y1, y2⟩ := HS.out _ hfz
      have hl4 := H.out.few
      clear hfz hln
      by_cases hfull : 4096 ≤ l.length
      · have Hr := Lib.hid (show ccreate l t = (2, l) by simp [ccreate, hck, g1, hfull])
        have t1 : decide ((4096 : Int) ≤ (l.length : Int)) = true := by simp; omega
        go_region_held3 (fun w' => w'.cell? ⟨w.heap.size, 0, none⟩ = some (.string t.name) ∧ w'.cell? ⟨a, 0, none⟩ = some (.map (some m)) ∧ (Instr.lookup 87 (.map (some m)) (.string t.name) true).run Try.prog w' = .ok (.tuple #[.agg #[.string ⟨#[]⟩, .slice none 0 0, .int .i64 0, .slice none 0 0], .bool false]) w') (first | (exact HS.out _ (Fr.refl no _)) | (exact HS.out _ (Fr.drew (Fr.refl no _))) | (exact HS.out _ (Fr.alloc (Fr.drew (Fr.refl no _)) _))) (fail)
        all_goals go_wp2_with fail
        all_goals go_ret
        all_goals rw [Hr.out]
        all_goals exact ⟨rfl, H1.out.later HFZ.out, (HW.out.trans HFZ.out (fun _ _ z => z)).mono (fun _ _ q => q.elim)⟩
      · have Hr := Lib.hid (show ccreate l t = (0, sput l t.name t) by simp [ccreate, hck, g1, hfull])
        have t1 : decide ((4096 : Int) ≤ (l.length : Int)) = false := by simp; omega
        have h9 := HFZ.out.cell x1 id
        have h10 := HFZ.out.cell x2 id
        have h11 := HFZ.out.cell x3 id
        have hpm : w.heap.size ≠ m := by have := hlt.2; omega
        have ham : a ≠ m := H.out.ne
        go_region_held3 (fun w' => w'.cell? ⟨w.heap.size, 0, none⟩ = some (.string t.name) ∧ w'.cell? ⟨a, 0, none⟩ = some (.map (some m)) ∧ (Instr.lookup 87 (.map (some m)) (.string t.name) true).run Try.prog w' = .ok (.tuple #[.agg #[.string ⟨#[]⟩, .slice none 0 0, .int .i64 0, .slice none 0 0], .bool false]) w') (first | (exact HS.out _ (Fr.refl no _)) | (exact HS.out _ (Fr.drew (Fr.refl no _))) | (exact HS.out _ (Fr.alloc (Fr.drew (Fr.refl no _)) _))) (fail)
        all_goals go_wp2_with fail
        all_goals go_region_held3 (fun w' => w'.cell? ⟨w.heap.size, 0, none⟩ = some (.string t.name) ∧ w'.cell? ⟨w.heap.size, 1, none⟩ = some (.slice A1 t.cols.length c1) ∧ w'.cell? ⟨w.heap.size, 2, none⟩ = some (.int .i64 t.key) ∧ w'.cell? ⟨w.heap.size, 3, none⟩ = some (.slice A2 t.idx.length c2) ∧ w'.cell? ⟨a, 0, none⟩ = some (.map (some m))) (first | (exact ⟨hf6.cell hS5.1 hpm, hf6.cell hS5.2.1 hpm, hf6.cell hS5.2.2.1 hpm, hf6.cell hS5.2.2.2.1 hpm, hf6.cell hS5.2.2.2.2 ham⟩) | (exact hS5) | (exact ⟨y0, h9, h10, h11, y1⟩)) (first | (go_at_call 55; go_loud (refine (own_any K' _ t _ ((HT.out.later HW.out).later (Fr.drew HFZ.out)) hf hlen hxl).mono ?_; rintro e w5 ⟨r, rfl, hr5, hf5⟩; obtain ⟨w6, hst, hm6, hf6⟩ := ((HM.out.keep (Fr.drew HFZ.out) id).keep hf5 id).store (P := Try.prog) Try.underlying87 Try.underlying9 t.name r; have hS5 := And.intro (hf5.cell (show World.cell? _ _ = _ from y0) id) (And.intro (hf5.cell (show World.cell? _ _ = _ from h9) id) (And.intro (hf5.cell (show World.cell? _ _ = _ from h10) id) (And.intro (hf5.cell (show World.cell? _ _ = _ from h11) id) (hf5.cell (show World.cell? _ _ = _ from y1) id)))))))
        all_goals go_wp2
        all_goals go_ret
        all_goals rw [Hr.out]
        all_goals exact ⟨rfl, create_end hK (H1.out.later (Fr.drew HFZ.out)) (HW.out.trans (Fr.drew HFZ.out) (fun _ _ z => z)) hf5 hr5 hf hck g1 hfull HRel.out (fun e he => (HTab.out e he).later (Fr.drew HFZ.out)) hm6 hf6⟩
    · have hS : ∀ w', Fr no w1 w' → (w'.cell? ⟨w.heap.size, 0, none⟩ = some (.string t.name) ∧ w'.cell? ⟨a, 0, none⟩ = some (.map (some m)) ∧ (Instr.lookup 87 (.map (some m)) (.string t.name) true).run Try.prog w' = .ok (.tuple #[.agg #[.string t'.name, .slice B1 n1 d1, .int .i64 t'.key, .slice B2 n2 d2], .bool true]) w') := fun w' hf => ⟨hf.cell x0 id, hf.cell hc0 id, by have := look87 (hm.keep hf id) t.name; rw [g3] at this; exact this⟩
      have HS := Lib.hid hS
      have Hr := Lib.hid (show ccreate l t = (6, l) by simp [ccreate, hck, g1])
      clear hS hm hcnt g2 g3 hrel htab
      go_region_held3 (fun w' => w'.cell? ⟨w.heap.size, 0, none⟩ = some (.string t.name) ∧ w'.cell? ⟨a, 0, none⟩ = some (.map (some m)) ∧ (Instr.lookup 87 (.map (some m)) (.string t.name) true).run Try.prog w' = .ok (.tuple #[.agg #[.string t'.name, .slice B1 n1 d1, .int .i64 t'.key, .slice B2 n2 d2], .bool true]) w') (first | (exact HS.out _ (Fr.refl no _)) | (exact HS.out _ (Fr.drew (Fr.refl no _))) | (exact HS.out _ (Fr.alloc (Fr.drew (Fr.refl no _)) _)) | (exact HS.out _ (Fr.drew (Fr.alloc (Fr.refl no _) _)))) (fail)
      all_goals go_wp2_with fail
      all_goals go_ret
      all_goals rw [Hr.out]
      all_goals exact ⟨rfl, H1.out.later (Fr.drew (Fr.alloc (Fr.refl no w1) _)), (HW.out.trans (Fr.drew (Fr.alloc (Fr.refl no w1) _)) (fun _ _ z => z)).mono (fun _ _ q => q.elim)⟩
end Go.Proofs.Ythmjjbgjbcnjmaa

namespace Go.Proofs.Ythmjjbgjbcnjmaa
open Go.RowKit Go.Hop

/-- a result in a cell of four, and a second one in a slot -/
theorem results_41 {fn : Func} {p u : Tmp} (h : fn.results = #[.cell p 41, .tmp u]) (tmps : Array Value) (w : World) (g : Nat) (x0 x1 x2 x3 : Value) (hp : tmps.getD p undef = .pointer (some ⟨g, 0, none⟩)) (hg : w.heap[g]? = some (.cells #[x0, x1, x2, x3] 41 (0, 0))) :
    (results fn tmps).run Try.prog w = .ok (.tuple #[.agg #[x0, x1, x2, x3], tmps.getD u undef]) w := by
  have hp' : tmps[p]?.getD undef = .pointer (some ⟨g, 0, none⟩) := by simpa using hp
  rw [results_cell_tmp h]
  simp [hp', asAddr, run_loadVar_row w g 41 41 #[x0, x1, x2, x3] (0, 0) _ hg Try.underlying41 rfl (by kernel_rfl), Result.andThen]

theorem check_small {t : Tab} (h : checkT t = true) : t.cols.length ≤ 32 ∧ t.idx.length ≤ 8 ∧ ∀ x ∈ t.idx, x.cols.length ≤ 32 := by
  simp only [checkT, Bool.and_eq_true, List.all_eq_true, inside, decide_eq_true_eq] at h
  obtain ⟨⟨⟨⟨⟨⟨⟨h1, h2⟩, h3⟩, h4⟩, h5⟩, h6⟩, h7⟩, h8⟩ := h
  exact ⟨by omega, h4, fun x hx => by have := (h8 x hx).1; omega⟩
def emptyT : Tab := ⟨⟨#[]⟩, [], 0, []⟩
def cfind (l : Cat) (n : ByteArray) : Tab × Int := match get l n with | some t => (t, 0) | none => (emptyT, 141)
theorem tab_empty (w : World) (K : Nat → Prop) : TabAt w K (.agg #[.string ⟨#[]⟩, .slice none 0 0, .int .i64 0, .slice none 0 0]) emptyT :=
  ⟨_, _, [], rfl, ⟨rc_empty w 2 none 0, fun h => absurd rfl h⟩, rfl, ⟨rc_empty w 3 none 0, fun h => absurd rfl h⟩, fun j x u h => by simp [emptyT] at h⟩

set_option maxHeartbeats 1000000 in
set_option maxRecDepth 100000 in
theorem cfind_any (K : Nat → Prop) (a m : Nat) (l : Cat) (n : ByteArray) (w : World) (h : IsC w K a m l) :
    Calls Try.prog 25 #[.pointer (some ⟨a, 0, none⟩), .string n] w fun e w' => ∃ v, e = .returned (.tuple #[v, .int .i64 (cfind l n).2]) ∧ TabAt w' (fun k => w.heap.size ≤ k) v (cfind l n).1 ∧ Fr no w w' := by
  obtain ⟨ml, hm, hrel, htab⟩ := h.map
  have hc0 : w.cell? ⟨a, 0, none⟩ = some (.map (some m)) := cells_at h.blk 0 _ rfl
  have hlt := h.lt
  have hl1 := hlt.1
  have hne : a ≠ w.heap.size := by omega
  have H := Lib.hid h
  rcases IsC.at_ hrel htab n with ⟨g1, g2⟩ | ⟨t, A1, n1, c1, A2, n2, c2, g1, g2, g3⟩
  · have Hr := Lib.hid (show cfind l n = (emptyT, 141) by simp [cfind, g1])
    have G2 := Lib.hid g2
    clear h hrel htab g1 g2
    go_enter Try.func25, Try.ntmps25
    go_wp2_with (first | (at_lookup; go_loud (refine wp_look rfl _ _ _ rfl (hm.keep ((Fr.refl no w).alloc _) id) Try.underlying87 Try.underlying9 zero41 rfl _ rfl ?_; rw [G2.out])) | fail)
    have hh := (Below.heap_alloc (w.alloc (.cells #[.string ⟨#[]⟩, .slice none 0 0, .int .i64 0, .slice none 0 0] 41)) (.cells #[.string ⟨#[]⟩, .slice none 0 0, .int .i64 0, .slice none 0 0] 41) w.heap.size (by simp)).trans (heap_alloc_at w _)
    rw [Hr.out]
    exact bodyPost_ret (results_41 rfl _ _ w.heap.size _ _ _ _ rfl hh) rfl ⟨_, rfl, tab_empty _ _, ((Fr.refl no w).alloc _).alloc _⟩
  · have Hr := Lib.hid (show cfind l n = (t, 0) by simp [cfind, g1])
    have G3 := Lib.hid g3
    have HT := Lib.hid g2
    obtain ⟨k1, k2, k3⟩ := H.out.good _ (get_some_mem g1)
    obtain ⟨z1, z2, z3⟩ := check_small k1
    have HK := Lib.hid k3
    clear h hrel htab g1 g2 g3 k1 k2 k3
    go_enter Try.func25, Try.ntmps25
    go_wp2_with (first | (at_lookup; go_loud (refine wp_look rfl _ _ _ rfl (hm.keep ((Fr.refl no w).alloc _) id) Try.underlying87 Try.underlying9 zero41 rfl _ rfl ?_; rw [G3.out])) | (go_at_call 55; go_loud (refine (own_any K _ t _ (HT.out.later (((Fr.refl no w).alloc _).alloc _)) HK.out ⟨by omega, by omega⟩ (fun x hx => by have := z3 x hx; omega)).mono ?_; rintro e w3 ⟨r, rfl, hr, hf3⟩; obtain ⟨vc, vi, svs, hv, hc, hi⟩ := hr.ex; obtain ⟨B1, d1, rfl, _⟩ := hc.rc.form; obtain ⟨B2, d2, rfl, _⟩ := hi.row.rc.form; subst hv; have hb := hf3.keep ((Below.heap_alloc (w.alloc (.cells #[.string ⟨#[]⟩, .slice none 0 0, .int .i64 0, .slice none 0 0] 41)) (.cells #[.string t.name, .slice A1 n1 c1, .int .i64 t.key, .slice A2 n2 c2] 41) w.heap.size (by simp)).trans (heap_alloc_at w _)) id; obtain ⟨x0, x1, x2, x3, x4⟩ := cells4 hb; have y0 := free_at hb 0; have y1 := free_at hb 1; have y2 := free_at hb 2; have y3 := free_at hb 3; have HB := Lib.hid hb; have HRr := Lib.hid hr; have HF3 := Lib.hid hf3; clear hb hr hf3 hc hi)) | fail)
    have hh := heap_setCell_at (heap_setCell_at (heap_setCell_at (heap_setCell_at HB.out 0 (.string t.name)) 1 (.slice B1 t.cols.length d1)) 2 (.int .i64 t.key)) 3 (.slice B2 t.idx.length d2)
    simp only [List.setIfInBounds_toArray, List.set_cons_zero, List.set_cons_succ] at hh
    have hfin := fr_set4 w3 w.heap.size (.string t.name) (.slice B1 t.cols.length d1) (.int .i64 t.key) (.slice B2 t.idx.length d2)
    rw [Hr.out]
    have hfw := (((Fr.refl no w).alloc _).alloc _).trans HF3.out (fun _ _ z => z)
    refine bodyPost_ret (results_41 rfl _ _ w.heap.size _ _ _ _ rfl hh) rfl ⟨_, rfl, (HRr.out.keep hfin (fun k _ q z => by simp at q; omega)).mono (fun k _ q => by simp at q; omega), hfw.trans hfin (fun i hi q => absurd hi (by omega))⟩
end Go.Proofs.Ythmjjbgjbcnjmaa

namespace Go.Proofs.Ythmjjbgjbcnjmaa
open Go.RowKit Go.Hop Go.Sort

theorem enc_keysT (l : Cat) : (l.map (fun p => bl p.1)).map encStr = l.map (fun p => Value.string p.1) := by
  rw [List.map_map]
  refine List.map_congr_left fun p _ => ?_
  show Value.string ⟨(bl p.1).toArray⟩ = _
  congr 1

set_option maxHeartbeats 1000000 in
theorem cnames_any (K : Nat → Prop) (a m : Nat) (l : Cat) (w : World) (h : IsC w K a m l) :
    Calls Try.prog 21 #[.pointer (some ⟨a, 0, none⟩)] w fun e w' => ∃ v, e = .returned v ∧ w'.ownsRow w.heap.size 9 1 v l.length (l.map (fun p => Value.string p.1)) ∧ Fr no w w' := by
  have hc0 : w.cell? ⟨a, 0, none⟩ = some (.map (some m)) := cells_at h.blk 0 _ rfl
  have HI := Lib.hid h
  clear h
  obtain ⟨ml, hm, hrel, _⟩ := HI.out.map
  have hlen : (mapv Prod.fst ml).length = l.length := by rw [← hrel.length]; simp [mapv]
  have hfew := HI.out.few
  obtain ⟨D, hown, hperm, hsize⟩ := hm.owns (P := Try.prog) (k := 9) Try.underlying9 (fun p hp => by
    simp only [mapv, List.mem_map] at hp
    obtain ⟨q, hq, rfl⟩ := hp
    have hg := get_of_mem hrel.nd (show (q.1, q.2.2) ∈ mapv Prod.snd ml from List.mem_map.2 ⟨q, hq, rfl⟩)
    rw [hrel.eq] at hg
    obtain ⟨g1, g2, g3⟩ := HI.out.good _ (get_some_mem hg)
    have := g3.name
    simp only at g2
    rw [← g2] at this
    unfold maxLen; simp only; omega) (by rw [hlen]; unfold maxLen; omega)
  have hperm' : (strKeys D).Perm ((mapv Prod.snd ml).map (fun p => bl p.1)) := by simpa [mapv, List.map_map, Function.comp_def] using hperm
  have Hsz := Lib.hid hsize
  have Hlen := Lib.hid hlen
  clear hsize hlen hperm
  refine (callsIn_wide (n := 6)).1 ?_
  have hfK : Fence.wide.fn 58 := trivial
  have hfS : Fence.wide.fn 57 := trivial
  refine callsIn_of_wp Try.func21 rfl trivial ?_ rfl
  simp only [Try.ntmps21, List.size_toArray, List.length_cons, List.length_nil, Nat.reduceAdd, Nat.reduceSub, Array.replicate_succ, Array.replicate_zero, List.push_toArray, List.append_toArray, List.nil_append, List.cons_append]
  gi_wp2_with (first | (gi_at_call 58; refine (Try.maps_Keys_58 _ _).mono ?_; rintro e w' ⟨rfl, rfl⟩) | (gi_at_call 57; refine (Try.slices_Sorted_keys_57_58 m _ D anyE w hown (by rw [Hsz.out, Hlen.out]; unfold maxLen; omega) (by rw [Hsz.out, Hlen.out]; omega)).mono ?_; rintro e w' ⟨v, ss, rfl, hS, hrow, hnil, hb⟩))
  go_ret
  have hss := sorted_names hrel (hS.trans hperm')
  rw [hss, enc_keysT] at hrow
  have hl : ss.length = l.length := by
    have := (hS.trans hperm').length_eq
    rw [this, List.length_map, hrel.length]
  rw [hl] at hrow
  exact ⟨v, rfl, ownsRow_base_a hrow (by simp), ((Fr.refl no w).alloc _).trans (Fr.below hb no) (fun _ _ q => q)⟩
end Go.Proofs.Ythmjjbgjbcnjmaa

namespace Go.Proofs.Ythmjjbgjbcnjmaa
open Go.RowKit Go.Hop

theorem flat_le {α : Type} (f : α → List UInt8) (c : Nat) : ∀ (l : List α), (∀ x ∈ l, (f x).length ≤ c) → (l.flatMap f).length ≤ l.length * c
  | [], _ => by simp
  | x :: l, h => by
    have h1 := h x List.mem_cons_self
    have h2 := flat_le f c l (fun y hy => h y (List.mem_cons_of_mem _ hy))
    rw [List.flatMap_cons, List.length_append, List.length_cons, Nat.add_mul, Nat.one_mul]; omega
theorem textB_len {s : ByteArray} (h : namedS s = true) : (textB s).length ≤ 40 := by
  have := namedS_size h
  rw [textB, List.length_append, leN_length, bl_len]; omega
theorem tabB_len {t : Tab} (h : checkT t = true) : (tabB t).length ≤ 5000 := by
  obtain ⟨⟨c1, c2, c3, c4, c5, c6⟩, c7, c8⟩ := check_parts h
  have h1 := textB_len c1
  have h2 := flat_le colB 48 t.cols (fun c hc => by
    have := textB_len (c7 c hc).1
    rw [colB, List.length_append, leN_length]; omega)
  have h3 := flat_le ixB 305 t.idx (fun x hx => by
    obtain ⟨z1, z2, z3, z4⟩ := c8 x hx
    have h4 := textB_len z1
    have h5 := flat_le (fun n : Int => leN 8 n.toNat) 8 x.cols (fun n _ => by rw [leN_length]; exact Nat.le_refl _)
    rw [ixB]
    simp only [List.length_append, leN_length, numsB, List.length_cons, List.length_nil]
    omega)
  rw [tabB]
  simp only [List.length_append, leN_length]
  omega
theorem tab_good {t : Tab} (h : checkT t = true) : TabGood t := by
  obtain ⟨⟨c1, c2, c3, c4, c5, c6⟩, c7, c8⟩ := check_parts h
  exact ⟨by omega, fun x hx => by have := c7 x hx; omega, by omega, by omega, fun x hx => ⟨by have := (c8 x hx).2.2.1; omega, fun n hn => by have := (c8 x hx).2.2.2 n hn; omega⟩⟩

/-- a row of bytes as a string -/
theorem conv_back {w : World} {base n : Nat} {v : Value} {l : List UInt8} (h : w.ownsRow base 5 1 v n (l.map encB)) (hn : n = l.length) : (convert 98 9 v).run Try.prog w = .ok (.string ⟨l.toArray⟩) w := by
  subst hn
  rcases h.2 with ⟨rfl, h0⟩ | ⟨g, cap, cur, rfl, hb, hg, _⟩
  · have : l = [] := List.eq_nil_of_length_eq_zero h0
    subst this
    exact Lib.run_convert_nil_bytes (P := Try.prog) w 98 9 5 0 Try.underlying98 Try.underlying5 Try.underlying9
  · refine run_convert_bytes_back (P := Try.prog) w 98 9 5 ⟨g, 0, none⟩ cap l Try.underlying98 Try.underlying5 Try.underlying9 (fun j hj => ?_)
    exact h.cells (g := g) rfl j _ (by rw [List.getElem?_map, List.getElem?_eq_getElem hj]; rfl)

set_option maxHeartbeats 1000000 in
set_option maxRecDepth 100000 in
theorem puttab_any (base : Nat) (K : Nat → Prop) (vb val : Value) (lb : List UInt8) (t : Tab) (w : World) (ho : w.ownsRow base 5 1 vb lb.length (lb.map encB)) (hbs : base ≤ w.heap.size) (hv : TabAt w K val t) (hck : checkT t = true) (hl : lb.length ≤ 33554432) :
    Calls Try.prog 56 #[vb, val] w fun e w' => ∃ v', e = .returned v' ∧ w'.ownsRow base 5 1 v' (lb ++ tabB t).length ((lb ++ tabB t).map encB) ∧ Fr (fun k => vb.ownBlock = some k) w w' := by
  have HO := Lib.hid ho
  have HLT := Lib.hid (fun k hk => (ho.lt k hk).2)
  have HV := Lib.hid (hv.mono (K' := fun k => k < w.heap.size) (fun k hk _ => hk))
  have HT := Lib.hid (tabB_len hck)
  have HG := Lib.hid (tab_good hck)
  obtain ⟨vc, vi, svs, rfl, hc, hi⟩ := hv.ex
  obtain ⟨Ac, cc, rfl, hcc⟩ := hc.rc.form
  obtain ⟨Ai, ci, rfl, hci⟩ := hi.row.rc.form
  generalize hN : lb.length = N at *
  have HN := Lib.hid hN
  obtain ⟨A, c, rfl⟩ := owns_slice ho
  clear ho hv hck hc hi hN
  go_enter Try.func56, Try.ntmps56
  have hf0 := Fr.alloc (Fr.alloc (Fr.refl no w) (.cells #[.string t.name, .slice Ac t.cols.length cc, .int .i64 t.key, .slice Ai t.idx.length ci] 41)) (.cells #[.slice none 0 0, .bool false] 135)
  have HF0 := Lib.hid hf0
  clear hf0
  have hW0 : WrAt ((w.alloc (.cells #[.string t.name, .slice Ac t.cols.length cc, .int .i64 t.key, .slice Ai t.idx.length ci] 41)).alloc (.cells #[.slice none 0 0, .bool false] 135)) w.heap.size (w.heap.size + 1) [] :=
    ⟨⟨.slice none 0 0, by simpa using heap_alloc_at (w.alloc (.cells #[.string t.name, .slice Ac t.cols.length cc, .int .i64 t.key, .slice Ai t.idx.length ci] 41)) (.cells #[.slice none 0 0, .bool false] 135), World.ownsRow_nil _ _ 5 1⟩, by omega⟩
  have HW0 := Lib.hid hW0
  clear hW0
  go_wp2_with (first | (go_at_call 87; go_loud (refine (wtab_any w.heap.size (w.heap.size + 1) (fun k => k < w.heap.size) _ t [] _ HW0.out (HV.out.keep HF0.out (fun _ _ _ z => z)) (fun k q => q) HG.out (by have := HT.out; simp; omega)).mono ?_; rintro e w1 ⟨rfl, hW1, hF1⟩; obtain ⟨v1, hb1, ho1⟩ := hW1.ex; have hsz1 := hF1.size; have HO2 := Lib.hid ((hF1.owns (HF0.out.owns HO.out (fun _ _ z => z)) (fun k hk => wm_old (HLT.out k hk) (by omega)))); rw [List.nil_append] at ho1; generalize hM : (tabB t).length = M at *; have hM2 : M ≤ 5000 := (by have := HT.out; omega); have HM := Lib.hid hM; obtain ⟨A1, c1, rfl⟩ := owns_slice ho1; have x0 : w1.cell? ⟨w.heap.size + 1, 0, none⟩ = some (.slice A1 M c1) := cells_at hb1 0 _ rfl; have HO1 := Lib.hid (Rc.of_owns ho1 (fun u hu => by obtain ⟨z, _, rfl⟩ := List.mem_map.1 hu; rfl)); have HF1 := Lib.hid hF1; clear hF1 hW1 hb1 ho1 hM HV HG HT)) | (at_builtin; go_loud (refine wp_append rfl (.tmp 11) (.tmp 15) 98 rfl El98 (.slice A N c) N _ rfl HO2.out _ M _ rfl HO1.out (by unfold maxLen; omega) (by omega) (by simp at hsz1; omega) ?_; intro v2 w2 ho2 hg2 hloc2; have HO3 := Lib.hid ho2; have HG2 := Lib.hid hg2; clear ho2 hg2 hloc2)) | fail)
  go_ret
  refine ⟨v2, rfl, ?_, ?_⟩
  · have h := HO3.out
    rw [← List.map_append, ← HN.out, ← HM.out, ← List.length_append] at h
    exact h
  · exact (((HF0.out.mono (fun _ _ q => q.elim)).trans HF1.out (fun i hi q => by
      rcases q with q | ⟨q, _⟩
      · omega
      · omega)).trans (Fr.grown HG2.out) (fun i hi q => q.symm))

theorem catB_step (l : Cat) (k : Nat) (p : ByteArray × Tab) (h : l[k]? = some p) : catB (l.take (k + 1)) = catB (l.take k) ++ tabB p.2 := by
  rw [List.take_add_one, h]; simp [catB]
theorem catB_len (l : Cat) (h : ∀ p ∈ l, checkT p.2 = true) : (catB l).length ≤ l.length * 5000 := flat_le _ _ l (fun p hp => tabB_len (h p hp))
theorem IsC.srt {K : Nat → Prop} {w : World} {a m : Nat} {l : Cat} (h : IsC w K a m l) : Srt l := by
  obtain ⟨ml, _, h2, _⟩ := h.map; exact h2.srt

set_option maxHeartbeats 1000000 in
set_option maxRecDepth 100000 in
theorem cenc_any (K : Nat → Prop) (a m : Nat) (l : Cat) (w : World) (h : IsC w K a m l) :
    Calls Try.prog 19 #[.pointer (some ⟨a, 0, none⟩)] w fun e w' => e = .returned (.tuple #[.string (cenc l).1, .int .i64 (cenc l).2]) ∧ Fr no w w' := by
  have H := Lib.hid h
  have hfew := h.few
  have hlt := h.lt
  have hne := h.ne
  clear h
  go_enter Try.func19, Try.ntmps19
  go_wp2_with (first | (go_at_call 21; go_loud (refine (cnames_any K a m l _ H.out).mono ?_; rintro e w1 ⟨v, rfl, ho1, hf1⟩; obtain ⟨An, cn, rfl⟩ := owns_slice ho1; have HO1 := Lib.hid ho1; have HF1 := Lib.hid hf1; clear ho1 hf1)) | fail)
  go_loopw [4, 10] (fun vb i wr => ∃ k : Nat, k ≤ l.length ∧ i = .int .i64 k ∧ Hid (wr.ownsRow w.heap.size 5 1 vb (catB (l.take k)).length ((catB (l.take k)).map encB)) ∧ Hid (wr.ownsRow w.heap.size 9 1 (.slice An l.length cn) l.length (l.map (fun p => Value.string p.1))) ∧ Hid (Fr no w wr)) (fun _ i _ => l.length - (intOf i).toNat)
  case atStart => exact ⟨0, Nat.zero_le _, rfl, Lib.hid (World.ownsRow_nil _ _ 5 1), HO1, HF1⟩
  case round =>
    clear HO1 HF1
    obtain ⟨k, hk, rfl, hrow, hnam, hF⟩ := hrel
    by_cases hlt2 : k < l.length
    · obtain ⟨⟨n, t⟩, hp⟩ : ∃ p, l[k]? = some p := ⟨_, List.getElem?_eq_getElem hlt2⟩
      obtain ⟨g, cg, hv, hgb, hgs, _⟩ := owns_form hnam.out (by omega)
      injection hv with hv1 hv2 hv3
      subst hv1
      have e0 := owns_at hnam.out (j := k) (u := .string n) (by rw [List.getElem?_map, hp]; rfl)
      have hI := H.out.later hF.out
      obtain ⟨ml, hm, hrel, htab⟩ := hI.map
      have c0 : _ = some (Value.map (some m)) := cells_at hI.blk 0 _ rfl
      have hgt := Hop.get_at H.out.srt k _ hp
      obtain ⟨g1, g2, g3⟩ := H.out.good _ (List.mem_of_getElem? hp)
      have HS := Lib.hid (catB_step l k _ hp)
      have HCL := Lib.hid (catB_len (l.take k) (fun p hp => (H.out.good p (List.mem_of_mem_take hp)).1))
      rcases IsC.at_ hrel htab n with ⟨z1, _⟩ | ⟨t', A1, n1, c1, A2, n2, c2, z1, z2, z3⟩
      · simp only at hgt; rw [hgt] at z1; cases z1
      simp only at hgt
      rw [hgt] at z1
      injection z1 with z1
      subst z1
      have Z2 := Lib.hid z2
      have Z3 := Lib.hid z3
      have HC := Lib.hid g1
      have HM := Lib.hid hm
      have hsz := hF.out.size
      clear hp hI hm hrel htab hgt g1 g2 g3 z2 z3 hv2 hv3
      have t1 : decide ((k : Int) < (l.length : Int)) = true := by simp; omega
      have t2 : decide (k < l.length) = true := by simp; omega
      go_wp2_with (first | (at_lookup; go_loud (refine wp_look rfl _ _ _ rfl HM.out Try.underlying87 Try.underlying9 zero41 rfl _ rfl ?_; rw [Z3.out])) | (go_at_call 56; go_loud (refine (puttab_any w.heap.size K _ _ _ t _ hrow.out hsz Z2.out HC.out (by have := HCL.out; rw [List.length_take] at this; omega)).mono ?_; rintro e w2 ⟨v2, rfl, ho2, hf2⟩; have HO2 := Lib.hid ho2; have HF2 := Lib.hid hf2; clear ho2 hf2)) | fail)
      go_roundw
      case rel =>
        refine ⟨k + 1, by omega, by go_num, Lib.hid (by rw [HS.out]; exact HO2.out), Lib.hid (HF2.out.owns hnam.out (fun q hq z => ?_)), Lib.hid (hF.out.trans HF2.out (fun i hi z => absurd hi (by have := (hrow.out.lt i z).1; omega)))⟩
        obtain ⟨_, cs, fz, u1⟩ := owns_u8 hrow.out q z
        rcases hnam.out.2 with ⟨u2, _⟩ | ⟨g', cap, cur, u2, _, u3, _⟩
        · rw [u2] at hq; cases hq
        · rw [u2] at hq
          injection hq with hq
          subst hq
          rw [u3] at u1
          injection u1 with u1; injection u1 with u4 u5; cases u5
      case measure => simp [intOf]; omega
    · have hkl : l.take k = l := List.take_of_length_le (by omega)
      rw [hkl] at hrow
      have t1 : decide ((k : Int) < (l.length : Int)) = false := by simp; omega
      have t2 : decide (k < l.length) = false := by simp; omega
      have hcv := conv_back hrow.out rfl
      have hN : (catB l).length = (catB l).length := rfl
      have ho := hrow.out
      clear hrow hnam hkl hN
      by_cases hbig : 262144 < (catB l).length
      · have HR := Lib.hid (show cenc l = (⟨#[]⟩, 2) by rw [cenc, if_pos hbig])
        generalize (catB l).length = N at *
        obtain ⟨Ab, cb, rfl⟩ := owns_slice ho
        have u1 : decide ((262144 : Int) < (N : Int)) = true := by simp; omega
        have u2 : decide (262144 < N) = true := by simp; omega
        clear ho hcv
        go_wp2_with fail
        go_ret2
        exact ⟨by rw [HR.out]; rfl, hF.out⟩
      · have HR := Lib.hid (show cenc l = (⟨(catB l).toArray⟩, 0) by rw [cenc, if_neg hbig])
        generalize (catB l).length = N at *
        obtain ⟨Ab, cb, rfl⟩ := owns_slice ho
        have u1 : decide ((262144 : Int) < (N : Int)) = false := by simp; omega
        have u2 : decide (262144 < N) = false := by simp; omega
        clear ho
        go_wp2_with fail
        go_ret2
        exact ⟨by rw [HR.out]; rfl, hF.out⟩
end Go.Proofs.Ythmjjbgjbcnjmaa

namespace Go.Proofs.Ythmjjbgjbcnjmaa
open Go.RowKit Go.Hop

/-! ### The chapter's example -/
theorem run_store_complex1 (P : Program) (w : World) (a : Addr) (m : Mode) (k : FloatKind) (x y : Nat) : (store a (.complex k x y) m).run P w = stored P w a (.complex k x y) m := run_store P w a _ m rfl
attribute [local go_sem] run_store_complex1
theorem f123_run (b : Nat) (w : World) : (callFunc 123 #[.float .f64 b]).run Try.prog w = .ok (.value (.int .u64 b)) w := by
  rw [run_callFunc_extern (e := Extern.MathFloatBits.float64bits) Try.func123 (by kernel_rfl) (by kernel_rfl) (by kernel_rfl) (by kernel_rfl)]
  rfl
theorem nan0_any (w : World) : Calls Try.prog 121 #[.float .f64 0] w fun e w' => e = .returned (.bool false) ∧ w = w' := by
  have h : ∀ w, (binOp .neq 168 (.float .f64 0) (.float .f64 0)).run Try.prog w = .ok (.bool false) w := fun w => by kernel_rfl
  go_enter Try.func121, Try.ntmps121
  go_wp2
  go_ret
  exact ⟨rfl, rfl⟩
set_option maxHeartbeats 1000000 in
theorem zero0_any (w : World) : Calls Try.prog 122 #[.complex .f64 0 0] w fun e w' => e = .returned (.bool true) ∧ w = w' := by
  have h := f123_run 0
  go_enter Try.func122, Try.ntmps122
  go_wp2
  go_ret
  exact ⟨rfl, rfl⟩
def v0 : List Value := [.int .i64 0, .int .i64 0, .complex .f64 0 0, .string ⟨#[]⟩]
def v25 : List Value := [.int .i64 2, .int .i64 5, .complex .f64 0 0, .string ⟨#[]⟩]
set_option maxHeartbeats 1000000 in
set_option maxRecDepth 100000 in
theorem is0_any (w : World) : Calls Try.prog 104 #[.agg #[.int .i64 0, .int .i64 0, .complex .f64 0 0, .string ⟨#[]⟩]] w (AsBefore w (.bool true)) := by
  go_enter Try.func104, Try.ntmps104
  go_wp2_with (first | (go_at_call 121; refine (nan0_any _).mono ?_; rintro e w' ⟨rfl, rfl⟩) | (go_at_call 122; refine (zero0_any _).mono ?_; rintro e w' ⟨rfl, rfl⟩) | fail)
  go_ret
  exact ⟨rfl, (Fr.refl no w).alloc _⟩
set_option maxHeartbeats 1000000 in
set_option maxRecDepth 100000 in
theorem is25_any (w : World) : Calls Try.prog 104 #[.agg #[.int .i64 2, .int .i64 5, .complex .f64 0 0, .string ⟨#[]⟩]] w (AsBefore w (.bool true)) := by
  go_enter Try.func104, Try.ntmps104
  go_wp2_with (first | (go_at_call 121; refine (nan0_any _).mono ?_; rintro e w' ⟨rfl, rfl⟩) | (go_at_call 122; refine (zero0_any _).mono ?_; rintro e w' ⟨rfl, rfl⟩) | fail)
  go_ret
  exact ⟨rfl, (Fr.refl no w).alloc _⟩
theorem is_any (x n : Int) (hx : (x = 0 ∧ n = 0) ∨ (x = 2 ∧ n = 5)) (w : World) : Calls Try.prog 104 #[.agg #[.int .i64 x, .int .i64 n, .complex .f64 0 0, .string ⟨#[]⟩]] w (AsBefore w (.bool true)) := by
  rcases hx with ⟨rfl, rfl⟩ | ⟨rfl, rfl⟩
  · exact is0_any w
  · exact is25_any w
/-- a row of two values -/
structure Row2 (w : World) (g : Nat) (x n : Int) : Prop where
  blk : w.heap[g]? = some (.cells #[.int .i64 x, .int .i64 n, .complex .f64 0 0, .string ⟨#[]⟩, .int .i64 0, .int .i64 0, .complex .f64 0 0, .string ⟨#[]⟩] 95 (0, 0))
  hx : (x = 0 ∧ n = 0) ∨ (x = 2 ∧ n = 5)
theorem Row2.at_ {w : World} {g : Nat} {x n : Int} (h : Row2 w g x n) {k : Nat} (hk : k < 2) : ∃ y m : Int, ((k = 0 ∧ y = x) ∨ (k = 1 ∧ y = 0)) ∧ ((y = 0 ∧ m = 0) ∨ (y = 2 ∧ m = 5)) ∧ w.cell? ⟨g, k * 4, none⟩ = some (.int .i64 y) ∧ w.cell? ⟨g, k * 4 + 1, none⟩ = some (.int .i64 m) ∧ w.cell? ⟨g, k * 4 + 2, none⟩ = some (.complex .f64 0 0) ∧ w.cell? ⟨g, k * 4 + 3, none⟩ = some (.string ⟨#[]⟩) := by
  rcases (by omega : k = 0 ∨ k = 1) with rfl | rfl
  · exact ⟨x, n, .inl ⟨rfl, rfl⟩, h.hx, cells_at h.blk 0 _ rfl, cells_at h.blk 1 _ rfl, cells_at h.blk 2 _ rfl, cells_at h.blk 3 _ rfl⟩
  · exact ⟨0, 0, .inr ⟨rfl, rfl⟩, .inl ⟨rfl, rfl⟩, cells_at h.blk 4 _ rfl, cells_at h.blk 5 _ rfl, cells_at h.blk 6 _ rfl, cells_at h.blk 7 _ rfl⟩
theorem Row2.later {w w' : World} {g : Nat} {x n : Int} (h : Row2 w g x n) (hf : Fr no w w') : Row2 w' g x n := ⟨hf.keep h.blk id, h.hx⟩

set_option maxHeartbeats 1000000 in
set_option maxRecDepth 100000 in
theorem vcheck_any (g : Nat) (x n : Int) (w : World) (h : Row2 w g x n) :
    Calls Try.prog 83 #[.slice (some ⟨g, 0, none⟩) 2 2] w (AsBefore w (.tuple #[.int .i64 0, .int .i64 0])) := by
  have H := Lib.hid h
  clear h
  go_enter Try.func83, Try.ntmps83
  go_wp2
  go_loopw [11] (fun i wr => ∃ k : Nat, k ≤ 2 ∧ i = .int .i64 k ∧ Hid (Fr no w wr)) (fun i _ => 2 - (intOf i).toNat)
  case atStart => exact ⟨0, by omega, rfl, Lib.hid (Fr.refl _ _)⟩
  case round =>
    obtain ⟨k, hk, rfl, hF⟩ := hrel
    by_cases hlt : k < 2
    · obtain ⟨y, m, hy, hym, e0, e1, e2, e3⟩ := (H.out.later hF.out).at_ hlt
      have HYM := Lib.hid hym
      have t1 : decide ((k : Int) < 2) = true := by simp; omega
      have t2 : decide (k < 2) = true := by simp; omega
      clear hy hym
      go_wp2_with (first | (go_at_call 104; go_loud (refine (is_any y m HYM.out _).mono ?_; rintro e w1 ⟨rfl, hf1⟩; have HF1 := Lib.hid hf1; clear hf1)) | fail)
      go_roundw
      case rel => exact ⟨k + 1, by omega, by go_num, Lib.hid ((hF.out.alloc _).trans HF1.out (fun _ _ z => z))⟩
      case measure => simp [intOf]; omega
    · have t1 : decide ((k : Int) < 2) = false := by simp; omega
      have t2 : decide (k < 2) = false := by simp; omega
      go_wp2_with fail
      go_ret2
      exact ⟨rfl, hF.out⟩

/-- the example's schema -/
def exT : Tab := ⟨⟨#[116]⟩, [(⟨#[97]⟩, 2), (⟨#[98]⟩, 5)], 1, [⟨⟨#[105]⟩, [1], false⟩]⟩
theorem exT_ok : checkT exT = true := by decide
theorem exT_fit : TabFit exT := ⟨by decide, by decide, by decide, by decide, by intro p hp; simp [exT] at hp; rcases hp with rfl | rfl <;> decide, by intro x hx; simp [exT] at hx; subst hx; decide⟩
/-- what Fits answers of a row of two -/
def fit2 (x : Int) : Int := if x = 2 then 0 else 150
set_option maxHeartbeats 1000000 in
set_option maxRecDepth 100000 in
theorem fits_any (K : Nat → Prop) (g : Nat) (x n : Int) (val : Value) (w : World) (h : Row2 w g x n) (hv : TabAt w K val exT) :
    Calls Try.prog 54 #[val, .slice (some ⟨g, 0, none⟩) 2 2] w (AsBefore w (.int .i64 (fit2 x))) := by
  obtain ⟨vc, vi, svs, rfl, hc, hi⟩ := hv.ex
  obtain ⟨Ac, cc, rfl, hcc⟩ := hc.rc.form
  obtain ⟨Ai, ci, rfl, hci⟩ := hi.row.rc.form
  have HE := Lib.hid (show errT exT = 0 by rw [errT, exT_ok]; rfl)
  have HF := Lib.hid (show TabFit exT from exT_fit)
  have H := Lib.hid h
  have HV := Lib.hid hv
  obtain ⟨bc, oc, rfl, k0⟩ := hc.rc.at_ (j := 1) (u := .int .i64 2) rfl
  obtain ⟨bc', oc', hb', k1⟩ := hc.rc.at_ (j := 3) (u := .int .i64 5) rfl
  obtain ⟨rfl, rfl⟩ : bc = bc' ∧ oc = oc' := by injection hb' with hb'; injection hb' with z1 z2; exact ⟨z1, z2⟩
  have hx := h.hx
  have K0 := Lib.hid k0
  have K1 := Lib.hid k1
  clear h hv hc hi hb' k0 k1
  change Calls Try.prog 54 #[.agg #[.string ⟨#[116]⟩, .slice (some ⟨bc, oc, none⟩) 2 cc, .int .i64 1, .slice Ai 1 ci], .slice (some ⟨g, 0, none⟩) 2 2] w (AsBefore w (.int .i64 (fit2 x)))
  have hcc2 : 2 ≤ cc := hcc
  go_enter Try.func54, Try.ntmps54
  have hf0 := Fr.alloc (Fr.refl no w) (.cells #[.string ⟨#[116]⟩, .slice (some ⟨bc, oc, none⟩) 2 cc, .int .i64 1, .slice Ai 1 ci] 41)
  have HF0 := Lib.hid hf0
  clear hf0
  go_wp2_with (first | (go_at_call 27; go_loud (refine (check_any K _ exT _ (HV.out.later HF0.out) HF.out).mono ?_; rintro e w1 ⟨rfl, hf1⟩; rw [HE.out]; have HF1 := Lib.hid hf1; clear hf1)) | (go_at_call 83; go_loud (refine (vcheck_any g x n _ ((H.out.later HF0.out).later HF1.out)).mono ?_; rintro e w2 ⟨rfl, hf2⟩; have HF2 := Lib.hid hf2; have hb := hf2.keep (HF1.out.keep (heap_alloc_at w _) id) id; have y1 : w2.cell? ⟨w.heap.size, 1, none⟩ = some (.slice (some ⟨bc, oc, none⟩) 2 cc) := cells_at hb 1 _ rfl; have HB := Lib.hid hb; clear hf2 hb)) | fail)
  go_loopw [33] (fun i wr => ∃ k : Nat, k ≤ 2 ∧ i = .int .i64 k ∧ (k = 1 → x = 2) ∧ (k = 2 → x = 2) ∧ Hid (Fr no w2 wr)) (fun i _ => 2 - (intOf i).toNat)
  case atStart => exact ⟨0, by omega, rfl, by omega, by omega, Lib.hid (Fr.refl _ _)⟩
  case round =>
    obtain ⟨k, hk, rfl, hk1, hk2, hF⟩ := hrel
    have hFW := Lib.hid (((HF0.out.trans HF1.out (fun _ _ z => z)).trans HF2.out (fun _ _ z => z)).trans hF.out (fun _ _ z => z))
    have hr := (H.out.later hFW.out).blk
    have y1' : wr.cell? ⟨w.heap.size, 1, none⟩ = some (.slice (some ⟨bc, oc, none⟩) 2 cc) := cells_at (hF.out.keep HB.out id) 1 _ rfl
    have y2' : wr.cell? ⟨w.heap.size, 2, none⟩ = some (.int .i64 1) := cells_at (hF.out.keep HB.out id) 2 _ rfl
    have z0 := hFW.out.cell K0.out id
    have z1 := hFW.out.cell K1.out id
    have hgs := heap_lt hr
    have hws := heap_lt (hF.out.keep HB.out id)
    have hbs : bc < wr.heap.size := cell_lt' z0
    rcases (by omega : k = 0 ∨ k = 1 ∨ k = 2) with rfl | rfl | rfl
    · have e0 : wr.cell? ⟨g, 0, none⟩ = some (.int .i64 x) := cells_at hr 0 _ rfl
      have e1 : wr.cell? ⟨g, 1, none⟩ = some (.int .i64 n) := cells_at hr 1 _ rfl
      have e2 : wr.cell? ⟨g, 2, none⟩ = some (.complex .f64 0 0) := cells_at hr 2 _ rfl
      have e3 : wr.cell? ⟨g, 3, none⟩ = some (.string ⟨#[]⟩) := cells_at hr 3 _ rfl
      have HR := Lib.hid hr
      clear hr y1
      rcases hx with ⟨rfl, rfl⟩ | ⟨rfl, rfl⟩
      · go_wp2_with fail
        go_quiet (fail)
        all_goals go_wp2_with fail
        go_ret
        exact ⟨rfl, (hFW.out.alloc _).drewN _⟩
      · go_wp2_with fail
        go_quiet (fail)
        all_goals go_wp2_with fail
        go_roundw
        case rel => exact ⟨1, by omega, by go_num, fun _ => by first | trivial | rfl, by omega, Lib.hid ((hF.out.alloc _).drewN _)⟩
        case measure => simp [intOf]
    · have e0 : wr.cell? ⟨g, 4, none⟩ = some (.int .i64 0) := cells_at hr 4 _ rfl
      have e1 : wr.cell? ⟨g, 5, none⟩ = some (.int .i64 0) := cells_at hr 5 _ rfl
      have e2 : wr.cell? ⟨g, 6, none⟩ = some (.complex .f64 0 0) := cells_at hr 6 _ rfl
      have e3 : wr.cell? ⟨g, 7, none⟩ = some (.string ⟨#[]⟩) := cells_at hr 7 _ rfl
      have HR := Lib.hid hr
      obtain rfl := hk1 rfl
      clear hr y1 hx hk1 hk2
      go_wp2_with fail
      go_quiet (fail)
      all_goals go_wp2_with fail
      go_roundw
      case rel => exact ⟨2, by omega, by go_num, by omega, fun _ => by first | trivial | rfl, Lib.hid ((hF.out.alloc _).drewN _)⟩
      case measure => simp [intOf]
    · obtain rfl := hk2 rfl
      go_wp2_with fail
      go_ret
      exact ⟨rfl, hFW.out⟩

theorem rc_block {w : World} {b e size n : Nat} {cs : List Value} (h : w.heap[b]? = some (.cells cs.toArray e (0, 0))) (hl : cs.length = n * size) (h1 : ∀ u ∈ cs, u.oneCell' = true) : Rc w size (.slice (some ⟨b, 0, none⟩) n n) n cs :=
  ⟨_, n, rfl, Nat.le_refl _, hl, h1, fun j u hj => ⟨b, 0, rfl, cells_at h _ _ (by rw [Nat.zero_add]; simpa using hj)⟩⟩
/-- the example's schema in memory -/
theorem ex_at {w : World} {b : Nat} (h0 : w.heap[b]? = some (.cells #[.string ⟨#[97]⟩, .int .i64 2, .string ⟨#[98]⟩, .int .i64 5] 43 (0, 0))) (h1 : w.heap[b + 1]? = some (.cells #[.int .i64 1] 3 (0, 0)))
    (h2 : w.heap[b + 2]? = some (.cells #[.string ⟨#[105]⟩, .slice (some ⟨b + 1, 0, none⟩) 1 1, .bool false] 91 (0, 0))) : TabAt w (fun _ => True) (.agg #[.string ⟨#[116]⟩, .slice (some ⟨b, 0, none⟩) 2 2, .int .i64 1, .slice (some ⟨b + 2, 0, none⟩) 1 1]) exT := by
  have near : ∀ (g n c : Nat), g < w.heap.size → Near w (fun _ => True) (.slice (some ⟨g, 0, none⟩) n c) n := fun g n c hg _ k hk => by
    injection hk with hk; subst hk; exact ⟨hg, trivial⟩
  refine ⟨_, _, [.slice (some ⟨b + 1, 0, none⟩) 1 1], rfl, ⟨rc_block (size := 2) (cs := [.string ⟨#[97]⟩, .int .i64 2, .string ⟨#[98]⟩, .int .i64 5]) h0 rfl (by simp [Value.oneCell']), near _ _ _ (heap_lt h0)⟩, rfl, ⟨rc_block (size := 3) (cs := [.string ⟨#[105]⟩, .slice (some ⟨b + 1, 0, none⟩) 1 1, .bool false]) h2 rfl (by simp [Value.oneCell']), near _ _ _ (heap_lt h2)⟩, fun j x u hj hu => ?_⟩
  cases j with
  | zero =>
    simp only [exT, List.getElem?_cons_zero, Option.some.injEq] at hj hu
    subst hj hu
    exact ⟨rc_block (size := 1) (cs := [.int .i64 1]) h1 rfl (by simp [Value.oneCell']), near _ _ _ (heap_lt h1)⟩
  | succ j => simp [exT] at hj
def exC : Cat := [(⟨#[116]⟩, exT)]
theorem ex1 : ccreate [] exT = (0, exC) := by
  unfold ccreate
  rw [exT_ok]
  rfl
theorem ex2 : ccreate exC exT = (6, exC) := by
  unfold ccreate
  rw [exT_ok]
  rfl

theorem four_at (w : World) (o0 o1 o2 o3 : Obj) : ((((w.alloc o0).alloc o1).alloc o2).alloc o3).heap[w.heap.size]? = some o0 ∧ ((((w.alloc o0).alloc o1).alloc o2).alloc o3).heap[w.heap.size + 1]? = some o1 ∧
    ((((w.alloc o0).alloc o1).alloc o2).alloc o3).heap[w.heap.size + 2]? = some o2 ∧ ((((w.alloc o0).alloc o1).alloc o2).alloc o3).heap[w.heap.size + 3]? = some o3 := by
  have e1 : (w.alloc o0).heap.size = w.heap.size + 1 := by simp
  have e2 : ((w.alloc o0).alloc o1).heap.size = w.heap.size + 2 := by simp
  have e3 : (((w.alloc o0).alloc o1).alloc o2).heap.size = w.heap.size + 3 := by simp
  have h0 := heap_alloc_at w o0
  have h1 := heap_alloc_at (w.alloc o0) o1
  have h2 := heap_alloc_at ((w.alloc o0).alloc o1) o2
  have h3 := heap_alloc_at (((w.alloc o0).alloc o1).alloc o2) o3
  rw [e1] at h1
  rw [e2] at h2
  rw [e3] at h3
  refine ⟨?_, ?_, ?_, h3⟩
  · rw [Below.heap_alloc _ _ _ (by simp only [e3]; omega), Below.heap_alloc _ _ _ (by simp only [e2]; omega), Below.heap_alloc _ _ _ (by simp only [e1]; omega)]; exact h0
  · rw [Below.heap_alloc _ _ _ (by simp only [e3]; omega), Below.heap_alloc _ _ _ (by simp only [e2]; omega)]; exact h1
  · rw [Below.heap_alloc _ _ _ (by simp)]; exact h2

/-- what the example's walk keeps -/
structure ExW (w w' : World) : Prop where
  fr : Fr no w w'
  box : w'.heap[w.heap.size + 3]? = some (.cells #[.string ⟨#[116]⟩, .slice (some ⟨w.heap.size, 0, none⟩) 2 2, .int .i64 1, .slice (some ⟨w.heap.size + 2, 0, none⟩) 1 1] 41 (0, 0))
  tab : TabAt w' (fun k => k < w.heap.size + 4) (.agg #[.string ⟨#[116]⟩, .slice (some ⟨w.heap.size, 0, none⟩) 2 2, .int .i64 1, .slice (some ⟨w.heap.size + 2, 0, none⟩) 1 1]) exT
theorem ExW.keep {w w1 w2 : World} {S : Nat → Prop} (h : ExW w w1) (hf : Fr S w1 w2) (hs : ∀ k, S k → w.heap.size + 4 ≤ k) : ExW w w2 :=
  ⟨h.fr.trans hf (fun i hi q => absurd hi (by have := hs i q; omega)), hf.keep h.box (fun q => by have := hs _ q; omega), h.tab.keep hf (fun k _ q z => by have := hs _ z; omega)⟩
theorem ExW.made (w : World) : ExW w ((((w.alloc (.cells #[.string ⟨#[97]⟩, .int .i64 2, .string ⟨#[98]⟩, .int .i64 5] 43)).alloc (.cells #[.int .i64 1] 3)).alloc (.cells #[.string ⟨#[105]⟩, .slice (some ⟨w.heap.size + 1, 0, none⟩) 1 1, .bool false] 91)).alloc (.cells #[.string ⟨#[116]⟩, .slice (some ⟨w.heap.size, 0, none⟩) 2 2, .int .i64 1, .slice (some ⟨w.heap.size + 2, 0, none⟩) 1 1] 41)) := by
  obtain ⟨h0, h1, h2, h3⟩ := four_at w (.cells #[.string ⟨#[97]⟩, .int .i64 2, .string ⟨#[98]⟩, .int .i64 5] 43) (.cells #[.int .i64 1] 3) (.cells #[.string ⟨#[105]⟩, .slice (some ⟨w.heap.size + 1, 0, none⟩) 1 1, .bool false] 91) (.cells #[.string ⟨#[116]⟩, .slice (some ⟨w.heap.size, 0, none⟩) 2 2, .int .i64 1, .slice (some ⟨w.heap.size + 2, 0, none⟩) 1 1] 41)
  exact ⟨((((Fr.refl no w).alloc _).alloc _).alloc _).alloc _, h3, (ex_at h0 h1 h2).mono (fun k hk _ => by simp at hk; omega)⟩
theorem ExW.cells {w w1 : World} (h : ExW w w1) : w1.cell? ⟨w.heap.size + 1 + 1 + 1, 0, none⟩ = some (.string ⟨#[116]⟩) ∧ w1.cell? ⟨w.heap.size + 1 + 1 + 1, 1, none⟩ = some (.slice (some ⟨w.heap.size, 0, none⟩) 2 2) ∧ w1.cell? ⟨w.heap.size + 1 + 1 + 1, 2, none⟩ = some (.int .i64 1) ∧ w1.cell? ⟨w.heap.size + 1 + 1 + 1, 3, none⟩ = some (.slice (some ⟨w.heap.size + 1 + 1, 0, none⟩) 1 1) :=
  ⟨cells_at h.box 0 _ rfl, cells_at h.box 1 _ rfl, cells_at h.box 2 _ rfl, cells_at h.box 3 _ rfl⟩

end Go.Proofs.Ythmjjbgjbcnjmaa

namespace Go.Proofs.Ythmjjbgjbcnjmaa
open Go.RowKit Go.Hop

set_option maxHeartbeats 2000000 in
set_option maxRecDepth 100000 in
theorem sworks_any (w : World) : Calls Try.prog 16 #[] w (AsBefore w (.bool true)) := by
  have hmk := ExW.made w
  have HMK := Lib.hid hmk
  have hE1 := Lib.hid ex1
  have hE2 := Lib.hid ex2
  have HL := Lib.hid (And.intro (check_small exT_ok) exT_fit)
  clear hmk
  have T1 : True := trivial
  have HFa := Lib.hid (show fit2 2 = 0 from rfl)
  have HFb := Lib.hid (show fit2 0 = 150 from rfl)
  have hlen1 : exC.length = 1 := rfl
  go_enter Try.func16, Try.ntmps16
  go_wp2_with (first | (go_at_call 15; go_loud (refine (cnew_any (fun k => w.heap.size + 6 ≤ k) _ (by simp)).mono ?_; rintro e w1 ⟨rfl, hI1, hf1⟩; have hx1 := HMK.out.keep hf1 (fun _ q => q.elim); obtain ⟨y0, y1, y2, y3⟩ := hx1.cells; have hl1 := hI1.lt; simp at hl1; have hlt1 := hl1.1; have hI1' : IsC w1 (fun k => w.heap.size + 6 ≤ k) (w.heap.size + 1 + 1 + 1 + 1 + 1) (w.heap.size + 1 + 1 + 1 + 1) [] := (by simpa using hI1); have HI1 := Lib.hid hI1'; clear hI1'; have HX1 := Lib.hid hx1; clear hI1 hf1 hx1 hl1)) | (go_at_call 17; clear T1; go_loud (refine (ccreate_any (fun k => w.heap.size + 6 ≤ k) (fun k => k < w.heap.size + 4) (w.heap.size + 1 + 1 + 1 + 1 + 1) (w.heap.size + 1 + 1 + 1 + 1) [] _ exT _ HI1.out HX1.out.tab HL.out.2 (by decide) (by decide) (fun k hk => by omega)).mono ?_; rintro e w2 ⟨rfl, hI2, hf2⟩; rw [hE1.out] at hI2 ⊢; have hx2 := HX1.out.keep hf2 (fun k (q : k = w.heap.size + 1 + 1 + 1 + 1) => by omega); have hs2 := hf2.size; clear HI1 HX1; clear y0 y1 y2 y3; obtain ⟨y0, y1, y2, y3⟩ := hx2.cells; have HI2 := Lib.hid hI2; have HX2 := Lib.hid hx2; clear hI2 hf2 hx2)) | (go_at_call 17; go_loud (refine (ccreate_any (fun k => w.heap.size + 6 ≤ k) (fun k => k < w.heap.size + 4) (w.heap.size + 1 + 1 + 1 + 1 + 1) (w.heap.size + 1 + 1 + 1 + 1) exC _ exT _ HI2.out HX2.out.tab HL.out.2 (by decide) (by decide) (fun k hk => by omega)).mono ?_; rintro e w3 ⟨rfl, hI3, hf3⟩; rw [hE2.out] at hI3 ⊢; have hx3 := HX2.out.keep hf3 (fun k (q : k = w.heap.size + 1 + 1 + 1 + 1) => by omega); have hs3 := hf3.size; clear HI2 HX2; clear y0 y1 y2 y3; obtain ⟨y0, y1, y2, y3⟩ := hx3.cells; have HI3 := Lib.hid hI3; have HX3 := Lib.hid hx3; clear hI3 hf3 hx3)) | (go_at_call 21; go_loud (refine (cnames_any (fun k => w.heap.size + 6 ≤ k) _ _ exC _ HI3.out).mono ?_; rintro e w4 ⟨v4, rfl, ho4, hf4⟩; have hx4 := HX3.out.keep hf4 (fun k q => q.elim); obtain ⟨g4, c4, hv4, hb4, hs4, hc4⟩ := owns_form ho4 (by decide); subst hv4; have e4 := owns_at ho4 (j := 0) (u := .string ⟨#[116]⟩) rfl; clear y0 y1 y2 y3; obtain ⟨y0, y1, y2, y3⟩ := hx4.cells; have HX4 := Lib.hid hx4; clear hf4 hx4 ho4 HX3 HI3 hc4)) | (go_at_call 54; clear hlt1; go_loud (refine (fits_any (fun k => k < w.heap.size + 4) w4.heap.size 2 5 _ _ ⟨heap_alloc_at w4 _, .inr ⟨rfl, rfl⟩⟩ (HX4.out.tab.later ((Fr.refl no w4).alloc _))).mono ?_; rintro e w5 ⟨rfl, hf5⟩; rw [HFa.out]; have hx5 := HX4.out.keep (((Fr.refl no w4).alloc _).trans hf5 (fun _ _ z => z)) (fun k q => q.elim); clear y0 y1 y2 y3 e4; obtain ⟨y0, y1, y2, y3⟩ := hx5.cells; have HX5 := Lib.hid hx5; clear hf5 hx5 HX4)) | (go_at_call 54; go_loud (refine (fits_any (fun k => k < w.heap.size + 4) w5.heap.size 0 0 _ _ ⟨heap_alloc_at w5 _, .inl ⟨rfl, rfl⟩⟩ (HX5.out.tab.later ((Fr.refl no w5).alloc _))).mono ?_; rintro e w6 ⟨rfl, hf6⟩; rw [HFb.out])) | fail)
  go_ret
  exact ⟨rfl, (HX5.out.fr.alloc _).trans hf6 (fun _ _ z => z)⟩
end Go.Proofs.Ythmjjbgjbcnjmaa
