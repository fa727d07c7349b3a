import Derived.Test.YthmjjbgjbcnjmaaSb
namespace Go.Proofs.Ythmjjbgjbcnjmaa
open Go.RowKit Go.Hop
attribute [local go_sem ↓] Go.wp_at_zero Go.wp_at_succ

theorem Two.dmove {w w1 : World} {a m b : Nat} {v : Value} {s : DSt} (h : Two w a m b v s) (hf : Fr (fun k => k = a ∨ k = m) w w1) : IsR w1 b v s :=
  h.r.keep hf (fun q => by rcases q with q | q; exact h.ab q.symm; exact h.mb q.symm) (fun k hk q => by rcases q with q | q; exact h.va (q ▸ hk); exact h.vm (q ▸ hk))
theorem fr_four1 {a m b : Nat} {v : Value} {w w1 : World} (h : Fr (fun k => k = a ∨ k = m) w w1) : Fr (Four a m b v) w w1 := h.mono (fun _ _ q => by rcases q with q | q; exact .inl q; exact .inr (.inl q))
theorem fr_four2 {a m b : Nat} {v : Value} {w w1 : World} (h : Fr (fun k => k = b ∨ some k = v.ownBlock) w w1) : Fr (Four a m b v) w w1 := h.mono (fun _ _ q => .inr (.inr q))
theorem Rd.keep' {α : Type} {enc : α → Value} {S : Nat → Prop} {w w' : World} {v : Value} {xs : List α} (h : Rd enc w v xs) (hf : Fr S w w') (hn : xs ≠ [] → ∀ k, v.ownBlock = some k → ¬ S k) : Rd enc w' v xs := by
  by_cases he : xs = []
  · obtain ⟨A, c, q1, q2, _⟩ := h
    exact ⟨A, c, q1, q2, fun j x hj => by rw [he] at hj; simp at hj⟩
  · exact h.keep hf (hn he)
/-- draws that no disk holds -/
structure Draws (w : World) (a m b : Nat) (v dv : Value) (ds : List Int) : Prop where
  rd : Rd encI w dv ds
  far : ds ≠ [] → ∀ k, dv.ownBlock = some k → k < w.heap.size ∧ ¬ Four a m b v k
theorem Draws.keep {w w1 : World} {a m b : Nat} {v dv : Value} {ds : List Int} (h : Draws w a m b v dv ds) (hf : Fr (Four a m b v) w w1) : Draws w1 a m b v dv ds :=
  ⟨Rd.keep' h.rd hf (fun hn k hk => (h.far hn k hk).2), fun hn k hk => ⟨Nat.lt_of_lt_of_le (h.far hn k hk).1 hf.size, (h.far hn k hk).2⟩⟩
theorem Draws.later {w w1 : World} {a m b : Nat} {v dv : Value} {ds : List Int} (h : Draws w a m b v dv ds) (hf : Fr no w w1) : Draws w1 a m b v dv ds := h.keep (hf.mono (fun _ _ q => q.elim))

set_option maxHeartbeats 1000000 in
set_option maxRecDepth 100000 in
theorem step_crash (a m b : Nat) (v : Value) (s : DSt) (k : Int) (name data : ByteArray) (n : Int) (dv : Value) (ds : List Int) (w : World) (h : Two w a m b v s) (hdr : Draws w a m b v dv ds) (hdl : ds.length ≤ 8796093022207) (hdw : ∀ d ∈ ds, -9223372036854775808 ≤ d ∧ d ≤ 9223372036854775807) (hk : -9223372036854775808 ≤ k ∧ k ≤ 9223372036854775807)
   (hone : dv.oneCell' = true) (hr : k.tmod 7 % 7 = 6) : Calls Try.prog 12 #[.pointer (some ⟨a, 0, none⟩), .pointer (some ⟨b, 0, none⟩), .agg #[.int .i64 k, .string name, .string data, .int .i64 n, dv]] w (StepPost w a m b v s) := by
  have H := Lib.hid h
  have HR := Lib.hid hr
  have HD := Lib.hid hdr
  have Hdw := Lib.hid hdw
  have hnew := ActAt.new w k name data n dv 31
  have hl := h.lt
  have ha := hl a (.inl rfl)
  have hm := hl m (.inr (.inl rfl))
  have hb := hl b (.inr (.inr (.inl rfl)))
  have hv := fun k q => hl k (.inr (.inr (.inr q)))
  have Hv := Lib.hid hv
  clear h hr hdr hdw hl hv
  go_enter Try.func12, Try.ntmps12
  go_wp2_with (first | (go_at_call 35; refine (among_any k _ hk).mono ?_; rintro e w' ⟨rfl, rfl⟩; rw [HR.out]) | (go_at_call 48; go_loud (refine (lend_any dv ds _ (HD.out.later ((Fr.refl no w).alloc _)).rd hdl).mono ?_; rintro e w1 ⟨g, c, rfl, hL, hg, hfL⟩; have hnewL := hnew.keep hfL id; have HL := Lib.hid hL; have HfL := Lib.hid hfL; have hgw : w.heap.size < g := (by simp at hg; omega); clear hL hfL hg)) | fail)
  have h1 := H.out.later (((Fr.refl no w).alloc (.cells #[.int .i64 k, .string name, .string data, .int .i64 n, dv] 31)).trans HfL.out (fun _ _ z => z))
  have hD1 := HD.out.later (((Fr.refl no w).alloc (.cells #[.int .i64 k, .string name, .string data, .int .i64 n, dv] 31)).trans HfL.out (fun _ _ z => z))
  have hgf : ¬ Four a m b v g := fun q => by
    have := H.out.lt g q
    omega
  have hpf : ¬ Four a m b v w.heap.size := fun q => by
    have := H.out.lt _ q
    omega
  have H1 := Lib.hid h1
  have HD1 := Lib.hid hD1
  clear h1 hD1
  go_region_held3 (fun w' => w'.cell? ⟨w.heap.size, 0, none⟩ = some (.int .i64 k) ∧ w'.cell? ⟨w.heap.size, 1, none⟩ = some (.string name) ∧ w'.cell? ⟨w.heap.size, 2, none⟩ = some (.string data) ∧ w'.cell? ⟨w.heap.size, 3, none⟩ = some (.int .i64 n) ∧ w'.cell? ⟨w.heap.size, 4, none⟩ = some dv) (first | (exact hnew3) | (exact hnew2) | (exact hnew1) | (exact hnewL) | (exact hnewL.keep (Fr.drew (Fr.refl no _)) id)) (first | (go_at_call 49; go_loud (refine (crash_any a m s _ ds _ (H1.out.d.later (Fr.drew (Fr.refl no w1))) (HL.out.keep (Fr.drew (Fr.refl no w1)) id).rd (fun j hj => by obtain rfl : g = j := Option.some.inj hj; exact ⟨(HL.out.keep (Fr.drew (Fr.refl no w1)) id).lt, by omega, by omega⟩) (by omega) Hdw.out).mono ?_; rintro e w2 ⟨rfl, hI1, hf1⟩; have hr1 := (H1.out.later (Fr.drew (Fr.refl no w1))).dmove hf1; have hD2 := (HD1.out.later (Fr.drew (Fr.refl no w1))).keep (fr_four1 hf1); have hL2 := (HL.out.keep (Fr.drew (Fr.refl no w1)) id).keep (fr_four1 (b := b) (v := v) hf1) hgf; have hnew1 := (hnewL.keep (Fr.drew (Fr.refl no w1)) id).keep (fr_four1 (b := b) (v := v) hf1) hpf)) | (go_at_call 50; refine (rcrash_any b v s dv ds _ hr1 hD2.rd (fun hn j hj => ⟨(hD2.far hn j hj).1, fun q => (hD2.far hn j hj).2 (.inr (.inr (.inl q))), fun q => (hD2.far hn j hj).2 (.inr (.inr (.inr q.symm)))⟩) (by omega) Hdw.out).mono ?_; rintro e w3 ⟨v2, rfl, hI2, hf2, hv2⟩; have hD3 := hD2.keep (fr_four2 hf2); have hL3 := hL2.keep (fr_four2 (a := a) (m := m) hf2) hgf; have hnew2 := hnew1.keep (fr_four2 (a := a) (m := m) hf2) hpf) | (go_at_call 51; refine (kept_any g c dv ds _ hL3 hD3.rd hdl).mono ?_; rintro e w4 ⟨rfl, hf4⟩; have hnew3 := hnew2.keep hf4 id))
  all_goals go_wp2
  all_goals go_ret
  have hfa := (((Fr.refl no w).alloc (.cells #[.int .i64 k, .string name, .string data, .int .i64 n, dv] 31)).trans HfL.out (fun _ _ z => z)).drew
  exact ⟨by simp, _, fun q => q.crash _, Both.before hfa (Both.after (both_of (H1.out.later (Fr.drew (Fr.refl no w1))) hI1 hf1 (Fr.refl no _) hI2 hf2 hv2) hf4)⟩

/-- an act that is well formed -/
structure Act5 where
  k : Int
  name : ByteArray
  data : ByteArray
  n : Int
  dv : Value
  ds : List Int
def Act5.val (u : Act5) : Value := .agg #[.int .i64 u.k, .string u.name, .string u.data, .int .i64 u.n, u.dv]
structure Act5.Ok (u : Act5) : Prop where
  k : -9223372036854775808 ≤ u.k ∧ u.k ≤ 9223372036854775807
  name : u.name.size ≤ 140737488351232
  data : u.data.size ≤ 140737488351232
  n : u.n ≤ 9223372036854775807
  len : u.ds.length ≤ 8796093022207
  rng : ∀ d ∈ u.ds, -9223372036854775808 ≤ d ∧ d ≤ 9223372036854775807
theorem step_any (a m b : Nat) (v : Value) (s : DSt) (u : Act5) (w : World) (h : Two w a m b v s) (hu : u.Ok) (hdr : Draws w a m b v u.dv u.ds) :
    Calls Try.prog 12 #[.pointer (some ⟨a, 0, none⟩), .pointer (some ⟨b, 0, none⟩), u.val] w (StepPost w a m b v s) := by
  obtain ⟨k, name, data, n, dv, ds⟩ := u
  have hone : dv.oneCell' = true := by
    obtain ⟨A, c, e, _⟩ := hdr.rd
    simp only at e
    subst e; rfl
  rcases (by omega : k.tmod 7 % 7 = 0 ∨ k.tmod 7 % 7 = 1 ∨ k.tmod 7 % 7 = 2 ∨ k.tmod 7 % 7 = 3 ∨ k.tmod 7 % 7 = 4 ∨ k.tmod 7 % 7 = 5 ∨ k.tmod 7 % 7 = 6) with hr | hr | hr | hr | hr | hr | hr
  · exact step_append a m b v s k name data n dv w h hu.name hu.data hu.n hu.k hone hr
  · exact step_sync a m b v s k name data n dv w h hu.name hu.data hu.n hu.k hone hr
  · exact step_rename a m b v s k name data n dv w h hu.name hu.data hu.n hu.k hone hr
  · exact step_remove a m b v s k name data n dv w h hu.name hu.data hu.n hu.k hone hr
  · exact step_read a m b v s k name data n dv w h hu.name hu.k hone hr
  · exact step_fuse a m b v s k name data n dv w h hu.name hu.data hu.n hu.k hone hr
  · exact step_crash a m b v s k name data n dv ds w h hdr hu.len hu.rng hu.k hone hr
end Go.Proofs.Ythmjjbgjbcnjmaa
