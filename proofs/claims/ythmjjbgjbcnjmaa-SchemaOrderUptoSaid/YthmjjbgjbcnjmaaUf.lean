import Derived.Test.YthmjjbgjbcnjmaaUe
import Derived.Deep.QuietTactic
import Derived.BigQuiet
namespace Go.Proofs.Ythmjjbgjbcnjmaa
open Go.RowKit Go.Hop

/-! ### The chapter's example -/
theorem run_store_complex1 (P : Program) (w : World) (a : Addr) (m : Mode) (k : FloatKind) (x y : Nat) : (store a (.complex k x y) m).run P w = stored P w a (.complex k x y) m := run_store P w a _ m rfl
attribute [local go_sem] run_store_complex1
theorem f123_run (b : Nat) (w : World) : (callFunc 123 #[.float .f64 b]).run Try.prog w = .ok (.value (.int .u64 b)) w := by
  rw [run_callFunc_extern (e := Extern.MathFloatBits.float64bits) Try.func123 (by kernel_rfl) (by kernel_rfl) (by kernel_rfl) (by kernel_rfl)]
  rfl
theorem nan0_any (w : World) : Calls Try.prog 121 #[.float .f64 0] w fun e w' => e = .returned (.bool false) ∧ w = w' := by
  have h : ∀ w, (binOp .neq 168 (.float .f64 0) (.float .f64 0)).run Try.prog w = .ok (.bool false) w := fun w => by kernel_rfl
  go_enter Try.func121, Try.ntmps121
  go_wp2
  go_ret
  exact ⟨rfl, rfl⟩
set_option maxHeartbeats 1000000 in
theorem zero0_any (w : World) : Calls Try.prog 122 #[.complex .f64 0 0] w fun e w' => e = .returned (.bool true) ∧ w = w' := by
  have h := f123_run 0
  go_enter Try.func122, Try.ntmps122
  go_wp2
  go_ret
  exact ⟨rfl, rfl⟩
def v0 : List Value := [.int .i64 0, .int .i64 0, .complex .f64 0 0, .string ⟨#[]⟩]
def v25 : List Value := [.int .i64 2, .int .i64 5, .complex .f64 0 0, .string ⟨#[]⟩]
set_option maxHeartbeats 1000000 in
set_option maxRecDepth 100000 in
theorem is0_any (w : World) : Calls Try.prog 104 #[.agg #[.int .i64 0, .int .i64 0, .complex .f64 0 0, .string ⟨#[]⟩]] w (AsBefore w (.bool true)) := by
  go_enter Try.func104, Try.ntmps104
  go_wp2_with (first | (go_at_call 121; refine (nan0_any _).mono ?_; rintro e w' ⟨rfl, rfl⟩) | (go_at_call 122; refine (zero0_any _).mono ?_; rintro e w' ⟨rfl, rfl⟩) | fail)
  go_ret
  exact ⟨rfl, (Fr.refl no w).alloc _⟩
set_option maxHeartbeats 1000000 in
set_option maxRecDepth 100000 in
theorem is25_any (w : World) : Calls Try.prog 104 #[.agg #[.int .i64 2, .int .i64 5, .complex .f64 0 0, .string ⟨#[]⟩]] w (AsBefore w (.bool true)) := by
  go_enter Try.func104, Try.ntmps104
  go_wp2_with (first | (go_at_call 121; refine (nan0_any _).mono ?_; rintro e w' ⟨rfl, rfl⟩) | (go_at_call 122; refine (zero0_any _).mono ?_; rintro e w' ⟨rfl, rfl⟩) | fail)
  go_ret
  exact ⟨rfl, (Fr.refl no w).alloc _⟩
theorem is_any (x n : Int) (hx : (x = 0 ∧ n = 0) ∨ (x = 2 ∧ n = 5)) (w : World) : Calls Try.prog 104 #[.agg #[.int .i64 x, .int .i64 n, .complex .f64 0 0, .string ⟨#[]⟩]] w (AsBefore w (.bool true)) := by
  rcases hx with ⟨rfl, rfl⟩ | ⟨rfl, rfl⟩
  · exact is0_any w
  · exact is25_any w
/-- a row of two values -/
structure Row2 (w : World) (g : Nat) (x n : Int) : Prop where
  blk : w.heap[g]? = some (.cells #[.int .i64 x, .int .i64 n, .complex .f64 0 0, .string ⟨#[]⟩, .int .i64 0, .int .i64 0, .complex .f64 0 0, .string ⟨#[]⟩] 95 (0, 0))
  hx : (x = 0 ∧ n = 0) ∨ (x = 2 ∧ n = 5)
theorem Row2.at_ {w : World} {g : Nat} {x n : Int} (h : Row2 w g x n) {k : Nat} (hk : k < 2) : ∃ y m : Int, ((k = 0 ∧ y = x) ∨ (k = 1 ∧ y = 0)) ∧ ((y = 0 ∧ m = 0) ∨ (y = 2 ∧ m = 5)) ∧ w.cell? ⟨g, k * 4, none⟩ = some (.int .i64 y) ∧ w.cell? ⟨g, k * 4 + 1, none⟩ = some (.int .i64 m) ∧ w.cell? ⟨g, k * 4 + 2, none⟩ = some (.complex .f64 0 0) ∧ w.cell? ⟨g, k * 4 + 3, none⟩ = some (.string ⟨#[]⟩) := by
  rcases (by omega : k = 0 ∨ k = 1) with rfl | rfl
  · exact ⟨x, n, .inl ⟨rfl, rfl⟩, h.hx, cells_at h.blk 0 _ rfl, cells_at h.blk 1 _ rfl, cells_at h.blk 2 _ rfl, cells_at h.blk 3 _ rfl⟩
  · exact ⟨0, 0, .inr ⟨rfl, rfl⟩, .inl ⟨rfl, rfl⟩, cells_at h.blk 4 _ rfl, cells_at h.blk 5 _ rfl, cells_at h.blk 6 _ rfl, cells_at h.blk 7 _ rfl⟩
theorem Row2.later {w w' : World} {g : Nat} {x n : Int} (h : Row2 w g x n) (hf : Fr no w w') : Row2 w' g x n := ⟨hf.keep h.blk id, h.hx⟩

set_option maxHeartbeats 1000000 in
set_option maxRecDepth 100000 in
theorem vcheck_any (g : Nat) (x n : Int) (w : World) (h : Row2 w g x n) :
    Calls Try.prog 83 #[.slice (some ⟨g, 0, none⟩) 2 2] w (AsBefore w (.tuple #[.int .i64 0, .int .i64 0])) := by
  have H := Lib.hid h
  clear h
  go_enter Try.func83, Try.ntmps83
  go_wp2
  go_loopw [11] (fun i wr => ∃ k : Nat, k ≤ 2 ∧ i = .int .i64 k ∧ Hid (Fr no w wr)) (fun i _ => 2 - (intOf i).toNat)
  case atStart => exact ⟨0, by omega, rfl, Lib.hid (Fr.refl _ _)⟩
  case round =>
    obtain ⟨k, hk, rfl, hF⟩ := hrel
    by_cases hlt : k < 2
    · obtain ⟨y, m, hy, hym, e0, e1, e2, e3⟩ := (H.out.later hF.out).at_ hlt
      have HYM := Lib.hid hym
      have t1 : decide ((k : Int) < 2) = true := by simp; omega
      have t2 : decide (k < 2) = true := by simp; omega
      clear hy hym
      go_wp2_with (first | (go_at_call 104; go_loud (refine (is_any y m HYM.out _).mono ?_; rintro e w1 ⟨rfl, hf1⟩; have HF1 := Lib.hid hf1; clear hf1)) | fail)
      go_roundw
      case rel => exact ⟨k + 1, by omega, by go_num, Lib.hid ((hF.out.alloc _).trans HF1.out (fun _ _ z => z))⟩
      case measure => simp [intOf]; omega
    · have t1 : decide ((k : Int) < 2) = false := by simp; omega
      have t2 : decide (k < 2) = false := by simp; omega
      go_wp2_with fail
      go_ret2
      exact ⟨rfl, hF.out⟩

/-- the example's schema -/
def exT : Tab := ⟨⟨#[116]⟩, [(⟨#[97]⟩, 2), (⟨#[98]⟩, 5)], 1, [⟨⟨#[105]⟩, [1], false⟩]⟩
theorem exT_ok : checkT exT = true := by decide
theorem exT_fit : TabFit exT := ⟨by decide, by decide, by decide, by decide, by intro p hp; simp [exT] at hp; rcases hp with rfl | rfl <;> decide, by intro x hx; simp [exT] at hx; subst hx; decide⟩
/-- what Fits answers of a row of two -/
def fit2 (x : Int) : Int := if x = 2 then 0 else 150
set_option maxHeartbeats 1000000 in
set_option maxRecDepth 100000 in
theorem fits_any (K : Nat → Prop) (g : Nat) (x n : Int) (val : Value) (w : World) (h : Row2 w g x n) (hv : TabAt w K val exT) :
    Calls Try.prog 54 #[val, .slice (some ⟨g, 0, none⟩) 2 2] w (AsBefore w (.int .i64 (fit2 x))) := by
  obtain ⟨vc, vi, svs, rfl, hc, hi⟩ := hv.ex
  obtain ⟨Ac, cc, rfl, hcc⟩ := hc.rc.form
  obtain ⟨Ai, ci, rfl, hci⟩ := hi.row.rc.form
  have HE := Lib.hid (show errT exT = 0 by rw [errT, exT_ok]; rfl)
  have HF := Lib.hid (show TabFit exT from exT_fit)
  have H := Lib.hid h
  have HV := Lib.hid hv
  obtain ⟨bc, oc, rfl, k0⟩ := hc.rc.at_ (j := 1) (u := .int .i64 2) rfl
  obtain ⟨bc', oc', hb', k1⟩ := hc.rc.at_ (j := 3) (u := .int .i64 5) rfl
  obtain ⟨rfl, rfl⟩ : bc = bc' ∧ oc = oc' := by injection hb' with hb'; injection hb' with z1 z2; exact ⟨z1, z2⟩
  have hx := h.hx
  have K0 := Lib.hid k0
  have K1 := Lib.hid k1
  clear h hv hc hi hb' k0 k1
  change Calls Try.prog 54 #[.agg #[.string ⟨#[116]⟩, .slice (some ⟨bc, oc, none⟩) 2 cc, .int .i64 1, .slice Ai 1 ci], .slice (some ⟨g, 0, none⟩) 2 2] w (AsBefore w (.int .i64 (fit2 x)))
  have hcc2 : 2 ≤ cc := hcc
  go_enter Try.func54, Try.ntmps54
  have hf0 := Fr.alloc (Fr.refl no w) (.cells #[.string ⟨#[116]⟩, .slice (some ⟨bc, oc, none⟩) 2 cc, .int .i64 1, .slice Ai 1 ci] 41)
  have HF0 := Lib.hid hf0
  clear hf0
  go_wp2_with (first | (go_at_call 27; go_loud (refine (check_any K _ exT _ (HV.out.later HF0.out) HF.out).mono ?_; rintro e w1 ⟨rfl, hf1⟩; rw [HE.out]; have HF1 := Lib.hid hf1; clear hf1)) | (go_at_call 83; go_loud (refine (vcheck_any g x n _ ((H.out.later HF0.out).later HF1.out)).mono ?_; rintro e w2 ⟨rfl, hf2⟩; have HF2 := Lib.hid hf2; have hb := hf2.keep (HF1.out.keep (heap_alloc_at w _) id) id; have y1 : w2.cell? ⟨w.heap.size, 1, none⟩ = some (.slice (some ⟨bc, oc, none⟩) 2 cc) := cells_at hb 1 _ rfl; have HB := Lib.hid hb; clear hf2 hb)) | fail)
  go_loopw [33] (fun i wr => ∃ k : Nat, k ≤ 2 ∧ i = .int .i64 k ∧ (k = 1 → x = 2) ∧ (k = 2 → x = 2) ∧ Hid (Fr no w2 wr)) (fun i _ => 2 - (intOf i).toNat)
  case atStart => exact ⟨0, by omega, rfl, by omega, by omega, Lib.hid (Fr.refl _ _)⟩
  case round =>
    obtain ⟨k, hk, rfl, hk1, hk2, hF⟩ := hrel
    have hFW := Lib.hid (((HF0.out.trans HF1.out (fun _ _ z => z)).trans HF2.out (fun _ _ z => z)).trans hF.out (fun _ _ z => z))
    have hr := (H.out.later hFW.out).blk
    have y1' : wr.cell? ⟨w.heap.size, 1, none⟩ = some (.slice (some ⟨bc, oc, none⟩) 2 cc) := cells_at (hF.out.keep HB.out id) 1 _ rfl
    have y2' : wr.cell? ⟨w.heap.size, 2, none⟩ = some (.int .i64 1) := cells_at (hF.out.keep HB.out id) 2 _ rfl
    have z0 := hFW.out.cell K0.out id
    have z1 := hFW.out.cell K1.out id
    have hgs := heap_lt hr
    have hws := heap_lt (hF.out.keep HB.out id)
    have hbs : bc < wr.heap.size := cell_lt' z0
    rcases (by omega : k = 0 ∨ k = 1 ∨ k = 2) with rfl | rfl | rfl
    · have e0 : wr.cell? ⟨g, 0, none⟩ = some (.int .i64 x) := cells_at hr 0 _ rfl
      have e1 : wr.cell? ⟨g, 1, none⟩ = some (.int .i64 n) := cells_at hr 1 _ rfl
      have e2 : wr.cell? ⟨g, 2, none⟩ = some (.complex .f64 0 0) := cells_at hr 2 _ rfl
      have e3 : wr.cell? ⟨g, 3, none⟩ = some (.string ⟨#[]⟩) := cells_at hr 3 _ rfl
      have HR := Lib.hid hr
      clear hr y1
      rcases hx with ⟨rfl, rfl⟩ | ⟨rfl, rfl⟩
      · go_wp2_with fail
        go_quiet (fail)
        all_goals go_wp2_with fail
        go_ret
        exact ⟨rfl, (hFW.out.alloc _).drewN _⟩
      · go_wp2_with fail
        go_quiet (fail)
        all_goals go_wp2_with fail
        go_roundw
        case rel => exact ⟨1, by omega, by go_num, fun _ => by first | trivial | rfl, by omega, Lib.hid ((hF.out.alloc _).drewN _)⟩
        case measure => simp [intOf]
    · have e0 : wr.cell? ⟨g, 4, none⟩ = some (.int .i64 0) := cells_at hr 4 _ rfl
      have e1 : wr.cell? ⟨g, 5, none⟩ = some (.int .i64 0) := cells_at hr 5 _ rfl
      have e2 : wr.cell? ⟨g, 6, none⟩ = some (.complex .f64 0 0) := cells_at hr 6 _ rfl
      have e3 : wr.cell? ⟨g, 7, none⟩ = some (.string ⟨#[]⟩) := cells_at hr 7 _ rfl
      have HR := Lib.hid hr
      obtain rfl := hk1 rfl
      clear hr y1 hx hk1 hk2
      go_wp2_with fail
      go_quiet (fail)
      all_goals go_wp2_with fail
      go_roundw
      case rel => exact ⟨2, by omega, by go_num, by omega, fun _ => by first | trivial | rfl, Lib.hid ((hF.out.alloc _).drewN _)⟩
      case measure => simp [intOf]
    · obtain rfl := hk2 rfl
      go_wp2_with fail
      go_ret
      exact ⟨rfl, hFW.out⟩

theorem rc_block {w : World} {b e size n : Nat} {cs : List Value} (h : w.heap[b]? = some (.cells cs.toArray e (0, 0))) (hl : cs.length = n * size) (h1 : ∀ u ∈ cs, u.oneCell' = true) : Rc w size (.slice (some ⟨b, 0, none⟩) n n) n cs :=
  ⟨_, n, rfl, Nat.le_refl _, hl, h1, fun j u hj => ⟨b, 0, rfl, cells_at h _ _ (by rw [Nat.zero_add]; simpa using hj)⟩⟩
/-- the example's schema in memory -/
theorem ex_at {w : World} {b : Nat} (h0 : w.heap[b]? = some (.cells #[.string ⟨#[97]⟩, .int .i64 2, .string ⟨#[98]⟩, .int .i64 5] 43 (0, 0))) (h1 : w.heap[b + 1]? = some (.cells #[.int .i64 1] 3 (0, 0)))
    (h2 : w.heap[b + 2]? = some (.cells #[.string ⟨#[105]⟩, .slice (some ⟨b + 1, 0, none⟩) 1 1, .bool false] 91 (0, 0))) : TabAt w (fun _ => True) (.agg #[.string ⟨#[116]⟩, .slice (some ⟨b, 0, none⟩) 2 2, .int .i64 1, .slice (some ⟨b + 2, 0, none⟩) 1 1]) exT := by
  have near : ∀ (g n c : Nat), g < w.heap.size → Near w (fun _ => True) (.slice (some ⟨g, 0, none⟩) n c) n := fun g n c hg _ k hk => by
    injection hk with hk; subst hk; exact ⟨hg, trivial⟩
  refine ⟨_, _, [.slice (some ⟨b + 1, 0, none⟩) 1 1], rfl, ⟨rc_block (size := 2) (cs := [.string ⟨#[97]⟩, .int .i64 2, .string ⟨#[98]⟩, .int .i64 5]) h0 rfl (by simp [Value.oneCell']), near _ _ _ (heap_lt h0)⟩, rfl, ⟨rc_block (size := 3) (cs := [.string ⟨#[105]⟩, .slice (some ⟨b + 1, 0, none⟩) 1 1, .bool false]) h2 rfl (by simp [Value.oneCell']), near _ _ _ (heap_lt h2)⟩, fun j x u hj hu => ?_⟩
  cases j with
  | zero =>
    simp only [exT, List.getElem?_cons_zero, Option.some.injEq] at hj hu
    subst hj hu
    exact ⟨rc_block (size := 1) (cs := [.int .i64 1]) h1 rfl (by simp [Value.oneCell']), near _ _ _ (heap_lt h1)⟩
  | succ j => simp [exT] at hj
def exC : Cat := [(⟨#[116]⟩, exT)]
theorem ex1 : ccreate [] exT = (0, exC) := by
  unfold ccreate
  rw [exT_ok]
  rfl
theorem ex2 : ccreate exC exT = (6, exC) := by
  unfold ccreate
  rw [exT_ok]
  rfl

theorem four_at (w : World) (o0 o1 o2 o3 : Obj) : ((((w.alloc o0).alloc o1).alloc o2).alloc o3).heap[w.heap.size]? = some o0 ∧ ((((w.alloc o0).alloc o1).alloc o2).alloc o3).heap[w.heap.size + 1]? = some o1 ∧
    ((((w.alloc o0).alloc o1).alloc o2).alloc o3).heap[w.heap.size + 2]? = some o2 ∧ ((((w.alloc o0).alloc o1).alloc o2).alloc o3).heap[w.heap.size + 3]? = some o3 := by
  have e1 : (w.alloc o0).heap.size = w.heap.size + 1 := by simp
  have e2 : ((w.alloc o0).alloc o1).heap.size = w.heap.size + 2 := by simp
  have e3 : (((w.alloc o0).alloc o1).alloc o2).heap.size = w.heap.size + 3 := by simp
  have h0 := heap_alloc_at w o0
  have h1 := heap_alloc_at (w.alloc o0) o1
  have h2 := heap_alloc_at ((w.alloc o0).alloc o1) o2
  have h3 := heap_alloc_at (((w.alloc o0).alloc o1).alloc o2) o3
  rw [e1] at h1
  rw [e2] at h2
  rw [e3] at h3
  refine ⟨?_, ?_, ?_, h3⟩
  · rw [Below.heap_alloc _ _ _ (by simp only [e3]; omega), Below.heap_alloc _ _ _ (by simp only [e2]; omega), Below.heap_alloc _ _ _ (by simp only [e1]; omega)]; exact h0
  · rw [Below.heap_alloc _ _ _ (by simp only [e3]; omega), Below.heap_alloc _ _ _ (by simp only [e2]; omega)]; exact h1
  · rw [Below.heap_alloc _ _ _ (by simp)]; exact h2

/-- what the example's walk keeps -/
structure ExW (w w' : World) : Prop where
  fr : Fr no w w'
  box : w'.heap[w.heap.size + 3]? = some (.cells #[.string ⟨#[116]⟩, .slice (some ⟨w.heap.size, 0, none⟩) 2 2, .int .i64 1, .slice (some ⟨w.heap.size + 2, 0, none⟩) 1 1] 41 (0, 0))
  tab : TabAt w' (fun k => k < w.heap.size + 4) (.agg #[.string ⟨#[116]⟩, .slice (some ⟨w.heap.size, 0, none⟩) 2 2, .int .i64 1, .slice (some ⟨w.heap.size + 2, 0, none⟩) 1 1]) exT
theorem ExW.keep {w w1 w2 : World} {S : Nat → Prop} (h : ExW w w1) (hf : Fr S w1 w2) (hs : ∀ k, S k → w.heap.size + 4 ≤ k) : ExW w w2 :=
  ⟨h.fr.trans hf (fun i hi q => absurd hi (by have := hs i q; omega)), hf.keep h.box (fun q => by have := hs _ q; omega), h.tab.keep hf (fun k _ q z => by have := hs _ z; omega)⟩
theorem ExW.made (w : World) : ExW w ((((w.alloc (.cells #[.string ⟨#[97]⟩, .int .i64 2, .string ⟨#[98]⟩, .int .i64 5] 43)).alloc (.cells #[.int .i64 1] 3)).alloc (.cells #[.string ⟨#[105]⟩, .slice (some ⟨w.heap.size + 1, 0, none⟩) 1 1, .bool false] 91)).alloc (.cells #[.string ⟨#[116]⟩, .slice (some ⟨w.heap.size, 0, none⟩) 2 2, .int .i64 1, .slice (some ⟨w.heap.size + 2, 0, none⟩) 1 1] 41)) := by
  obtain ⟨h0, h1, h2, h3⟩ := four_at w (.cells #[.string ⟨#[97]⟩, .int .i64 2, .string ⟨#[98]⟩, .int .i64 5] 43) (.cells #[.int .i64 1] 3) (.cells #[.string ⟨#[105]⟩, .slice (some ⟨w.heap.size + 1, 0, none⟩) 1 1, .bool false] 91) (.cells #[.string ⟨#[116]⟩, .slice (some ⟨w.heap.size, 0, none⟩) 2 2, .int .i64 1, .slice (some ⟨w.heap.size + 2, 0, none⟩) 1 1] 41)
  exact ⟨((((Fr.refl no w).alloc _).alloc _).alloc _).alloc _, h3, (ex_at h0 h1 h2).mono (fun k hk _ => by simp at hk; omega)⟩
theorem ExW.cells {w w1 : World} (h : ExW w w1) : w1.cell? ⟨w.heap.size + 1 + 1 + 1, 0, none⟩ = some (.string ⟨#[116]⟩) ∧ w1.cell? ⟨w.heap.size + 1 + 1 + 1, 1, none⟩ = some (.slice (some ⟨w.heap.size, 0, none⟩) 2 2) ∧ w1.cell? ⟨w.heap.size + 1 + 1 + 1, 2, none⟩ = some (.int .i64 1) ∧ w1.cell? ⟨w.heap.size + 1 + 1 + 1, 3, none⟩ = some (.slice (some ⟨w.heap.size + 1 + 1, 0, none⟩) 1 1) :=
  ⟨cells_at h.box 0 _ rfl, cells_at h.box 1 _ rfl, cells_at h.box 2 _ rfl, cells_at h.box 3 _ rfl⟩

end Go.Proofs.Ythmjjbgjbcnjmaa
