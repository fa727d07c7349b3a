import Derived.Test.YthmjjbgjbcnjmaaTh
import Derived.Laws.ResultCell
namespace Go.Proofs.Ythmjjbgjbcnjmaa
open Go.RowKit Go.Hop

/-- a result in a cell of four, and a second one in a slot -/
theorem results_41 {fn : Func} {p u : Tmp} (h : fn.results = #[.cell p 41, .tmp u]) (tmps : Array Value) (w : World) (g : Nat) (x0 x1 x2 x3 : Value) (hp : tmps.getD p undef = .pointer (some ⟨g, 0, none⟩)) (hg : w.heap[g]? = some (.cells #[x0, x1, x2, x3] 41 (0, 0))) :
    (results fn tmps).run Try.prog w = .ok (.tuple #[.agg #[x0, x1, x2, x3], tmps.getD u undef]) w := by
  have hp' : tmps[p]?.getD undef = .pointer (some ⟨g, 0, none⟩) := by simpa using hp
  rw [results_cell_tmp h]
  simp [hp', asAddr, run_loadVar_row w g 41 41 #[x0, x1, x2, x3] (0, 0) _ hg Try.underlying41 rfl (by kernel_rfl), Result.andThen]

theorem check_small {t : Tab} (h : checkT t = true) : t.cols.length ≤ 32 ∧ t.idx.length ≤ 8 ∧ ∀ x ∈ t.idx, x.cols.length ≤ 32 := by
  simp only [checkT, Bool.and_eq_true, List.all_eq_true, inside, decide_eq_true_eq] at h
  obtain ⟨⟨⟨⟨⟨⟨⟨h1, h2⟩, h3⟩, h4⟩, h5⟩, h6⟩, h7⟩, h8⟩ := h
  exact ⟨by omega, h4, fun x hx => by have := (h8 x hx).1; omega⟩
def emptyT : Tab := ⟨⟨#[]⟩, [], 0, []⟩
def cfind (l : Cat) (n : ByteArray) : Tab × Int := match get l n with | some t => (t, 0) | none => (emptyT, 141)
theorem tab_empty (w : World) (K : Nat → Prop) : TabAt w K (.agg #[.string ⟨#[]⟩, .slice none 0 0, .int .i64 0, .slice none 0 0]) emptyT :=
  ⟨_, _, [], rfl, ⟨rc_empty w 2 none 0, fun h => absurd rfl h⟩, rfl, ⟨rc_empty w 3 none 0, fun h => absurd rfl h⟩, fun j x u h => by simp [emptyT] at h⟩

set_option maxHeartbeats 1000000 in
set_option maxRecDepth 100000 in
theorem cfind_any (K : Nat → Prop) (a m : Nat) (l : Cat) (n : ByteArray) (w : World) (h : IsC w K a m l) :
    Calls Try.prog 25 #[.pointer (some ⟨a, 0, none⟩), .string n] w fun e w' => ∃ v, e = .returned (.tuple #[v, .int .i64 (cfind l n).2]) ∧ TabAt w' (fun k => w.heap.size ≤ k) v (cfind l n).1 ∧ Fr no w w' := by
  obtain ⟨ml, hm, hrel, htab⟩ := h.map
  have hc0 : w.cell? ⟨a, 0, none⟩ = some (.map (some m)) := cells_at h.blk 0 _ rfl
  have hlt := h.lt
  have hl1 := hlt.1
  have hne : a ≠ w.heap.size := by omega
  have H := Lib.hid h
  rcases IsC.at_ hrel htab n with ⟨g1, g2⟩ | ⟨t, A1, n1, c1, A2, n2, c2, g1, g2, g3⟩
  · have Hr := Lib.hid (show cfind l n = (emptyT, 141) by simp [cfind, g1])
    have G2 := Lib.hid g2
    clear h hrel htab g1 g2
    go_enter Try.func25, Try.ntmps25
    go_wp2_with (first | (at_lookup; go_loud (refine wp_look rfl _ _ _ rfl (hm.keep ((Fr.refl no w).alloc _) id) Try.underlying87 Try.underlying9 zero41 rfl _ rfl ?_; rw [G2.out])) | fail)
    have hh := (Below.heap_alloc (w.alloc (.cells #[.string ⟨#[]⟩, .slice none 0 0, .int .i64 0, .slice none 0 0] 41)) (.cells #[.string ⟨#[]⟩, .slice none 0 0, .int .i64 0, .slice none 0 0] 41) w.heap.size (by simp)).trans (heap_alloc_at w _)
    rw [Hr.out]
    exact bodyPost_ret (results_41 rfl _ _ w.heap.size _ _ _ _ rfl hh) rfl ⟨_, rfl, tab_empty _ _, ((Fr.refl no w).alloc _).alloc _⟩
  · have Hr := Lib.hid (show cfind l n = (t, 0) by simp [cfind, g1])
    have G3 := Lib.hid g3
    have HT := Lib.hid g2
    obtain ⟨k1, k2, k3⟩ := H.out.good _ (get_some_mem g1)
    obtain ⟨z1, z2, z3⟩ := check_small k1
    have HK := Lib.hid k3
    clear h hrel htab g1 g2 g3 k1 k2 k3
    go_enter Try.func25, Try.ntmps25
    go_wp2_with (first | (at_lookup; go_loud (refine wp_look rfl _ _ _ rfl (hm.keep ((Fr.refl no w).alloc _) id) Try.underlying87 Try.underlying9 zero41 rfl _ rfl ?_; rw [G3.out])) | (go_at_call 55; go_loud (refine (own_any K _ t _ (HT.out.later (((Fr.refl no w).alloc _).alloc _)) HK.out ⟨by omega, by omega⟩ (fun x hx => by have := z3 x hx; omega)).mono ?_; rintro e w3 ⟨r, rfl, hr, hf3⟩; obtain ⟨vc, vi, svs, hv, hc, hi⟩ := hr.ex; obtain ⟨B1, d1, rfl, _⟩ := hc.rc.form; obtain ⟨B2, d2, rfl, _⟩ := hi.row.rc.form; subst hv; have hb := hf3.keep ((Below.heap_alloc (w.alloc (.cells #[.string ⟨#[]⟩, .slice none 0 0, .int .i64 0, .slice none 0 0] 41)) (.cells #[.string t.name, .slice A1 n1 c1, .int .i64 t.key, .slice A2 n2 c2] 41) w.heap.size (by simp)).trans (heap_alloc_at w _)) id; obtain ⟨x0, x1, x2, x3, x4⟩ := cells4 hb; have y0 := free_at hb 0; have y1 := free_at hb 1; have y2 := free_at hb 2; have y3 := free_at hb 3; have HB := Lib.hid hb; have HRr := Lib.hid hr; have HF3 := Lib.hid hf3; clear hb hr hf3 hc hi)) | fail)
    have hh := heap_setCell_at (heap_setCell_at (heap_setCell_at (heap_setCell_at HB.out 0 (.string t.name)) 1 (.slice B1 t.cols.length d1)) 2 (.int .i64 t.key)) 3 (.slice B2 t.idx.length d2)
    simp only [List.setIfInBounds_toArray, List.set_cons_zero, List.set_cons_succ] at hh
    have hfin := fr_set4 w3 w.heap.size (.string t.name) (.slice B1 t.cols.length d1) (.int .i64 t.key) (.slice B2 t.idx.length d2)
    rw [Hr.out]
    have hfw := (((Fr.refl no w).alloc _).alloc _).trans HF3.out (fun _ _ z => z)
    refine bodyPost_ret (results_41 rfl _ _ w.heap.size _ _ _ _ rfl hh) rfl ⟨_, rfl, (HRr.out.keep hfin (fun k _ q z => by simp at q; omega)).mono (fun k _ q => by simp at q; omega), hfw.trans hfin (fun i hi q => absurd hi (by omega))⟩
end Go.Proofs.Ythmjjbgjbcnjmaa
