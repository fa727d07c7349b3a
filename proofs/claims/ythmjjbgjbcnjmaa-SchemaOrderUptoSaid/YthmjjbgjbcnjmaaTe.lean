import Derived.Test.YthmjjbgjbcnjmaaTd
import Derived.Lib.SliceRun
namespace Go.Proofs.Ythmjjbgjbcnjmaa
open Go.RowKit Go.Hop

theorem El38 : El Try.prog 38 43 2 24 := El.mk_ (.agg #[.string ⟨#[]⟩, .int .i64 0]) Try.underlying38 (by decide) rfl (by kernel_rfl)
theorem El39 : El Try.prog 39 91 3 48 := El.mk_ (.agg #[.string ⟨#[]⟩, .slice none 0 0, .bool false]) Try.underlying39 (by decide) rfl (by kernel_rfl)

set_option maxHeartbeats 1000000 in
set_option maxRecDepth 100000 in
theorem clone84_any (v : Value) (n : Nat) (cs : List Value) (w : World) (h : Rc w 2 v n cs) (hn : n ≤ 2199023255552) :
    Calls Try.prog 84 #[v] w fun e w' => ∃ r, e = .returned r ∧ w'.ownsRow w.heap.size 43 2 r n cs ∧ Fr no w w' := by
  obtain ⟨A, c, rfl, hc⟩ := h.form
  have H := Lib.hid h
  have hq := Go.Lib.run_eql_slice_nil (P := Try.prog) w 38 43 A n c 0 0 Try.underlying38
  clear h
  cases A with
  | none =>
    obtain ⟨A', c', e', hc', hl', h1', hx'⟩ := H.out
    injection e' with e1 _ e3
    subst e1 e3
    have hcs : cs = [] := by
      cases cs with
      | nil => rfl
      | cons u t => obtain ⟨_, _, q, _⟩ := hx' 0 u rfl; cases q
    subst hcs
    have hn0 : n = 0 := by simp at hl'; omega
    have HN := Lib.hid hn0
    clear hn0 hl' h1' hx' hc'
    go_enter Try.func84, Try.ntmps84
    go_wp2
    go_ret
    have hn0 := HN.out
    subst hn0
    exact ⟨_, rfl, World.ownsRow_nil _ _ _ _, Fr.refl _ _⟩
  | some a =>
    go_enter Try.func84, Try.ntmps84
    go_wp2_with (first | (at_builtin; go_loud (refine wp_append rfl (.tmp 5) (.tmp 6) 38 rfl El38 _ 0 [] rfl ((World.ownsRow_lit (base := w.heap.size) (size := 2) (e := 43) w #[] 0 (Nat.le_refl _) (by unfold maxLen; omega) rfl)) _ _ _ rfl (H.out.keep ((Fr.refl no w).alloc _) (fun _ _ z => z)) (by unfold maxLen; omega) (by omega) (by simp) ?_; intro v1 w1 ho1 hg1 hloc1; have HO1 := Lib.hid ho1; have HG1 := Lib.hid hg1; clear ho1 hg1 hloc1)) | fail)
    go_ret
    have h01 : Fr no w w1 := ((Fr.refl no w).alloc (.cells #[] 43)).trans (Fr.grown HG1.out) (fun i hi q => absurd hi (by
      have q2 : some i = some w.heap.size := q
      injection q2 with q2; omega))
    exact ⟨_, rfl, by simpa using HO1.out, h01⟩

set_option maxHeartbeats 1000000 in
set_option maxRecDepth 100000 in
theorem clone85_any (v : Value) (n : Nat) (cs : List Value) (w : World) (h : Rc w 3 v n cs) (hn : n ≤ 2199023255552) :
    Calls Try.prog 85 #[v] w fun e w' => ∃ r, e = .returned r ∧ w'.ownsRow w.heap.size 91 3 r n cs ∧ Fr no w w' := by
  obtain ⟨A, c, rfl, hc⟩ := h.form
  have H := Lib.hid h
  have hq := Go.Lib.run_eql_slice_nil (P := Try.prog) w 39 91 A n c 0 0 Try.underlying39
  clear h
  cases A with
  | none =>
    obtain ⟨A', c', e', hc', hl', h1', hx'⟩ := H.out
    injection e' with e1 _ e3
    subst e1 e3
    have hcs : cs = [] := by
      cases cs with
      | nil => rfl
      | cons u t => obtain ⟨_, _, q, _⟩ := hx' 0 u rfl; cases q
    subst hcs
    have hn0 : n = 0 := by simp at hl'; omega
    have HN := Lib.hid hn0
    clear hn0 hl' h1' hx' hc'
    go_enter Try.func85, Try.ntmps85
    go_wp2
    go_ret
    have hn0 := HN.out
    subst hn0
    exact ⟨_, rfl, World.ownsRow_nil _ _ _ _, Fr.refl _ _⟩
  | some a =>
    go_enter Try.func85, Try.ntmps85
    go_wp2_with (first | (at_builtin; go_loud (refine wp_append rfl (.tmp 5) (.tmp 6) 39 rfl El39 _ 0 [] rfl ((World.ownsRow_lit (base := w.heap.size) (size := 3) (e := 91) w #[] 0 (Nat.le_refl _) (by unfold maxLen; omega) rfl)) _ _ _ rfl (H.out.keep ((Fr.refl no w).alloc _) (fun _ _ z => z)) (by unfold maxLen; omega) (by omega) (by simp) ?_; intro v1 w1 ho1 hg1 hloc1; have HO1 := Lib.hid ho1; have HG1 := Lib.hid hg1; clear ho1 hg1 hloc1)) | fail)
    go_ret
    have h01 : Fr no w w1 := ((Fr.refl no w).alloc (.cells #[] 91)).trans (Fr.grown HG1.out) (fun i hi q => absurd hi (by
      have q2 : some i = some w.heap.size := q
      injection q2 with q2; omega))
    exact ⟨_, rfl, by simpa using HO1.out, h01⟩

set_option maxHeartbeats 1000000 in
set_option maxRecDepth 100000 in
theorem clone86_any (v : Value) (n : Nat) (cs : List Value) (w : World) (h : Rc w 1 v n cs) (hn : n ≤ 2199023255552) :
    Calls Try.prog 86 #[v] w fun e w' => ∃ r, e = .returned r ∧ w'.ownsRow w.heap.size 3 1 r n cs ∧ Fr no w w' := by
  obtain ⟨A, c, rfl, hc⟩ := h.form
  have H := Lib.hid h
  have hq := Go.Lib.run_eql_slice_nil (P := Try.prog) w 29 3 A n c 0 0 Try.underlying29
  clear h
  cases A with
  | none =>
    obtain ⟨A', c', e', hc', hl', h1', hx'⟩ := H.out
    injection e' with e1 _ e3
    subst e1 e3
    have hcs : cs = [] := by
      cases cs with
      | nil => rfl
      | cons u t => obtain ⟨_, _, q, _⟩ := hx' 0 u rfl; cases q
    subst hcs
    have hn0 : n = 0 := by simp at hl'; omega
    have HN := Lib.hid hn0
    clear hn0 hl' h1' hx' hc'
    go_enter Try.func86, Try.ntmps86
    go_wp2
    go_ret
    have hn0 := HN.out
    subst hn0
    exact ⟨_, rfl, World.ownsRow_nil _ _ _ _, Fr.refl _ _⟩
  | some a =>
    go_enter Try.func86, Try.ntmps86
    go_wp2_with (first | (at_builtin; go_loud (refine wp_append rfl (.tmp 5) (.tmp 6) 29 rfl El29 _ 0 [] rfl ((World.ownsRow_lit (base := w.heap.size) (size := 1) (e := 3) w #[] 0 (Nat.le_refl _) (by unfold maxLen; omega) rfl)) _ _ _ rfl (H.out.keep ((Fr.refl no w).alloc _) (fun _ _ z => z)) (by unfold maxLen; omega) (by omega) (by simp) ?_; intro v1 w1 ho1 hg1 hloc1; have HO1 := Lib.hid ho1; have HG1 := Lib.hid hg1; clear ho1 hg1 hloc1)) | fail)
    go_ret
    have h01 : Fr no w w1 := ((Fr.refl no w).alloc (.cells #[] 3)).trans (Fr.grown HG1.out) (fun i hi q => absurd hi (by
      have q2 : some i = some w.heap.size := q
      injection q2 with q2; omega))
    exact ⟨_, rfl, by simpa using HO1.out, h01⟩
end Go.Proofs.Ythmjjbgjbcnjmaa
