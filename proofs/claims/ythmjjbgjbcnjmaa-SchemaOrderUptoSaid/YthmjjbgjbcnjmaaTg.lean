import Derived.Test.YthmjjbgjbcnjmaaTf
namespace Go.Proofs.Ythmjjbgjbcnjmaa
open Go.RowKit Go.Hop

/-! ### A catalogue -/
abbrev Cat := List (ByteArray × Tab)
def ccreate (l : Cat) (t : Tab) : Int × Cat := if checkT t = false then (140, l) else if get l t.name ≠ none then (6, l) else if 4096 ≤ l.length then (2, l) else (0, sput l t.name t)
def cdrop (l : Cat) (n : ByteArray) : Int × Cat := if get l n = none then (141, l) else (0, del l n)
abbrev ME := ByteArray × (Value × Tab)
structure IsC (w : World) (K : Nat → Prop) (a m : Nat) (l : Cat) : Prop where
  blk : w.heap[a]? = some (.cells #[.map (some m)] 89 (0, 0))
  map : ∃ ml : List ME, MapIs w m (mapv Prod.fst ml) ∧ Rel (mapv Prod.snd ml) l ∧ ∀ e ∈ ml, TabAt w K e.2.1 e.2.2
  ne : a ≠ m
  nk : ¬ K m
  few : l.length ≤ 4096
  good : ∀ p ∈ l, checkT p.2 = true ∧ p.1 = p.2.name ∧ TabFit p.2
theorem IsC.keep {S K : Nat → Prop} {w w' : World} {a m : Nat} {l : Cat} (h : IsC w K a m l) (hf : Fr S w w') (ha : ¬ S a) (hm : ¬ S m) (hs : ∀ k, k < w.heap.size → K k → ¬ S k) : IsC w' K a m l := by
  obtain ⟨ml, h1, h2, h3⟩ := h.map
  exact ⟨hf.keep h.blk ha, ⟨ml, h1.keep hf hm, h2, fun e he => (h3 e he).keep hf hs⟩, h.ne, h.nk, h.few, h.good⟩
theorem IsC.later {K : Nat → Prop} {w w' : World} {a m : Nat} {l : Cat} (h : IsC w K a m l) (hf : Fr no w w') : IsC w' K a m l := h.keep hf id id (fun _ _ _ q => q)
theorem IsC.lt {K : Nat → Prop} {w : World} {a m : Nat} {l : Cat} (h : IsC w K a m l) : a < w.heap.size ∧ m < w.heap.size := by
  obtain ⟨ml, h1, _⟩ := h.map
  exact ⟨heap_lt h.blk, h1.lt⟩
def zeroT : Value := .agg #[.string ⟨#[]⟩, .slice none 0 0, .int .i64 0, .slice none 0 0]
theorem zero41 (w : World) : (zeroValue 41).run Try.prog w = .ok (.agg #[.string ⟨#[]⟩, .slice none 0 0, .int .i64 0, .slice none 0 0]) w := by kernel_rfl

theorem cnew_any (K : Nat → Prop) (w : World) (hk : ¬ K w.heap.size) : Calls Try.prog 15 #[] w fun e w' => e = .returned (.pointer (some ⟨w.heap.size + 1, 0, none⟩)) ∧ IsC w' K (w.heap.size + 1) w.heap.size [] ∧ Fr no w w' := by
  have hmm := @run_makeMap Try.prog
  go_enter Try.func15, Try.ntmps15
  go_wp2
  go_ret
  refine ⟨rfl, ⟨?_, ⟨[], ?_, Rel.nil, by simp⟩, by omega, hk, by simp, by simp⟩, ((Fr.refl _ _).alloc _).alloc _⟩
  · have := heap_alloc_at (w.alloc (.map #[] 0)) (.cells #[.map (some w.heap.size)] 89)
    simpa using this
  · exact (MapIs.made w).keep ((Fr.refl no _).alloc _) id

/-- what the map holds at a name -/
theorem IsC.at_ {w : World} {K : Nat → Prop} {l : Cat} {ml : List ME} (h2 : Rel (mapv Prod.snd ml) l) (h3 : ∀ e ∈ ml, TabAt w K e.2.1 e.2.2) (n : ByteArray) :
    (get l n = none ∧ get (mapv Prod.fst ml) n = none) ∨ ∃ t A1 n1 c1 A2 n2 c2, get l n = some t ∧ TabAt w K (.agg #[.string t.name, .slice A1 n1 c1, .int .i64 t.key, .slice A2 n2 c2]) t ∧ get (mapv Prod.fst ml) n = some (.agg #[.string t.name, .slice A1 n1 c1, .int .i64 t.key, .slice A2 n2 c2]) := by
  have e := h2.eq n
  rw [get_mapv] at e
  rw [get_mapv]
  cases hg : get ml n with
  | none => rw [hg] at e; exact .inl ⟨e.symm, rfl⟩
  | some x =>
    rw [hg] at e
    have ht := h3 (n, x) (get_some_mem hg)
    obtain ⟨vc, vi, svs, hv, hc, hi⟩ := ht.ex
    obtain ⟨A1, c1, rfl, _⟩ := hc.rc.form
    obtain ⟨A2, c2, rfl, _⟩ := hi.row.rc.form
    have hv' : x.1 = _ := hv
    refine .inr ⟨x.2, A1, x.2.cols.length, c1, A2, x.2.idx.length, c2, e.symm, ?_, ?_⟩
    · have h5 : TabAt w K x.1 x.2 := ht
      rwa [hv'] at h5
    · rw [Option.map_some, hv']

set_option maxHeartbeats 1000000 in
set_option maxRecDepth 100000 in
theorem cdrop_any (K : Nat → Prop) (a m : Nat) (l : Cat) (n : ByteArray) (w : World) (h : IsC w K a m l) :
    Calls Try.prog 18 #[.pointer (some ⟨a, 0, none⟩), .string n] w fun e w' => e = .returned (.int .i64 (cdrop l n).1) ∧ IsC w' K a m (cdrop l n).2 ∧ Fr (fun k => k = m) w w' := by
  obtain ⟨ml, hm, hrel, htab⟩ := h.map
  have hc0 : w.cell? ⟨a, 0, none⟩ = some (.map (some m)) := cells_at h.blk 0 _ rfl
  have hlt := h.lt
  have hl1 := hlt.1
  have hne : a ≠ w.heap.size := by omega
  have H := Lib.hid h
  have HR := Lib.hid hrel
  have HT := Lib.hid htab
  rcases IsC.at_ hrel htab n with ⟨g1, g2⟩ | ⟨t, A1, n1, c1, A2, n2, c2, g1, g2, g3⟩
  · have Hr := Lib.hid (show cdrop l n = (141, l) by simp [cdrop, g1])
    have G2 := Lib.hid g2
    clear h hrel htab g1 g2
    go_enter Try.func18, Try.ntmps18
    go_wp2_with (first | (at_lookup; go_loud (refine wp_look rfl _ _ _ rfl hm Try.underlying87 Try.underlying9 zero41 rfl _ rfl ?_; rw [G2.out])) | fail)
    go_ret
    rw [Hr.out]
    have hf := (Fr.refl no w).alloc (.cells #[.string ⟨#[]⟩, .slice none 0 0, .int .i64 0, .slice none 0 0] 41)
    exact ⟨rfl, H.out.later hf, hf.mono (fun _ _ q => q.elim)⟩
  · have Hr := Lib.hid (show cdrop l n = (0, del l n) by simp [cdrop, g1])
    have G3 := Lib.hid g3
    clear h hrel htab g1 g2 g3
    go_enter Try.func18, Try.ntmps18
    go_wp2_with (first | (at_lookup; go_loud (refine wp_look rfl _ _ _ rfl hm Try.underlying87 Try.underlying9 zero41 rfl _ rfl ?_; rw [G3.out])) | (at_delete; go_loud (refine wp_drop rfl _ _ rfl (hm.keep ((Fr.refl no _).alloc _) id) Try.underlying87 Try.underlying9 rfl _ rfl ?_; intro w2 hm2 hf2)) | fail)
    go_ret
    rw [Hr.out]
    have hf := (Fr.refl no w).alloc (.cells #[.string t.name, .slice A1 n1 c1, .int .i64 t.key, .slice A2 n2 c2] 41)
    refine ⟨rfl, ⟨hf2.keep (hf.keep H.out.blk id) H.out.ne, ⟨del ml n, ?_, ?_, fun e he => ?_⟩, H.out.ne, H.out.nk, ?_, ?_⟩, (hf.mono (fun _ _ q => q.elim)).trans hf2 (fun _ _ q => q)⟩
    · rw [← del_mapv]; exact hm2
    · rw [← del_mapv]; exact HR.out.del n
    · exact ((HT.out e ((sub_del _ _).subset he)).keep hf (fun _ _ _ q => q)).keep hf2 (fun k _ q z => H.out.nk (z ▸ q))
    · exact Nat.le_trans (sub_del _ _).length_le H.out.few
    · exact fun p hp => H.out.good p ((sub_del _ _).subset hp)
end Go.Proofs.Ythmjjbgjbcnjmaa
