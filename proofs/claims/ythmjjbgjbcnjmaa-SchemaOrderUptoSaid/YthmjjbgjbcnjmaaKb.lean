/-
  A map's keys, sorted: from the entries of a map to what the library's contracts on slices.Sorted(maps.Keys(m)) speak of.
-/
import Derived.Test.YthmjjbgjbcnjmaaDa
import Derived.Sort.KeysCollected
namespace Go.Hop
open Go.RowKit Go.MapKept Go.Sort
open Go.WideElems (Fit rd rg rg_of rd_mk)

/-- an element that is not looked into -/
def anyE : Value → Option (DataW Unit × List MemPlace) := fun _ => some (.nil, [])
theorem MapIs.owns {P : Program} {w : World} {m : Nat} {k : TypeId} {l : List (ByteArray × Value)} (h : MapIs w m l) (hk : P.underlying k = some .string) (hl : ∀ p ∈ l, p.1.size ≤ maxLen) (hlen : l.length ≤ maxLen) :
    ∃ D : DataW Unit, w.ownsMap P k anyE m l.length D ∧ (strKeys D).Perm (l.map (fun p => bl p.1)) ∧ Maps.size D = l.length := by
  obtain ⟨es, clock, hb, hs, he⟩ := h
  have hsz : es.size = l.length := by have := congrArg List.length he; simpa using this
  have hrd : ∀ x ∈ es.toList, ∃ p ∈ l, x.key = .string p.1 ∧ rd P k anyE x = some (.string (bl p.1), .nil) := by
    intro x hx
    have hm : (x.key, x.val) ∈ l.map encE := by rw [← he]; exact List.mem_map.2 ⟨x, hx, rfl⟩
    obtain ⟨p, hp, hq⟩ := List.mem_map.1 hm
    have hkey : x.key = .string p.1 := (congrArg Prod.fst hq).symm
    refine ⟨p, hp, hkey, ?_⟩
    have := rd_mk (P := P) (k := k) (R := anyE) (key := x.key) (val := x.val) (born := x.born) (kl := .string (bl p.1)) (yv := (.nil, [])) (by rw [hkey]; exact WideMaps.keyOf_string_mk hk (hl p hp)) rfl
    exact this
  refine ⟨_, ⟨es, clock, hb, ⟨by omega, hs, fun x hx => by obtain ⟨p, _, _, h2⟩ := hrd x hx; exact ⟨_, h2⟩⟩, by omega, rfl⟩, ?_, ?_⟩
  · have h1 := (WideShapes.sorted_perm (es.toList.map (rg P k anyE))).map (fun p => strOf p.1)
    refine h1.trans ?_
    rw [List.map_map]
    have : es.toList.map ((fun p => strOf p.1) ∘ rg P k anyE) = l.map (fun p => bl p.1) := by
      have e1 : es.toList.map ((fun p => strOf p.1) ∘ rg P k anyE) = (es.toList.map (fun e => (e.key, e.val))).map (fun q => match q.1 with | .string s => bl s | _ => []) := by
        rw [List.map_map]
        refine List.map_congr_left fun x hx => ?_
        obtain ⟨p, _, hkey, h2⟩ := hrd x hx
        show strOf (rg P k anyE x).1 = _
        rw [rg_of h2]
        show bl p.1 = (match x.key with | .string s => bl s | _ => [])
        rw [hkey]
      rw [e1, he, List.map_map]
      rfl
    rw [this]
  · show ((es.toList.map (rg P k anyE)).foldr DataW.insert []).length = _
    rw [DataW.length_sorted, List.length_map]
    simpa using hsz

theorem le_of_lt' {a b : List UInt8} (h : a < b) : a ≤ b := List.le_iff_lt_or_eq.2 (.inl h)
/-- the sorted keys are those of the list in order -/
theorem sorted_names {β : Type} {al l : List (ByteArray × β)} (h : Rel al l) {ss : List (List UInt8)} (hp : ss.Perm (al.map (fun p => bl p.1))) : ss.mergeSort (fun x y => decide (x ≤ y)) = l.map (fun p => bl p.1) := by
  refine List.Perm.eq_of_pairwise (le := fun a b => decide (a ≤ b) = true) (fun a b _ _ h1 h2 => List.le_antisymm (of_decide_eq_true h1) (of_decide_eq_true h2)) ?_ ?_ ?_
  · exact List.pairwise_mergeSort (le := fun a b => decide (a ≤ b)) (fun a b c h1 h2 => decide_eq_true (List.le_trans (of_decide_eq_true h1) (of_decide_eq_true h2))) (fun a b => by
      rcases List.le_total a b with q | q <;> simp [q]) ss
  · rw [List.pairwise_map]
    exact List.Pairwise.imp (fun {a b} q => decide_eq_true (le_of_lt' q)) h.srt
  · refine (List.mergeSort_perm _ _).trans (hp.trans ?_)
    have := h.perm.map bl
    rw [List.map_map, List.map_map] at this
    exact this
end Go.Hop
