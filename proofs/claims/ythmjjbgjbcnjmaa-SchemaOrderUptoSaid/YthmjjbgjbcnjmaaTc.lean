import Derived.Test.YthmjjbgjbcnjmaaTb
namespace Go.Proofs.Ythmjjbgjbcnjmaa
open Go.RowKit Go.Hop

/-- the names seen, each once -/
def Seen (al : List (ByteArray × Value)) (ns : List ByteArray) : Prop := ∀ n, (n ∈ ns → Hop.get al n = some (Value.int .i64 1)) ∧ (n ∉ ns → Hop.get al n = none)
theorem dist_step {α : Type} (l : List α) (nm : α → ByteArray) (k : Nat) (p : α) (hp : l[k]? = some p) (hd : distB ((l.take k).map nm) = true) :
    ((nm p ∈ (l.take k).map nm ∨ namedS (nm p) = false) → distB (l.map nm) = false) ∧ (nm p ∉ (l.take k).map nm → namedS (nm p) = true → distB ((l.take (k + 1)).map nm) = true) := by
  have e : l.take (k + 1) = l.take k ++ [p] := by rw [List.take_add_one, hp]; rfl
  have hsub : ((l.take (k + 1)).map nm).Sublist (l.map nm) := (List.take_sublist _ _).map nm
  simp only [distB, Bool.and_eq_true, List.all_eq_true, decide_eq_true_eq] at hd
  refine ⟨fun h => ?_, fun h1 h2 => ?_⟩
  · rw [Bool.eq_false_iff]
    intro q
    simp only [distB, Bool.and_eq_true, List.all_eq_true, decide_eq_true_eq] at q
    rcases h with h | h
    · have q2 := q.2.sublist hsub
      rw [e, List.map_append, List.nodup_append] at q2
      exact q2.2.2 _ h _ (by simp) rfl
    · have := q.1 (nm p) (List.mem_map.2 ⟨p, List.mem_of_getElem? hp, rfl⟩)
      rw [h] at this; cases this
  · simp only [distB, Bool.and_eq_true, List.all_eq_true, decide_eq_true_eq]
    rw [e, List.map_append]
    refine ⟨fun x hx => ?_, ?_⟩
    · rcases List.mem_append.1 hx with hx | hx
      · exact hd.1 x hx
      · simp at hx; rw [hx]; exact h2
    · rw [List.nodup_append]
      refine ⟨hd.2, by simp, fun a ha b hb => ?_⟩
      simp at hb; subst hb
      intro q; subst q; exact h1 ha
theorem look_put {w : World} {m : Nat} {al : List (ByteArray × Value)} {n : ByteArray} {u : Value} (h : MapIs w m (Hop.put al n u)) : (Instr.lookup 147 (.map (some m)) (.string n) false).run Try.prog w = .ok u w := by
  have := h.look (P := Try.prog) Try.underlying147 Try.underlying9 zero3 n false
  rw [get_put, if_pos rfl] at this
  simpa using this
theorem seen_step {α : Type} (l : List α) (nm : α → ByteArray) (k : Nat) (p : α) (hp : l[k]? = some p) : (l.take (k + 1)).map nm = (l.take k).map nm ++ [nm p] := by
  have e : l.take (k + 1) = l.take k ++ [p] := by rw [List.take_add_one, hp]; rfl
  rw [e, List.map_append]; rfl

set_option maxHeartbeats 2000000 in
set_option maxRecDepth 100000 in
theorem distinct65_any (v : Value) (l : List Col) (w : World) (h : Rc w 2 v l.length (ccells l)) (hl : l.length ≤ 4611686018427387903) (hsz : ∀ p ∈ l, (Prod.fst p).size ≤ 140737488351232) :
    Calls Try.prog 65 #[v, .func (.func 66) #[] #[]] w (AsBefore w (.bool (distB (l.map Prod.fst)))) := by
  obtain ⟨A, c, rfl, hc⟩ := h.form
  have H := Lib.hid h
  have Hs := Lib.hid hsz
  have hmm := @run_makeMap Try.prog
  clear h hsz
  go_enter Try.func65, Try.ntmps65
  go_wp2_with fail
  go_loopw [12] (fun i wr => ∃ k : Nat, ∃ al, i = .int .i64 k ∧ k ≤ l.length ∧ Fr no w wr ∧ MapIs wr w.heap.size al ∧ Hid (Seen al ((l.take k).map Prod.fst)) ∧ Hid (distB ((l.take k).map Prod.fst) = true)) (fun i _ => l.length - (intOf i).toNat)
  case atStart => exact ⟨0, [], rfl, Nat.zero_le _, (Fr.refl no w).alloc _, MapIs.made w, Lib.hid (by intro n; simp [Hop.get]), Lib.hid (by simp [distB])⟩
  case round =>
    obtain ⟨k, al, rfl, hk, hfr, hm, hseen, hd⟩ := hrel
    have HFR := Lib.hid hfr
    have hmlt := hm.lt
    clear hfr
    by_cases hlt : k < l.length
    · obtain ⟨p, hp⟩ : ∃ p, l[k]? = some p := ⟨_, List.getElem?_eq_getElem hlt⟩
      obtain ⟨q1, q2⟩ := ccells_at l k p hp
      obtain ⟨b, off, rfl, e0⟩ := H.out.at_ q1
      obtain ⟨b', off', hb', e1⟩ := H.out.at_ q2
      obtain ⟨rfl, rfl⟩ : b = b' ∧ off = off' := by injection hb' with hb'; injection hb' with z1 z2; exact ⟨z1, z2⟩
      replace e0 := HFR.out.cell e0 id
      replace e1 := HFR.out.cell e1 id
      rw [← Nat.add_assoc] at e1
      clear hb' q1 q2
      have hnsz := Hs.out _ (List.mem_of_getElem? hp)
      have Hdist := Lib.hid (dist_step l Prod.fst k p hp hd.out)
      have Hmem := Lib.hid (seen_step l Prod.fst k p hp)
      have t1 : decide ((k : Int) < (l.length : Int)) = true := by simp; omega
      have t2 : decide (k < l.length) = true := by simp; omega
      have hne : w.heap.size ≠ wr.heap.size := by omega
      by_cases hin : Prod.fst p ∈ (l.take k).map Prod.fst
      · have hget : Hop.get al (Prod.fst p) = some (.int .i64 1) := (hseen.out _).1 hin
        have Hres := Lib.hid (show distB (l.map Prod.fst) = false from Hdist.out.1 (.inl hin))
        have HP := Lib.hid hp
        have HIN := Lib.hid hin
        have Hget := Lib.hid hget
        clear hin hp
        cases hnm : namedS (Prod.fst p) with
        | true =>
          go_wp2_with (first | (go_at_call 66; refine (c66_any _ _ _).mono ?_; rintro e w1 ⟨rfl, hf1⟩; have hm1 := hm.keep (((Fr.refl no wr).alloc _).trans hf1 (fun _ _ z => z)) id; have HF1 := Lib.hid hf1; clear hf1) | (at_lookup; refine wp_look rfl _ _ _ rfl hm1 Try.underlying147 Try.underlying9 zero3 rfl _ rfl ?_; rw [Hget.out]) | (at_mapUpdate; go_loud (refine wp_store rfl _ _ _ rfl hm1 Try.underlying147 Try.underlying9 rfl _ rfl (.int .i64 2) rfl ?_; intro w2 hm2 hf2; have HF2 := Lib.hid hf2; clear hf2 hm1)) | (go_at_call 64; go_loud (refine (namedS_any _ _ hnsz).mono ?_; rintro e w3 ⟨rfl, hf3⟩; rw [hnm]; have hlk := look_put (al := al) (hm2.keep hf3 id); have HF3 := Lib.hid hf3; clear hf3)) | fail)
          go_ret
          rw [Hres.out]
          exact ⟨by simp, ((((HFR.out.alloc _).trans HF1.out (fun _ _ z => z)).trans HF2.out (fun i hi q => absurd hi (by simp [q]))).trans HF3.out (fun _ _ z => z))⟩
        | false =>
          go_wp2_with (first | (go_at_call 66; refine (c66_any _ _ _).mono ?_; rintro e w1 ⟨rfl, hf1⟩; have hm1 := hm.keep (((Fr.refl no wr).alloc _).trans hf1 (fun _ _ z => z)) id; have HF1 := Lib.hid hf1; clear hf1) | (at_lookup; refine wp_look rfl _ _ _ rfl hm1 Try.underlying147 Try.underlying9 zero3 rfl _ rfl ?_; rw [Hget.out]) | (at_mapUpdate; go_loud (refine wp_store rfl _ _ _ rfl hm1 Try.underlying147 Try.underlying9 rfl _ rfl (.int .i64 2) rfl ?_; intro w2 hm2 hf2; have HF2 := Lib.hid hf2; clear hf2 hm1)) | (go_at_call 64; go_loud (refine (namedS_any _ _ hnsz).mono ?_; rintro e w3 ⟨rfl, hf3⟩; rw [hnm]; have hlk := look_put (al := al) (hm2.keep hf3 id); have HF3 := Lib.hid hf3; clear hf3)) | fail)
          go_ret
          rw [Hres.out]
          exact ⟨by simp, ((((HFR.out.alloc _).trans HF1.out (fun _ _ z => z)).trans HF2.out (fun i hi q => absurd hi (by simp [q]))).trans HF3.out (fun _ _ z => z))⟩
      · have hget : Hop.get al (Prod.fst p) = none := (hseen.out _).2 hin
        have HP := Lib.hid hp
        have HIN := Lib.hid hin
        have Hget := Lib.hid hget
        clear hin hp
        cases hnm : namedS (Prod.fst p) with
        | true =>
          have Hnext := Lib.hid (Hdist.out.2 HIN.out hnm)
          go_wp2_with (first | (go_at_call 66; refine (c66_any _ _ _).mono ?_; rintro e w1 ⟨rfl, hf1⟩; have hm1 := hm.keep (((Fr.refl no wr).alloc _).trans hf1 (fun _ _ z => z)) id; have HF1 := Lib.hid hf1; clear hf1) | (at_lookup; refine wp_look rfl _ _ _ rfl hm1 Try.underlying147 Try.underlying9 zero3 rfl _ rfl ?_; rw [Hget.out]) | (at_mapUpdate; go_loud (refine wp_store rfl _ _ _ rfl hm1 Try.underlying147 Try.underlying9 rfl _ rfl (.int .i64 1) rfl ?_; intro w2 hm2 hf2; have HF2 := Lib.hid hf2; clear hf2 hm1)) | (go_at_call 64; go_loud (refine (namedS_any _ _ hnsz).mono ?_; rintro e w3 ⟨rfl, hf3⟩; rw [hnm]; have hlk := look_put (al := al) (hm2.keep hf3 id); have HF3 := Lib.hid hf3; clear hf3)) | fail)
          go_roundw
          case rel =>
            refine ⟨k + 1, _, by go_num, by omega, ((((HFR.out.alloc _).trans HF1.out (fun _ _ z => z)).trans HF2.out (fun i hi q => absurd hi (by simp [q]))).trans HF3.out (fun _ _ z => z)), hm2.keep HF3.out id, Lib.hid ?_, Hnext⟩
            rw [Hmem.out]
            intro x
            rw [get_put]
            by_cases hx : Prod.fst p = x
            · rw [if_pos hx]
              exact ⟨fun _ => rfl, fun q => absurd (by simp [hx]) q⟩
            · rw [if_neg hx]
              have hx2 := hseen.out x
              refine ⟨fun q => hx2.1 ?_, fun q => hx2.2 (fun z => q (List.mem_append_left _ z))⟩
              rcases List.mem_append.1 q with q | q
              · exact q
              · exact (hx (List.mem_singleton.1 q).symm).elim
          case measure => simp [intOf]; omega
        | false =>
          have Hres := Lib.hid (show distB (l.map Prod.fst) = false from Hdist.out.1 (.inr hnm))
          go_wp2_with (first | (go_at_call 66; refine (c66_any _ _ _).mono ?_; rintro e w1 ⟨rfl, hf1⟩; have hm1 := hm.keep (((Fr.refl no wr).alloc _).trans hf1 (fun _ _ z => z)) id; have HF1 := Lib.hid hf1; clear hf1) | (at_lookup; refine wp_look rfl _ _ _ rfl hm1 Try.underlying147 Try.underlying9 zero3 rfl _ rfl ?_; rw [Hget.out]) | (at_mapUpdate; go_loud (refine wp_store rfl _ _ _ rfl hm1 Try.underlying147 Try.underlying9 rfl _ rfl (.int .i64 1) rfl ?_; intro w2 hm2 hf2; have HF2 := Lib.hid hf2; clear hf2 hm1)) | (go_at_call 64; go_loud (refine (namedS_any _ _ hnsz).mono ?_; rintro e w3 ⟨rfl, hf3⟩; rw [hnm]; have hlk := look_put (al := al) (hm2.keep hf3 id); have HF3 := Lib.hid hf3; clear hf3)) | fail)
          go_ret
          rw [Hres.out]
          exact ⟨by simp, ((((HFR.out.alloc _).trans HF1.out (fun _ _ z => z)).trans HF2.out (fun i hi q => absurd hi (by simp [q]))).trans HF3.out (fun _ _ z => z))⟩
    · have t1 : decide ((k : Int) < (l.length : Int)) = false := by simp; omega
      have t2 : decide (k < l.length) = false := by simp; omega
      have Hres := Lib.hid (show distB (l.map Prod.fst) = true by have := hd.out; rwa [List.take_of_length_le (by omega)] at this)
      go_wp2
      go_ret
      rw [Hres.out]
      exact ⟨rfl, HFR.out⟩

set_option maxHeartbeats 2000000 in
set_option maxRecDepth 100000 in
theorem distinct67_any (v : Value) (l : List Ix) (svs : List Value) (w : World) (h : Rc w 3 v l.length (icells l svs)) (hl : l.length ≤ 4611686018427387903) (hsz : ∀ p ∈ l, (Ix.name p).size ≤ 140737488351232) (hsv : svs.length = l.length) (hform : ∀ u ∈ svs, ∃ A n c, u = Value.slice A n c) :
    Calls Try.prog 67 #[v, .func (.func 68) #[] #[]] w (AsBefore w (.bool (distB (l.map Ix.name)))) := by
  obtain ⟨A, c, rfl, hc⟩ := h.form
  have H := Lib.hid h
  have Hs := Lib.hid hsz
  have hmm := @run_makeMap Try.prog
  clear h hsz
  go_enter Try.func67, Try.ntmps67
  go_wp2_with fail
  go_loopw [12] (fun i wr => ∃ k : Nat, ∃ al, i = .int .i64 k ∧ k ≤ l.length ∧ Fr no w wr ∧ MapIs wr w.heap.size al ∧ Hid (Seen al ((l.take k).map Ix.name)) ∧ Hid (distB ((l.take k).map Ix.name) = true)) (fun i _ => l.length - (intOf i).toNat)
  case atStart => exact ⟨0, [], rfl, Nat.zero_le _, (Fr.refl no w).alloc _, MapIs.made w, Lib.hid (by intro n; simp [Hop.get]), Lib.hid (by simp [distB])⟩
  case round =>
    obtain ⟨k, al, rfl, hk, hfr, hm, hseen, hd⟩ := hrel
    have HFR := Lib.hid hfr
    have hmlt := hm.lt
    clear hfr
    by_cases hlt : k < l.length
    · obtain ⟨p, hp⟩ : ∃ p, l[k]? = some p := ⟨_, List.getElem?_eq_getElem hlt⟩
      obtain ⟨sv, hsvk⟩ : ∃ sv, svs[k]? = some sv := ⟨_, List.getElem?_eq_getElem (by omega)⟩
      obtain ⟨q1, q2, q3⟩ := icells_at l svs k p sv hp hsvk
      obtain ⟨As, ns, cs, rfl⟩ := hform sv (List.mem_of_getElem? hsvk)
      obtain ⟨b, off, rfl, e0⟩ := H.out.at_ q1
      obtain ⟨b', off', hb', e1⟩ := H.out.at_ q2
      obtain ⟨rfl, rfl⟩ : b = b' ∧ off = off' := by injection hb' with hb'; injection hb' with z1 z2; exact ⟨z1, z2⟩
      obtain ⟨b', off', hb', e2⟩ := H.out.at_ q3
      obtain ⟨rfl, rfl⟩ : b = b' ∧ off = off' := by injection hb' with hb'; injection hb' with z1 z2; exact ⟨z1, z2⟩
      replace e0 := HFR.out.cell e0 id
      replace e1 := HFR.out.cell e1 id
      replace e2 := HFR.out.cell e2 id
      rw [← Nat.add_assoc] at e1 e2
      clear hb' q1 q2 q3 hsvk
      have hnsz := Hs.out _ (List.mem_of_getElem? hp)
      have Hdist := Lib.hid (dist_step l Ix.name k p hp hd.out)
      have Hmem := Lib.hid (seen_step l Ix.name k p hp)
      have t1 : decide ((k : Int) < (l.length : Int)) = true := by simp; omega
      have t2 : decide (k < l.length) = true := by simp; omega
      have hne : w.heap.size ≠ wr.heap.size := by omega
      by_cases hin : Ix.name p ∈ (l.take k).map Ix.name
      · have hget : Hop.get al (Ix.name p) = some (.int .i64 1) := (hseen.out _).1 hin
        have Hres := Lib.hid (show distB (l.map Ix.name) = false from Hdist.out.1 (.inl hin))
        have HP := Lib.hid hp
        have HIN := Lib.hid hin
        have Hget := Lib.hid hget
        clear hin hp
        cases hnm : namedS (Ix.name p) with
        | true =>
          go_wp2_with (first | (go_at_call 68; refine (c68_any _ _ _ _ rfl).mono ?_; rintro e w1 ⟨rfl, hf1⟩; have hm1 := hm.keep (((Fr.refl no wr).alloc _).trans hf1 (fun _ _ z => z)) id; have HF1 := Lib.hid hf1; clear hf1) | (at_lookup; refine wp_look rfl _ _ _ rfl hm1 Try.underlying147 Try.underlying9 zero3 rfl _ rfl ?_; rw [Hget.out]) | (at_mapUpdate; go_loud (refine wp_store rfl _ _ _ rfl hm1 Try.underlying147 Try.underlying9 rfl _ rfl (.int .i64 2) rfl ?_; intro w2 hm2 hf2; have HF2 := Lib.hid hf2; clear hf2 hm1)) | (go_at_call 64; go_loud (refine (namedS_any _ _ hnsz).mono ?_; rintro e w3 ⟨rfl, hf3⟩; rw [hnm]; have hlk := look_put (al := al) (hm2.keep hf3 id); have HF3 := Lib.hid hf3; clear hf3)) | fail)
          go_ret
          rw [Hres.out]
          exact ⟨by simp, ((((HFR.out.alloc _).trans HF1.out (fun _ _ z => z)).trans HF2.out (fun i hi q => absurd hi (by simp [q]))).trans HF3.out (fun _ _ z => z))⟩
        | false =>
          go_wp2_with (first | (go_at_call 68; refine (c68_any _ _ _ _ rfl).mono ?_; rintro e w1 ⟨rfl, hf1⟩; have hm1 := hm.keep (((Fr.refl no wr).alloc _).trans hf1 (fun _ _ z => z)) id; have HF1 := Lib.hid hf1; clear hf1) | (at_lookup; refine wp_look rfl _ _ _ rfl hm1 Try.underlying147 Try.underlying9 zero3 rfl _ rfl ?_; rw [Hget.out]) | (at_mapUpdate; go_loud (refine wp_store rfl _ _ _ rfl hm1 Try.underlying147 Try.underlying9 rfl _ rfl (.int .i64 2) rfl ?_; intro w2 hm2 hf2; have HF2 := Lib.hid hf2; clear hf2 hm1)) | (go_at_call 64; go_loud (refine (namedS_any _ _ hnsz).mono ?_; rintro e w3 ⟨rfl, hf3⟩; rw [hnm]; have hlk := look_put (al := al) (hm2.keep hf3 id); have HF3 := Lib.hid hf3; clear hf3)) | fail)
          go_ret
          rw [Hres.out]
          exact ⟨by simp, ((((HFR.out.alloc _).trans HF1.out (fun _ _ z => z)).trans HF2.out (fun i hi q => absurd hi (by simp [q]))).trans HF3.out (fun _ _ z => z))⟩
      · have hget : Hop.get al (Ix.name p) = none := (hseen.out _).2 hin
        have HP := Lib.hid hp
        have HIN := Lib.hid hin
        have Hget := Lib.hid hget
        clear hin hp
        cases hnm : namedS (Ix.name p) with
        | true =>
          have Hnext := Lib.hid (Hdist.out.2 HIN.out hnm)
          go_wp2_with (first | (go_at_call 68; refine (c68_any _ _ _ _ rfl).mono ?_; rintro e w1 ⟨rfl, hf1⟩; have hm1 := hm.keep (((Fr.refl no wr).alloc _).trans hf1 (fun _ _ z => z)) id; have HF1 := Lib.hid hf1; clear hf1) | (at_lookup; refine wp_look rfl _ _ _ rfl hm1 Try.underlying147 Try.underlying9 zero3 rfl _ rfl ?_; rw [Hget.out]) | (at_mapUpdate; go_loud (refine wp_store rfl _ _ _ rfl hm1 Try.underlying147 Try.underlying9 rfl _ rfl (.int .i64 1) rfl ?_; intro w2 hm2 hf2; have HF2 := Lib.hid hf2; clear hf2 hm1)) | (go_at_call 64; go_loud (refine (namedS_any _ _ hnsz).mono ?_; rintro e w3 ⟨rfl, hf3⟩; rw [hnm]; have hlk := look_put (al := al) (hm2.keep hf3 id); have HF3 := Lib.hid hf3; clear hf3)) | fail)
          go_roundw
          case rel =>
            refine ⟨k + 1, _, by go_num, by omega, ((((HFR.out.alloc _).trans HF1.out (fun _ _ z => z)).trans HF2.out (fun i hi q => absurd hi (by simp [q]))).trans HF3.out (fun _ _ z => z)), hm2.keep HF3.out id, Lib.hid ?_, Hnext⟩
            rw [Hmem.out]
            intro x
            rw [get_put]
            by_cases hx : Ix.name p = x
            · rw [if_pos hx]
              exact ⟨fun _ => rfl, fun q => absurd (by simp [hx]) q⟩
            · rw [if_neg hx]
              have hx2 := hseen.out x
              refine ⟨fun q => hx2.1 ?_, fun q => hx2.2 (fun z => q (List.mem_append_left _ z))⟩
              rcases List.mem_append.1 q with q | q
              · exact q
              · exact (hx (List.mem_singleton.1 q).symm).elim
          case measure => simp [intOf]; omega
        | false =>
          have Hres := Lib.hid (show distB (l.map Ix.name) = false from Hdist.out.1 (.inr hnm))
          go_wp2_with (first | (go_at_call 68; refine (c68_any _ _ _ _ rfl).mono ?_; rintro e w1 ⟨rfl, hf1⟩; have hm1 := hm.keep (((Fr.refl no wr).alloc _).trans hf1 (fun _ _ z => z)) id; have HF1 := Lib.hid hf1; clear hf1) | (at_lookup; refine wp_look rfl _ _ _ rfl hm1 Try.underlying147 Try.underlying9 zero3 rfl _ rfl ?_; rw [Hget.out]) | (at_mapUpdate; go_loud (refine wp_store rfl _ _ _ rfl hm1 Try.underlying147 Try.underlying9 rfl _ rfl (.int .i64 1) rfl ?_; intro w2 hm2 hf2; have HF2 := Lib.hid hf2; clear hf2 hm1)) | (go_at_call 64; go_loud (refine (namedS_any _ _ hnsz).mono ?_; rintro e w3 ⟨rfl, hf3⟩; rw [hnm]; have hlk := look_put (al := al) (hm2.keep hf3 id); have HF3 := Lib.hid hf3; clear hf3)) | fail)
          go_ret
          rw [Hres.out]
          exact ⟨by simp, ((((HFR.out.alloc _).trans HF1.out (fun _ _ z => z)).trans HF2.out (fun i hi q => absurd hi (by simp [q]))).trans HF3.out (fun _ _ z => z))⟩
    · have t1 : decide ((k : Int) < (l.length : Int)) = false := by simp; omega
      have t2 : decide (k < l.length) = false := by simp; omega
      have Hres := Lib.hid (show distB (l.map Ix.name) = true by have := hd.out; rwa [List.take_of_length_le (by omega)] at this)
      go_wp2
      go_ret
      rw [Hres.out]
      exact ⟨rfl, HFR.out⟩
end Go.Proofs.Ythmjjbgjbcnjmaa
