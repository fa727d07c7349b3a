/-
  Catalogues in plain Lean: in whatever order schemas are created. No program's step stands here.
-/
import Derived.Test.YthmjjbgjbcnjmaaTg
namespace Go.Proofs.Ythmjjbgjbcnjmaa
open Go.RowKit Go.Hop

theorem srt_ext {β : Type} : ∀ {l l' : List (ByteArray × β)}, Srt l → Srt l' → (∀ k, Hop.get l k = Hop.get l' k) → l = l'
  | [], [], _, _, _ => rfl
  | [], (a, b) :: t, _, _, h => by have := h a; simp [Hop.get] at this
  | (a, b) :: t, [], _, _, h => by have := h a; simp [Hop.get] at this
  | (a, b) :: t, (a', b') :: t', h1, h2, h => by
    have s1 := List.pairwise_cons.1 h1
    have s2 := List.pairwise_cons.1 h2
    have ea : a = a' := by
      by_cases e : a = a'
      · exact e
      · exfalso
        by_cases q : bl a < bl a'
        · have := h a
          have g0 : Hop.get ((a', b') :: t') a = none := get_above (fun z hz => by
            rcases List.mem_cons.1 hz with rfl | hz
            · exact q
            · exact lt_trans' q (s2.1 z hz))
          rw [g0] at this
          simp [Hop.get] at this
        · have q' := lt_tri a a' e q
          have := h a'
          have g0 : Hop.get ((a, b) :: t) a' = none := get_above (fun z hz => by
            rcases List.mem_cons.1 hz with rfl | hz
            · exact q'
            · exact lt_trans' q' (s1.1 z hz))
          rw [g0] at this
          simp [Hop.get] at this
    subst ea
    have eb : b = b' := by have := h a; simpa [Hop.get] using this
    subst eb
    have et : t = t' := srt_ext s1.2 s2.2 (fun k => by
      have hk := h k
      simp only [Hop.get] at hk
      by_cases e : a = k
      · subst e
        rw [get_above (fun z hz => s1.1 z hz), get_above (fun z hz => s2.1 z hz)]
      · rwa [if_neg e, if_neg e] at hk)
    rw [et]

theorem len_sput' {β : Type} (l : List (ByteArray × β)) (k : ByteArray) (v : β) : (sput l k v).length ≤ l.length + 1 := by
  induction l with
  | nil => simp [sput]
  | cons p t ih =>
    obtain ⟨a, b⟩ := p
    simp only [sput]
    split
    · simp
    · split
      · simp only [List.length_cons]; omega
      · simp

/-! ### Creating many -/
def createAll (c : Cat) (l : List Tab) : Cat := l.foldl (fun c t => (ccreate c t).2) c
def hit (n : ByteArray) (t : Tab) : Bool := decide (t.name = n) && checkT t
theorem srt_create {c : Cat} (h : Srt c) (t : Tab) : Srt (ccreate c t).2 := by
  unfold ccreate
  split
  · exact h
  · split
    · exact h
    · split
      · exact h
      · exact h.sput _ _
theorem len_create (c : Cat) (t : Tab) : (ccreate c t).2.length ≤ c.length + 1 := by
  unfold ccreate
  split
  · exact Nat.le_succ _
  · split
    · exact Nat.le_succ _
    · split
      · exact Nat.le_succ _
      · exact len_sput' _ _ _
theorem get_create {c : Cat} (h : Srt c) (hl : c.length < 4096) (t : Tab) (n : ByteArray) : Hop.get (ccreate c t).2 n = (Hop.get c n).or (if hit n t then some t else none) := by
  unfold ccreate hit
  by_cases h1 : checkT t = false
  · rw [if_pos h1]; simp [h1]
  · rw [if_neg h1]
    have h1' : checkT t = true := by simpa using h1
    by_cases h2 : Hop.get c t.name ≠ none
    · rw [if_pos h2]
      by_cases e : t.name = n
      · subst e
        obtain ⟨x, hx⟩ := Option.ne_none_iff_exists'.1 h2
        simp [hx]
      · simp [e]
    · rw [if_neg h2, if_neg (by omega)]
      have h2' : Hop.get c t.name = none := by simpa using h2
      show Hop.get (sput c t.name t) n = _
      rw [get_sput h]
      by_cases e : t.name = n
      · subst e
        simp [h2', h1']
      · simp [e]
theorem createAll_srt : ∀ (l : List Tab) {c : Cat}, Srt c → Srt (createAll c l)
  | [], _, h => h
  | t :: l, _, h => createAll_srt l (srt_create h t)
theorem createAll_len : ∀ (l : List Tab) (c : Cat), (createAll c l).length ≤ c.length + l.length
  | [], _ => Nat.le_refl _
  | t :: l, c => by
    have h1 := createAll_len l (ccreate c t).2
    have h2 := len_create c t
    show (createAll (ccreate c t).2 l).length ≤ _
    simp only [List.length_cons]; omega
theorem get_createAll : ∀ (l : List Tab) {c : Cat}, Srt c → c.length + l.length ≤ 4096 → ∀ n, Hop.get (createAll c l) n = (Hop.get c n).or (l.find? (hit n))
  | [], c, _, _, n => by simp [createAll]
  | t :: l, c, h, hl, n => by
    have h2 := len_create c t
    simp only [List.length_cons] at hl
    show Hop.get (createAll (ccreate c t).2 l) n = _
    rw [get_createAll l (srt_create h t) (by omega) n, get_create h (by omega), List.find?_cons]
    cases Hop.get c n <;> cases hit n t <;> simp
theorem find_unique {α : Type} {l l' : List α} {p : α → Bool} (hm : ∀ x, x ∈ l ↔ x ∈ l') (hu : ∀ a ∈ l, ∀ b ∈ l, p a = true → p b = true → a = b) : l.find? p = l'.find? p := by
  cases h : l.find? p with
  | none =>
    rw [List.find?_eq_none] at h
    exact (List.find?_eq_none.2 (fun x hx => h x ((hm x).2 hx))).symm
  | some a =>
    have ha := List.find?_some h
    have hma := List.mem_of_find?_eq_some h
    cases h' : l'.find? p with
    | none =>
      rw [List.find?_eq_none] at h'
      exact absurd ha (h' a ((hm a).1 hma))
    | some b =>
      have hb := List.find?_some h'
      have hmb := (hm b).2 (List.mem_of_find?_eq_some h')
      rw [hu a hma b hmb ha hb]
theorem eq_of_nodup_map {α β : Type} {f : α → β} : ∀ {l : List α}, (l.map f).Nodup → ∀ {a b : α}, a ∈ l → b ∈ l → f a = f b → a = b
  | [], _, _, _, ha, _, _ => by cases ha
  | x :: l, h, a, b, ha, hb, e => by
    rw [List.map_cons, List.nodup_cons] at h
    rcases List.mem_cons.1 ha with ea | ha1
    · rcases List.mem_cons.1 hb with eb | hb1
      · rw [ea, eb]
      · exact absurd (List.mem_map.2 ⟨b, hb1, by rw [← e, ea]⟩) h.1
    · rcases List.mem_cons.1 hb with eb | hb1
      · exact absurd (List.mem_map.2 ⟨a, ha1, by rw [e, eb]⟩) h.1
      · exact eq_of_nodup_map h.2 ha1 hb1 e
theorem order_law (l : List Tab) (x : Tab) (hn : (l.map Tab.name).Nodup) (hd : ∀ t ∈ l, t.name ≠ x.name) (hl : l.length ≤ 20) :
    (cdrop (createAll (ccreate [] x).2 l.reverse) x.name).2 = createAll [] l ∧ ((cdrop (createAll (ccreate [] x).2 l.reverse) x.name).1 = 0 ↔ (ccreate [] x).1 = 0) := by
  have s0 : Srt ([] : Cat) := List.Pairwise.nil
  have s1 : Srt (ccreate [] x).2 := srt_create s0 x
  have l1 : (ccreate [] x).2.length ≤ 1 := len_create [] x
  have s2 : Srt (createAll (ccreate [] x).2 l.reverse) := createAll_srt _ s1
  have sA : Srt (createAll [] l) := createAll_srt _ s0
  have gA : ∀ n, Hop.get (createAll [] l) n = l.find? (hit n) := fun n => by
    rw [get_createAll l s0 (by simp; omega)]; simp [Hop.get]
  have gB : ∀ n, Hop.get (createAll (ccreate [] x).2 l.reverse) n = (if hit n x then some x else none).or (l.find? (hit n)) := fun n => by
    rw [get_createAll _ s1 (by simp; omega), get_create s0 (by simp)]
    have : l.reverse.find? (hit n) = l.find? (hit n) := find_unique (fun y => List.mem_reverse) (fun a ha b hb h1 h2 => by
      have e : a.name = b.name := by
        simp only [hit, Bool.and_eq_true, decide_eq_true_eq] at h1 h2
        rw [h1.1, h2.1]
      have ha' := List.mem_reverse.1 ha
      have hb' := List.mem_reverse.1 hb
      exact eq_of_nodup_map hn ha' hb' e)
    rw [this]
    simp [Hop.get]
  have gx : l.find? (hit x.name) = none := List.find?_eq_none.2 (fun t ht => by simp [hit, hd t ht])
  have hx : Hop.get (createAll (ccreate [] x).2 l.reverse) x.name = if checkT x = true then some x else none := by
    rw [gB, gx]; simp [hit]
  have e1 : (ccreate [] x).1 = 0 ↔ checkT x = true := by
    unfold ccreate
    cases checkT x <;> simp [Hop.get]
  unfold cdrop
  cases hc : checkT x with
  | false =>
    rw [hc] at hx
    rw [if_pos (by simpa using hx)]
    refine ⟨srt_ext s2 sA (fun n => ?_), ?_⟩
    · rw [gB, gA]; simp [hit, hc]
    · rw [e1, hc]; simp
  | true =>
    rw [hc] at hx
    rw [if_neg (by rw [hx]; simp)]
    refine ⟨srt_ext (s2.del _) sA (fun n => ?_), ?_⟩
    · rw [get_del s2.nodup, gB, gA]
      by_cases e : x.name = n
      · subst e; simp [gx]
      · simp [hit, e]
    · rw [e1, hc]; simp
end Go.Proofs.Ythmjjbgjbcnjmaa
