/-
  The disk's plain meaning: files in the order of their names, a fuse, whether it is down. No Go and no memory here.
-/
import Derived.Test.YthmjjbgjbcnjmaaKa
import Derived.Lib.Strings
namespace Go.Hop

/-- the bytes of a string, as a list -/
abbrev bl (s : ByteArray) : List UInt8 := s.data.toList
theorem bl_inj {a b : ByteArray} (h : bl a = bl b) : a = b := by
  obtain ⟨⟨x⟩⟩ := a; obtain ⟨⟨y⟩⟩ := b
  simp only [bl] at h
  rw [h]

/-! ### 1. Lists in the order of their names -/
section
variable {β : Type}
def sput : List (ByteArray × β) → ByteArray → β → List (ByteArray × β)
  | [], k, v => [(k, v)]
  | (a, b) :: t, k, v => if a = k then (k, v) :: t else if bl a < bl k then (a, b) :: sput t k v else (k, v) :: (a, b) :: t
def Srt (l : List (ByteArray × β)) : Prop := l.Pairwise (fun p q => bl p.1 < bl q.1)
/-- the same entries: a map's, in whatever order, and those of a list in order -/
structure Rel (al l : List (ByteArray × β)) : Prop where
  nd : (al.map (·.1)).Nodup
  srt : Srt l
  eq : ∀ k, get al k = get l k

theorem lt_irrefl' (a : List UInt8) : ¬ a < a := List.lt_irrefl a
theorem lt_trans' {a b c : List UInt8} (h : a < b) (k : b < c) : a < c := List.lt_trans h k
theorem lt_tri (a b : ByteArray) (h : a ≠ b) (h2 : ¬ bl a < bl b) : bl b < bl a := by
  rcases List.le_iff_lt_or_eq.1 (List.not_lt.1 h2) with q | q
  · exact q
  · exact absurd (bl_inj q).symm h

theorem get_some_mem {l : List (ByteArray × β)} {k : ByteArray} {v : β} (h : get l k = some v) : (k, v) ∈ l := by
  induction l with
  | nil => cases h
  | cons p t ih =>
    obtain ⟨a, b⟩ := p
    simp only [get] at h
    split at h
    · rename_i e; injection h with h; subst h; subst e; exact List.mem_cons_self
    · exact List.mem_cons_of_mem _ (ih h)
theorem get_none_iff {l : List (ByteArray × β)} {k : ByteArray} : get l k = none ↔ k ∉ l.map (·.1) := by
  induction l with
  | nil => simp [get]
  | cons p t ih =>
    obtain ⟨a, b⟩ := p
    simp only [get, List.map_cons, List.mem_cons]
    by_cases e : a = k
    · simp [e]
    · have : ¬ k = a := fun q => e q.symm
      simp [e, this, ih]
theorem get_of_mem {l : List (ByteArray × β)} (hn : (l.map (·.1)).Nodup) {k : ByteArray} {v : β} (h : (k, v) ∈ l) : get l k = some v := by
  induction l with
  | nil => cases h
  | cons p t ih =>
    obtain ⟨a, b⟩ := p
    simp only [List.map_cons, List.nodup_cons] at hn
    simp only [get]
    cases h with
    | head => simp
    | tail _ h =>
      have hm : k ∈ t.map (·.1) := List.mem_map.2 ⟨(k, v), h, rfl⟩
      rw [if_neg (fun e => by subst e; exact hn.1 hm)]
      exact ih hn.2 h
theorem Srt.nodup {l : List (ByteArray × β)} (h : Srt l) : (l.map (·.1)).Nodup := by
  unfold Srt at h
  rw [List.Nodup, List.pairwise_map]
  exact h.imp (fun {a b} q e => by rw [e] at q; exact lt_irrefl' _ q)
theorem get_put (l : List (ByteArray × β)) (k : ByteArray) (v : β) (k' : ByteArray) : get (put l k v) k' = if k = k' then some v else get l k' := by
  induction l with
  | nil => simp [put, get]
  | cons p t ih =>
    obtain ⟨a, b⟩ := p
    simp only [put]
    by_cases e : a = k
    · subst e; simp only [if_true, get]; split <;> simp_all
    · rw [if_neg e]; simp only [get, ih]
      by_cases e2 : a = k'
      · subst e2; rw [if_pos rfl, if_pos rfl, if_neg (fun q => e q.symm)]
      · rw [if_neg e2, if_neg e2]
theorem keys_put (l : List (ByteArray × β)) (k : ByteArray) (v : β) : (put l k v).map (·.1) = if (get l k).isSome then l.map (·.1) else l.map (·.1) ++ [k] := by
  induction l with
  | nil => simp [put, get]
  | cons p t ih =>
    obtain ⟨a, b⟩ := p
    by_cases e : a = k
    · subst e; simp [put, get]
    · have h1 : put ((a, b) :: t) k v = (a, b) :: put t k v := by simp [put, e]
      have h2 : get ((a, b) :: t) k = get t k := by simp [get, e]
      rw [h1, List.map_cons, ih, h2]
      split <;> simp
theorem nodup_put {l : List (ByteArray × β)} (h : (l.map (·.1)).Nodup) (k : ByteArray) (v : β) : ((put l k v).map (·.1)).Nodup := by
  rw [keys_put]
  split
  · exact h
  · rename_i q
    have q' : get l k = none := by cases hg : get l k <;> simp [hg] at q ⊢
    rw [get_none_iff] at q'
    rw [List.nodup_append]
    exact ⟨h, by simp, fun a ha b hb => by simp at hb; subst hb; exact fun e => q' (e ▸ ha)⟩
theorem sub_del (l : List (ByteArray × β)) (k : ByteArray) : (del l k).Sublist l := by
  induction l with
  | nil => exact List.Sublist.refl _
  | cons p t ih =>
    obtain ⟨a, b⟩ := p
    simp only [del]
    split
    · exact List.sublist_cons_self _ _
    · exact ih.cons_cons _
theorem nodup_del {l : List (ByteArray × β)} (h : (l.map (·.1)).Nodup) (k : ByteArray) : ((del l k).map (·.1)).Nodup := ((sub_del l k).map _).nodup h
theorem get_del {l : List (ByteArray × β)} (h : (l.map (·.1)).Nodup) (k k' : ByteArray) : get (del l k) k' = if k = k' then none else get l k' := by
  induction l with
  | nil => simp [del, get]
  | cons p t ih =>
    obtain ⟨a, b⟩ := p
    simp only [List.map_cons, List.nodup_cons] at h
    simp only [del]
    by_cases e : a = k
    · subst e
      rw [if_pos rfl]
      simp only [get]
      by_cases e2 : a = k'
      · subst e2; rw [if_pos rfl]; exact get_none_iff.2 h.1
      · rw [if_neg e2, if_neg e2]
    · rw [if_neg e]; simp only [get, ih h.2]
      by_cases e2 : a = k'
      · subst e2; rw [if_pos rfl, if_pos rfl, if_neg (fun q => e q.symm)]
      · rw [if_neg e2, if_neg e2]
theorem Srt.del {l : List (ByteArray × β)} (h : Srt l) (k : ByteArray) : Srt (del l k) := h.sublist (sub_del l k)
theorem mem_sput {l : List (ByteArray × β)} {k : ByteArray} {v : β} {q : ByteArray × β} (h : q ∈ sput l k v) : q = (k, v) ∨ q ∈ l := by
  induction l with
  | nil => simp [sput] at h; exact .inl h
  | cons p t ih =>
    obtain ⟨a, b⟩ := p
    simp only [sput] at h
    split at h
    · cases h with
      | head => exact .inl rfl
      | tail _ h => exact .inr (List.mem_cons_of_mem _ h)
    · split at h
      · cases h with
        | head => exact .inr List.mem_cons_self
        | tail _ h => exact (ih h).imp id (List.mem_cons_of_mem _)
      · cases h with
        | head => exact .inl rfl
        | tail _ h => exact .inr h
theorem Srt.sput {l : List (ByteArray × β)} (h : Srt l) (k : ByteArray) (v : β) : Srt (sput l k v) := by
  induction l with
  | nil => simp [Hop.sput, Srt]
  | cons p t ih =>
    obtain ⟨a, b⟩ := p
    have h1 := List.pairwise_cons.1 h
    simp only [Hop.sput]
    split
    · rename_i e; subst e
      exact List.pairwise_cons.2 ⟨h1.1, h1.2⟩
    · rename_i e
      split
      · rename_i e2
        refine List.pairwise_cons.2 ⟨fun q hq => ?_, ih h1.2⟩
        rcases mem_sput hq with rfl | hq
        · exact e2
        · exact h1.1 q hq
      · rename_i e2
        have hk := lt_tri a k e e2
        refine List.pairwise_cons.2 ⟨fun q hq => ?_, h⟩
        cases hq with
        | head => exact hk
        | tail _ hq => exact lt_trans' hk (h1.1 q hq)
theorem get_above {l : List (ByteArray × β)} {k : ByteArray} (h : ∀ q ∈ l, bl k < bl q.1) : get l k = none := by
  rw [get_none_iff]
  intro hm
  obtain ⟨q, hq, rfl⟩ := List.mem_map.1 hm
  exact lt_irrefl' _ (h q hq)
theorem get_sput {l : List (ByteArray × β)} (h : Srt l) (k : ByteArray) (v : β) (k' : ByteArray) : get (sput l k v) k' = if k = k' then some v else get l k' := by
  induction l with
  | nil => simp [sput, get]
  | cons p t ih =>
    obtain ⟨a, b⟩ := p
    have h1 := List.pairwise_cons.1 h
    simp only [sput]
    by_cases e : a = k
    · subst e; rw [if_pos rfl]; simp only [get]; split <;> simp_all
    · rw [if_neg e]
      by_cases e2 : bl a < bl k
      · rw [if_pos e2]; simp only [get, ih h1.2]
        by_cases e3 : a = k'
        · subst e3; rw [if_pos rfl, if_pos rfl, if_neg (fun q => e q.symm)]
        · rw [if_neg e3, if_neg e3]
      · rw [if_neg e2]; simp only [get]
theorem Rel.put {al l : List (ByteArray × β)} (h : Rel al l) (k : ByteArray) (v : β) : Rel (put al k v) (sput l k v) :=
  ⟨nodup_put h.nd k v, h.srt.sput k v, fun k' => by rw [get_put, get_sput h.srt, h.eq]⟩
theorem Rel.del {al l : List (ByteArray × β)} (h : Rel al l) (k : ByteArray) : Rel (del al k) (del l k) :=
  ⟨nodup_del h.nd k, h.srt.del k, fun k' => by rw [get_del h.nd, get_del h.srt.nodup, h.eq]⟩
theorem Rel.perm {al l : List (ByteArray × β)} (h : Rel al l) : (al.map (·.1)).Perm (l.map (·.1)) := by
  rw [List.perm_ext_iff_of_nodup h.nd h.srt.nodup]
  intro k
  have h1 : k ∉ al.map (·.1) ↔ k ∉ l.map (·.1) := by rw [← get_none_iff, ← get_none_iff, h.eq]
  exact ⟨fun h => Classical.byContradiction (fun q => h1.2 q h), fun h => Classical.byContradiction (fun q => h1.1 q h)⟩
theorem Rel.length {al l : List (ByteArray × β)} (h : Rel al l) : al.length = l.length := by simpa using h.perm.length_eq
theorem Rel.nil : Rel ([] : List (ByteArray × β)) [] := ⟨by simp, List.Pairwise.nil, fun _ => rfl⟩
end

/-! ### 2. The disk -/
def okByte (c : UInt8) : Bool := (decide (97 ≤ c.toNat) && decide (c.toNat ≤ 122)) || ((decide (48 ≤ c.toNat) && decide (c.toNat ≤ 57)) || c.toNat == 46)
def named (s : ByteArray) : Bool := decide (0 < s.size) && (decide (s.size ≤ 32) && (bl s).all okByte)

theorem named_size {s : ByteArray} (h : named s = true) : s.size ≤ 32 := by
  simp only [named, Bool.and_eq_true, decide_eq_true_eq] at h
  exact h.2.1

abbrev File := ByteArray × Int
structure DSt where
  files : List (ByteArray × File)
  fuse : Option Nat
  down : Bool
def DSt.new : DSt := ⟨[], none, false⟩

def chg (s : DSt) : Bool × DSt :=
  if s.down = true ∨ s.fuse = some 0 then (false, { s with down := true }) else (true, { s with fuse := s.fuse.map (· - 1) })

def fileAt (s : DSt) (name : ByteArray) : File := (get s.files name).getD (⟨#[]⟩, 0)

def dappend (s : DSt) (name data : ByteArray) : Int × DSt :=
  if named name = false then (10, s)
  else if 262144 < (fileAt s name).1.size + data.size ∨ (get s.files name = none ∧ 64 ≤ s.files.length) then (2, s)
  else if (chg s).1 = false then (11, (chg s).2)
  else (0, { (chg s).2 with files := sput s.files name ((fileAt s name).1 ++ data, (fileAt s name).2) })

def dknown (s : DSt) (name : ByteArray) : Int := if named name = false then 10 else if get s.files name = none then 5 else 0
def dalter (s : DSt) (name : ByteArray) : Int × DSt :=
  if dknown s name = 0 then (if (chg s).1 = false then (11, (chg s).2) else (0, (chg s).2)) else (dknown s name, s)
def dsync (s : DSt) (name : ByteArray) : Int × DSt :=
  ((dalter s name).1, if (dalter s name).1 = 0 then { (dalter s name).2 with files := sput s.files name ((fileAt s name).1, (fileAt s name).1.size) } else (dalter s name).2)
def drename (s : DSt) (a b : ByteArray) : Int × DSt :=
  if named a = false ∨ named b = false then (10, s)
  else ((dalter s a).1, if (dalter s a).1 = 0 then (if a = b then (dalter s a).2 else { (dalter s a).2 with files := sput (del s.files a) b (fileAt s a) }) else (dalter s a).2)
def dremove (s : DSt) (name : ByteArray) : Int × DSt :=
  ((dalter s name).1, if (dalter s name).1 = 0 then { (dalter s name).2 with files := del s.files name } else (dalter s name).2)
def dread (s : DSt) (name : ByteArray) : ByteArray × Int := (if dknown s name = 0 then (fileAt s name).1 else ⟨#[]⟩, dknown s name)
def dfuse (s : DSt) (n : Int) : Int × DSt := if n < 0 then (1, s) else (0, { s with fuse := some n.toNat })
/-- what is torn of a file, by a draw -/
def torn (f : File) (d : Int) : File := let k := f.2 + (max 0 d) % ((f.1.size : Int) - f.2 + 1); (f.1.extract 0 k.toNat, k)
def tear : List (ByteArray × File) → List Int → List (ByteArray × File)
  | [], _ => []
  | (k, f) :: t, ds => if (f.1.size : Int) - f.2 = 0 then (k, f) :: tear t ds else (k, torn f (ds.headD 0)) :: tear t ds.tail
def dcrash (s : DSt) (ds : List Int) : Int × DSt := if 4096 < ds.length then (2, s) else (0, ⟨tear s.files ds, none, false⟩)

/-- what holds of every disk -/
structure DSt.Ok (s : DSt) : Prop where
  srt : Srt s.files
  few : s.files.length ≤ 64
  fit : ∀ p ∈ s.files, p.2.1.size ≤ 262144 ∧ 0 ≤ p.2.2 ∧ p.2.2 ≤ p.2.1.size
  nam : ∀ p ∈ s.files, p.1.size ≤ 32
  short : s.fuse.getD 0 ≤ 9223372036854775807
theorem DSt.Ok.new : DSt.new.Ok := ⟨List.Pairwise.nil, by simp [DSt.new], by simp [DSt.new], by simp [DSt.new], by simp [DSt.new]⟩
theorem chg_files (s : DSt) : (chg s).2.files = s.files := by unfold chg; split <;> rfl
theorem DSt.Ok.chg {s : DSt} (h : s.Ok) : (chg s).2.Ok := by
  refine ⟨by rw [chg_files]; exact h.srt, by rw [chg_files]; exact h.few, by rw [chg_files]; exact h.fit, by rw [chg_files]; exact h.nam, ?_⟩
  have := h.short
  unfold Hop.chg
  split
  · exact this
  · cases hf : s.fuse with
    | none => simp
    | some n => simp [hf] at this ⊢; omega
theorem DSt.Ok.file {s : DSt} (h : s.Ok) (name : ByteArray) : (fileAt s name).1.size ≤ 262144 ∧ 0 ≤ (fileAt s name).2 ∧ (fileAt s name).2 ≤ (fileAt s name).1.size := by
  unfold fileAt
  cases hg : get s.files name with
  | none => exact ⟨Nat.zero_le _, Int.le_refl _, Int.natCast_nonneg _⟩
  | some f => exact h.fit _ (get_some_mem hg)

/-! ### 3. A crash, file by file -/
def tstep (f : File) (ds : List Int) : File × List Int := if (f.1.size : Int) - f.2 = 0 then (f, ds) else (torn f (ds.headD 0), ds.tail)
def tearN : Nat → List (ByteArray × File) → List Int → List (ByteArray × File) × List Int
  | 0, fs, ds => (fs, ds)
  | _ + 1, [], ds => ([], ds)
  | k + 1, (n, f) :: t, ds => ((n, (tstep f ds).1) :: (tearN k t (tstep f ds).2).1, (tearN k t (tstep f ds).2).2)
theorem tearN_all : ∀ (fs : List (ByteArray × File)) (ds : List Int), (tearN fs.length fs ds).1 = tear fs ds
  | [], _ => rfl
  | (n, f) :: t, ds => by
    simp only [List.length_cons, tearN, tear, tstep]
    split
    · rw [tearN_all t]
    · rw [tearN_all t]
theorem tearN_keys : ∀ (k : Nat) (fs : List (ByteArray × File)) (ds : List Int), (tearN k fs ds).1.map (·.1) = fs.map (·.1)
  | 0, _, _ => rfl
  | _ + 1, [], _ => rfl
  | k + 1, (n, f) :: t, ds => by simp [tearN, tearN_keys k t]
theorem tearN_get : ∀ (k : Nat) (fs : List (ByteArray × File)) (ds : List Int) (p : ByteArray × File), fs[k]? = some p → (tearN k fs ds).1[k]? = some p
  | 0, _, _, _, h => h
  | _ + 1, [], _, _, h => by simp at h
  | k + 1, (n, f) :: t, ds, p, h => by simpa [tearN] using tearN_get k t (tstep f ds).2 p (by simpa using h)
theorem tearN_succ : ∀ (k : Nat) (fs : List (ByteArray × File)) (ds : List Int) (p : ByteArray × File), fs[k]? = some p →
    tearN (k + 1) fs ds = ((tearN k fs ds).1.set k (p.1, (tstep p.2 (tearN k fs ds).2).1), (tstep p.2 (tearN k fs ds).2).2)
  | _, [], _, _, h => by simp at h
  | 0, (n, f) :: t, ds, p, h => by
    simp only [List.getElem?_cons_zero, Option.some.injEq] at h
    subst h
    simp [tearN]
  | k + 1, (n, f) :: t, ds, p, h => by
    have ih := tearN_succ k t (tstep f ds).2 p (by simpa using h)
    rw [tearN, ih]
    simp [tearN]
theorem tearN_len (k : Nat) (fs : List (ByteArray × File)) (ds : List Int) : (tearN k fs ds).1.length = fs.length := by
  have := congrArg List.length (tearN_keys k fs ds)
  simpa using this
theorem Srt.of_keys {β : Type} {l l' : List (ByteArray × β)} (h : Srt l) (e : l'.map (·.1) = l.map (·.1)) : Srt l' := by
  have h1 : (l.map (·.1)).Pairwise (fun a b => bl a < bl b) := by rw [List.pairwise_map]; exact h
  rw [← e, List.pairwise_map] at h1
  exact h1
theorem sput_at {β : Type} : ∀ {l : List (ByteArray × β)} (_ : Srt l) (k : Nat) (p : ByteArray × β) (v : β), l[k]? = some p → sput l p.1 v = l.set k (p.1, v)
  | [], _, _, _, _, h => by simp at h
  | (a, b) :: t, hs, 0, p, v, h => by
    simp only [List.getElem?_cons_zero, Option.some.injEq] at h
    subst h
    simp [sput]
  | (a, b) :: t, hs, k + 1, p, v, h => by
    have h1 := List.pairwise_cons.1 hs
    have hm : p ∈ t := List.mem_of_getElem? (by simpa using h)
    have hlt := h1.1 p hm
    have hne : a ≠ p.1 := fun e => by simp only at hlt; rw [e] at hlt; exact lt_irrefl' _ hlt
    simp only [sput]
    rw [if_neg hne, if_pos hlt, sput_at h1.2 k p v (by simpa using h)]
    simp
theorem get_at {β : Type} {l : List (ByteArray × β)} (h : Srt l) (k : Nat) (p : ByteArray × β) (hk : l[k]? = some p) : get l p.1 = some p.2 := get_of_mem h.nodup (List.mem_of_getElem? hk)
theorem torn_fit (f : File) (d : Int) (h : f.1.size ≤ 262144 ∧ 0 ≤ f.2 ∧ f.2 ≤ f.1.size) : (torn f d).1.size ≤ 262144 ∧ 0 ≤ (torn f d).2 ∧ (torn f d).2 ≤ (torn f d).1.size := by
  have h1 := Int.emod_nonneg (max 0 d) (show ((f.1.size : Int) - f.2 + 1) ≠ 0 by omega)
  have h2 := Int.emod_lt_of_pos (max 0 d) (show 0 < ((f.1.size : Int) - f.2 + 1) by omega)
  have e : (f.1.extract 0 (f.2 + max 0 d % ((f.1.size : Int) - f.2 + 1)).toNat).size = (f.2 + max 0 d % ((f.1.size : Int) - f.2 + 1)).toNat := by
    rw [ByteArray.size_extract]; omega
  simp only [torn, e]
  omega
theorem tstep_fit (f : File) (ds : List Int) (h : f.1.size ≤ 262144 ∧ 0 ≤ f.2 ∧ f.2 ≤ f.1.size) : (tstep f ds).1.1.size ≤ 262144 ∧ 0 ≤ (tstep f ds).1.2 ∧ (tstep f ds).1.2 ≤ (tstep f ds).1.1.size := by
  unfold tstep; split
  · exact h
  · exact torn_fit f _ h
end Go.Hop
