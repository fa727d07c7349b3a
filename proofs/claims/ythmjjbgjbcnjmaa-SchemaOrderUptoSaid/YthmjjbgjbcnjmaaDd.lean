import Derived.Test.YthmjjbgjbcnjmaaDb
import Derived.Test.YthmjjbgjbcnjmaaDc
import Derived.StillTailTactics
namespace Go.Proofs.Ythmjjbgjbcnjmaa
open Go.RowKit Go.Hop

def encF (f : File) : Value := .agg #[.string f.1, .int .i64 f.2]
theorem zeroF (w : World) : (zeroValue 120).run Try.prog w = .ok (.agg #[.string ⟨#[]⟩, .int .i64 0]) w := by kernel_rfl

/-- a disk of the program's: its block a, its map's block m -/
structure IsD (w : World) (a m : Nat) (s : DSt) : Prop where
  blk : w.heap[a]? = some (dblk (.map (some m)) s)
  map : ∃ al, MapIs w m (mapv encF al) ∧ Rel al s.files
  ne : a ≠ m
  ok : s.Ok

theorem get_enc {al : List (ByteArray × File)} {s : DSt} (h : Rel al s.files) (name : ByteArray) : get (mapv encF al) name = (get s.files name).map encF := by rw [get_mapv, h.eq]

theorem IsD.keep {S : Nat → Prop} {w w' : World} {a m : Nat} {s : DSt} (h : IsD w a m s) (hf : Fr S w w') (ha : ¬ S a) (hm : ¬ S m) : IsD w' a m s :=
  ⟨hf.keep h.blk ha, by obtain ⟨al, h1, h2⟩ := h.map; exact ⟨al, h1.keep hf hm, h2⟩, h.ne, h.ok⟩
theorem IsD.lt {w : World} {a m : Nat} {s : DSt} (h : IsD w a m s) : a < w.heap.size ∧ m < w.heap.size := by
  obtain ⟨al, h1, _⟩ := h.map
  exact ⟨heap_lt h.blk, h1.lt⟩


/-- Append where the file is known: f, there or not -/
def dapp1 (s : DSt) (f : File) (there : Bool) (name data : ByteArray) : Int × DSt :=
  if 262144 < f.1.size + data.size ∨ (there = false ∧ 64 ≤ s.files.length) then (2, s)
  else if (chg s).1 = false then (11, (chg s).2)
  else (0, { (chg s).2 with files := sput s.files name (f.1 ++ data, f.2) })
def Done (w : World) (a m : Nat) (r : Int × DSt) (e : Ending) (w' : World) : Prop := e = .returned (.int .i64 r.1) ∧ IsD w' a m r.2 ∧ Fr (fun k => k = a ∨ k = m) w w'

theorem ok_put {s : DSt} (h : s.Ok) (name : ByteArray) (f : File) (hf : f.1.size ≤ 262144 ∧ 0 ≤ f.2 ∧ f.2 ≤ f.1.size) (hl : (sput s.files name f).length ≤ 64) (s' : DSt) (hs : s'.files = sput s.files name f) (hsh : s'.fuse.getD 0 ≤ 9223372036854775807) (hnm : name.size ≤ 32) : s'.Ok :=
  ⟨by rw [hs]; exact h.srt.sput _ _, by rw [hs]; exact hl, fun p hp => by
    rw [hs] at hp
    rcases mem_sput hp with rfl | hp
    · exact hf
    · exact h.fit p hp, fun p hp => by
    rw [hs] at hp
    rcases mem_sput hp with rfl | hp
    · exact hnm
    · exact h.nam p hp, hsh⟩
theorem len_sput {β : Type} {l : List (ByteArray × β)} (h : Srt l) (k : ByteArray) (v : β) : (sput l k v).length = if (get l k).isSome then l.length else l.length + 1 := by
  have hr : Rel l l := ⟨h.nodup, h, fun _ => rfl⟩
  have h1 := (hr.put k v).length
  have h2 := congrArg List.length (keys_put l k v)
  rw [← h1]
  simp only [List.length_map] at h2
  rw [h2]
  split <;> simp

theorem append_end {w w1 w2 : World} {o : Obj} {a m : Nat} {s : DSt} {f : File} {there : Bool} {name data : ByteArray} {al : List (ByteArray × File)} {u : Value}
    (hr : dapp1 s f there name data = (0, { (chg s).2 with files := sput s.files name (f.1 ++ data, f.2) }))
    (hb : w1.heap[a]? = some (dblk (.map (some m)) (chg s).2)) (hf1 : Fr (fun x => x = a) (w.alloc o) w1) (hf2 : Fr (fun x => x = m) ((w1.setCell ⟨w.heap.size, 0, none⟩ u).drew) w2)
    (hm : MapIs w2 m (put (mapv encF al) name (.agg #[.string (f.1 ++ data), .int .i64 f.2]))) (hrel : Rel al s.files) (hne : a ≠ m) (hok : s.Ok) (hf : f.1.size ≤ 262144 ∧ 0 ≤ f.2 ∧ f.2 ≤ f.1.size) (hz : f.1.size + data.size ≤ 262144)
    (hl : (sput s.files name (f.1 ++ data, f.2)).length ≤ 64) (ha : a < w.heap.size) (hnm : name.size ≤ 32) : Done w a m (dapp1 s f there name data) (.returned (.int .i64 0)) w2 := by
  rw [hr]
  have hfa : Fr (fun k => k = a ∨ k = m) w w2 := by
    refine ((((Fr.refl _ w).alloc o).trans hf1 (fun _ _ q => .inl q)).trans (((Fr.refl (fun x => x = w.heap.size) w1).setCell ⟨w.heap.size, 0, none⟩ u (fun _ => rfl)).drew) (fun i hi q => ?_)).trans hf2 (fun _ _ q => .inr q)
    omega
  have hsz : (f.1 ++ data).size = f.1.size + data.size := ByteArray.size_append
  refine ⟨rfl, ⟨hf2.keep ?_ hne, ⟨put al name (f.1 ++ data, f.2), ?_, hrel.put _ _⟩, hne, ok_put hok name (f.1 ++ data, f.2) ?_ hl _ rfl hok.chg.short hnm⟩, hfa⟩
  · show (w1.setCell ⟨w.heap.size, 0, none⟩ u).heap[a]? = _
    rw [Below.heap_setCell _ _ _ _ (by show a ≠ w.heap.size; omega)]
    exact hb
  · rw [← put_mapv]; exact hm
  · rw [hsz]; omega

set_option maxHeartbeats 1000000 in
set_option maxRecDepth 100000 in
theorem append_walk (a m : Nat) (s : DSt) (name data : ByteArray) (f : File) (there : Bool) (w : World) (h : IsD w a m s) (hn : name.size ≤ 140737488351232) (hd : data.size ≤ 140737488351232) (hnm : named name = true)
    (hg : ∀ al, Rel al s.files → (get (mapv encF al) name).getD (.agg #[.string ⟨#[]⟩, .int .i64 0]) = .agg #[.string f.1, .int .i64 f.2] ∧ (get (mapv encF al) name).isSome = there)
    (hf : f.1.size ≤ 262144 ∧ 0 ≤ f.2 ∧ f.2 ≤ f.1.size) (hth : there = (get s.files name).isSome) :
    Calls Try.prog 36 #[.pointer (some ⟨a, 0, none⟩), .string name, .string data] w (Done w a m (dapp1 s f there name data)) := by
  have ha := h.lt.1
  have HI := Lib.hid h
  obtain ⟨hblk, ⟨al, hm, hrel⟩, hne, hok⟩ := h
  obtain ⟨hg1, hg2⟩ := hg al hrel
  clear hg
  have hc0 : w.cell? ⟨a, 0, none⟩ = some (.map (some m)) := cells_at hblk 0 _ rfl
  have HB := Lib.hid hblk
  have HT := Lib.hid hth
  have hf1 := hf.1
  have HF := Lib.hid hf
  have hlen := hrel.length
  have HL := Lib.hid hlen
  have hl2 : (mapv encF al).length = al.length := by simp [mapv]
  have HL2 := Lib.hid hl2
  have hsh := hok.short
  have hla : a ≠ w.heap.size := by omega
  have Hm := hm.lt
  have hcnt := fun o => (hm.keep ((Fr.refl no w).alloc o) id).count (P := Try.prog) Try.underlying73 3
  clear hblk hth hf hlen hl2
  by_cases h1 : 262144 < f.1.size + data.size
  · have Hr : Hid (dapp1 s f there name data = (2, s)) := Lib.hid (by simp [dapp1, h1])
    go_enter Try.func36, Try.ntmps36
    go_wp2_with (first | (go_at_call 72; refine (may_any _ _ (by assumption)).mono ?_; rintro e w' ⟨rfl, rfl⟩) | (at_lookup; refine wp_look rfl _ _ _ rfl hm Try.underlying73 Try.underlying9 zeroF rfl _ rfl ?_))
    go_ret
    exact ⟨by rw [Hr.out]; rfl, by rw [Hr.out]; exact HI.out.keep ((Fr.refl no _).alloc _) id id, (Fr.refl _ _).alloc _⟩
  · by_cases h2 : there = false ∧ 64 ≤ s.files.length
    · have Hr : Hid (dapp1 s f there name data = (2, s)) := Lib.hid (by simp [dapp1, h2])
      obtain ⟨rfl, h3⟩ := h2
      have h4 : 64 ≤ (mapv encF al).length := by rw [HL2.out, HL.out]; exact h3
      clear h3
      go_enter Try.func36, Try.ntmps36
      go_wp2_with (first | (go_at_call 72; refine (may_any _ _ (by assumption)).mono ?_; rintro e w' ⟨rfl, rfl⟩) | (at_lookup; refine wp_look rfl _ _ _ rfl hm Try.underlying73 Try.underlying9 zeroF rfl _ rfl ?_))
      go_ret
      exact ⟨by rw [Hr.out]; rfl, by rw [Hr.out]; exact HI.out.keep ((Fr.refl no _).alloc _) id id, (Fr.refl _ _).alloc _⟩
    · cases hcg : (chg s).1 with
      | false =>
        have Hr : Hid (dapp1 s f there name data = (11, (chg s).2)) := Lib.hid (by simp [dapp1, h1, h2, hcg])
        have h3 : there = true ∨ there = false ∧ (mapv encF al).length < 64 := by
          rw [HL2.out, HL.out]; cases there <;> simp_all
        clear h2
        rcases h3 with rfl | ⟨rfl, h3⟩
        all_goals
          go_enter Try.func36, Try.ntmps36
          go_wp2_with (first | (go_at_call 72; refine (may_any _ _ (by assumption)).mono ?_; rintro e w' ⟨rfl, rfl⟩) | (at_lookup; refine wp_look rfl _ _ _ rfl hm Try.underlying73 Try.underlying9 zeroF rfl _ rfl ?_) | (go_at_call 73; refine (change_any a _ s _ ((Below.heap_alloc w _ a ha).trans HB.out) hsh).mono ?_; rintro e w1 ⟨rfl, hb1, hf1⟩))
          go_ret
          have hI1 : IsD w1 a m (chg s).2 := ⟨hb1, ⟨al, hm.keep (((Fr.refl (· = a) w).alloc _).trans hf1 (fun _ _ q => q)) (fun q => hne q.symm), by rw [chg_files]; exact hrel⟩, hne, hok.chg⟩
          exact ⟨by rw [Hr.out]; rfl, by rw [Hr.out]; exact hI1, ((Fr.refl _ _).alloc _).trans hf1 (fun _ _ q => .inl q)⟩
      | true =>
        have h3 : there = true ∨ there = false ∧ (mapv encF al).length < 64 := by
          rw [HL2.out, HL.out]; cases there <;> simp_all
        have Hr : Hid (dapp1 s f there name data = (0, { (chg s).2 with files := sput s.files name (f.1 ++ data, f.2) })) := Lib.hid (by simp [dapp1, h1, h2, hcg])
        have Hl64 : Hid ((sput s.files name (f.1 ++ data, f.2)).length ≤ 64) := Lib.hid (by
          rw [len_sput hok.srt, ← HT.out]
          have := hok.few
          cases there <;> simp_all
          omega)
        clear h2
        rcases h3 with rfl | ⟨rfl, h3⟩
        all_goals
          go_enter Try.func36, Try.ntmps36
          go_wp2_with (first | (go_at_call 72; refine (may_any _ _ (by assumption)).mono ?_; rintro e w' ⟨rfl, rfl⟩) | (at_lookup; refine wp_look rfl _ _ _ rfl hm Try.underlying73 Try.underlying9 zeroF rfl _ rfl ?_) | fail)
          refine (change_any a _ s _ ((Below.heap_alloc w _ a ha).trans HB.out) hsh).mono ?_
          rintro e w1 ⟨rfl, hb1, hf1⟩
          have hm1 := hm.keep (((Fr.refl (· = a) w).alloc (.cells #[.string f.1, .int .i64 f.2] 120)).trans hf1 (fun _ _ q => q)) (fun q => hne q.symm)
          have hk := hf1.keep (heap_alloc_at w _) (fun q => hla q.symm)
          have e0 : w1.cell? ⟨a, 0, none⟩ = some (.map (some m)) := cells_at hb1 0 _ rfl
          have e1 : w1.cell? ⟨w.heap.size, 0, none⟩ = some (.string f.1) := cells_at hk 0 _ rfl
          have e2 : w1.cell? ⟨w.heap.size, 1, none⟩ = some (.int .i64 f.2) := cells_at hk 1 _ rfl
          have e3 := free_at hk 0
          have HB1 := Lib.hid hb1
          have HK := Lib.hid hk
          clear hb1 hk
          go_wp2
          refine wp_region_still_tail 6 (by kernel_rfl) (by kernel_rfl) ?_
          simp only [List.take_succ_cons, List.take_zero, List.drop_succ_cons, List.drop_zero, World.drew_eq]
          repeat still_step
          refine wpStill_nil ?_
          have hm2 : MapIs ((w1.setCell ⟨w.heap.size, 0, none⟩ (.string (f.1 ++ data))).drew) m (mapv encF al) := hm1.keep (((Fr.refl (· = w.heap.size) w1).setCell _ _ (fun _ => rfl)).drew) (by omega)
          refine wp_store rfl _ _ _ rfl hm2 Try.underlying73 Try.underlying9 rfl _ rfl _ rfl ?_
          intro w2 hm3 hf2
          go_wp2
          go_ret
          exact append_end Hr.out HB1.out hf1 hf2 hm3 hrel hne hok HF.out (by omega) Hl64.out ha (named_size hnm)

theorem get_dflt {al : List (ByteArray × File)} {s : DSt} (h : Rel al s.files) (name : ByteArray) :
    (get (mapv encF al) name).getD (.agg #[.string ⟨#[]⟩, .int .i64 0]) = .agg #[.string (fileAt s name).1, .int .i64 (fileAt s name).2] ∧ (get (mapv encF al) name).isSome = (get s.files name).isSome := by
  rw [get_enc h name]
  unfold fileAt
  cases get s.files name <;> exact ⟨rfl, rfl⟩

set_option maxHeartbeats 400000 in
set_option maxRecDepth 100000 in
theorem append_any (a m : Nat) (s : DSt) (name data : ByteArray) (w : World) (h : IsD w a m s) (hn : name.size ≤ 140737488351232) (hd : data.size ≤ 140737488351232) :
    Calls Try.prog 36 #[.pointer (some ⟨a, 0, none⟩), .string name, .string data] w (Done w a m (dappend s name data)) := by
  cases hnm : named name with
  | false =>
    have HR := Lib.hid (show dappend s name data = (10, s) by simp [dappend, hnm])
    go_enter Try.func36, Try.ntmps36
    go_wp2_with (go_at_call 72; refine (may_any _ _ (by assumption)).mono ?_; rintro e w' ⟨rfl, rfl⟩)
    go_ret
    exact ⟨by rw [HR.out]; rfl, by rw [HR.out]; exact h, Fr.refl _ _⟩
  | true =>
    have e : dappend s name data = dapp1 s (fileAt s name) (get s.files name).isSome name data := by
      unfold dappend dapp1
      rw [hnm]
      cases get s.files name <;> simp
    rw [e]
    exact append_walk a m s name data (fileAt s name) _ w h hn hd hnm (fun al hr => get_dflt hr name) (h.ok.file name) rfl

end Go.Proofs.Ythmjjbgjbcnjmaa
