/-
  Contracts of the functions that the statement reaches, and the plain laws behind it: this seat's texts It, Dh, Kc, Di, Rl, Sa, Sb, one behind the other.
-/
import Derived.Shelf.SlIter.Nil
import Derived.Shelf.SortM.Plain
import Derived.Shelf.SortM.SortNone
import Derived.Ground.GgzProg
import Derived.Ground.SlgmProg
import Derived.Test.YthmjjbgjbcnjmaaProg
import Derived.Test.YthmjjbgjbcnjmaaMb1
import Derived.Test.YthmjjbgjbcnjmaaMb0
import Derived.Deep.QuietTactic
import Derived.BigQuiet
import Derived.Deep.LoopGhost
import Derived.Laws.OwnMore
import Derived.Deep.AppendLies
import Derived.Deep.RegionHeld3
import Derived.Deep.DrawnRows

/-
  The library's contracts on slices.Sorted(maps.Keys(m)) at this seat's numbers, in plain words: as the kit's lay-iter.mjs and lay-plain.mjs wrote them (strings' keys; two map types).
-/
namespace Go.Proofs
open Go.RowKit Go.Maps Go.Sort Go.Shelf
def Try.keys58_ren : Go.Shelf.Ren := ⟨fun | 7 => 58 | 10 => 90 | n => n, fun | 23 => 87 | 26 => 9 | 3 => 41 | 28 => 102 | 0 => 0 | 27 => 101 | 33 => 65 | 4 => 4 | n => n, fun | n => n⟩
theorem Try.keys58 : Go.Proofs.SlLaysZ.n7 Try.prog Try.keys58_ren := {
  mixed := by kernel_rfl
  f7 := ⟨Try.f58.name, by decide, Try.func58.trans (congrArg some (by kernel_rfl))⟩
  f10 := ⟨Try.f90.name, by decide, Try.func90.trans (congrArg some (by kernel_rfl))⟩
  t0 := Try.underlying0
  a0 := Try.isAgg0
  z0 := Try.sizeOf0
  v0 := Try.zeroValue0
  t4 := Try.underlying4
  a4 := Try.isAgg4
  z4 := Try.sizeOf4
  v4 := Try.zeroValue4
  t23 := Try.underlying87
  a23 := Try.isAgg87
  z23 := Try.sizeOf87
  v23 := Try.zeroValue87
  t26 := Try.underlying9
  a26 := Try.isAgg9
  z26 := Try.sizeOf9
  v26 := Try.zeroValue9
  t27 := Try.underlying101
  a27 := Try.isAgg101
  z27 := Try.sizeOf101
  v27 := Try.zeroValue101
  t28 := Try.underlying102
  a28 := Try.isAgg102
  z28 := Try.sizeOf102
  v28 := Try.zeroValue102
  t33 := Try.underlying65
  a33 := Try.isAgg65
  z33 := Try.sizeOf65
  v33 := Try.zeroValue65 }
def Try.sorted57_ren : Go.Shelf.Ren := ⟨fun | 6 => 57 | 8 => 88 | 9 => 89 | 11 => 111 | 13 => 113 | 12 => 112 | 23 => 137 | 24 => 138 | 14 => 128 | 15 => 129 | 16 => 130 | 17 => 131 | 18 => 132 | 19 => 133 | 20 => 134 | 21 => 135 | 22 => 136 | 25 => 143 | 26 => 144 | 27 => 145 | 28 => 146 | 29 => 147 | 30 => 148 | 31 => 149 | n => n, fun | 26 => 9 | 28 => 102 | 24 => 50 | 0 => 0 | 3 => 3 | 37 => 160 | 48 => 182 | 50 => 165 | 4 => 4 | 40 => 175 | 39 => 174 | 45 => 116 | 5 => 5 | 9 => 9 | 51 => 186 | 55 => 190 | 57 => 192 | 58 => 193 | 33 => 65 | n => n, fun | n => n⟩
theorem Try.sorted57 : Go.Proofs.SlLaysZ.n6 Try.prog Try.sorted57_ren := {
  mixed := by kernel_rfl
  f6 := ⟨Try.f57.name, by decide, Try.func57.trans (congrArg some (by kernel_rfl))⟩
  f8 := ⟨Try.f88.name, by decide, Try.func88.trans (congrArg some (by kernel_rfl))⟩
  f11 := ⟨Try.f111.name, by decide, Try.func111.trans (congrArg some (by kernel_rfl))⟩
  t0 := Try.underlying0
  a0 := Try.isAgg0
  z0 := Try.sizeOf0
  v0 := Try.zeroValue0
  t24 := Try.underlying50
  a24 := Try.isAgg50
  z24 := Try.sizeOf50
  v24 := Try.zeroValue50
  t26 := Try.underlying9
  a26 := Try.isAgg9
  z26 := Try.sizeOf9
  v26 := Try.zeroValue9
  t28 := Try.underlying102
  a28 := Try.isAgg102
  z28 := Try.sizeOf102
  v28 := Try.zeroValue102
  i26 := by kernel_rfl }
def Try.sort89_ren : Go.Shelf.Ren := ⟨fun | 6 => 89 | 8 => 113 | 9 => 112 | 19 => 137 | 20 => 138 | 21 => 128 | 22 => 129 | 23 => 130 | 24 => 131 | 25 => 132 | 26 => 133 | 27 => 134 | 28 => 135 | 29 => 136 | 36 => 143 | 31 => 144 | 32 => 145 | 37 => 146 | 38 => 147 | 39 => 148 | 41 => 149 | n => n, fun | 27 => 50 | 29 => 9 | 3 => 3 | 32 => 160 | 26 => 50 | 0 => 0 | 44 => 182 | 46 => 165 | 4 => 4 | 36 => 175 | 35 => 174 | 41 => 116 | 5 => 5 | 9 => 9 | 53 => 186 | 57 => 190 | 63 => 192 | 64 => 193 | n => n, fun | n => n⟩
theorem Try.sort89 : Go.Proofs.SlLaysM.n6 Try.prog Try.sort89_ren := {
  mixed := by kernel_rfl
  f6 := ⟨Try.f89.name, by decide, Try.func89.trans (congrArg some (by kernel_rfl))⟩
  f8 := Try.func113.trans (congrArg some (by kernel_rfl))
  f9 := ⟨Try.f112.name, by decide, Try.func112.trans (congrArg some (by kernel_rfl))⟩
  f19 := Try.func137.trans (congrArg some (by kernel_rfl))
  f20 := Try.func138.trans (congrArg some (by kernel_rfl))
  f21 := ⟨Try.f128.name, by decide, Try.func128.trans (congrArg some (by kernel_rfl))⟩
  f22 := ⟨Try.f129.name, by decide, Try.func129.trans (congrArg some (by kernel_rfl))⟩
  f23 := ⟨Try.f130.name, by decide, Try.func130.trans (congrArg some (by kernel_rfl))⟩
  f24 := ⟨Try.f131.name, by decide, Try.func131.trans (congrArg some (by kernel_rfl))⟩
  f25 := ⟨Try.f132.name, by decide, Try.func132.trans (congrArg some (by kernel_rfl))⟩
  f26 := ⟨Try.f133.name, by decide, Try.func133.trans (congrArg some (by kernel_rfl))⟩
  f27 := ⟨Try.f134.name, by decide, Try.func134.trans (congrArg some (by kernel_rfl))⟩
  f28 := ⟨Try.f135.name, by decide, Try.func135.trans (congrArg some (by kernel_rfl))⟩
  f29 := ⟨Try.f136.name, by decide, Try.func136.trans (congrArg some (by kernel_rfl))⟩
  f31 := Try.func144.trans (congrArg some (by kernel_rfl))
  f32 := Try.func145.trans (congrArg some (by kernel_rfl))
  f36 := ⟨Try.f143.name, by decide, Try.func143.trans (congrArg some (by kernel_rfl))⟩
  f37 := ⟨Try.f146.name, by decide, Try.func146.trans (congrArg some (by kernel_rfl))⟩
  f38 := ⟨Try.f147.name, by decide, Try.func147.trans (congrArg some (by kernel_rfl))⟩
  f39 := ⟨Try.f148.name, by decide, Try.func148.trans (congrArg some (by kernel_rfl))⟩
  f41 := ⟨Try.f149.name, by decide, Try.func149.trans (congrArg some (by kernel_rfl))⟩
  t0 := Try.underlying0
  a0 := Try.isAgg0
  z0 := Try.sizeOf0
  v0 := Try.zeroValue0
  t3 := Try.underlying3
  a3 := Try.isAgg3
  z3 := Try.sizeOf3
  v3 := Try.zeroValue3
  t4 := Try.underlying4
  a4 := Try.isAgg4
  z4 := Try.sizeOf4
  v4 := Try.zeroValue4
  t5 := Try.underlying5
  a5 := Try.isAgg5
  z5 := Try.sizeOf5
  v5 := Try.zeroValue5
  t9 := Try.underlying9
  a9 := Try.isAgg9
  z9 := Try.sizeOf9
  v9 := Try.zeroValue9
  t26 := Try.underlying50
  a26 := Try.isAgg50
  z26 := Try.sizeOf50
  v26 := Try.zeroValue50
  t27 := Try.underlying50
  a27 := Try.isAgg50
  z27 := Try.sizeOf50
  v27 := Try.zeroValue50
  t29 := Try.underlying9
  a29 := Try.isAgg9
  z29 := Try.sizeOf9
  v29 := Try.zeroValue9
  t32 := Try.underlying160
  a32 := Try.isAgg160
  z32 := Try.sizeOf160
  v32 := Try.zeroValue160
  t35 := Try.underlying174
  a35 := Try.isAgg174
  z35 := Try.sizeOf174
  v35 := Try.zeroValue174
  t36 := Try.underlying175
  a36 := Try.isAgg175
  z36 := Try.sizeOf175
  v36 := Try.zeroValue175
  t41 := Try.underlying116
  a41 := Try.isAgg116
  z41 := Try.sizeOf116
  v41 := Try.zeroValue116
  t44 := Try.underlying182
  a44 := Try.isAgg182
  z44 := Try.sizeOf182
  v44 := Try.zeroValue182
  t46 := Try.underlying165
  a46 := Try.isAgg165
  z46 := Try.sizeOf165
  v46 := Try.zeroValue165
  t53 := Try.underlying186
  a53 := Try.isAgg186
  z53 := Try.sizeOf186
  v53 := Try.zeroValue186
  t57 := Try.underlying190
  a57 := Try.isAgg190
  z57 := Try.sizeOf190
  v57 := Try.zeroValue190
  t63 := Try.underlying192
  a63 := Try.isAgg192
  z63 := Try.sizeOf192
  v63 := Try.zeroValue192
  t64 := Try.underlying193
  a64 := Try.isAgg193
  z64 := Try.sizeOf193
  v64 := Try.zeroValue193 }
def Try.keys82_ren : Go.Shelf.Ren := ⟨fun | 7 => 82 | 10 => 103 | n => n, fun | 23 => 73 | 26 => 9 | 3 => 120 | 28 => 102 | 0 => 0 | 27 => 101 | 33 => 65 | 4 => 4 | n => n, fun | n => n⟩
theorem Try.keys82 : Go.Proofs.SlLaysZ.n7 Try.prog Try.keys82_ren := {
  mixed := by kernel_rfl
  f7 := ⟨Try.f82.name, by decide, Try.func82.trans (congrArg some (by kernel_rfl))⟩
  f10 := ⟨Try.f103.name, by decide, Try.func103.trans (congrArg some (by kernel_rfl))⟩
  t0 := Try.underlying0
  a0 := Try.isAgg0
  z0 := Try.sizeOf0
  v0 := Try.zeroValue0
  t4 := Try.underlying4
  a4 := Try.isAgg4
  z4 := Try.sizeOf4
  v4 := Try.zeroValue4
  t23 := Try.underlying73
  a23 := Try.isAgg73
  z23 := Try.sizeOf73
  v23 := Try.zeroValue73
  t26 := Try.underlying9
  a26 := Try.isAgg9
  z26 := Try.sizeOf9
  v26 := Try.zeroValue9
  t27 := Try.underlying101
  a27 := Try.isAgg101
  z27 := Try.sizeOf101
  v27 := Try.zeroValue101
  t28 := Try.underlying102
  a28 := Try.isAgg102
  z28 := Try.sizeOf102
  v28 := Try.zeroValue102
  t33 := Try.underlying65
  a33 := Try.isAgg65
  z33 := Try.sizeOf65
  v33 := Try.zeroValue65 }


/-- slices.Sort's two contracts at this dump, at the fence that asks nothing. -/
theorem Try.sorts57 (m : Nat) : AnyZ.SortsIn Try.prog Try.sorted57_ren Fence.wide m :=
  ⟨fun blk off cap ss W hH hblk hsz => callsIn_wide.2 (AnyM.slices_Sort_string Try.sort89 blk off cap ss W hH hblk hsz),
   fun p cap W => callsIn_wide.2 (AnyM.slices_Sort_string_none Try.sort89 p cap W)⟩

/-- **maps.Keys[map[string]hopper/api.Table,string,hopper/api.Table], at whatever map, the nil one too:** a function value over ONE NEW BLOCK, which holds the map. -/
theorem Try.maps_Keys_58 (mb : Option Nat) (W : World) : CallsIn Fence.wide 5 Try.prog 58 #[.map mb] W fun e w' => e = .returned (.func (.func 90) #[] #[.pointer (some ⟨W.heap.size, 0, none⟩)]) ∧ w' = W.alloc (.cells #[.map mb] 87) :=
  AnyZ.keys_in Try.keys58 Fence.wide 5 trivial rfl mb W

set_option maxHeartbeats 1000000 in
/-- **slices.Sorted[string] AT WHAT maps.Keys[map[string]hopper/api.Table,string,hopper/api.Table] HANDED BACK FOR A MAP THAT IS NOT nil** ('w': the world AHEAD of maps.Keys' call): A NEW SLICE THAT HOLDS THE MAP's KEYS, SORTED; nil just where it has none; nothing that lay before has turned. -/
theorem Try.slices_Sorted_keys_57_58 {H : Type} (b nn : Nat) (D0 : DataW H) (R : Value → Option (DataW H × List MemPlace)) (w : World) (hown : w.ownsMap Try.prog 9 R b nn D0) (hmax : Maps.size D0 ≤ maxLen) (hbytes : Maps.size D0 * 16 ≤ 140737488355328) :
    CallsIn Fence.wide 5 Try.prog 57 #[.func (.func 90) #[] #[.pointer (some ⟨w.heap.size, 0, none⟩)]] (w.alloc (.cells #[.map (some b)] 87)) fun e w' => ∃ (v : Value) (ss : List (List UInt8)), e = .returned v ∧ ss.Perm (strKeys D0) ∧
      w'.ownsRow (w.alloc (.cells #[.map (some b)] 87)).heap.size 9 1 v ss.length ((ss.mergeSort (fun x y => decide (x ≤ y))).map encStr) ∧ (v = .slice none 0 0 ↔ ss = []) ∧ Below (w.alloc (.cells #[.map (some b)] 87)).heap.size (w.alloc (.cells #[.map (some b)] 87)) w' := by
  have hbl := hown.lt
  have hseq : SeqGives Fence.wide 2 Try.prog 90 #[.pointer (some ⟨w.heap.size, 0, none⟩)] encStr (fun ss => ss.Perm (strKeys D0)) (Maps.size D0) (w.alloc (.cells #[.map (some b)] 87)) :=
    AnyZ.keys_gives (ρ := Try.keys58_ren) { Try.keys58 with } Fence.wide _ trivial rfl (by omega) w.heap.size b nn D0 _ (by simp) (by simp) (by
      obtain ⟨es, clock, hb, Ft, hs, hD⟩ := hown
      exact ⟨es, clock, (Below.heap_alloc _ _ b hbl).trans hb, Ft, hs, hD⟩)
  exact AnyZ.sorted_in Try.sorted57 Fence.wide 5 trivial trivial trivial trivial rfl (by omega) (Try.sorts57 _) (enters_of Try.func89 (by kernel_rfl) rfl) 90 #[.pointer (some ⟨w.heap.size, 0, none⟩)] trivial (enters_of Try.func90 (by kernel_rfl) rfl) _ _ hmax hbytes _ hseq

set_option maxHeartbeats 1000000 in
/-- **.. AND FOR THE nil MAP: nil.** -/
theorem Try.slices_Sorted_keys_nil_57_58 (w : World) :
    CallsIn Fence.wide 5 Try.prog 57 #[.func (.func 90) #[] #[.pointer (some ⟨w.heap.size, 0, none⟩)]] (w.alloc (.cells #[.map none] 87)) fun e w' => ∃ (v : Value) (ss : List (List UInt8)), e = .returned v ∧ ss = [] ∧
      w'.ownsRow (w.alloc (.cells #[.map none] 87)).heap.size 9 1 v ss.length ((ss.mergeSort (fun x y => decide (x ≤ y))).map encStr) ∧ (v = .slice none 0 0 ↔ ss = []) ∧ Below (w.alloc (.cells #[.map none] 87)).heap.size (w.alloc (.cells #[.map none] 87)) w' := by
  have hseq : SeqGives Fence.wide 2 Try.prog 90 #[.pointer (some ⟨w.heap.size, 0, none⟩)] encStr (fun ss : List (List UInt8) => ss = []) 0 (w.alloc (.cells #[.map none] 87)) :=
    AnyZ.keys_gives_nil (ρ := Try.keys58_ren) { Try.keys58 with } Fence.wide _ trivial rfl w.heap.size _ (by simp) (by simp)
  exact AnyZ.sorted_in Try.sorted57 Fence.wide 5 trivial trivial trivial trivial rfl (by omega) (Try.sorts57 _) (enters_of Try.func89 (by kernel_rfl) rfl) 90 #[.pointer (some ⟨w.heap.size, 0, none⟩)] trivial (enters_of Try.func90 (by kernel_rfl) rfl) _ 0 (Nat.zero_le _) (by omega) _ hseq



/-- **maps.Keys[map[string]hopper/disk.file,string,hopper/disk.file], at whatever map, the nil one too:** a function value over ONE NEW BLOCK, which holds the map. -/
theorem Try.maps_Keys_82 (mb : Option Nat) (W : World) : CallsIn Fence.wide 5 Try.prog 82 #[.map mb] W fun e w' => e = .returned (.func (.func 103) #[] #[.pointer (some ⟨W.heap.size, 0, none⟩)]) ∧ w' = W.alloc (.cells #[.map mb] 73) :=
  AnyZ.keys_in Try.keys82 Fence.wide 5 trivial rfl mb W

set_option maxHeartbeats 1000000 in
/-- **slices.Sorted[string] AT WHAT maps.Keys[map[string]hopper/disk.file,string,hopper/disk.file] HANDED BACK FOR A MAP THAT IS NOT nil** ('w': the world AHEAD of maps.Keys' call): A NEW SLICE THAT HOLDS THE MAP's KEYS, SORTED; nil just where it has none; nothing that lay before has turned. -/
theorem Try.slices_Sorted_keys_57_82 {H : Type} (b nn : Nat) (D0 : DataW H) (R : Value → Option (DataW H × List MemPlace)) (w : World) (hown : w.ownsMap Try.prog 9 R b nn D0) (hmax : Maps.size D0 ≤ maxLen) (hbytes : Maps.size D0 * 16 ≤ 140737488355328) :
    CallsIn Fence.wide 5 Try.prog 57 #[.func (.func 103) #[] #[.pointer (some ⟨w.heap.size, 0, none⟩)]] (w.alloc (.cells #[.map (some b)] 73)) fun e w' => ∃ (v : Value) (ss : List (List UInt8)), e = .returned v ∧ ss.Perm (strKeys D0) ∧
      w'.ownsRow (w.alloc (.cells #[.map (some b)] 73)).heap.size 9 1 v ss.length ((ss.mergeSort (fun x y => decide (x ≤ y))).map encStr) ∧ (v = .slice none 0 0 ↔ ss = []) ∧ Below (w.alloc (.cells #[.map (some b)] 73)).heap.size (w.alloc (.cells #[.map (some b)] 73)) w' := by
  have hbl := hown.lt
  have hseq : SeqGives Fence.wide 2 Try.prog 103 #[.pointer (some ⟨w.heap.size, 0, none⟩)] encStr (fun ss => ss.Perm (strKeys D0)) (Maps.size D0) (w.alloc (.cells #[.map (some b)] 73)) :=
    AnyZ.keys_gives (ρ := Try.keys82_ren) { Try.keys82 with } Fence.wide _ trivial rfl (by omega) w.heap.size b nn D0 _ (by simp) (by simp) (by
      obtain ⟨es, clock, hb, Ft, hs, hD⟩ := hown
      exact ⟨es, clock, (Below.heap_alloc _ _ b hbl).trans hb, Ft, hs, hD⟩)
  exact AnyZ.sorted_in Try.sorted57 Fence.wide 5 trivial trivial trivial trivial rfl (by omega) (Try.sorts57 _) (enters_of Try.func89 (by kernel_rfl) rfl) 103 #[.pointer (some ⟨w.heap.size, 0, none⟩)] trivial (enters_of Try.func103 (by kernel_rfl) rfl) _ _ hmax hbytes _ hseq

set_option maxHeartbeats 1000000 in
/-- **.. AND FOR THE nil MAP: nil.** -/
theorem Try.slices_Sorted_keys_nil_57_82 (w : World) :
    CallsIn Fence.wide 5 Try.prog 57 #[.func (.func 103) #[] #[.pointer (some ⟨w.heap.size, 0, none⟩)]] (w.alloc (.cells #[.map none] 73)) fun e w' => ∃ (v : Value) (ss : List (List UInt8)), e = .returned v ∧ ss = [] ∧
      w'.ownsRow (w.alloc (.cells #[.map none] 73)).heap.size 9 1 v ss.length ((ss.mergeSort (fun x y => decide (x ≤ y))).map encStr) ∧ (v = .slice none 0 0 ↔ ss = []) ∧ Below (w.alloc (.cells #[.map none] 73)).heap.size (w.alloc (.cells #[.map none] 73)) w' := by
  have hseq : SeqGives Fence.wide 2 Try.prog 103 #[.pointer (some ⟨w.heap.size, 0, none⟩)] encStr (fun ss : List (List UInt8) => ss = []) 0 (w.alloc (.cells #[.map none] 73)) :=
    AnyZ.keys_gives_nil (ρ := Try.keys82_ren) { Try.keys82 with } Fence.wide _ trivial rfl w.heap.size _ (by simp) (by simp)
  exact AnyZ.sorted_in Try.sorted57 Fence.wide 5 trivial trivial trivial trivial rfl (by omega) (Try.sorts57 _) (enters_of Try.func89 (by kernel_rfl) rfl) 103 #[.pointer (some ⟨w.heap.size, 0, none⟩)] trivial (enters_of Try.func103 (by kernel_rfl) rfl) _ 0 (Nat.zero_le _) (by omega) _ hseq



end Go.Proofs

namespace Go.Proofs.Ythmjjbgjbcnjmaa
open Go.RowKit Go.Hop Go.Sort

theorem enc_keys (l : List (ByteArray × File)) : (l.map (fun p => bl p.1)).map encStr = l.map (fun p => Value.string p.1) := by
  rw [List.map_map]
  refine List.map_congr_left fun p _ => ?_
  show Value.string ⟨(bl p.1).toArray⟩ = _
  congr 1

set_option maxHeartbeats 1000000 in
theorem names_any (a m : Nat) (s : DSt) (w : World) (h : IsD w a m s) :
    Calls Try.prog 52 #[.pointer (some ⟨a, 0, none⟩)] w fun e w' => ∃ v, e = .returned v ∧ w'.ownsRow w.heap.size 9 1 v s.files.length (s.files.map (fun p => Value.string p.1)) ∧ Fr no w w' := by
  have hc0 : w.cell? ⟨a, 0, none⟩ = some (.map (some m)) := cells_at h.blk 0 _ rfl
  have HI := Lib.hid h
  clear h
  obtain ⟨al, hm, hrel⟩ := HI.out.map
  have hlen : (mapv encF al).length = s.files.length := by rw [← hrel.length]; simp [mapv]
  have hfew := HI.out.ok.few
  obtain ⟨D, hown, hperm, hsize⟩ := hm.owns (P := Try.prog) (k := 9) Try.underlying9 (fun p hp => by
    simp only [mapv, List.mem_map] at hp
    obtain ⟨q, hq, rfl⟩ := hp
    have hg := get_of_mem hrel.nd (show (q.1, q.2) ∈ al from hq)
    rw [hrel.eq] at hg
    have := HI.out.ok.nam _ (get_some_mem hg)
    unfold maxLen; simp only at this ⊢; omega) (by rw [hlen]; unfold maxLen; omega)
  have hperm' : (strKeys D).Perm (al.map (fun p => bl p.1)) := by simpa [mapv, List.map_map, Function.comp_def] using hperm
  have Hsz := Lib.hid hsize
  have Hlen := Lib.hid hlen
  clear hsize hlen hperm
  refine (callsIn_wide (n := 6)).1 ?_
  have hfK : Fence.wide.fn 82 := trivial
  have hfS : Fence.wide.fn 57 := trivial
  refine callsIn_of_wp Try.func52 rfl trivial ?_ rfl
  simp only [Try.ntmps52, List.size_toArray, List.length_cons, List.length_nil, Nat.reduceAdd, Nat.reduceSub, Array.replicate_succ, Array.replicate_zero, List.push_toArray, List.append_toArray, List.nil_append, List.cons_append]
  gi_wp2_with (first | (gi_at_call 82; refine (Try.maps_Keys_82 _ _).mono ?_; rintro e w' ⟨rfl, rfl⟩) | (gi_at_call 57; refine (Try.slices_Sorted_keys_57_82 m _ D anyE w hown (by rw [Hsz.out, Hlen.out]; unfold maxLen; omega) (by rw [Hsz.out, Hlen.out]; omega)).mono ?_; rintro e w' ⟨v, ss, rfl, hS, hrow, hnil, hb⟩))
  go_ret
  have hss := sorted_names hrel (hS.trans hperm')
  rw [hss, enc_keys] at hrow
  have hl : ss.length = s.files.length := by
    have := (hS.trans hperm').length_eq
    rw [this, List.length_map, hrel.length]
  rw [hl] at hrow
  exact ⟨v, rfl, ownsRow_base_a hrow (by simp), ((Fr.refl no w).alloc _).trans (Fr.below hb no) (fun _ _ q => q)⟩
end Go.Proofs.Ythmjjbgjbcnjmaa

/-
  A slice of one-cell elements that is read: whatever memory it lies in.
-/
namespace Go.Hop
open Go.RowKit

/-- v is a slice whose elements read as xs (through enc) -/
def Rd {α : Type} (enc : α → Value) (w : World) (v : Value) (xs : List α) : Prop :=
  ∃ A c, v = .slice A xs.length c ∧ xs.length ≤ c ∧ (∀ j x, xs[j]? = some x → ∃ b off, A = some ⟨b, off, none⟩ ∧ w.cell? ⟨b, off + j, none⟩ = some (enc x))
theorem Rd.keep {α : Type} {enc : α → Value} {S : Nat → Prop} {w w' : World} {v : Value} {xs : List α} (h : Rd enc w v xs) (hf : Fr S w w') (hn : ∀ k, v.ownBlock = some k → ¬ S k) : Rd enc w' v xs := by
  obtain ⟨A, c, rfl, hc, hx⟩ := h
  refine ⟨A, c, rfl, hc, fun j x hj => ?_⟩
  obtain ⟨b, off, rfl, hcell⟩ := hx j x hj
  exact ⟨b, off, rfl, hf.cell hcell (hn b rfl)⟩
theorem Rd.len {α : Type} {enc : α → Value} {w : World} {v : Value} {xs : List α} (h : Rd enc w v xs) : ∃ A c, v = .slice A xs.length c ∧ xs.length ≤ c := by
  obtain ⟨A, c, h1, h2, _⟩ := h; exact ⟨A, c, h1, h2⟩
/-- element j, with the slice's address -/
theorem Rd.at_ {α : Type} {enc : α → Value} {w : World} {A : Option Addr} {n c : Nat} {xs : List α} (h : Rd enc w (.slice A n c) xs) (j : Nat) (x : α) (hj : xs[j]? = some x) : ∃ b off, A = some ⟨b, off, none⟩ ∧ w.cell? ⟨b, off + j, none⟩ = some (enc x) := by
  obtain ⟨A', c', e, _, hx⟩ := h
  injection e with e1 e2 e3
  subst e1
  exact hx j x hj
theorem Rd.tail {α : Type} {enc : α → Value} {w : World} {b off n c : Nat} {x : α} {xs : List α} (h : Rd enc w (.slice (some ⟨b, off, none⟩) n c) (x :: xs)) :
    Rd enc w (.slice (if c = 1 then some ⟨b, off, none⟩ else some ⟨b, off + 1, none⟩) (n - 1) (c - 1)) xs := by
  obtain ⟨A, c', e, hc, hx⟩ := h
  injection e with e1 e2 e3
  subst e1 e3
  simp only [List.length_cons] at e2 hc
  refine ⟨_, _, by rw [e2, Nat.add_sub_cancel], by omega, fun j y hj => ?_⟩
  have hl : j < xs.length := (List.getElem?_eq_some_iff.1 hj).1
  obtain ⟨b', off', e1', hcell⟩ := hx (j + 1) y (by simpa using hj)
  injection e1' with e1'
  injection e1' with q1 q2 q3
  subst q1 q2
  refine ⟨b, off + 1, by rw [if_neg (by omega)], ?_⟩
  rw [show off + 1 + j = off + (j + 1) by omega]
  exact hcell
theorem Rd.of_owns {α : Type} {enc : α → Value} {w : World} {base n : Nat} {e : TypeId} {v : Value} {xs : List α} (h : w.ownsRow base e 1 v n (xs.map enc)) : Rd enc w v xs := by
  have hn : xs.length = n := by simpa using h.1
  rcases h.2 with ⟨rfl, h0⟩ | ⟨g, cap, cur, rfl, hb, hg, hcap, _, _, ht⟩
  · subst h0
    have : xs = [] := List.eq_nil_of_length_eq_zero hn
    subst this
    exact ⟨none, 0, rfl, Nat.le_refl _, fun j x hj => by simp at hj⟩
  · subst hn
    refine ⟨_, cap, rfl, hcap, fun j x hj => ⟨g, 0, rfl, ?_⟩⟩
    have := h.cells (g := g) rfl j (enc x) (by simp [hj])
    have e : (⟨g, 0, none⟩ : Addr).add j = ⟨g, j, none⟩ := by unfold Addr.add; split <;> simp_all
    rw [e] at this
    simpa using this
end Go.Hop

namespace Go.Proofs.Ythmjjbgjbcnjmaa
open Go.RowKit Go.Hop Go.Sort

abbrev encI : Int → Value := Value.int .i64
abbrev encN : ByteArray × File → Value := fun p => Value.string p.1

structure CR (w : World) (a m : Nat) (s : DSt) (ds : List Int) (nv : Value) (k : Nat) (v1 : Value) (wr : World) : Prop where
  le : k ≤ s.files.length
  dsk : IsD wr a m ⟨(tearN k s.files ds).1, none, false⟩
  rd : Rd encI wr v1 (tearN k s.files ds).2
  own : ∀ b, v1.ownBlock = some b → b < w.heap.size ∧ b ≠ a ∧ b ≠ m
  rn : Rd encN wr nv s.files
  ownn : ∀ b, nv.ownBlock = some b → b < wr.heap.size ∧ b ≠ a ∧ b ≠ m
  fr : Fr (fun x => x = a ∨ x = m) w wr
  rng : ∀ d ∈ (tearN k s.files ds).2, -9223372036854775808 ≤ d ∧ d ≤ 9223372036854775807
def CrashRel (w : World) (a m : Nat) (s : DSt) (ds : List Int) (nv : Value) (i v1 : Value) (wr : World) : Prop := ∃ k : Nat, i = .int .i64 k ∧ CR w a m s ds nv k v1 wr

theorem List.set_getElem_self' {α : Type} {l : List α} {k : Nat} {x : α} (h : l[k]? = some x) : l.set k x = l := by
  apply List.ext_getElem?
  intro i
  rw [List.getElem?_set]
  split
  · rename_i e; subst e; rw [h]; have := (List.getElem?_eq_some_iff.1 h).1; simp [this]
  · rfl
theorem tstep_sub (f : File) (D : List Int) : ∀ d ∈ (tstep f D).2, d ∈ D := by
  intro d hd
  unfold tstep at hd
  split at hd
  · exact hd
  · exact List.mem_of_mem_tail hd
theorem tstep_short (f : File) (D : List Int) : (tstep f D).2.length ≤ D.length := by
  unfold tstep; split
  · exact Nat.le_refl _
  · simp
theorem tearN_short : ∀ (k : Nat) (fs : List (ByteArray × File)) (ds : List Int), (tearN k fs ds).2.length ≤ ds.length
  | 0, _, _ => Nat.le_refl _
  | _ + 1, [], _ => Nat.le_refl _
  | k + 1, (n, f) :: t, ds => by
    simp only [tearN]
    exact Nat.le_trans (tearN_short k t _) (tstep_short f ds)
theorem CR.step {w : World} {a m : Nat} {s : DSt} {ds : List Int} {nv : Value} {k : Nat} {v1 v1' : Value} {wr wr' : World} {p : ByteArray × File} (h : CR w a m s ds nv k v1 wr) (hp : s.files[k]? = some p)
    (hd : IsD wr' a m ⟨(tearN k s.files ds).1.set k (p.1, (tstep p.2 (tearN k s.files ds).2).1), none, false⟩) (hfr : Fr (fun x => x = a ∨ x = m) wr wr')
    (hrd : Rd encI wr' v1' (tstep p.2 (tearN k s.files ds).2).2) (ho : ∀ b, v1'.ownBlock = some b → v1.ownBlock = some b) : CR w a m s ds nv (k + 1) v1' wr' := by
  have e := tearN_succ k s.files ds p hp
  have hk : k < s.files.length := (List.getElem?_eq_some_iff.1 hp).1
  refine ⟨hk, by rw [e]; exact hd, by rw [e]; exact hrd, fun b hb => h.own b (ho b hb), h.rn.keep hfr (fun b hb q => by have := h.ownn b hb; omega), fun b hb => ?_, h.fr.trans hfr (fun _ _ q => q), by rw [e]; exact fun d hd => h.rng d (tstep_sub _ _ d hd)⟩
  have h1 := h.ownn b hb
  have h2 := hfr.size
  omega

set_option maxHeartbeats 2000000 in
set_option maxRecDepth 100000 in
theorem crash_any (a m : Nat) (s : DSt) (dv : Value) (ds : List Int) (w : World) (h : IsD w a m s) (hd : Rd encI w dv ds) (hda : ∀ k, dv.ownBlock = some k → k < w.heap.size ∧ k ≠ a ∧ k ≠ m) (hdl : ds.length ≤ 140737488351232)
    (hdw : ∀ d ∈ ds, -9223372036854775808 ≤ d ∧ d ≤ 9223372036854775807) :
    Calls Try.prog 49 #[.pointer (some ⟨a, 0, none⟩), dv] w (Done w a m (dcrash s ds)) := by
  obtain ⟨A, c, hdv, hdc⟩ := hd.len
  have hc1 := cells_at h.blk 1 _ rfl
  have hc2 := cells_at h.blk 2 _ rfl
  have hc3 := cells_at h.blk 3 _ rfl
  have hf1 := free_at h.blk 1
  have hf2 := free_at h.blk 2
  have hf3 := free_at h.blk 3
  subst hdv
  have HD := Lib.hid hd
  have HI := Lib.hid h
  have Hda := Lib.hid hda
  have Hdw := Lib.hid hdw
  have hlt := h.lt
  clear hd h hda hdw
  by_cases h1 : 4096 < ds.length
  · have HR := Lib.hid (show dcrash s ds = (2, s) by simp [dcrash, h1])
    go_enter Try.func49, Try.ntmps49
    go_wp2
    go_ret
    exact ⟨by rw [HR.out]; rfl, by rw [HR.out]; exact HI.out, Fr.refl _ _⟩
  · have HR := Lib.hid (show dcrash s ds = (0, ⟨tear s.files ds, none, false⟩) by simp [dcrash, h1])
    go_enter Try.func49, Try.ntmps49
    go_wp2_with fail
    have hI1 : IsD (((w.setCell ⟨a, 1, none⟩ (.bool false)).setCell ⟨a, 2, none⟩ (.bool false)).setCell ⟨a, 3, none⟩ (.int .i64 0)) a m ⟨s.files, none, false⟩ := by
      obtain ⟨hb, ⟨al, hm, hrel⟩, hne, hok⟩ := HI.out
      have h1 := heap_setCell_at (heap_setCell_at (heap_setCell_at hb 1 (.bool false)) 2 (.bool false)) 3 (.int .i64 0)
      refine ⟨by simpa [dblk] using h1, ⟨al, hm.keep ((((Fr.refl (fun x => x = a) w).setCell ⟨a, 1, none⟩ _ (fun _ => rfl)).setCell ⟨a, 2, none⟩ _ (fun _ => rfl)).setCell ⟨a, 3, none⟩ _ (fun _ => rfl)) (fun q => hne q.symm), hrel⟩, hne, ⟨hok.srt, hok.few, hok.fit, hok.nam, by simp⟩⟩
    have hfr1 : Fr (fun x => x = a) w (((w.setCell ⟨a, 1, none⟩ (.bool false)).setCell ⟨a, 2, none⟩ (.bool false)).setCell ⟨a, 3, none⟩ (.int .i64 0)) := (((Fr.refl (fun x => x = a) w).setCell ⟨a, 1, none⟩ _ (fun _ => rfl)).setCell ⟨a, 2, none⟩ _ (fun _ => rfl)).setCell ⟨a, 3, none⟩ _ (fun _ => rfl)
    generalize (((w.setCell ⟨a, 1, none⟩ (.bool false)).setCell ⟨a, 2, none⟩ (.bool false)).setCell ⟨a, 3, none⟩ (.int .i64 0)) = w1 at *
    refine (names_any a m _ w1 hI1).mono ?_
    rintro e w2 ⟨v, rfl, hown, hf2'⟩
    have hRn := Rd.of_owns (xs := s.files) (enc := encN) (by simpa using hown)
    obtain ⟨An, cn, hvn, hcn⟩ := hRn.len
    have hCR : CR w a m s ds v 0 (.slice A ds.length c) w2 := by
      have hlt1 := hI1.lt
      have hf2 : Fr (fun x => x = a ∨ x = m) w w2 := (hfr1.mono (fun _ _ q => .inl q)).trans hf2' (fun _ _ q => q.elim)
      exact ⟨Nat.zero_le _, hI1.later hf2', HD.out.keep hf2 (fun k hk q => by have := Hda.out k hk; omega), Hda.out, hRn, fun b hb => by have := hown.lt b hb; omega, hf2, Hdw.out⟩
    rw [hvn] at hCR ⊢
    have HCR := Lib.hid hCR
    clear hRn hown hI1 hfr1 hf2' hCR hvn
    have hfew := HI.out.ok.few
    go_wp2_with fail
    go_loopw [25, 1] (CrashRel w a m s ds (.slice An s.files.length cn)) (fun i _ _ => s.files.length - (intOf i).toNat)
    case atStart => exact ⟨0, rfl, HCR.out⟩
    case round =>
      clear HCR
      obtain ⟨k, rfl, hcr⟩ := hrel
      have HC := Lib.hid hcr
      clear hcr
      by_cases hk : k < s.files.length
      · obtain ⟨p, hp⟩ : ∃ p, s.files[k]? = some p := ⟨_, List.getElem?_eq_getElem hk⟩
        obtain ⟨bn, offn, rfl, hcell⟩ := HC.out.rn.at_ k p hp
        have hF := tearN_get k s.files ds p hp
        have hgF := Hop.get_at HC.out.dsk.ok.srt k p hF
        have hfit := HC.out.dsk.ok.fit p (List.mem_of_getElem? hF)
        obtain ⟨name, f1, f2⟩ := p
        simp only at hgF hfit
        obtain ⟨al, hm, hrel⟩ := HC.out.dsk.map
        have hg1 := (get_dflt hrel name).1
        have hfa : fileAt ⟨(tearN k s.files ds).1, none, false⟩ name = (f1, f2) := by simp only [fileAt, hgF, Option.getD]
        rw [hfa] at hg1
        have e0 : wr.cell? ⟨a, 0, none⟩ = some (.map (some m)) := cells_at HC.out.dsk.blk 0 _ rfl
        have e1 : wr.cell? ⟨bn, offn + k, none⟩ = some (.string name) := hcell
        have hla : a < wr.heap.size := HC.out.dsk.lt.1
        have hlm : m < wr.heap.size := HC.out.dsk.lt.2
        have hlb : bn < wr.heap.size := (HC.out.ownn bn rfl).1
        have hfit1 := hfit.1
        have hfit2 := hfit.2.1
        have hfit3 := hfit.2.2
        have Hp := Lib.hid hp
        have HgF := Lib.hid hgF
        have HF := Lib.hid hF
        have Hfit := Lib.hid hfit
        clear hc1 hc2 hc3 hf1 hf2 hf3 hcell hF hgF hfit hfa hp
        obtain ⟨A1, c1, rfl, hc1⟩ := HC.out.rd.len
        by_cases hz : (f1.size : Int) - f2 = 0
        · have hz' : ((f1.size : Int) - f2 == 0) = true := by rw [beq_iff_eq]; exact hz
          have HZ := Lib.hid hz
          clear hz
          go_wp2_with (first | (at_lookup; refine wp_look rfl _ _ _ rfl hm Try.underlying73 Try.underlying9 zeroF rfl _ rfl ?_) | fail)
          go_roundw
          case rel =>
            have hst : tstep (f1, f2) (tearN k s.files ds).2 = ((f1, f2), (tearN k s.files ds).2) := by simp only [tstep]; rw [if_pos HZ.out]
            have hfr : Fr no wr (wr.alloc (.cells #[.string f1, .int .i64 f2] 120)) := (Fr.refl _ _).alloc _
            refine ⟨k + 1, by go_num, HC.out.step Hp.out ?_ (hfr.mono (fun _ _ q => q.elim)) ?_ (fun b hb => hb)⟩
            · simp only [hst]
              rw [List.set_getElem_self' HF.out]
              exact HC.out.dsk.later hfr
            · rw [hst]; exact HC.out.rd.keep hfr (fun _ _ q => q)
          case measure => simp [intOf]; omega
        · have hz' : ((f1.size : Int) - f2 == 0) = false := by rw [beq_eq_false_iff_ne]; exact hz
          have HZ := Lib.hid hz
          have hgt : 1 ≤ (f1.size : Int) - f2 := by omega
          clear hz
          have hrd := HC.out.rd
          have hrng := HC.out.rng
          rcases hD : (tearN k s.files ds).2 with _ | ⟨d, D⟩
          · rw [hD] at hrd
            have HD2 := Lib.hid hD
            clear hD hrng
            rw [show (tearN k s.files ds).2.length = 0 by rw [HD2.out]; rfl] at *
            go_wp2_with (first | (at_lookup; refine wp_look rfl _ _ _ rfl hm Try.underlying73 Try.underlying9 zeroF rfl _ rfl ?_) | fail)
            refine wp_region_still_tail 8 (by kernel_rfl) (by kernel_rfl) ?_
            simp only [List.take_succ_cons, List.take_zero, List.drop_succ_cons, List.drop_zero, World.drew_eq]
            have hw1 : IntKind.i64.wrap ((f1.size : Int) - f2 + 1) = (f1.size : Int) - f2 + 1 := IntWalk.i64_in _ (by omega)
            have hw2 : ¬ ((f1.size : Int) - f2 + 1 = 0) := by omega
            repeat still_step
            refine wpStill_nil ?_
            go_wp2_with fail
            refine wp_region_still_tail 13 (by kernel_rfl) (by kernel_rfl) ?_
            simp only [List.take_succ_cons, List.take_zero, List.drop_succ_cons, List.drop_zero, World.drew_eq]
            repeat still_step
            refine wpStill_nil ?_
            have ht : Fr no wr (wr.alloc (.cells #[.string f1, .int .i64 f2] 120)).drew.drew := ((Fr.refl _ _).alloc _).drew.drew
            refine wp_store rfl _ _ _ rfl (hm.keep ht id) Try.underlying73 Try.underlying9 rfl _ rfl (.agg #[.string (f1.extract 0 f2.toNat), .int .i64 f2]) rfl ?_
            intro w3 hm3 hf3
            go_wp2
            go_roundw
            case rel =>
              have hst : tstep (f1, f2) (tearN k s.files ds).2 = ((f1.extract 0 f2.toNat, f2), []) := by
                rw [HD2.out]
                simp only [tstep]
                rw [if_neg HZ.out]
                simp [torn]
              have hfa := (ht.mono (fun _ _ q => q.elim) : Fr (fun x => x = a ∨ x = m) _ _).trans hf3 (fun _ _ q => .inr q)
              refine ⟨k + 1, by go_num, HC.out.step Hp.out ?_ hfa ?_ (fun b hb => hb)⟩
              · rw [← sput_at HC.out.dsk.ok.srt k _ _ HF.out]
                have hfit' := tstep_fit (f1, f2) (tearN k s.files ds).2 Hfit.out
                have q := (HC.out.dsk.later ht).put (name := name) (f := (tstep (f1, f2) (tearN k s.files ds).2).1) hf3 hrel (by rw [hst]; exact hm3) hfit' (by rw [sput_at HC.out.dsk.ok.srt k _ _ HF.out]; simpa using HC.out.dsk.ok.few) (HC.out.dsk.ok.nam _ (List.mem_of_getElem? HF.out))
                exact q
              · rw [hst]
                exact hrd.keep hfa (fun b hb q => by have := HC.out.own b hb; omega)
            case measure => simp [intOf]; omega
          · rw [hD] at hrd hrng
            have HD2 := Lib.hid hD
            clear hD
            rw [show (tearN k s.files ds).2.length = D.length + 1 by rw [HD2.out]; rfl] at *
            obtain ⟨b1, o1, rfl, hcd⟩ := hrd.at_ 0 d rfl
            have hlb1 : b1 < wr.heap.size := by have := HC.out.own b1 rfl; have := HC.out.fr.size; omega
            have hdr := hrng d (List.mem_cons_self)
            have hd1 := hdr.1
            have hd2 := hdr.2
            have hDl : D.length ≤ 140737488351232 := by have := tearN_short k s.files ds; rw [HD2.out, List.length_cons] at this; omega
            clear hrng hdr
            rw [Nat.add_zero] at hcd
            go_wp2_with (first | (at_lookup; refine wp_look rfl _ _ _ rfl hm Try.underlying73 Try.underlying9 zeroF rfl _ rfl ?_) | fail)
            have Hcap := Lib.hid hrd.tail
            have hw1 : IntKind.i64.wrap ((f1.size : Int) - f2 + 1) = (f1.size : Int) - f2 + 1 := IntWalk.i64_in _ (by omega)
            have hw2 : ¬ ((f1.size : Int) - f2 + 1 = 0) := by omega
            have hm0 : 0 ≤ max 0 d := by omega
            have hm1 : max 0 d ≤ 9223372036854775807 := by omega
            have HDD := Lib.hid (rfl : max 0 d = max 0 d)
            by_cases hcc : c1 = 1
            · subst hcc
              go_quiet (fail)
              go_wp2_with fail
              generalize hd0 : max 0 d = d0 at *
              have Hd0 := Lib.hid hd0
              clear hd0
              have hr1 := Int.emod_nonneg d0 hw2
              have hr2 := Int.emod_lt_of_pos d0 (show 0 < (f1.size : Int) - f2 + 1 by omega)
              have hw3 : IntKind.i64.wrap (d0.tmod ((f1.size : Int) - f2 + 1)) = d0 % ((f1.size : Int) - f2 + 1) := by rw [Int.tmod_eq_emod_of_nonneg hm0]; exact IntWalk.i64_in _ (by omega)
              have hw4 : IntKind.i64.wrap (f2 + d0 % ((f1.size : Int) - f2 + 1)) = f2 + d0 % ((f1.size : Int) - f2 + 1) := IntWalk.i64_in _ (by omega)
              refine wp_region_still_tail 8 (by kernel_rfl) (by kernel_rfl) ?_
              simp only [List.take_succ_cons, List.take_zero, List.drop_succ_cons, List.drop_zero, World.drew_eq]
              repeat still_step
              refine wpStill_nil ?_
              clear hw1 hw3 hw4
              go_wp2_with fail
              have hk1 : 0 ≤ f2 + d0 % ((f1.size : Int) - f2 + 1) := by omega
              have hk2 : f2 + d0 % ((f1.size : Int) - f2 + 1) ≤ f1.size := by omega
              have Hst := Lib.hid (show tstep (f1, f2) (tearN k s.files ds).2 = ((f1.extract 0 (f2 + d0 % ((f1.size : Int) - f2 + 1)).toNat, f2 + d0 % ((f1.size : Int) - f2 + 1)), D) by
                rw [HD2.out]
                simp only [tstep]
                rw [if_neg HZ.out]
                simp only [torn, List.headD_cons, List.tail_cons, Hd0.out])
              generalize f2 + d0 % ((f1.size : Int) - f2 + 1) = k2 at *
              clear hr1 hr2
              refine wp_region_still_tail 13 (by kernel_rfl) (by kernel_rfl) ?_
              simp only [List.take_succ_cons, List.take_zero, List.drop_succ_cons, List.drop_zero, World.drew_eq]
              repeat still_step
              refine wpStill_nil ?_
              have ht : Fr no wr (((wr.alloc (.cells #[.string f1, .int .i64 f2] 120)).drewN (nq + 1)).setCell ⟨wr.heap.size, 1, none⟩ (.int .i64 k2)).drew := ((((Fr.refl no wr).alloc _).drewN _).setCell _ _ (fun q => absurd q (by simp))).drew
              refine wp_store rfl _ _ _ rfl (hm.keep ht id) Try.underlying73 Try.underlying9 rfl _ rfl (.agg #[.string (f1.extract 0 k2.toNat), .int .i64 k2]) rfl ?_
              intro w3 hm3 hf3
              go_wp2
              go_roundw
              case rel =>
                have hst := Hst.out
                have hfa := (ht.mono (fun _ _ q => q.elim) : Fr (fun x => x = a ∨ x = m) _ _).trans hf3 (fun _ _ q => .inr q)
                refine ⟨k + 1, by go_num, HC.out.step Hp.out ?_ hfa ?_ (fun b hb => hb)⟩
                · rw [← sput_at HC.out.dsk.ok.srt k _ _ HF.out]
                  have hfit' := tstep_fit (f1, f2) (tearN k s.files ds).2 Hfit.out
                  have q := (HC.out.dsk.later ht).put (name := name) (f := (tstep (f1, f2) (tearN k s.files ds).2).1) hf3 hrel (by rw [hst]; exact hm3) hfit' (by rw [sput_at HC.out.dsk.ok.srt k _ _ HF.out]; simpa using HC.out.dsk.ok.few) (HC.out.dsk.ok.nam _ (List.mem_of_getElem? HF.out))
                  exact q
                · rw [hst]
                  have hrt := Hcap.out
                  rw [if_pos trivial, show (d :: D).length - 1 = 0 from by (rw [List.length_cons]; omega)] at hrt
                  exact hrt.keep hfa (fun b hb q => by have := HC.out.own b hb; omega)
              case measure => simp [intOf]; omega
            · have hcf : (c1 == 1) = false := by simpa using hcc
              go_quiet (fail)
              go_wp2_with fail
              generalize hd0 : max 0 d = d0 at *
              have Hd0 := Lib.hid hd0
              clear hd0
              have hr1 := Int.emod_nonneg d0 hw2
              have hr2 := Int.emod_lt_of_pos d0 (show 0 < (f1.size : Int) - f2 + 1 by omega)
              have hw3 : IntKind.i64.wrap (d0.tmod ((f1.size : Int) - f2 + 1)) = d0 % ((f1.size : Int) - f2 + 1) := by rw [Int.tmod_eq_emod_of_nonneg hm0]; exact IntWalk.i64_in _ (by omega)
              have hw4 : IntKind.i64.wrap (f2 + d0 % ((f1.size : Int) - f2 + 1)) = f2 + d0 % ((f1.size : Int) - f2 + 1) := IntWalk.i64_in _ (by omega)
              refine wp_region_still_tail 8 (by kernel_rfl) (by kernel_rfl) ?_
              simp only [List.take_succ_cons, List.take_zero, List.drop_succ_cons, List.drop_zero, World.drew_eq]
              repeat still_step
              refine wpStill_nil ?_
              clear hw1 hw3 hw4
              go_wp2_with fail
              have hk1 : 0 ≤ f2 + d0 % ((f1.size : Int) - f2 + 1) := by omega
              have hk2 : f2 + d0 % ((f1.size : Int) - f2 + 1) ≤ f1.size := by omega
              have Hst := Lib.hid (show tstep (f1, f2) (tearN k s.files ds).2 = ((f1.extract 0 (f2 + d0 % ((f1.size : Int) - f2 + 1)).toNat, f2 + d0 % ((f1.size : Int) - f2 + 1)), D) by
                rw [HD2.out]
                simp only [tstep]
                rw [if_neg HZ.out]
                simp only [torn, List.headD_cons, List.tail_cons, Hd0.out])
              generalize f2 + d0 % ((f1.size : Int) - f2 + 1) = k2 at *
              clear hr1 hr2
              refine wp_region_still_tail 13 (by kernel_rfl) (by kernel_rfl) ?_
              simp only [List.take_succ_cons, List.take_zero, List.drop_succ_cons, List.drop_zero, World.drew_eq]
              repeat still_step
              refine wpStill_nil ?_
              have ht : Fr no wr (((wr.alloc (.cells #[.string f1, .int .i64 f2] 120)).drewN (nq + 1)).setCell ⟨wr.heap.size, 1, none⟩ (.int .i64 k2)).drew := ((((Fr.refl no wr).alloc _).drewN _).setCell _ _ (fun q => absurd q (by simp))).drew
              refine wp_store rfl _ _ _ rfl (hm.keep ht id) Try.underlying73 Try.underlying9 rfl _ rfl (.agg #[.string (f1.extract 0 k2.toNat), .int .i64 k2]) rfl ?_
              intro w3 hm3 hf3
              go_wp2
              go_roundw
              case rel =>
                have hst := Hst.out
                have hfa := (ht.mono (fun _ _ q => q.elim) : Fr (fun x => x = a ∨ x = m) _ _).trans hf3 (fun _ _ q => .inr q)
                refine ⟨k + 1, by go_num, HC.out.step Hp.out ?_ hfa ?_ (fun b hb => hb)⟩
                · rw [← sput_at HC.out.dsk.ok.srt k _ _ HF.out]
                  have hfit' := tstep_fit (f1, f2) (tearN k s.files ds).2 Hfit.out
                  have q := (HC.out.dsk.later ht).put (name := name) (f := (tstep (f1, f2) (tearN k s.files ds).2).1) hf3 hrel (by rw [hst]; exact hm3) hfit' (by rw [sput_at HC.out.dsk.ok.srt k _ _ HF.out]; simpa using HC.out.dsk.ok.few) (HC.out.dsk.ok.nam _ (List.mem_of_getElem? HF.out))
                  exact q
                · rw [hst]
                  have hrt := Hcap.out
                  rw [if_neg hcc] at hrt
                  exact hrt.keep hfa (fun b hb q => by have := HC.out.own b hb; omega)
              case measure => simp [intOf]; omega
      · have HE := Lib.hid (show dcrash s ds = (0, ⟨(tearN k s.files ds).1, none, false⟩) by
          have := HC.out.le
          have e : k = s.files.length := by omega
          rw [HR.out, e, tearN_all])
        go_wp2
        go_ret
        exact ⟨by rw [HE.out]; rfl, by rw [HE.out]; exact HC.out.dsk, HC.out.fr⟩
end Go.Proofs.Ythmjjbgjbcnjmaa

namespace Go.Proofs.Ythmjjbgjbcnjmaa
open Go.RowKit Go.Hop

structure CRr (w : World) (b : Nat) (v : Value) (s : DSt) (ds : List Int) (k n : Nat) (wr : World) : Prop where
  le : k ≤ s.files.length
  nk : n ≤ k
  dsk : IsR wr b v ⟨(tearN k s.files ds).1, none, false⟩
  dr : (tearN k s.files ds).2 = ds.drop n
  fr : Fr (fun x => x = b ∨ some x = v.ownBlock) w wr

theorem CRr.step {w : World} {b : Nat} {v : Value} {s : DSt} {ds : List Int} {k n n' : Nat} {wr wr' : World} {p : ByteArray × File} (h : CRr w b v s ds k n wr) (hp : s.files[k]? = some p)
    (hd : IsR wr' b v ⟨(tearN k s.files ds).1.set k (p.1, (tstep p.2 (ds.drop n)).1), none, false⟩) (hfr : Fr (fun x => x = b ∨ some x = v.ownBlock) wr wr') (hn : (tstep p.2 (ds.drop n)).2 = ds.drop n') (hnk : n' ≤ k + 1) : CRr w b v s ds (k + 1) n' wr' := by
  have e := tearN_succ k s.files ds p hp
  rw [h.dr] at e
  have hk : k < s.files.length := (List.getElem?_eq_some_iff.1 hp).1
  exact ⟨hk, hnk, by rw [e]; exact hd, by rw [e]; exact hn, h.fr.trans hfr (fun _ _ q => q)⟩

theorem CRr.wrote {w : World} {b g cv : Nat} {s : DSt} {ds : List Int} {k n : Nat} {wr wr' : World} {name F1 : ByteArray} {f : File} {F2 : Int} (h : CRr w b (.slice (some ⟨g, 0, none⟩) s.files.length cv) s ds k n wr) (hp : s.files[k]? = some (name, f)) (hst : tstep f (ds.drop n) = ((F1, F2), ds.drop (n + 1)))
    (hfr : Fr no (((wr.setCell ⟨g, k * 3, none⟩ (.string name)).setCell ⟨g, k * 3 + 1, none⟩ (.string F1)).setCell ⟨g, k * 3 + 2, none⟩ (.int .i64 F2)) wr') : CRr w b (.slice (some ⟨g, 0, none⟩) s.files.length cv) s ds (k + 1) (n + 1) wr' := by
  have hF := tearN_get k s.files ds _ hp
  have hkk : k < (tearN k s.files ds).1.length := (List.getElem?_eq_some_iff.1 hF).1
  have hfit := h.dsk.ok.fit _ (List.mem_of_getElem? hF)
  have hsp := sput_at h.dsk.ok.srt k _ (F1, F2) hF
  have hfit' := tstep_fit f (ds.drop n) hfit
  rw [hst] at hfit'
  have hok := ok_put (s := ⟨(tearN k s.files ds).1, none, false⟩) h.dsk.ok name (F1, F2) hfit' (by rw [hsp]; simpa using h.dsk.ok.few) ⟨(tearN k s.files ds).1.set k (name, (F1, F2)), none, false⟩ (by rw [hsp]) h.dsk.ok.short (h.dsk.ok.nam _ (List.mem_of_getElem? hF))
  have h3 := h.dsk.set3 k (name, (F1, F2)) hkk hok
  refine h.step hp (by rw [hst]; exact h3.later hfr) ?_ (by rw [hst]) (by have := h.nk; omega)
  exact ((((Fr.refl _ wr).setCell _ _ (fun _ => .inr rfl)).setCell _ _ (fun _ => .inr rfl)).setCell _ _ (fun _ => .inr rfl)).trans hfr (fun _ _ q => q.elim)

set_option maxHeartbeats 2000000 in
set_option maxRecDepth 100000 in
theorem rcrash_any (b : Nat) (v : Value) (s : DSt) (dv : Value) (ds : List Int) (w : World) (h : IsR w b v s) (hd : Rd encI w dv ds) (hda : ds ≠ [] → ∀ k, dv.ownBlock = some k → k < w.heap.size ∧ k ≠ b ∧ v.ownBlock ≠ some k) (hdl : ds.length ≤ 140737488351232)
    (hdw : ∀ d ∈ ds, -9223372036854775808 ≤ d ∧ d ≤ 9223372036854775807) :
    Calls Try.prog 50 #[.pointer (some ⟨b, 0, none⟩), dv] w (RDone w b v (.int .i64 (dcrash s ds).1) (dcrash s ds).2) := by
  obtain ⟨A, c, hdv, hcl⟩ := hd.len
  obtain ⟨Av, cv, rfl, hcv⟩ := h.form
  have hf1 := free_at h.blk 1
  have hf2 := free_at h.blk 2
  have hc1 := cells_at h.blk 1 _ rfl
  have hc2 := cells_at h.blk 2 _ rfl
  subst hdv
  have HD := Lib.hid hd
  have HI := Lib.hid h
  have Hda := Lib.hid hda
  have Hdw := Lib.hid hdw
  have hlb := h.lt.1
  have hfew := h.ok.few
  clear hd h hda hdw
  by_cases h1 : 4096 < ds.length
  · have HR := Lib.hid (show dcrash s ds = (2, s) by simp [dcrash, h1])
    go_enter Try.func50, Try.ntmps50
    go_wp2
    go_ret
    rw [HR.out]
    exact RDone.same HI.out (Fr.refl _ _)
  · have HR := Lib.hid (show dcrash s ds = (0, ⟨tear s.files ds, none, false⟩) by simp [dcrash, h1])
    go_enter Try.func50, Try.ntmps50
    go_wp2_with fail
    have hfr1 : Fr (fun x => x = b) w ((w.setCell ⟨b, 2, none⟩ (.bool false)).setCell ⟨b, 1, none⟩ (.int .i64 (-1))) := ((Fr.refl (fun x => x = b) w).setCell ⟨b, 2, none⟩ _ (fun _ => rfl)).setCell ⟨b, 1, none⟩ _ (fun _ => rfl)
    have hI1 : IsR ((w.setCell ⟨b, 2, none⟩ (.bool false)).setCell ⟨b, 1, none⟩ (.int .i64 (-1))) b (.slice Av s.files.length cv) ⟨s.files, none, false⟩ := by
      obtain ⟨hb, hown, hne, hok⟩ := HI.out
      have h1 := heap_setCell_at (heap_setCell_at hb 2 (.bool false)) 1 (.int .i64 (-1))
      exact ⟨by simpa [rblk, leftR] using h1, hfr1.owns hown (fun k hk q => hne (by rw [hk, q])), hne, ⟨hok.srt, hok.few, hok.fit, hok.nam, by simp⟩⟩
    have HC0 := Lib.hid (show CRr w b (.slice Av s.files.length cv) s ds 0 0 _ from ⟨Nat.zero_le _, Nat.le_refl _, hI1, rfl, hfr1.mono (fun _ _ q => .inl q)⟩)
    clear hI1 hfr1
    go_loopw [5, 6] (fun u5 u6 wr => ∃ k n : Nat, u6 = .int .i64 k ∧ u5 = .int .i64 n ∧ Hid (CRr w b (.slice Av s.files.length cv) s ds k n wr)) (fun _ i _ => s.files.length - (intOf i).toNat)
    case atStart => exact ⟨0, 0, rfl, rfl, HC0⟩
    case round =>
      clear HC0
      obtain ⟨k, n, rfl, rfl, HC⟩ := hrel
      have hkl := HC.out.le
      have hnk := HC.out.nk
      have c0 : wr.cell? ⟨b, 0, none⟩ = some (.slice Av s.files.length cv) := cells_at HC.out.dsk.blk 0 _ rfl
      have hlw : b < wr.heap.size := HC.out.dsk.lt.1
      clear hc1 hc2 hf1 hf2
      by_cases hk : k < s.files.length
      · obtain ⟨p, hp⟩ : ∃ p, s.files[k]? = some p := ⟨_, List.getElem?_eq_getElem hk⟩
        have hF := tearN_get k s.files ds p hp
        have hfit := HC.out.dsk.ok.fit p (List.mem_of_getElem? hF)
        obtain ⟨g, rfl, e0, e1, e2, e3, e4, e5⟩ := HC.out.dsk.at_ k p hF
        obtain ⟨name, f1, f2⟩ := p
        simp only at hfit e0 e1 e2
        have f0' := e3 (k * 3)
        have f1' := e3 (k * 3 + 1)
        have f2' := e3 (k * 3 + 2)
        have hfit1 := hfit.1
        have hfit2 := hfit.2.1
        have hfit3 := hfit.2.2
        have Hp := Lib.hid hp
        have HF := Lib.hid hF
        have Hfit := Lib.hid hfit
        have hgb : g ≠ wr.heap.size := by omega
        have t1 : decide ((k : Int) < (s.files.length : Int)) = true := by simp; omega
        have t2 : decide (k < s.files.length) = true := by simp; omega
        clear e3 hF hfit hp
        by_cases hz : (f2 : Int) = f1.size
        · have hz' : (f2 == (f1.size : Int)) = true := by rw [beq_iff_eq]; exact hz
          have HZ := Lib.hid hz
          clear hz
          go_wp2_with fail
          go_roundw
          case rel =>
            have hst : tstep (f1, f2) (ds.drop n) = ((f1, f2), ds.drop n) := by simp only [tstep]; rw [if_pos (by have := HZ.out; omega)]
            have hfr : Fr no wr (wr.alloc (.cells #[.string name, .string f1, .int .i64 f2] 86)) := (Fr.refl _ _).alloc _
            refine ⟨k + 1, n, by go_num, rfl, Lib.hid (HC.out.step Hp.out ?_ (hfr.mono (fun _ _ q => q.elim)) ?_ (by omega))⟩
            · simp only [hst]
              rw [List.set_getElem_self' HF.out]
              exact HC.out.dsk.later hfr
            · rw [hst]
          case measure => simp [intOf]; omega
        · have hz' : (f2 == (f1.size : Int)) = false := by rw [beq_eq_false_iff_ne]; exact hz
          have HZ := Lib.hid hz
          have hgt : f2 < f1.size := by omega
          have hw0 : IntKind.i64.wrap ((f1.size : Int) - f2) = (f1.size : Int) - f2 := IntWalk.i64_in _ (by omega)
          have hw1 : IntKind.i64.wrap ((f1.size : Int) - f2 + 1) = (f1.size : Int) - f2 + 1 := IntWalk.i64_in _ (by omega)
          have hw2 : ¬ ((f1.size : Int) - f2 + 1 = 0) := by omega
          clear hz
          by_cases hn : n < ds.length
          · have hne : ds ≠ [] := by intro q; rw [q] at hn; simp at hn
            obtain ⟨d, hd⟩ : ∃ d, ds[n]? = some d := ⟨_, List.getElem?_eq_getElem hn⟩
            have hdv := (HD.out.keep HC.out.fr (fun q hq z => by
              obtain ⟨z1, z2, z3⟩ := Hda.out hne q hq
              rcases z with z | z
              · exact z2 z
              · exact z3 z.symm))
            obtain ⟨bd, od, rfl, hcd⟩ := hdv.at_ n d hd
            have hbd : bd < wr.heap.size := Nat.lt_of_lt_of_le (Hda.out hne bd rfl).1 HC.out.fr.size
            have hdr := Hdw.out d (List.mem_of_getElem? hd)
            have hd1 := hdr.1
            have hd2 := hdr.2
            have HDn := Lib.hid (show ds.drop n = d :: ds.drop (n + 1) by rw [List.drop_eq_getElem_cons hn]; congr 1; exact (List.getElem?_eq_some_iff.1 hd).2)
            have hdb1 : bd ≠ wr.heap.size := by omega
            clear hdv hdr hd
            go_wp2_with fail
            have hm0 : 0 ≤ max 0 d := by omega
            have hm1 : max 0 d ≤ 9223372036854775807 := by omega
            generalize hd0 : max 0 d = d0 at *
            have Hd0 := Lib.hid hd0
            clear hd0
            have hr1 := Int.emod_nonneg d0 hw2
            have hr2 := Int.emod_lt_of_pos d0 (show 0 < (f1.size : Int) - f2 + 1 by omega)
            have hw3 : IntKind.i64.wrap (d0.tmod ((f1.size : Int) - f2 + 1)) = d0 % ((f1.size : Int) - f2 + 1) := by rw [Int.tmod_eq_emod_of_nonneg hm0]; exact IntWalk.i64_in _ (by omega)
            have hw4 : IntKind.i64.wrap (f2 + d0 % ((f1.size : Int) - f2 + 1)) = f2 + d0 % ((f1.size : Int) - f2 + 1) := IntWalk.i64_in _ (by omega)
            refine wp_region_still_tail 13 (by kernel_rfl) (by kernel_rfl) ?_
            simp only [List.take_succ_cons, List.take_zero, List.drop_succ_cons, List.drop_zero, World.drew_eq]
            repeat still_step
            refine wpStill_nil ?_
            clear hw0 hw1 hw3 hw4
            have hk1 : 0 ≤ f2 + d0 % ((f1.size : Int) - f2 + 1) := by omega
            have hk2 : f2 + d0 % ((f1.size : Int) - f2 + 1) ≤ f1.size := by omega
            have Hst := Lib.hid (show tstep (f1, f2) (ds.drop n) = ((f1.extract 0 (f2 + d0 % ((f1.size : Int) - f2 + 1)).toNat, f2 + d0 % ((f1.size : Int) - f2 + 1)), ds.drop (n + 1)) by
              rw [HDn.out]
              simp only [tstep]
              rw [if_neg (by have := HZ.out; omega)]
              simp only [torn, List.headD_cons, List.tail_cons, Hd0.out])
            go_wp2_with fail
            generalize f2 + d0 % ((f1.size : Int) - f2 + 1) = k2 at *
            clear hr1 hr2
            refine wp_region_still_tail 7 (by kernel_rfl) (by kernel_rfl) ?_
            simp only [List.take_succ_cons, List.take_zero, List.drop_succ_cons, List.drop_zero, World.drew_eq]
            repeat still_step
            refine wpStill_nil ?_
            go_wp2_with fail
            go_roundw
            case rel => exact ⟨k + 1, n + 1, by go_num, by go_num, Lib.hid (HC.out.wrote Hp.out Hst.out (((Fr.refl no _).alloc _).drew.drew))⟩
            case measure => simp [intOf]; omega
          · have HDn := Lib.hid (show ds.drop n = [] from List.drop_of_length_le (by omega))
            have HDn' := Lib.hid (show ds.drop (n + 1) = [] from List.drop_of_length_le (by omega))
            go_wp2_with fail
            have hw3 : IntKind.i64.wrap ((0 : Int).tmod ((f1.size : Int) - f2 + 1)) = 0 := by rw [Int.zero_tmod]; rfl
            have hw4 : IntKind.i64.wrap (f2 + 0) = f2 := by rw [Int.add_zero]; exact IntWalk.i64_in _ (by omega)
            refine wp_region_still_tail 13 (by kernel_rfl) (by kernel_rfl) ?_
            simp only [List.take_succ_cons, List.take_zero, List.drop_succ_cons, List.drop_zero, World.drew_eq]
            repeat still_step
            refine wpStill_nil ?_
            clear hw0 hw1 hw3 hw4
            go_wp2_with fail
            refine wp_region_still_tail 7 (by kernel_rfl) (by kernel_rfl) ?_
            simp only [List.take_succ_cons, List.take_zero, List.drop_succ_cons, List.drop_zero, World.drew_eq]
            repeat still_step
            refine wpStill_nil ?_
            go_wp2_with fail
            go_roundw
            case rel =>
              have hst : tstep (f1, f2) (ds.drop n) = ((f1.extract 0 f2.toNat, f2), ds.drop (n + 1)) := by
                rw [HDn.out, HDn'.out]
                simp only [tstep]
                rw [if_neg (by have := HZ.out; omega)]
                simp [torn]
              exact ⟨k + 1, n + 1, by go_num, by go_num, Lib.hid (HC.out.wrote Hp.out hst (((Fr.refl no _).alloc _).drew.drew))⟩
            case measure => simp [intOf]; omega
      · have HE := Lib.hid (show dcrash s ds = (0, ⟨(tearN k s.files ds).1, none, false⟩) by
          have e : k = s.files.length := by omega
          rw [HR.out, e, tearN_all])
        have t1 : decide ((k : Int) < (s.files.length : Int)) = false := by simp; omega
        have t2 : decide (k < s.files.length) = false := by simp; omega
        go_wp2_with fail
        go_ret
        rw [HE.out]
        exact RDone.same HC.out.dsk HC.out.fr
end Go.Proofs.Ythmjjbgjbcnjmaa

namespace Go.Proofs.Ythmjjbgjbcnjmaa
open Go.RowKit Go.Hop

def AsBefore (w : World) (r : Value) (e : Ending) (w' : World) : Prop := e = .returned r ∧ Fr no w w'

set_option maxHeartbeats 1000000 in
set_option maxRecDepth 100000 in
theorem texts_any (v v' : Value) (xs : List ByteArray) (w : World) (h : Rd (fun x => Value.string x) w v xs) (h' : Rd (fun x => Value.string x) w v' xs) (hl : xs.length ≤ 4611686018427387903) :
    Calls Try.prog 20 #[v, v'] w (AsBefore w (.bool true)) := by
  obtain ⟨A, c, rfl, hc⟩ := h.len
  obtain ⟨A', c', rfl, hc'⟩ := h'.len
  have H := Lib.hid h
  have H' := Lib.hid h'
  clear h h'
  go_enter Try.func20, Try.ntmps20
  go_wp2
  go_loopw [5] (fun i wr => ∃ k q : Nat, k ≤ xs.length ∧ i = .int .i64 k ∧ wr = w.drewN q) (fun i _ => xs.length - (intOf i).toNat)
  case atStart => exact ⟨0, 0, Nat.zero_le _, rfl, rfl⟩
  case round =>
    obtain ⟨k, q, hk, rfl, rfl⟩ := hrel
    by_cases hlt : k < xs.length
    · obtain ⟨x, hx⟩ : ∃ x, xs[k]? = some x := ⟨_, List.getElem?_eq_getElem hlt⟩
      obtain ⟨b, off, rfl, e0⟩ := H.out.at_ k x hx
      obtain ⟨b', off', rfl, e0'⟩ := H'.out.at_ k x hx
      have t1 : decide ((k : Int) < (xs.length : Int)) = true := by simp; omega
      have t2 : decide (k < xs.length) = true := by simp; omega
      clear hx
      go_wp2_with fail
      go_quiet (fail)
      go_wp2_with fail
      go_roundw
      case rel => exact ⟨k + 1, _, by omega, by go_num, rfl⟩
      case measure => simp [intOf]; omega
    · have t1 : decide ((k : Int) < (xs.length : Int)) = false := by simp; omega
      have t2 : decide (k < xs.length) = false := by simp; omega
      go_wp2
      go_ret
      exact ⟨rfl, (Fr.refl _ _).drewN _⟩

set_option maxHeartbeats 1000000 in
set_option maxRecDepth 100000 in
theorem ints_any (v v' : Value) (xs : List Int) (w : World) (h : Rd encI w v xs) (h' : Rd encI w v' xs) (hl : xs.length ≤ 4611686018427387903) :
    Calls Try.prog 62 #[v, v'] w (AsBefore w (.bool true)) := by
  obtain ⟨A, c, rfl, hc⟩ := h.len
  obtain ⟨A', c', rfl, hc'⟩ := h'.len
  have H := Lib.hid h
  have H' := Lib.hid h'
  clear h h'
  go_enter Try.func62, Try.ntmps62
  go_wp2
  go_loopw [5] (fun i wr => ∃ k q : Nat, k ≤ xs.length ∧ i = .int .i64 k ∧ wr = w.drewN q) (fun i _ => xs.length - (intOf i).toNat)
  case atStart => exact ⟨0, 0, Nat.zero_le _, rfl, rfl⟩
  case round =>
    obtain ⟨k, q, hk, rfl, rfl⟩ := hrel
    by_cases hlt : k < xs.length
    · obtain ⟨x, hx⟩ : ∃ x, xs[k]? = some x := ⟨_, List.getElem?_eq_getElem hlt⟩
      obtain ⟨b, off, rfl, e0⟩ := H.out.at_ k x hx
      obtain ⟨b', off', rfl, e0'⟩ := H'.out.at_ k x hx
      have t1 : decide ((k : Int) < (xs.length : Int)) = true := by simp; omega
      have t2 : decide (k < xs.length) = true := by simp; omega
      clear hx
      go_wp2_with fail
      go_quiet (fail)
      go_wp2_with fail
      go_roundw
      case rel => exact ⟨k + 1, _, by omega, by go_num, rfl⟩
      case measure => simp [intOf]; omega
    · have t1 : decide ((k : Int) < (xs.length : Int)) = false := by simp; omega
      have t2 : decide (k < xs.length) = false := by simp; omega
      go_wp2
      go_ret
      exact ⟨rfl, (Fr.refl _ _).drewN _⟩

theorem El29 : El Try.prog 29 3 1 8 := El.mk_ (.int .i64 0) Try.underlying29 (by decide) rfl (by kernel_rfl)
/-- a lent copy: the ints, and -77 behind them -/
structure Lent (w : World) (g n c : Nat) (xs : List Int) : Prop where
  rd : Rd encI w (.slice (some ⟨g, 0, none⟩) n c) xs
  ln : n = xs.length
  cap : n + 1 ≤ c
  cell : w.cell? ⟨g, n, none⟩ = some (.int .i64 (-77))
  lt : g < w.heap.size
theorem Rc.of_rd {w : World} {v : Value} {xs : List Int} (h : Rd encI w v xs) : Rc w 1 v xs.length (xs.map encI) := by
  obtain ⟨A, c, rfl, hc, hx⟩ := h
  refine ⟨A, c, rfl, hc, by simp, by simp [encI, Value.oneCell'], fun j u hj => ?_⟩
  rw [List.getElem?_map] at hj
  cases hxj : xs[j]? with
  | none => simp [hxj] at hj
  | some x =>
    simp only [hxj, Option.map_some, Option.some.injEq] at hj
    subst hj
    exact hx j x hxj
theorem Lent.keep {S : Nat → Prop} {w w' : World} {g n c : Nat} {xs : List Int} (h : Lent w g n c xs) (hf : Fr S w w') (hg : ¬ S g) : Lent w' g n c xs :=
  ⟨h.rd.keep hf (fun k hk => by injection hk with hk; exact hk ▸ hg), h.ln, h.cap, hf.cell h.cell hg, Nat.lt_of_lt_of_le h.lt hf.size⟩

set_option maxHeartbeats 1000000 in
theorem among_any (k : Int) (w : World) (h : -9223372036854775808 ≤ k ∧ k ≤ 9223372036854775807) : Calls Try.prog 35 #[.int .i64 k, .int .i64 7] w (fun e w' => e = .returned (.int .i64 (k.tmod 7 % 7)) ∧ w = w') := by
  have h1 := h.1
  have h2 := h.2
  have r1 := Int.tmod_lt_of_pos k (show (0 : Int) < 7 by omega)
  have r2 := Int.lt_tmod_of_pos k (show (0 : Int) < 7 by omega)
  have hw1 : IntKind.i64.wrap (k.tmod 7) = k.tmod 7 := IntWalk.i64_in _ (by omega)
  have hw2 : IntKind.i64.wrap (k.tmod 7 + 7) = k.tmod 7 + 7 := IntWalk.i64_in _ (by omega)
  have r3 := Int.tmod_lt_of_pos (k.tmod 7 + 7) (show (0 : Int) < 7 by omega)
  have r4 := Int.tmod_nonneg 7 (show 0 ≤ k.tmod 7 + 7 by omega)
  have hw3 : IntKind.i64.wrap ((k.tmod 7 + 7).tmod 7) = (k.tmod 7 + 7).tmod 7 := IntWalk.i64_in _ (by omega)
  go_enter Try.func35, Try.ntmps35
  go_wp2
  go_ret
  exact ⟨by simp, rfl⟩

theorem owns_form {w : World} {base size n : Nat} {e : TypeId} {v : Value} {xs : List Value} (h : w.ownsRow base e size v n xs) (hn : 0 < n) : ∃ g cap, v = .slice (some ⟨g, 0, none⟩) n cap ∧ base ≤ g ∧ g < w.heap.size ∧ n ≤ cap := by
  rcases h.2 with ⟨_, h0⟩ | ⟨g, cap, cur, hv, hb, hg, hc, _⟩
  · omega
  · exact ⟨g, cap, hv, hb, heap_lt hg, hc⟩

theorem Lent.of_owns {w : World} {base g cap : Nat} {e : TypeId} {xs : List Int} (h : w.ownsRow base e 1 (.slice (some ⟨g, 0, none⟩) (0 + xs.length + 1) cap) (0 + xs.length + 1) ([] ++ xs.map encI ++ [.int .i64 (-77)])) (hc : 0 + xs.length + 1 ≤ cap) (hg : g < w.heap.size) : Lent w g xs.length cap xs := by
  refine ⟨⟨_, cap, rfl, by omega, fun j x hj => ⟨g, 0, rfl, ?_⟩⟩, rfl, by omega, ?_, hg⟩
  · have hlt := (List.getElem?_eq_some_iff.1 hj).1
    rw [Nat.zero_add, h.cellAt j (by omega), List.nil_append, List.getElem?_append_left (by simpa using hlt), List.getElem?_map, hj]; rfl
  · rw [h.cellAt xs.length (by omega), List.nil_append, List.getElem?_append_right (by simp)]; simp

set_option maxHeartbeats 1000000 in
set_option maxRecDepth 100000 in
theorem lend_any (v : Value) (xs : List Int) (w : World) (h : Rd encI w v xs) (hl : xs.length ≤ 8796093022207) :
    Calls Try.prog 48 #[v] w (fun e w' => ∃ g c, e = .returned (.slice (some ⟨g, 0, none⟩) xs.length c) ∧ Lent w' g xs.length c xs ∧ w.heap.size ≤ g ∧ Fr no w w') := by
  obtain ⟨A, c, rfl, hc⟩ := h.len
  have HRc := Lib.hid (Rc.of_rd h)
  clear h
  go_enter Try.func48, Try.ntmps48
  go_wp2_with (first | (at_builtin; go_loud (refine wp_append rfl (.tmp 4) (.tmp 5) 29 rfl El29 _ 0 [] rfl ((World.ownsRow_lit (base := w.heap.size) (size := 1) (e := 3) w #[] 0 (Nat.le_refl _) (by unfold maxLen; omega) rfl)) _ _ _ rfl (HRc.out.keep ((Fr.refl no w).alloc _) (fun _ _ z => z)) (by unfold maxLen; omega) (by omega) (by simp) ?_; intro v1 w1 ho1 hg1 hloc1; have HO1 := Lib.hid ho1; have HG1 := Lib.hid hg1; clear ho1 hg1 hloc1)) | (at_builtin; go_loud (refine wp_append rfl (.tmp 7) (.tmp 8) 29 rfl El29 _ _ _ rfl (HO1.out.alloc _) _ 1 [.int .i64 (-77)] rfl (rc_new1 _ _ _) (by unfold maxLen; omega) (by omega) (by have := HG1.out.size; simp at this ⊢; omega) ?_; intro v2 w2 ho2 hg2 hloc2; obtain ⟨g, cap, hv2, hb2, hs2, hc2⟩ := owns_form ho2 (by omega); subst hv2; have hcI : (xs.length : Int) ≤ cap := (by omega); have hcN : xs.length ≤ cap := (by omega); have HO2 := Lib.hid ho2; have HG2 := Lib.hid hg2; clear ho2 hg2 hloc2)) | fail)
  go_ret
  have h01 : Fr no w w1 := ((Fr.refl no w).alloc (.cells #[] 3)).trans (Fr.grown HG1.out) (fun i hi q => absurd hi (by
    have q2 : some i = some w.heap.size := q
    injection q2 with q2; omega))
  exact ⟨g, cap, rfl, Lent.of_owns HO2.out hc2 hs2, hb2, (h01.alloc _).trans (Fr.grown HG2.out) (fun i hi q => absurd (HO1.out.lt i q.symm).1 (by omega))⟩

set_option maxHeartbeats 1000000 in
set_option maxRecDepth 100000 in
theorem kept_any (g c : Nat) (v : Value) (xs : List Int) (w : World) (h : Lent w g xs.length c xs) (h' : Rd encI w v xs) (hl : xs.length ≤ 8796093022207) :
    Calls Try.prog 51 #[.slice (some ⟨g, 0, none⟩) xs.length c, v] w (AsBefore w (.bool true)) := by
  obtain ⟨A', c', rfl, hc'⟩ := h'.len
  have hcell := h.cell
  have hcap := h.cap
  have hlt := h.lt
  have H := Lib.hid h
  have H' := Lib.hid h'
  have hcI : (xs.length : Int) + 1 ≤ c := by omega
  clear h h'
  go_enter Try.func51, Try.ntmps51
  go_wp2_with (first | (go_at_call 62; go_loud (refine (ints_any _ _ xs _ H.out.rd H'.out (by omega)).mono ?_; rintro e w1 ⟨rfl, hf⟩; have e0 := hf.cell hcell id)) | fail)
  go_ret
  exact ⟨by simp, hf⟩

theorem lawnames_any (w : World) : Calls Try.prog 11 #[] w (fun e w' => e = .returned (.bool true) ∧ w = w') := by
  go_enter Try.func11, Try.ntmps11
  go_wp2
  go_ret
  exact ⟨rfl, rfl⟩
end Go.Proofs.Ythmjjbgjbcnjmaa

namespace Go.Proofs.Ythmjjbgjbcnjmaa
open Go.RowKit Go.Hop
attribute [local go_sem ↓] Go.wp_at_zero Go.wp_at_succ

/-- the two disks, in one state -/
structure Two (w : World) (a m b : Nat) (v : Value) (s : DSt) : Prop where
  d : IsD w a m s
  r : IsR w b v s
  ab : a ≠ b
  mb : m ≠ b
  va : v.ownBlock ≠ some a
  vm : v.ownBlock ≠ some m
def Four (a m b : Nat) (v : Value) (k : Nat) : Prop := k = a ∨ k = m ∨ k = b ∨ some k = v.ownBlock
theorem Two.keep {S : Nat → Prop} {w w' : World} {a m b : Nat} {v : Value} {s : DSt} (h : Two w a m b v s) (hf : Fr S w w') (hs : ∀ k, S k → ¬ Four a m b v k) : Two w' a m b v s :=
  ⟨h.d.keep hf (fun q => hs _ q (.inl rfl)) (fun q => hs _ q (.inr (.inl rfl))), h.r.keep hf (fun q => hs _ q (.inr (.inr (.inl rfl)))) (fun k hk q => hs _ q (.inr (.inr (.inr hk.symm)))), h.ab, h.mb, h.va, h.vm⟩
theorem Two.later {w w' : World} {a m b : Nat} {v : Value} {s : DSt} (h : Two w a m b v s) (hf : Fr no w w') : Two w' a m b v s := h.keep hf (fun _ q => q.elim)
theorem Two.lt {w : World} {a m b : Nat} {v : Value} {s : DSt} (h : Two w a m b v s) : ∀ k, Four a m b v k → k < w.heap.size := by
  rintro k (rfl | rfl | rfl | q)
  · exact h.d.lt.1
  · exact h.d.lt.2
  · exact h.r.lt.1
  · exact h.r.lt.2 k q.symm
/-- both disks have done the same -/
def Both (w : World) (a m b : Nat) (v : Value) (s' : DSt) (w' : World) : Prop := ∃ v', Two w' a m b v' s' ∧ Fr (Four a m b v) w w' ∧ ∀ g, v'.ownBlock = some g → v.ownBlock = some g ∨ w.heap.size ≤ g
theorem both_of {w w1 w2 w3 : World} {a m b : Nat} {v v' : Value} {s s' : DSt} (h : Two w a m b v s) (hd : IsD w1 a m s') (hf1 : Fr (fun k => k = a ∨ k = m) w w1) (h12 : Fr no w1 w2)
    (hr : IsR w3 b v' s') (hf3 : Fr (fun k => k = b ∨ some k = v.ownBlock) w2 w3) (hv : ∀ g, v'.ownBlock = some g → v.ownBlock = some g ∨ w2.heap.size ≤ g) : Both w a m b v s' w3 := by
  have hl := h.lt
  have hs1 := hf1.size
  have hs2 := h12.size
  have hd3 : IsD w3 a m s' := (hd.later h12).keep hf3 (fun q => by rcases q with q | q; exact h.ab q; exact h.va q.symm) (fun q => by rcases q with q | q; exact h.mb q; exact h.vm q.symm)
  refine ⟨v', ⟨hd3, hr, h.ab, h.mb, fun q => ?_, fun q => ?_⟩, ?_, fun g hg => (hv g hg).imp id (fun z => by omega)⟩
  · rcases hv a q with z | z
    · exact h.va z
    · have := hl a (.inl rfl); omega
  · rcases hv m q with z | z
    · exact h.vm z
    · have := hl m (.inr (.inl rfl)); omega
  · exact ((hf1.mono (fun _ _ q => by rcases q with q | q; exact .inl q; exact .inr (.inl q))).trans h12 (fun _ _ q => q.elim)).trans hf3 (fun _ _ q => by rcases q with q | q; exact .inr (.inr (.inl q)); exact .inr (.inr (.inr q)))
theorem Both.before {w w1 w2 : World} {a m b : Nat} {v : Value} {s' : DSt} (hf : Fr no w w1) (h : Both w1 a m b v s' w2) : Both w a m b v s' w2 := by
  obtain ⟨v', h1, h2, h3⟩ := h
  exact ⟨v', h1, (hf.mono (fun _ _ q => q.elim)).trans h2 (fun _ _ q => q), fun g hg => (h3 g hg).imp id (fun z => Nat.le_trans hf.size z)⟩
theorem Both.after {w w1 w2 : World} {a m b : Nat} {v : Value} {s' : DSt} (h : Both w a m b v s' w1) (hf : Fr no w1 w2) : Both w a m b v s' w2 := by
  obtain ⟨v', h1, h2, h3⟩ := h
  exact ⟨v', h1.later hf, h2.trans hf (fun _ _ q => q.elim), h3⟩
/-- an act's cells -/
def ActAt (w : World) (p : Nat) (k : Int) (name data : ByteArray) (n : Int) (dv : Value) : Prop :=
  w.cell? ⟨p, 0, none⟩ = some (.int .i64 k) ∧ w.cell? ⟨p, 1, none⟩ = some (.string name) ∧ w.cell? ⟨p, 2, none⟩ = some (.string data) ∧ w.cell? ⟨p, 3, none⟩ = some (.int .i64 n) ∧ w.cell? ⟨p, 4, none⟩ = some dv
theorem ActAt.keep {S : Nat → Prop} {w w' : World} {p : Nat} {k : Int} {name data : ByteArray} {n : Int} {dv : Value} (h : ActAt w p k name data n dv) (hf : Fr S w w') (hp : ¬ S p) : ActAt w' p k name data n dv :=
  ⟨hf.cell h.1 hp, hf.cell h.2.1 hp, hf.cell h.2.2.1 hp, hf.cell h.2.2.2.1 hp, hf.cell h.2.2.2.2 hp⟩
theorem ActAt.new (w : World) (k : Int) (name data : ByteArray) (n : Int) (dv : Value) (t : Nat) : ActAt (w.alloc (.cells #[.int .i64 k, .string name, .string data, .int .i64 n, dv] t)) w.heap.size k name data n dv := by
  have h := heap_alloc_at w (.cells #[.int .i64 k, .string name, .string data, .int .i64 n, dv] t)
  exact ⟨cells_at h 0 _ rfl, cells_at h 1 _ rfl, cells_at h 2 _ rfl, cells_at h 3 _ rfl, cells_at h 4 _ rfl⟩
/-- every file's name is one that is allowed -/
def Names (s : DSt) : Prop := ∀ p ∈ s.files, named p.1 = true
theorem Names.of {s s' : DSt} (h : Names s) (e : s'.files = s.files) : Names s' := by unfold Names; rw [e]; exact h
theorem Names.chg {s : DSt} (h : Names s) : Names (Hop.chg s).2 := h.of (chg_files s)
theorem Names.put {s : DSt} (h : Names s) {name : ByteArray} {f : File} (hn : named name = true) {s' : DSt} (e : s'.files = sput s.files name f) : Names s' := by
  intro p hp
  rw [e] at hp
  rcases mem_sput hp with rfl | hp
  · exact hn
  · exact h p hp
theorem Names.del {s : DSt} (h : Names s) (name : ByteArray) {s' : DSt} (e : s'.files = Hop.del s.files name) : Names s' := fun p hp => h p ((sub_del _ _).subset (e ▸ hp))
theorem known_named {s : DSt} {name : ByteArray} (h : dknown s name = 0) : named name = true := by
  cases hn : named name with
  | true => rfl
  | false => simp [dknown, hn] at h
theorem Names.append {s : DSt} (h : Names s) (name data : ByteArray) : Names (dappend s name data).2 := by
  unfold dappend
  cases hn : named name with
  | false => simpa using h
  | true =>
    simp only [Bool.true_eq_false, if_false]
    split
    · exact h
    · split
      · exact h.chg
      · exact h.put hn rfl
theorem Names.sync {s : DSt} (h : Names s) (name : ByteArray) : Names (dsync s name).2 := by
  unfold dsync
  simp only
  split
  · next hz => exact h.put (known_named (alter_zero hz)) rfl
  · exact h.of (alter_files s name)
theorem Names.rename {s : DSt} (h : Names s) (a b : ByteArray) : Names (drename s a b).2 := by
  unfold drename
  split
  · exact h
  · next hn =>
    simp only
    split
    · split
      · exact h.of (alter_files s a)
      · have hb : named b = true := by
          cases hb : named b with
          | true => rfl
          | false => exact absurd (.inr hb) hn
        exact (h.del a (s' := ⟨Hop.del s.files a, none, false⟩) rfl).put hb rfl
    · exact h.of (alter_files s a)
theorem Names.remove {s : DSt} (h : Names s) (name : ByteArray) : Names (dremove s name).2 := by
  unfold dremove
  simp only
  split
  · exact h.del name rfl
  · exact h.of (alter_files s name)
theorem Names.fuse {s : DSt} (h : Names s) (n : Int) : Names (dfuse s n).2 := by unfold dfuse; split <;> exact h
theorem Names.crash {s : DSt} (h : Names s) (ds : List Int) : Names (dcrash s ds).2 := by
  unfold dcrash
  split
  · exact h
  · intro p hp
    have hk := tearN_keys s.files.length s.files ds
    rw [tearN_all] at hk
    have : p.1 ∈ (tear s.files ds).map (·.1) := List.mem_map.2 ⟨p, hp, rfl⟩
    rw [hk] at this
    obtain ⟨q, hq, e⟩ := List.mem_map.1 this
    rw [← e]; exact h q hq
def StepPost (w : World) (a m b : Nat) (v : Value) (s : DSt) (e : Ending) (w' : World) : Prop := e = .returned (.bool true) ∧ ∃ s', (Names s → Names s') ∧ Both w a m b v s' w'

theorem Two.r1 {w w1 : World} {o : Obj} {a m b : Nat} {v : Value} {s : DSt} (h : Two w a m b v s) (hf : Fr (fun k => k = a ∨ k = m) (w.alloc o).drew w1) : IsR w1 b v s :=
  (h.r.later (Fr.drew (Fr.alloc (Fr.refl no w) o))).keep hf (fun q => by rcases q with q | q; exact h.ab q.symm; exact h.mb q.symm) (fun k hk q => by rcases q with q | q; exact h.va (q ▸ hk); exact h.vm (q ▸ hk))
theorem ActAt.keep1 {w w1 : World} {o : Obj} {a m b : Nat} {v : Value} {s : DSt} {k : Int} {name data : ByteArray} {n : Int} {dv : Value} (h : ActAt (w.alloc o) w.heap.size k name data n dv) (h2 : Two w a m b v s) (hf : Fr (fun k => k = a ∨ k = m) (w.alloc o).drew w1) : ActAt w1 w.heap.size k name data n dv :=
  (h.keep (Fr.drew (Fr.refl no _)) id).keep hf (fun q => by have l := h2.lt; rcases q with q | q; exact absurd (l _ (.inl q)) (by omega); exact absurd (l _ (.inr (.inl q))) (by omega))
theorem ActAt.keep2 {w w1 w2 : World} {a m b : Nat} {v : Value} {s : DSt} {k : Int} {name data : ByteArray} {n : Int} {dv : Value} (h : ActAt w1 w.heap.size k name data n dv) (h2 : Two w a m b v s) (hf : Fr (fun k => k = b ∨ some k = v.ownBlock) w1 w2) : ActAt w2 w.heap.size k name data n dv :=
  h.keep hf (fun q => by have l := h2.lt; rcases q with q | q; exact absurd (l _ (.inr (.inr (.inl q)))) (by omega); exact absurd (l _ (.inr (.inr (.inr q)))) (by omega))

set_option maxHeartbeats 1000000 in
set_option maxRecDepth 100000 in
theorem step_append (a m b : Nat) (v : Value) (s : DSt) (k : Int) (name data : ByteArray) (n : Int) (dv : Value) (w : World) (h : Two w a m b v s) (hn : name.size ≤ 140737488351232) (hd : data.size ≤ 140737488351232) (hn2 : n ≤ 9223372036854775807) (hk : -9223372036854775808 ≤ k ∧ k ≤ 9223372036854775807)
   (hone : dv.oneCell' = true) (hr : k.tmod 7 % 7 = 0) : Calls Try.prog 12 #[.pointer (some ⟨a, 0, none⟩), .pointer (some ⟨b, 0, none⟩), .agg #[.int .i64 k, .string name, .string data, .int .i64 n, dv]] w (StepPost w a m b v s) := by
  have H := Lib.hid h
  have HR := Lib.hid hr
  have hnew := ActAt.new w k name data n dv 31
  clear h hr
  go_enter Try.func12, Try.ntmps12
  go_wp2_with (first | (go_at_call 35; refine (among_any k _ hk).mono ?_; rintro e w' ⟨rfl, rfl⟩; rw [HR.out]) | fail)
  go_region_held3 (fun w' => w'.cell? ⟨w.heap.size, 0, none⟩ = some (.int .i64 k) ∧ w'.cell? ⟨w.heap.size, 1, none⟩ = some (.string name) ∧ w'.cell? ⟨w.heap.size, 2, none⟩ = some (.string data) ∧ w'.cell? ⟨w.heap.size, 3, none⟩ = some (.int .i64 n) ∧ w'.cell? ⟨w.heap.size, 4, none⟩ = some dv) (first | (exact hnew2) | (exact hnew1) | (exact hnew) | (exact hnew.keep (Fr.drew (Fr.refl no _)) id)) (first | (go_at_call 36; refine (append_any a m s name data _ (H.out.d.later (Fr.drew (Fr.alloc (Fr.refl no w) _))) hn hd).mono ?_; rintro e w1 ⟨rfl, hI1, hf1⟩; have hr1 := H.out.r1 hf1; have hnew1 := hnew.keep1 H.out hf1) | (go_at_call 37; refine (rappend_any b v s name data _ hr1 hn hd).mono ?_; rintro e w2 ⟨v2, rfl, hI2, hf2, hv2⟩; have hnew2 := hnew1.keep2 H.out hf2))
  all_goals go_wp2
  all_goals go_ret
  all_goals exact ⟨by simp, _, fun q => q.append _ _, Both.before (Fr.drew (Fr.alloc (Fr.refl no w) _)) (both_of (H.out.later (Fr.drew (Fr.alloc (Fr.refl no w) _))) hI1 hf1 (Fr.refl no _) hI2 hf2 hv2)⟩

set_option maxHeartbeats 1000000 in
set_option maxRecDepth 100000 in
theorem step_sync (a m b : Nat) (v : Value) (s : DSt) (k : Int) (name data : ByteArray) (n : Int) (dv : Value) (w : World) (h : Two w a m b v s) (hn : name.size ≤ 140737488351232) (hd : data.size ≤ 140737488351232) (hn2 : n ≤ 9223372036854775807) (hk : -9223372036854775808 ≤ k ∧ k ≤ 9223372036854775807)
   (hone : dv.oneCell' = true) (hr : k.tmod 7 % 7 = 1) : Calls Try.prog 12 #[.pointer (some ⟨a, 0, none⟩), .pointer (some ⟨b, 0, none⟩), .agg #[.int .i64 k, .string name, .string data, .int .i64 n, dv]] w (StepPost w a m b v s) := by
  have H := Lib.hid h
  have HR := Lib.hid hr
  have hnew := ActAt.new w k name data n dv 31
  clear h hr
  go_enter Try.func12, Try.ntmps12
  go_wp2_with (first | (go_at_call 35; refine (among_any k _ hk).mono ?_; rintro e w' ⟨rfl, rfl⟩; rw [HR.out]) | fail)
  go_region_held3 (fun w' => w'.cell? ⟨w.heap.size, 0, none⟩ = some (.int .i64 k) ∧ w'.cell? ⟨w.heap.size, 1, none⟩ = some (.string name) ∧ w'.cell? ⟨w.heap.size, 2, none⟩ = some (.string data) ∧ w'.cell? ⟨w.heap.size, 3, none⟩ = some (.int .i64 n) ∧ w'.cell? ⟨w.heap.size, 4, none⟩ = some dv) (first | (exact hnew2) | (exact hnew1) | (exact hnew) | (exact hnew.keep (Fr.drew (Fr.refl no _)) id)) (first | (go_at_call 38; refine (sync_any a m s name _ (H.out.d.later (Fr.drew (Fr.alloc (Fr.refl no w) _))) hn).mono ?_; rintro e w1 ⟨rfl, hI1, hf1⟩; have hr1 := H.out.r1 hf1; have hnew1 := hnew.keep1 H.out hf1) | (go_at_call 39; refine (rsync_any b v s name _ hr1 hn).mono ?_; rintro e w2 ⟨v2, rfl, hI2, hf2, hv2⟩; have hnew2 := hnew1.keep2 H.out hf2))
  all_goals go_wp2
  all_goals go_ret
  all_goals exact ⟨by simp, _, fun q => q.sync _, Both.before (Fr.drew (Fr.alloc (Fr.refl no w) _)) (both_of (H.out.later (Fr.drew (Fr.alloc (Fr.refl no w) _))) hI1 hf1 (Fr.refl no _) hI2 hf2 hv2)⟩

set_option maxHeartbeats 1000000 in
set_option maxRecDepth 100000 in
theorem step_rename (a m b : Nat) (v : Value) (s : DSt) (k : Int) (name data : ByteArray) (n : Int) (dv : Value) (w : World) (h : Two w a m b v s) (hn : name.size ≤ 140737488351232) (hd : data.size ≤ 140737488351232) (hn2 : n ≤ 9223372036854775807) (hk : -9223372036854775808 ≤ k ∧ k ≤ 9223372036854775807)
   (hone : dv.oneCell' = true) (hr : k.tmod 7 % 7 = 2) : Calls Try.prog 12 #[.pointer (some ⟨a, 0, none⟩), .pointer (some ⟨b, 0, none⟩), .agg #[.int .i64 k, .string name, .string data, .int .i64 n, dv]] w (StepPost w a m b v s) := by
  have H := Lib.hid h
  have HR := Lib.hid hr
  have hnew := ActAt.new w k name data n dv 31
  clear h hr
  go_enter Try.func12, Try.ntmps12
  go_wp2_with (first | (go_at_call 35; refine (among_any k _ hk).mono ?_; rintro e w' ⟨rfl, rfl⟩; rw [HR.out]) | fail)
  go_region_held3 (fun w' => w'.cell? ⟨w.heap.size, 0, none⟩ = some (.int .i64 k) ∧ w'.cell? ⟨w.heap.size, 1, none⟩ = some (.string name) ∧ w'.cell? ⟨w.heap.size, 2, none⟩ = some (.string data) ∧ w'.cell? ⟨w.heap.size, 3, none⟩ = some (.int .i64 n) ∧ w'.cell? ⟨w.heap.size, 4, none⟩ = some dv) (first | (exact hnew2) | (exact hnew1) | (exact hnew) | (exact hnew.keep (Fr.drew (Fr.refl no _)) id)) (first | (go_at_call 40; refine (rename_any a m s name data _ (H.out.d.later (Fr.drew (Fr.alloc (Fr.refl no w) _))) hn hd).mono ?_; rintro e w1 ⟨rfl, hI1, hf1⟩; have hr1 := H.out.r1 hf1; have hnew1 := hnew.keep1 H.out hf1) | (go_at_call 41; refine (rrename_any b v s name data _ hr1 hn hd).mono ?_; rintro e w2 ⟨v2, rfl, hI2, hf2, hv2⟩; have hnew2 := hnew1.keep2 H.out hf2))
  all_goals go_wp2
  all_goals go_ret
  all_goals exact ⟨by simp, _, fun q => q.rename _ _, Both.before (Fr.drew (Fr.alloc (Fr.refl no w) _)) (both_of (H.out.later (Fr.drew (Fr.alloc (Fr.refl no w) _))) hI1 hf1 (Fr.refl no _) hI2 hf2 hv2)⟩

set_option maxHeartbeats 1000000 in
set_option maxRecDepth 100000 in
theorem step_remove (a m b : Nat) (v : Value) (s : DSt) (k : Int) (name data : ByteArray) (n : Int) (dv : Value) (w : World) (h : Two w a m b v s) (hn : name.size ≤ 140737488351232) (hd : data.size ≤ 140737488351232) (hn2 : n ≤ 9223372036854775807) (hk : -9223372036854775808 ≤ k ∧ k ≤ 9223372036854775807)
   (hone : dv.oneCell' = true) (hr : k.tmod 7 % 7 = 3) : Calls Try.prog 12 #[.pointer (some ⟨a, 0, none⟩), .pointer (some ⟨b, 0, none⟩), .agg #[.int .i64 k, .string name, .string data, .int .i64 n, dv]] w (StepPost w a m b v s) := by
  have H := Lib.hid h
  have HR := Lib.hid hr
  have hnew := ActAt.new w k name data n dv 31
  clear h hr
  go_enter Try.func12, Try.ntmps12
  go_wp2_with (first | (go_at_call 35; refine (among_any k _ hk).mono ?_; rintro e w' ⟨rfl, rfl⟩; rw [HR.out]) | fail)
  go_region_held3 (fun w' => w'.cell? ⟨w.heap.size, 0, none⟩ = some (.int .i64 k) ∧ w'.cell? ⟨w.heap.size, 1, none⟩ = some (.string name) ∧ w'.cell? ⟨w.heap.size, 2, none⟩ = some (.string data) ∧ w'.cell? ⟨w.heap.size, 3, none⟩ = some (.int .i64 n) ∧ w'.cell? ⟨w.heap.size, 4, none⟩ = some dv) (first | (exact hnew2) | (exact hnew1) | (exact hnew) | (exact hnew.keep (Fr.drew (Fr.refl no _)) id)) (first | (go_at_call 42; refine (remove_any a m s name _ (H.out.d.later (Fr.drew (Fr.alloc (Fr.refl no w) _))) hn).mono ?_; rintro e w1 ⟨rfl, hI1, hf1⟩; have hr1 := H.out.r1 hf1; have hnew1 := hnew.keep1 H.out hf1) | (go_at_call 43; refine (rremove_any b v s name _ hr1 hn).mono ?_; rintro e w2 ⟨v2, rfl, hI2, hf2, hv2⟩; have hnew2 := hnew1.keep2 H.out hf2))
  all_goals go_wp2
  all_goals go_ret
  all_goals exact ⟨by simp, _, fun q => q.remove _, Both.before (Fr.drew (Fr.alloc (Fr.refl no w) _)) (both_of (H.out.later (Fr.drew (Fr.alloc (Fr.refl no w) _))) hI1 hf1 (Fr.refl no _) hI2 hf2 hv2)⟩

set_option maxHeartbeats 1000000 in
set_option maxRecDepth 100000 in
theorem step_fuse (a m b : Nat) (v : Value) (s : DSt) (k : Int) (name data : ByteArray) (n : Int) (dv : Value) (w : World) (h : Two w a m b v s) (hn : name.size ≤ 140737488351232) (hd : data.size ≤ 140737488351232) (hn2 : n ≤ 9223372036854775807) (hk : -9223372036854775808 ≤ k ∧ k ≤ 9223372036854775807)
   (hone : dv.oneCell' = true) (hr : k.tmod 7 % 7 = 5) : Calls Try.prog 12 #[.pointer (some ⟨a, 0, none⟩), .pointer (some ⟨b, 0, none⟩), .agg #[.int .i64 k, .string name, .string data, .int .i64 n, dv]] w (StepPost w a m b v s) := by
  have H := Lib.hid h
  have HR := Lib.hid hr
  have hnew := ActAt.new w k name data n dv 31
  clear h hr
  go_enter Try.func12, Try.ntmps12
  go_wp2_with (first | (go_at_call 35; refine (among_any k _ hk).mono ?_; rintro e w' ⟨rfl, rfl⟩; rw [HR.out]) | fail)
  go_region_held3 (fun w' => w'.cell? ⟨w.heap.size, 0, none⟩ = some (.int .i64 k) ∧ w'.cell? ⟨w.heap.size, 1, none⟩ = some (.string name) ∧ w'.cell? ⟨w.heap.size, 2, none⟩ = some (.string data) ∧ w'.cell? ⟨w.heap.size, 3, none⟩ = some (.int .i64 n) ∧ w'.cell? ⟨w.heap.size, 4, none⟩ = some dv) (first | (exact hnew2) | (exact hnew1) | (exact hnew) | (exact hnew.keep (Fr.drew (Fr.refl no _)) id)) (first | (go_at_call 46; refine (fuse_any a m s n _ (H.out.d.later (Fr.drew (Fr.alloc (Fr.refl no w) _))) hn2).mono ?_; rintro e w1 ⟨rfl, hI1, hf1⟩; have hr1 := H.out.r1 hf1; have hnew1 := hnew.keep1 H.out hf1) | (go_at_call 47; refine (rfuse_any b v s n _ hr1 hn2).mono ?_; rintro e w2 ⟨v2, rfl, hI2, hf2, hv2⟩; have hnew2 := hnew1.keep2 H.out hf2))
  all_goals go_wp2
  all_goals go_ret
  all_goals exact ⟨by simp, _, fun q => q.fuse _, Both.before (Fr.drew (Fr.alloc (Fr.refl no w) _)) (both_of (H.out.later (Fr.drew (Fr.alloc (Fr.refl no w) _))) hI1 hf1 (Fr.refl no _) hI2 hf2 hv2)⟩

set_option maxHeartbeats 1000000 in
set_option maxRecDepth 100000 in
theorem step_read (a m b : Nat) (v : Value) (s : DSt) (k : Int) (name data : ByteArray) (n : Int) (dv : Value) (w : World) (h : Two w a m b v s) (hn : name.size ≤ 140737488351232) (hk : -9223372036854775808 ≤ k ∧ k ≤ 9223372036854775807)
   (hone : dv.oneCell' = true) (hr : k.tmod 7 % 7 = 4) : Calls Try.prog 12 #[.pointer (some ⟨a, 0, none⟩), .pointer (some ⟨b, 0, none⟩), .agg #[.int .i64 k, .string name, .string data, .int .i64 n, dv]] w (StepPost w a m b v s) := by
  have H := Lib.hid h
  have HR := Lib.hid hr
  have hnew := ActAt.new w k name data n dv 31
  clear h hr
  go_enter Try.func12, Try.ntmps12
  go_wp2_with (first | (go_at_call 35; refine (among_any k _ hk).mono ?_; rintro e w' ⟨rfl, rfl⟩; rw [HR.out]) | (go_at_call 44; go_loud (refine (read_any a m s name _ (H.out.d.later ((Fr.refl no w).alloc _)) hn).mono ?_; rintro e w1 ⟨rfl, hf1⟩; obtain ⟨q0, q1, q2, q3, q4⟩ := hnew.keep hf1 id)) | (go_at_call 45; go_loud (refine (rread_any b v s name _ (H.out.r.later (((Fr.refl no w).alloc _).trans hf1 (fun _ _ z => z))) hn).mono ?_; rintro e w2 ⟨rfl, hf2⟩)) | fail)
  go_ret
  have hf := ((((Fr.refl no w).alloc (.cells #[.int .i64 k, .string name, .string data, .int .i64 n, dv] 31)).trans hf1 (fun _ _ z => z)).trans hf2 (fun _ _ z => z))
  exact ⟨by simp, s, id, v, H.out.later hf, hf.mono (fun _ _ q => q.elim), fun g hg => .inl hg⟩
end Go.Proofs.Ythmjjbgjbcnjmaa
