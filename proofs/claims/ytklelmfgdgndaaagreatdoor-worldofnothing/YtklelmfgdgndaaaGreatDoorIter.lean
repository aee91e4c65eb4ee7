/- slices.Sorted(maps.Keys(m)) at this dump. -/
import Derived.Test.YtklelmfgdgndaaaGreatDoorSepQ
import Derived.Shelf.SlIter.Nil
import Derived.Shelf.SortM.Plain
import Derived.Shelf.SortM.SortNone
import Derived.Ground.GgzProg
import Derived.Ground.SlgmProg
import Derived.Test.YtklelmfgdgndaaaGreatDoorProg
namespace Go.Proofs
open Go.RowKit Go.Maps Go.Sort Go.Shelf
def Tryz.keys253_ren : Go.Shelf.Ren := ⟨fun | 7 => 253 | 10 => 326 | n => n, fun | 23 => 74 | 26 => 9 | 3 => 77 | 28 => 376 | 0 => 0 | 27 => 375 | 33 => 178 | 4 => 4 | n => n, fun | n => n⟩
theorem Tryz.keys253 : Go.Proofs.SlLaysZ.n7 Tryz.prog Tryz.keys253_ren := {
  mixed := by kernel_rfl
  f7 := ⟨Tryz.f253.name, by decide, Tryz.func253.trans (congrArg some (by kernel_rfl))⟩
  f10 := ⟨Tryz.f326.name, by decide, Tryz.func326.trans (congrArg some (by kernel_rfl))⟩
  t0 := Tryz.underlying0
  a0 := Tryz.isAgg0
  z0 := Tryz.sizeOf0
  v0 := Tryz.zeroValue0
  t4 := Tryz.underlying4
  a4 := Tryz.isAgg4
  z4 := Tryz.sizeOf4
  v4 := Tryz.zeroValue4
  t23 := Tryz.underlying74
  a23 := Tryz.isAgg74
  z23 := Tryz.sizeOf74
  v23 := Tryz.zeroValue74
  t26 := Tryz.underlying9
  a26 := Tryz.isAgg9
  z26 := Tryz.sizeOf9
  v26 := Tryz.zeroValue9
  t27 := Tryz.underlying375
  a27 := Tryz.isAgg375
  z27 := Tryz.sizeOf375
  v27 := Tryz.zeroValue375
  t28 := Tryz.underlying376
  a28 := Tryz.isAgg376
  z28 := Tryz.sizeOf376
  v28 := Tryz.zeroValue376
  t33 := Tryz.underlying178
  a33 := Tryz.isAgg178
  z33 := Tryz.sizeOf178
  v33 := Tryz.zeroValue178 }
def Tryz.keys290_ren : Go.Shelf.Ren := ⟨fun | 7 => 290 | 10 => 365 | n => n, fun | 23 => 403 | 26 => 9 | 3 => 126 | 28 => 376 | 0 => 0 | 27 => 375 | 33 => 178 | 4 => 4 | n => n, fun | n => n⟩
theorem Tryz.keys290 : Go.Proofs.SlLaysZ.n7 Tryz.prog Tryz.keys290_ren := {
  mixed := by kernel_rfl
  f7 := ⟨Tryz.f290.name, by decide, Tryz.func290.trans (congrArg some (by kernel_rfl))⟩
  f10 := ⟨Tryz.f365.name, by decide, Tryz.func365.trans (congrArg some (by kernel_rfl))⟩
  t0 := Tryz.underlying0
  a0 := Tryz.isAgg0
  z0 := Tryz.sizeOf0
  v0 := Tryz.zeroValue0
  t4 := Tryz.underlying4
  a4 := Tryz.isAgg4
  z4 := Tryz.sizeOf4
  v4 := Tryz.zeroValue4
  t23 := Tryz.underlying403
  a23 := Tryz.isAgg403
  z23 := Tryz.sizeOf403
  v23 := Tryz.zeroValue403
  t26 := Tryz.underlying9
  a26 := Tryz.isAgg9
  z26 := Tryz.sizeOf9
  v26 := Tryz.zeroValue9
  t27 := Tryz.underlying375
  a27 := Tryz.isAgg375
  z27 := Tryz.sizeOf375
  v27 := Tryz.zeroValue375
  t28 := Tryz.underlying376
  a28 := Tryz.isAgg376
  z28 := Tryz.sizeOf376
  v28 := Tryz.zeroValue376
  t33 := Tryz.underlying178
  a33 := Tryz.isAgg178
  z33 := Tryz.sizeOf178
  v33 := Tryz.zeroValue178 }
def Tryz.sorted252_ren : Go.Shelf.Ren := ⟨fun | 6 => 252 | 8 => 324 | 9 => 325 | 11 => 407 | 13 => 405 | 12 => 408 | 23 => 474 | 24 => 463 | 14 => 476 | 15 => 477 | 16 => 478 | 17 => 479 | 18 => 480 | 19 => 481 | 20 => 482 | 21 => 483 | 22 => 484 | 25 => 521 | 26 => 517 | 27 => 518 | 28 => 522 | 29 => 523 | 30 => 457 | 31 => 533 | n => n, fun | 26 => 9 | 28 => 376 | 24 => 44 | 0 => 0 | 3 => 3 | 37 => 199 | 48 => 254 | 50 => 198 | 4 => 4 | 40 => 528 | 39 => 527 | 45 => 532 | 5 => 5 | 9 => 9 | 51 => 558 | 55 => 258 | 57 => 573 | 58 => 574 | 33 => 178 | n => n, fun | n => n⟩
theorem Tryz.sorted252 : Go.Proofs.SlLaysZ.n6 Tryz.prog Tryz.sorted252_ren := {
  mixed := by kernel_rfl
  f6 := ⟨Tryz.f252.name, by decide, Tryz.func252.trans (congrArg some (by kernel_rfl))⟩
  f8 := ⟨Tryz.f324.name, by decide, Tryz.func324.trans (congrArg some (by kernel_rfl))⟩
  f11 := ⟨Tryz.f407.name, by decide, Tryz.func407.trans (congrArg some (by kernel_rfl))⟩
  t0 := Tryz.underlying0
  a0 := Tryz.isAgg0
  z0 := Tryz.sizeOf0
  v0 := Tryz.zeroValue0
  t24 := Tryz.underlying44
  a24 := Tryz.isAgg44
  z24 := Tryz.sizeOf44
  v24 := Tryz.zeroValue44
  t26 := Tryz.underlying9
  a26 := Tryz.isAgg9
  z26 := Tryz.sizeOf9
  v26 := Tryz.zeroValue9
  t28 := Tryz.underlying376
  a28 := Tryz.isAgg376
  z28 := Tryz.sizeOf376
  v28 := Tryz.zeroValue376
  i26 := by kernel_rfl }
def Tryz.sort325_ren : Go.Shelf.Ren := ⟨fun | 6 => 325 | 8 => 405 | 9 => 408 | 19 => 474 | 20 => 463 | 21 => 476 | 22 => 477 | 23 => 478 | 24 => 479 | 25 => 480 | 26 => 481 | 27 => 482 | 28 => 483 | 29 => 484 | 36 => 521 | 31 => 517 | 32 => 518 | 37 => 522 | 38 => 523 | 39 => 457 | 41 => 533 | n => n, fun | 27 => 44 | 29 => 9 | 3 => 3 | 32 => 199 | 26 => 44 | 0 => 0 | 44 => 254 | 46 => 198 | 4 => 4 | 36 => 528 | 35 => 527 | 41 => 532 | 5 => 5 | 9 => 9 | 53 => 558 | 57 => 258 | 63 => 573 | 64 => 574 | n => n, fun | n => n⟩
theorem Tryz.sort325 : Go.Proofs.SlLaysM.n6 Tryz.prog Tryz.sort325_ren := {
  mixed := by kernel_rfl
  f6 := ⟨Tryz.f325.name, by decide, Tryz.func325.trans (congrArg some (by kernel_rfl))⟩
  f8 := Tryz.func405.trans (congrArg some (by kernel_rfl))
  f9 := ⟨Tryz.f408.name, by decide, Tryz.func408.trans (congrArg some (by kernel_rfl))⟩
  f19 := Tryz.func474.trans (congrArg some (by kernel_rfl))
  f20 := Tryz.func463.trans (congrArg some (by kernel_rfl))
  f21 := ⟨Tryz.f476.name, by decide, Tryz.func476.trans (congrArg some (by kernel_rfl))⟩
  f22 := ⟨Tryz.f477.name, by decide, Tryz.func477.trans (congrArg some (by kernel_rfl))⟩
  f23 := ⟨Tryz.f478.name, by decide, Tryz.func478.trans (congrArg some (by kernel_rfl))⟩
  f24 := ⟨Tryz.f479.name, by decide, Tryz.func479.trans (congrArg some (by kernel_rfl))⟩
  f25 := ⟨Tryz.f480.name, by decide, Tryz.func480.trans (congrArg some (by kernel_rfl))⟩
  f26 := ⟨Tryz.f481.name, by decide, Tryz.func481.trans (congrArg some (by kernel_rfl))⟩
  f27 := ⟨Tryz.f482.name, by decide, Tryz.func482.trans (congrArg some (by kernel_rfl))⟩
  f28 := ⟨Tryz.f483.name, by decide, Tryz.func483.trans (congrArg some (by kernel_rfl))⟩
  f29 := ⟨Tryz.f484.name, by decide, Tryz.func484.trans (congrArg some (by kernel_rfl))⟩
  f31 := Tryz.func517.trans (congrArg some (by kernel_rfl))
  f32 := Tryz.func518.trans (congrArg some (by kernel_rfl))
  f36 := ⟨Tryz.f521.name, by decide, Tryz.func521.trans (congrArg some (by kernel_rfl))⟩
  f37 := ⟨Tryz.f522.name, by decide, Tryz.func522.trans (congrArg some (by kernel_rfl))⟩
  f38 := ⟨Tryz.f523.name, by decide, Tryz.func523.trans (congrArg some (by kernel_rfl))⟩
  f39 := ⟨Tryz.f457.name, by decide, Tryz.func457.trans (congrArg some (by kernel_rfl))⟩
  f41 := ⟨Tryz.f533.name, by decide, Tryz.func533.trans (congrArg some (by kernel_rfl))⟩
  t0 := Tryz.underlying0
  a0 := Tryz.isAgg0
  z0 := Tryz.sizeOf0
  v0 := Tryz.zeroValue0
  t3 := Tryz.underlying3
  a3 := Tryz.isAgg3
  z3 := Tryz.sizeOf3
  v3 := Tryz.zeroValue3
  t4 := Tryz.underlying4
  a4 := Tryz.isAgg4
  z4 := Tryz.sizeOf4
  v4 := Tryz.zeroValue4
  t5 := Tryz.underlying5
  a5 := Tryz.isAgg5
  z5 := Tryz.sizeOf5
  v5 := Tryz.zeroValue5
  t9 := Tryz.underlying9
  a9 := Tryz.isAgg9
  z9 := Tryz.sizeOf9
  v9 := Tryz.zeroValue9
  t26 := Tryz.underlying44
  a26 := Tryz.isAgg44
  z26 := Tryz.sizeOf44
  v26 := Tryz.zeroValue44
  t27 := Tryz.underlying44
  a27 := Tryz.isAgg44
  z27 := Tryz.sizeOf44
  v27 := Tryz.zeroValue44
  t29 := Tryz.underlying9
  a29 := Tryz.isAgg9
  z29 := Tryz.sizeOf9
  v29 := Tryz.zeroValue9
  t32 := Tryz.underlying199
  a32 := Tryz.isAgg199
  z32 := Tryz.sizeOf199
  v32 := Tryz.zeroValue199
  t35 := Tryz.underlying527
  a35 := Tryz.isAgg527
  z35 := Tryz.sizeOf527
  v35 := Tryz.zeroValue527
  t36 := Tryz.underlying528
  a36 := Tryz.isAgg528
  z36 := Tryz.sizeOf528
  v36 := Tryz.zeroValue528
  t41 := Tryz.underlying532
  a41 := Tryz.isAgg532
  z41 := Tryz.sizeOf532
  v41 := Tryz.zeroValue532
  t44 := Tryz.underlying254
  a44 := Tryz.isAgg254
  z44 := Tryz.sizeOf254
  v44 := Tryz.zeroValue254
  t46 := Tryz.underlying198
  a46 := Tryz.isAgg198
  z46 := Tryz.sizeOf198
  v46 := Tryz.zeroValue198
  t53 := Tryz.underlying558
  a53 := Tryz.isAgg558
  z53 := Tryz.sizeOf558
  v53 := Tryz.zeroValue558
  t57 := Tryz.underlying258
  a57 := Tryz.isAgg258
  z57 := Tryz.sizeOf258
  v57 := Tryz.zeroValue258
  t63 := Tryz.underlying573
  a63 := Tryz.isAgg573
  z63 := Tryz.sizeOf573
  v63 := Tryz.zeroValue573
  t64 := Tryz.underlying574
  a64 := Tryz.isAgg574
  z64 := Tryz.sizeOf574
  v64 := Tryz.zeroValue574 }
theorem Tryz.sorts252 (m : Nat) : AnyZ.SortsIn Tryz.prog Tryz.sorted252_ren Fence.wide m :=
  ⟨fun blk off cap ss W hH hblk hsz => callsIn_wide.2 (AnyM.slices_Sort_string Tryz.sort325 blk off cap ss W hH hblk hsz),
   fun p cap W => callsIn_wide.2 (AnyM.slices_Sort_string_none Tryz.sort325 p cap W)⟩
theorem keys253_con (mb : Option Nat) : Sep.ConX Tryz.prog 253 [.map mb] [] (fun b : Nat => .func (.func 326) #[] #[.pointer (some ⟨b, 0, none⟩)]) (fun b => [Sep.cel b 74 [.map mb]]) :=
  Sep.keys_con (fun mb w => callsIn_wide.1 (AnyZ.keys_in Tryz.keys253 Fence.wide 5 trivial rfl mb w)) mb
set_option maxHeartbeats 1000000 in
theorem sortedKeys253_con (bm m : Nat) (l : List (Sep.Str × Value)) (hn : l.length * 16 ≤ 140737488355328) (hk : ∀ p ∈ l, p.1.length ≤ maxLen) :
    Sep.ConX Tryz.prog 252 [.func (.func 326) #[] #[.pointer (some ⟨bm, 0, none⟩)]] [Sep.cel bm 74 [.map (some m)], Sep.mp m l] (fun v : Value => v) (fun v => [Sep.row 9 v (Sep.sortK (l.map Prod.fst)), Sep.cel bm 74 [.map (some m)], Sep.mp m l]) :=
  Sep.sorted_con Tryz.underlying9 (fun bm b nn D w hbm hc hown hmax hbytes => callsIn_wide.1 (by
    have hseq : SeqGives Fence.wide 2 Tryz.prog 326 #[.pointer (some ⟨bm, 0, none⟩)] encStr (fun ss => ss.Perm (strKeys D)) (Maps.size D) w :=
      AnyZ.keys_gives (ρ := Tryz.keys253_ren) { Tryz.keys253 with } Fence.wide _ trivial rfl (by omega) bm b nn D w hbm hc hown
    exact AnyZ.sorted_in Tryz.sorted252 Fence.wide 5 trivial trivial trivial trivial rfl (by omega) (Tryz.sorts252 _) (enters_of Tryz.func325 (by kernel_rfl) rfl) 326 #[.pointer (some ⟨bm, 0, none⟩)] trivial (enters_of Tryz.func326 (by kernel_rfl) rfl) _ _ hmax hbytes _ hseq)) bm m l hn hk
theorem keys290_con (mb : Option Nat) : Sep.ConX Tryz.prog 290 [.map mb] [] (fun b : Nat => .func (.func 365) #[] #[.pointer (some ⟨b, 0, none⟩)]) (fun b => [Sep.cel b 403 [.map mb]]) :=
  Sep.keys_con (fun mb w => callsIn_wide.1 (AnyZ.keys_in Tryz.keys290 Fence.wide 5 trivial rfl mb w)) mb
set_option maxHeartbeats 1000000 in
theorem sortedKeys290_con (bm m : Nat) (l : List (Sep.Str × Value)) (hn : l.length * 16 ≤ 140737488355328) (hk : ∀ p ∈ l, p.1.length ≤ maxLen) :
    Sep.ConX Tryz.prog 252 [.func (.func 365) #[] #[.pointer (some ⟨bm, 0, none⟩)]] [Sep.cel bm 403 [.map (some m)], Sep.mp m l] (fun v : Value => v) (fun v => [Sep.row 9 v (Sep.sortK (l.map Prod.fst)), Sep.cel bm 403 [.map (some m)], Sep.mp m l]) :=
  Sep.sorted_con Tryz.underlying9 (fun bm b nn D w hbm hc hown hmax hbytes => callsIn_wide.1 (by
    have hseq : SeqGives Fence.wide 2 Tryz.prog 365 #[.pointer (some ⟨bm, 0, none⟩)] encStr (fun ss => ss.Perm (strKeys D)) (Maps.size D) w :=
      AnyZ.keys_gives (ρ := Tryz.keys290_ren) { Tryz.keys290 with } Fence.wide _ trivial rfl (by omega) bm b nn D w hbm hc hown
    exact AnyZ.sorted_in Tryz.sorted252 Fence.wide 5 trivial trivial trivial trivial rfl (by omega) (Tryz.sorts252 _) (enters_of Tryz.func325 (by kernel_rfl) rfl) 365 #[.pointer (some ⟨bm, 0, none⟩)] trivial (enters_of Tryz.func365 (by kernel_rfl) rfl) _ _ hmax hbytes _ hseq)) bm m l hn hk
end Go.Proofs
