/- Every right value is read from its text, which consists of bytes from 32 to 126. -/
import Derived.Test.YtmhnfdgegejlkaaDoorBValuePrints0
import Derived.Test.YtmhnfdgegejlkaaDoorBValuePrints1
import Derived.Test.YtmhnfdgegejlkaaDoorWWordsq
import Derived.WalkKit
import Derived.ProofKit
import Derived.SizedLaws
import Derived.DataReads
import Derived.OpenShut
import Derived.ShutString
import Derived.ChangeOld
import Derived.Below
import Derived.LaidMore
import Derived.Stop.Joined
import Derived.Lay
import Derived.MakeChecks
import Derived.Lib.Bytealg
import Derived.Laws.BitsLemmas
import Derived.Lib.ItoaNum
import Derived.Lib.LazyBuf
import Derived.KernelRfl
import Derived.Lib.AtoiAllCases
import Derived.Test.YtmhnfdgegejlkaaDoorRows
import Derived.Test.YtmhnfdgegejlkaaDoorCards
import Derived.Test.YtmhnfdgegejlkaaDoorTie
import Derived.SevenTiedAt
section
namespace Go.Proofs.YtmhnfdgegejlkaaDoor.P
open Go.RowKit Go.Proofs.YtmhnfdgegejlkaaDoorW.PrintWords Go.Proofs.YtmhnfdgegejlkaaDoorW.PrintLast Go.Proofs.YtmhnfdgegejlkaaDoorW.PrintMore
attribute [local go_sem] max2_int min2_int max_two min_two max_three min_three max_four min_four
set_option linter.unusedVariables false
set_option linter.unusedSimpArgs false
attribute [local go_sem high] eqA23
mutual
def alumlaw19_sanity.j0 : Nat → Bool → Int → Int → ByteArray → Option (Bool)
 | 0, _, _, _, _ => none
 | k + 1, x12, x240000, x240001, x240002 => (alumlaw19_num.f (-549755813888)).bind fun bt289 => ((value_Key.f k (([(⟨bt289.1, bt289.2.1, bt289.2.2⟩ : S23), (⟨x240000, x240001, x240002⟩ : S23)] : List (S23))) 9).bind fun t295 => ((alumref19_SameInts.f k t295 (([1, 0, 2, 418262508548, 0] : List Int))).bind fun t301 => (if t301 = true then ((alumlaw19_num.f (-5)).bind fun bt302 => ((value_Compare.f k 0 0 (⟨#[]⟩ : ByteArray) bt302.1 bt302.2.1 bt302.2.2).bind fun t305 => (if t305 = (-1) then ((value_Compare.f k 2 0 (⟨#[98]⟩ : ByteArray) 2 0 (⟨#[97, 98]⟩ : ByteArray)).bind fun t306 => (alumlaw19_sanity.j1 k x12 (t306 == 1))) else (none)))) else (none))))
def alumlaw19_sanity.j1 : Nat → Bool → Bool → Option (Bool)
 | 0, _, _ => none
 | k + 1, x12, x14 => if x12 = true then (if x14 = true then ((value_Print.f k 2 0 (⟨#[97, 39, 10]⟩ : ByteArray)).bind fun t307 => (if t307.toList = ([39, 97, 92, 50, 55, 92, 48, 97, 39] : List UInt8) then ((alumlaw19_num.f 549755813887).bind fun bt308 => ((value_Right.f bt308.1 bt308.2.1 bt308.2.2).bind fun t311 => (if t311 = true then ((alumlaw19_num.f 549755813888).bind fun bt312 => ((value_Right.f bt312.1 bt312.2.1 bt312.2.2).bind fun t315 => (some (!t315)))) else (none)))) else (none))) else (none)) else (none)
end
def alumlaw19_sanity.f (k : Nat)  : Option (Bool) := (alumlaw19_num.f 3).bind fun bt240 => ((value_Test.f k 9 bt240.1 bt240.2.1 bt240.2.2 0 0 (⟨#[]⟩ : ByteArray)).bind fun bt243 => ((alumlaw19_num.f 3).bind fun bt248 => ((value_Test.f k 6 bt248.1 bt248.2.1 bt248.2.2 2 0 (⟨#[97, 98, 99, 100]⟩ : ByteArray)).bind fun bt251 => ((alumlaw19_num.f 2).bind fun bt256 => ((alumlaw19_num.f 3).bind fun bt259 => ((value_Test.f k 8 bt256.1 bt256.2.1 bt256.2.2 bt259.1 bt259.2.1 bt259.2.2).bind fun bt262 => ((alumref19_Bool.f false).bind fun bt267 => ((value_And.f k bt267.1 bt267.2.1 bt267.2.2 0 0 (⟨#[]⟩ : ByteArray)).bind fun bt270 => ((alumref19_Bool.f false).bind fun bt275 => ((value_Or.f k bt275.1 bt275.2.1 bt275.2.2 0 0 (⟨#[]⟩ : ByteArray)).bind fun bt278 => (if (bt243.1 == 0 && (bt243.2.1 == 0 && (bt243.2.2.1.toList == ([] : List UInt8)))) = true then (if bt243.2.2.2 = 0 then (if bt251.2.2.2 = 7 then ((alumref19_Bool.f true).bind fun bt283 => (if (bt262.1 == bt283.1 && (bt262.2.1 == bt283.2.1 && (bt262.2.2.1.toList == bt283.2.2.toList))) = true then (if bt262.2.2.2 = 0 then ((alumref19_Bool.f false).bind fun bt286 => (if (bt270.1 == bt286.1 && (bt270.2.1 == bt286.2.1 && (bt270.2.2.1.toList == bt286.2.2.toList))) = true then (if bt270.2.2.2 = 0 then (if (bt278.1 == 0 && (bt278.2.1 == 0 && (bt278.2.2.1.toList == ([] : List UInt8)))) = true then (alumlaw19_sanity.j0 k (bt278.2.2.2 == 0) 2 0 (⟨#[97, 98, 99, 100]⟩ : ByteArray)) else (none)) else (none)) else (none))) else (none)) else (none))) else (none)) else (none)) else (none))))))))))))
theorem alumlaw19_sanity.mono_l : ∀ k, (∀ y0 y1 y2 y3, LeO (alumlaw19_sanity.j0 k y0 y1 y2 y3) (alumlaw19_sanity.j0 (k + 1) y0 y1 y2 y3)) ∧ (∀ y0 y1, LeO (alumlaw19_sanity.j1 k y0 y1) (alumlaw19_sanity.j1 (k + 1) y0 y1))
 | 0 => ⟨fun _ _ _ _ r h => by simp [alumlaw19_sanity.j0] at h, fun _ _ r h => by simp [alumlaw19_sanity.j1] at h⟩
 | k + 1 => by
  obtain ⟨ih0, ih1⟩ := alumlaw19_sanity.mono_l k
  refine ⟨?_, ?_⟩
  ·intro y0 y1 y2 y3
   unfold alumlaw19_sanity.j0
   repeat' first
   | (with_reducible exact ih0 _ _ _ _)
   | (with_reducible exact ih1 _ _)
   | (with_reducible exact alumref19_SameInts.mono _ _ _)
   | (with_reducible exact value_And.mono _ _ _ _ _ _ _)
   | (with_reducible exact value_Compare.mono _ _ _ _ _ _ _)
   | (with_reducible exact value_Key.mono _ _ _)
   | (with_reducible exact value_Or.mono _ _ _ _ _ _ _)
   | (with_reducible exact value_Print.mono _ _ _ _)
   | (with_reducible exact value_Test.mono _ _ _ _ _ _ _ _)
   | (with_reducible exact LeO.refl _)
   | (with_reducible exact LeO.none _)
   | (with_reducible refine LeO.ite ?_ ?_)
   | (with_reducible refine LeO.bind ?_ (fun _ => ?_))
   | exact ih0 _ _ _ _
   | exact ih1 _ _
   | exact alumref19_SameInts.mono _ _ _
   | exact value_And.mono _ _ _ _ _ _ _
   | exact value_Compare.mono _ _ _ _ _ _ _
   | exact value_Key.mono _ _ _
   | exact value_Or.mono _ _ _ _ _ _ _
   | exact value_Print.mono _ _ _ _
   | exact value_Test.mono _ _ _ _ _ _ _ _
   | exact LeO.none _
   | refine LeO.ite ?_ ?_
   | refine LeO.bind ?_ (fun _ => ?_)
  ·intro y0 y1
   unfold alumlaw19_sanity.j1
   repeat' first
   | (with_reducible exact ih0 _ _ _ _)
   | (with_reducible exact ih1 _ _)
   | (with_reducible exact alumref19_SameInts.mono _ _ _)
   | (with_reducible exact value_And.mono _ _ _ _ _ _ _)
   | (with_reducible exact value_Compare.mono _ _ _ _ _ _ _)
   | (with_reducible exact value_Key.mono _ _ _)
   | (with_reducible exact value_Or.mono _ _ _ _ _ _ _)
   | (with_reducible exact value_Print.mono _ _ _ _)
   | (with_reducible exact value_Test.mono _ _ _ _ _ _ _ _)
   | (with_reducible exact LeO.refl _)
   | (with_reducible exact LeO.none _)
   | (with_reducible refine LeO.ite ?_ ?_)
   | (with_reducible refine LeO.bind ?_ (fun _ => ?_))
   | exact ih0 _ _ _ _
   | exact ih1 _ _
   | exact alumref19_SameInts.mono _ _ _
   | exact value_And.mono _ _ _ _ _ _ _
   | exact value_Compare.mono _ _ _ _ _ _ _
   | exact value_Key.mono _ _ _
   | exact value_Or.mono _ _ _ _ _ _ _
   | exact value_Print.mono _ _ _ _
   | exact value_Test.mono _ _ _ _ _ _ _ _
   | exact LeO.none _
   | refine LeO.ite ?_ ?_
   | refine LeO.bind ?_ (fun _ => ?_)
theorem alumlaw19_sanity.mono : ∀ k, LeO (alumlaw19_sanity.f k ) (alumlaw19_sanity.f (k + 1) ) := by
 intro  k
 obtain ⟨ih0, ih1⟩ := alumlaw19_sanity.mono_l k
 unfold alumlaw19_sanity.f
 repeat' first
   | (with_reducible exact ih0 _ _ _ _)
   | (with_reducible exact ih1 _ _)
   | (with_reducible exact alumref19_SameInts.mono _ _ _)
   | (with_reducible exact value_And.mono _ _ _ _ _ _ _)
   | (with_reducible exact value_Compare.mono _ _ _ _ _ _ _)
   | (with_reducible exact value_Key.mono _ _ _)
   | (with_reducible exact value_Or.mono _ _ _ _ _ _ _)
   | (with_reducible exact value_Print.mono _ _ _ _)
   | (with_reducible exact value_Test.mono _ _ _ _ _ _ _ _)
   | (with_reducible exact LeO.refl _)
   | (with_reducible exact LeO.none _)
   | (with_reducible refine LeO.ite ?_ ?_)
   | (with_reducible refine LeO.bind ?_ (fun _ => ?_))
   | exact ih0 _ _ _ _
   | exact ih1 _ _
   | exact alumref19_SameInts.mono _ _ _
   | exact value_And.mono _ _ _ _ _ _ _
   | exact value_Compare.mono _ _ _ _ _ _ _
   | exact value_Key.mono _ _ _
   | exact value_Or.mono _ _ _ _ _ _ _
   | exact value_Print.mono _ _ _ _
   | exact value_Test.mono _ _ _ _ _ _ _ _
   | exact LeO.none _
   | refine LeO.ite ?_ ?_
   | refine LeO.bind ?_ (fun _ => ?_)
def alumlaw19_sanity.T3 : Bool × List (List Nat × List Nat) := (true, [([], []), ([], []), ([0, 1, 0], [0, 1]), ([2], [2]), ([3], [3]), ([3], [3]), ([], []), ([6, 4, 2, 0, 1, 2, 3, 4, 6], [4, 6]), ([5, 7, 0, 1, 2, 3, 4, 5, 6, 7], [5])])
def alumlaw19_sanity.B3 : List Nat := [0, 0, 3, 7, 15, 15, 0, 95, 255]
theorem alumlaw19_sanity.tab3 : rtab .any (opsOf Tryd.f12 3) = alumlaw19_sanity.T3 := by kernel_rfl
theorem alumlaw19_sanity.bits3 : waitsOk alumlaw19_sanity.T3.2 alumlaw19_sanity.B3 = true := by kernel_rfl
def alumlaw19_sanity.T7 : Bool × List (List Nat × List Nat) := (true, [([], []), ([], []), ([0, 1], [0, 1]), ([2], [2]), ([3], [3]), ([4, 3], [3, 4]), ([3, 5], [3, 5]), ([6, 3], [6]), ([7], [7]), ([8, 7], [7, 8]), ([7, 9], [7, 9]), ([10, 7], [10]), ([11], [11]), ([11, 11], [11]), ([12, 13, 11], [11, 12, 13]), ([11, 14], [11, 14]), ([15, 13], [15]), ([16], [16]), ([17, 16], [16, 17]), ([16, 18], [16, 18]), ([19, 16], [19]), ([20], [20]), ([20, 20], [20]), ([21, 22, 20], [20, 21, 22]), ([20, 23], [20, 23]), ([24, 22], [24]), ([25], [25]), ([26, 25], [25, 26]), ([25, 27], [25, 27]), ([28, 25], [28]), ([29], [29]), ([29], [29]), ([30, 31, 29], [29, 30, 31]), ([29, 32], [29, 32]), ([33, 29], [33]), ([34], [34]), ([35, 34], [34, 35]), ([34, 36], [34, 36]), ([37, 34, 0, 1, 2, 3, 4, 5, 6, 7, 8, 9, 10, 11, 12, 13, 14, 15, 16, 17, 18, 19, 20, 21, 22, 23, 24, 25, 26, 27, 28, 29, 30, 31, 32, 33, 34, 35, 36, 37], [37])])
def alumlaw19_sanity.B7 : List Nat := [0, 0, 3, 7, 15, 31, 63, 127, 255, 511, 1023, 2047, 4095, 4095, 16383, 32767, 65535, 131071, 262143, 524287, 1048575, 2097151, 2097151, 8388607, 16777215, 33554431, 67108863, 134217727, 268435455, 536870911, 1073741823, 1073741823, 4294967295, 8589934591, 17179869183, 34359738367, 68719476735, 137438953471, 274877906943]
theorem alumlaw19_sanity.tab7 : rtab .any (opsOf Tryd.f12 7) = alumlaw19_sanity.T7 := by kernel_rfl
theorem alumlaw19_sanity.bits7 : waitsOk alumlaw19_sanity.T7.2 alumlaw19_sanity.B7 = true := by kernel_rfl
set_option maxHeartbeats 8000000 in
set_option maxRecDepth 100000 in
theorem alumlaw19_sanity.calls (k : Nat)  (r : Bool) (w : World) (h : alumlaw19_sanity.f k  = some r) :
  Calls Tryd.prog 12 #[] w fun e w' => e = .returned (.bool r) ∧ Below w.heap.size w w' := by
 have hu23 := Tryd.underlying23
 have HB := Aside0.mk (Below.refl w.heap.size w)
 have H : ((alumlaw19_num.f 3).bind fun bt240 => ((value_Test.f k 9 bt240.1 bt240.2.1 bt240.2.2 0 0 (⟨#[]⟩ : ByteArray)).bind fun bt243 => ((alumlaw19_num.f 3).bind fun bt248 => ((value_Test.f k 6 bt248.1 bt248.2.1 bt248.2.2 2 0 (⟨#[97, 98, 99, 100]⟩ : ByteArray)).bind fun bt251 => ((alumlaw19_num.f 2).bind fun bt256 => ((alumlaw19_num.f 3).bind fun bt259 => ((value_Test.f k 8 bt256.1 bt256.2.1 bt256.2.2 bt259.1 bt259.2.1 bt259.2.2).bind fun bt262 => ((alumref19_Bool.f false).bind fun bt267 => ((value_And.f k bt267.1 bt267.2.1 bt267.2.2 0 0 (⟨#[]⟩ : ByteArray)).bind fun bt270 => ((alumref19_Bool.f false).bind fun bt275 => ((value_Or.f k bt275.1 bt275.2.1 bt275.2.2 0 0 (⟨#[]⟩ : ByteArray)).bind fun bt278 => (if (bt243.1 == 0 && (bt243.2.1 == 0 && (bt243.2.2.1.toList == ([] : List UInt8)))) = true then (if bt243.2.2.2 = 0 then (if bt251.2.2.2 = 7 then ((alumref19_Bool.f true).bind fun bt283 => (if (bt262.1 == bt283.1 && (bt262.2.1 == bt283.2.1 && (bt262.2.2.1.toList == bt283.2.2.toList))) = true then (if bt262.2.2.2 = 0 then ((alumref19_Bool.f false).bind fun bt286 => (if (bt270.1 == bt286.1 && (bt270.2.1 == bt286.2.1 && (bt270.2.2.1.toList == bt286.2.2.toList))) = true then (if bt270.2.2.2 = 0 then (if (bt278.1 == 0 && (bt278.2.1 == 0 && (bt278.2.2.1.toList == ([] : List UInt8)))) = true then (alumlaw19_sanity.j0 k (bt278.2.2.2 == 0) 2 0 (⟨#[97, 98, 99, 100]⟩ : ByteArray)) else (none)) else (none)) else (none))) else (none)) else (none))) else (none)) else (none)) else (none))))))))))))) = some r := h
 clear h
 replace H := Option.bind_eq_some_iff.mp H
 obtain ⟨⟨t240, t241, t242⟩, A10, H⟩ := H
 replace H : ((value_Test.f k 9 t240 t241 t242 0 0 (⟨#[]⟩ : ByteArray)).bind fun bt243 => ((alumlaw19_num.f 3).bind fun bt248 => ((value_Test.f k 6 bt248.1 bt248.2.1 bt248.2.2 2 0 (⟨#[97, 98, 99, 100]⟩ : ByteArray)).bind fun bt251 => ((alumlaw19_num.f 2).bind fun bt256 => ((alumlaw19_num.f 3).bind fun bt259 => ((value_Test.f k 8 bt256.1 bt256.2.1 bt256.2.2 bt259.1 bt259.2.1 bt259.2.2).bind fun bt262 => ((alumref19_Bool.f false).bind fun bt267 => ((value_And.f k bt267.1 bt267.2.1 bt267.2.2 0 0 (⟨#[]⟩ : ByteArray)).bind fun bt270 => ((alumref19_Bool.f false).bind fun bt275 => ((value_Or.f k bt275.1 bt275.2.1 bt275.2.2 0 0 (⟨#[]⟩ : ByteArray)).bind fun bt278 => (if (bt243.1 == 0 && (bt243.2.1 == 0 && (bt243.2.2.1.toList == ([] : List UInt8)))) = true then (if bt243.2.2.2 = 0 then (if bt251.2.2.2 = 7 then ((alumref19_Bool.f true).bind fun bt283 => (if (bt262.1 == bt283.1 && (bt262.2.1 == bt283.2.1 && (bt262.2.2.1.toList == bt283.2.2.toList))) = true then (if bt262.2.2.2 = 0 then ((alumref19_Bool.f false).bind fun bt286 => (if (bt270.1 == bt286.1 && (bt270.2.1 == bt286.2.1 && (bt270.2.2.1.toList == bt286.2.2.toList))) = true then (if bt270.2.2.2 = 0 then (if (bt278.1 == 0 && (bt278.2.1 == 0 && (bt278.2.2.1.toList == ([] : List UInt8)))) = true then (alumlaw19_sanity.j0 k (bt278.2.2.2 == 0) 2 0 (⟨#[97, 98, 99, 100]⟩ : ByteArray)) else (none)) else (none)) else (none))) else (none)) else (none))) else (none)) else (none)) else (none)))))))))))) = some r := H
 have A1 := Aside0.mk A10
 clear A10
 replace H := Option.bind_eq_some_iff.mp H
 obtain ⟨⟨t243, t244, t245, t246⟩, A20, H⟩ := H
 replace H : ((alumlaw19_num.f 3).bind fun bt248 => ((value_Test.f k 6 bt248.1 bt248.2.1 bt248.2.2 2 0 (⟨#[97, 98, 99, 100]⟩ : ByteArray)).bind fun bt251 => ((alumlaw19_num.f 2).bind fun bt256 => ((alumlaw19_num.f 3).bind fun bt259 => ((value_Test.f k 8 bt256.1 bt256.2.1 bt256.2.2 bt259.1 bt259.2.1 bt259.2.2).bind fun bt262 => ((alumref19_Bool.f false).bind fun bt267 => ((value_And.f k bt267.1 bt267.2.1 bt267.2.2 0 0 (⟨#[]⟩ : ByteArray)).bind fun bt270 => ((alumref19_Bool.f false).bind fun bt275 => ((value_Or.f k bt275.1 bt275.2.1 bt275.2.2 0 0 (⟨#[]⟩ : ByteArray)).bind fun bt278 => (if (t243 == 0 && (t244 == 0 && (t245.toList == ([] : List UInt8)))) = true then (if t246 = 0 then (if bt251.2.2.2 = 7 then ((alumref19_Bool.f true).bind fun bt283 => (if (bt262.1 == bt283.1 && (bt262.2.1 == bt283.2.1 && (bt262.2.2.1.toList == bt283.2.2.toList))) = true then (if bt262.2.2.2 = 0 then ((alumref19_Bool.f false).bind fun bt286 => (if (bt270.1 == bt286.1 && (bt270.2.1 == bt286.2.1 && (bt270.2.2.1.toList == bt286.2.2.toList))) = true then (if bt270.2.2.2 = 0 then (if (bt278.1 == 0 && (bt278.2.1 == 0 && (bt278.2.2.1.toList == ([] : List UInt8)))) = true then (alumlaw19_sanity.j0 k (bt278.2.2.2 == 0) 2 0 (⟨#[97, 98, 99, 100]⟩ : ByteArray)) else (none)) else (none)) else (none))) else (none)) else (none))) else (none)) else (none)) else (none))))))))))) = some r := H
 have A2 := Aside0.mk A20
 clear A20
 replace H := Option.bind_eq_some_iff.mp H
 obtain ⟨⟨t248, t249, t250⟩, A30, H⟩ := H
 replace H : ((value_Test.f k 6 t248 t249 t250 2 0 (⟨#[97, 98, 99, 100]⟩ : ByteArray)).bind fun bt251 => ((alumlaw19_num.f 2).bind fun bt256 => ((alumlaw19_num.f 3).bind fun bt259 => ((value_Test.f k 8 bt256.1 bt256.2.1 bt256.2.2 bt259.1 bt259.2.1 bt259.2.2).bind fun bt262 => ((alumref19_Bool.f false).bind fun bt267 => ((value_And.f k bt267.1 bt267.2.1 bt267.2.2 0 0 (⟨#[]⟩ : ByteArray)).bind fun bt270 => ((alumref19_Bool.f false).bind fun bt275 => ((value_Or.f k bt275.1 bt275.2.1 bt275.2.2 0 0 (⟨#[]⟩ : ByteArray)).bind fun bt278 => (if (t243 == 0 && (t244 == 0 && (t245.toList == ([] : List UInt8)))) = true then (if t246 = 0 then (if bt251.2.2.2 = 7 then ((alumref19_Bool.f true).bind fun bt283 => (if (bt262.1 == bt283.1 && (bt262.2.1 == bt283.2.1 && (bt262.2.2.1.toList == bt283.2.2.toList))) = true then (if bt262.2.2.2 = 0 then ((alumref19_Bool.f false).bind fun bt286 => (if (bt270.1 == bt286.1 && (bt270.2.1 == bt286.2.1 && (bt270.2.2.1.toList == bt286.2.2.toList))) = true then (if bt270.2.2.2 = 0 then (if (bt278.1 == 0 && (bt278.2.1 == 0 && (bt278.2.2.1.toList == ([] : List UInt8)))) = true then (alumlaw19_sanity.j0 k (bt278.2.2.2 == 0) 2 0 (⟨#[97, 98, 99, 100]⟩ : ByteArray)) else (none)) else (none)) else (none))) else (none)) else (none))) else (none)) else (none)) else (none)))))))))) = some r := H
 have A3 := Aside0.mk A30
 clear A30
 replace H := Option.bind_eq_some_iff.mp H
 obtain ⟨⟨t251, t252, t253, t254⟩, A40, H⟩ := H
 replace H : ((alumlaw19_num.f 2).bind fun bt256 => ((alumlaw19_num.f 3).bind fun bt259 => ((value_Test.f k 8 bt256.1 bt256.2.1 bt256.2.2 bt259.1 bt259.2.1 bt259.2.2).bind fun bt262 => ((alumref19_Bool.f false).bind fun bt267 => ((value_And.f k bt267.1 bt267.2.1 bt267.2.2 0 0 (⟨#[]⟩ : ByteArray)).bind fun bt270 => ((alumref19_Bool.f false).bind fun bt275 => ((value_Or.f k bt275.1 bt275.2.1 bt275.2.2 0 0 (⟨#[]⟩ : ByteArray)).bind fun bt278 => (if (t243 == 0 && (t244 == 0 && (t245.toList == ([] : List UInt8)))) = true then (if t246 = 0 then (if t254 = 7 then ((alumref19_Bool.f true).bind fun bt283 => (if (bt262.1 == bt283.1 && (bt262.2.1 == bt283.2.1 && (bt262.2.2.1.toList == bt283.2.2.toList))) = true then (if bt262.2.2.2 = 0 then ((alumref19_Bool.f false).bind fun bt286 => (if (bt270.1 == bt286.1 && (bt270.2.1 == bt286.2.1 && (bt270.2.2.1.toList == bt286.2.2.toList))) = true then (if bt270.2.2.2 = 0 then (if (bt278.1 == 0 && (bt278.2.1 == 0 && (bt278.2.2.1.toList == ([] : List UInt8)))) = true then (alumlaw19_sanity.j0 k (bt278.2.2.2 == 0) 2 0 (⟨#[97, 98, 99, 100]⟩ : ByteArray)) else (none)) else (none)) else (none))) else (none)) else (none))) else (none)) else (none)) else (none))))))))) = some r := H
 have A4 := Aside0.mk A40
 clear A40
 replace H := Option.bind_eq_some_iff.mp H
 obtain ⟨⟨t256, t257, t258⟩, A50, H⟩ := H
 replace H : ((alumlaw19_num.f 3).bind fun bt259 => ((value_Test.f k 8 t256 t257 t258 bt259.1 bt259.2.1 bt259.2.2).bind fun bt262 => ((alumref19_Bool.f false).bind fun bt267 => ((value_And.f k bt267.1 bt267.2.1 bt267.2.2 0 0 (⟨#[]⟩ : ByteArray)).bind fun bt270 => ((alumref19_Bool.f false).bind fun bt275 => ((value_Or.f k bt275.1 bt275.2.1 bt275.2.2 0 0 (⟨#[]⟩ : ByteArray)).bind fun bt278 => (if (t243 == 0 && (t244 == 0 && (t245.toList == ([] : List UInt8)))) = true then (if t246 = 0 then (if t254 = 7 then ((alumref19_Bool.f true).bind fun bt283 => (if (bt262.1 == bt283.1 && (bt262.2.1 == bt283.2.1 && (bt262.2.2.1.toList == bt283.2.2.toList))) = true then (if bt262.2.2.2 = 0 then ((alumref19_Bool.f false).bind fun bt286 => (if (bt270.1 == bt286.1 && (bt270.2.1 == bt286.2.1 && (bt270.2.2.1.toList == bt286.2.2.toList))) = true then (if bt270.2.2.2 = 0 then (if (bt278.1 == 0 && (bt278.2.1 == 0 && (bt278.2.2.1.toList == ([] : List UInt8)))) = true then (alumlaw19_sanity.j0 k (bt278.2.2.2 == 0) 2 0 (⟨#[97, 98, 99, 100]⟩ : ByteArray)) else (none)) else (none)) else (none))) else (none)) else (none))) else (none)) else (none)) else (none)))))))) = some r := H
 have A5 := Aside0.mk A50
 clear A50
 replace H := Option.bind_eq_some_iff.mp H
 obtain ⟨⟨t259, t260, t261⟩, A60, H⟩ := H
 replace H : ((value_Test.f k 8 t256 t257 t258 t259 t260 t261).bind fun bt262 => ((alumref19_Bool.f false).bind fun bt267 => ((value_And.f k bt267.1 bt267.2.1 bt267.2.2 0 0 (⟨#[]⟩ : ByteArray)).bind fun bt270 => ((alumref19_Bool.f false).bind fun bt275 => ((value_Or.f k bt275.1 bt275.2.1 bt275.2.2 0 0 (⟨#[]⟩ : ByteArray)).bind fun bt278 => (if (t243 == 0 && (t244 == 0 && (t245.toList == ([] : List UInt8)))) = true then (if t246 = 0 then (if t254 = 7 then ((alumref19_Bool.f true).bind fun bt283 => (if (bt262.1 == bt283.1 && (bt262.2.1 == bt283.2.1 && (bt262.2.2.1.toList == bt283.2.2.toList))) = true then (if bt262.2.2.2 = 0 then ((alumref19_Bool.f false).bind fun bt286 => (if (bt270.1 == bt286.1 && (bt270.2.1 == bt286.2.1 && (bt270.2.2.1.toList == bt286.2.2.toList))) = true then (if bt270.2.2.2 = 0 then (if (bt278.1 == 0 && (bt278.2.1 == 0 && (bt278.2.2.1.toList == ([] : List UInt8)))) = true then (alumlaw19_sanity.j0 k (bt278.2.2.2 == 0) 2 0 (⟨#[97, 98, 99, 100]⟩ : ByteArray)) else (none)) else (none)) else (none))) else (none)) else (none))) else (none)) else (none)) else (none))))))) = some r := H
 have A6 := Aside0.mk A60
 clear A60
 replace H := Option.bind_eq_some_iff.mp H
 obtain ⟨⟨t262, t263, t264, t265⟩, A70, H⟩ := H
 replace H : ((alumref19_Bool.f false).bind fun bt267 => ((value_And.f k bt267.1 bt267.2.1 bt267.2.2 0 0 (⟨#[]⟩ : ByteArray)).bind fun bt270 => ((alumref19_Bool.f false).bind fun bt275 => ((value_Or.f k bt275.1 bt275.2.1 bt275.2.2 0 0 (⟨#[]⟩ : ByteArray)).bind fun bt278 => (if (t243 == 0 && (t244 == 0 && (t245.toList == ([] : List UInt8)))) = true then (if t246 = 0 then (if t254 = 7 then ((alumref19_Bool.f true).bind fun bt283 => (if (t262 == bt283.1 && (t263 == bt283.2.1 && (t264.toList == bt283.2.2.toList))) = true then (if t265 = 0 then ((alumref19_Bool.f false).bind fun bt286 => (if (bt270.1 == bt286.1 && (bt270.2.1 == bt286.2.1 && (bt270.2.2.1.toList == bt286.2.2.toList))) = true then (if bt270.2.2.2 = 0 then (if (bt278.1 == 0 && (bt278.2.1 == 0 && (bt278.2.2.1.toList == ([] : List UInt8)))) = true then (alumlaw19_sanity.j0 k (bt278.2.2.2 == 0) 2 0 (⟨#[97, 98, 99, 100]⟩ : ByteArray)) else (none)) else (none)) else (none))) else (none)) else (none))) else (none)) else (none)) else (none)))))) = some r := H
 have A7 := Aside0.mk A70
 clear A70
 replace H := Option.bind_eq_some_iff.mp H
 obtain ⟨⟨t267, t268, t269⟩, A80, H⟩ := H
 replace H : ((value_And.f k t267 t268 t269 0 0 (⟨#[]⟩ : ByteArray)).bind fun bt270 => ((alumref19_Bool.f false).bind fun bt275 => ((value_Or.f k bt275.1 bt275.2.1 bt275.2.2 0 0 (⟨#[]⟩ : ByteArray)).bind fun bt278 => (if (t243 == 0 && (t244 == 0 && (t245.toList == ([] : List UInt8)))) = true then (if t246 = 0 then (if t254 = 7 then ((alumref19_Bool.f true).bind fun bt283 => (if (t262 == bt283.1 && (t263 == bt283.2.1 && (t264.toList == bt283.2.2.toList))) = true then (if t265 = 0 then ((alumref19_Bool.f false).bind fun bt286 => (if (bt270.1 == bt286.1 && (bt270.2.1 == bt286.2.1 && (bt270.2.2.1.toList == bt286.2.2.toList))) = true then (if bt270.2.2.2 = 0 then (if (bt278.1 == 0 && (bt278.2.1 == 0 && (bt278.2.2.1.toList == ([] : List UInt8)))) = true then (alumlaw19_sanity.j0 k (bt278.2.2.2 == 0) 2 0 (⟨#[97, 98, 99, 100]⟩ : ByteArray)) else (none)) else (none)) else (none))) else (none)) else (none))) else (none)) else (none)) else (none))))) = some r := H
 have A8 := Aside0.mk A80
 clear A80
 replace H := Option.bind_eq_some_iff.mp H
 obtain ⟨⟨t270, t271, t272, t273⟩, A90, H⟩ := H
 replace H : ((alumref19_Bool.f false).bind fun bt275 => ((value_Or.f k bt275.1 bt275.2.1 bt275.2.2 0 0 (⟨#[]⟩ : ByteArray)).bind fun bt278 => (if (t243 == 0 && (t244 == 0 && (t245.toList == ([] : List UInt8)))) = true then (if t246 = 0 then (if t254 = 7 then ((alumref19_Bool.f true).bind fun bt283 => (if (t262 == bt283.1 && (t263 == bt283.2.1 && (t264.toList == bt283.2.2.toList))) = true then (if t265 = 0 then ((alumref19_Bool.f false).bind fun bt286 => (if (t270 == bt286.1 && (t271 == bt286.2.1 && (t272.toList == bt286.2.2.toList))) = true then (if t273 = 0 then (if (bt278.1 == 0 && (bt278.2.1 == 0 && (bt278.2.2.1.toList == ([] : List UInt8)))) = true then (alumlaw19_sanity.j0 k (bt278.2.2.2 == 0) 2 0 (⟨#[97, 98, 99, 100]⟩ : ByteArray)) else (none)) else (none)) else (none))) else (none)) else (none))) else (none)) else (none)) else (none)))) = some r := H
 have A9 := Aside0.mk A90
 clear A90
 replace H := Option.bind_eq_some_iff.mp H
 obtain ⟨⟨t275, t276, t277⟩, A100, H⟩ := H
 replace H : ((value_Or.f k t275 t276 t277 0 0 (⟨#[]⟩ : ByteArray)).bind fun bt278 => (if (t243 == 0 && (t244 == 0 && (t245.toList == ([] : List UInt8)))) = true then (if t246 = 0 then (if t254 = 7 then ((alumref19_Bool.f true).bind fun bt283 => (if (t262 == bt283.1 && (t263 == bt283.2.1 && (t264.toList == bt283.2.2.toList))) = true then (if t265 = 0 then ((alumref19_Bool.f false).bind fun bt286 => (if (t270 == bt286.1 && (t271 == bt286.2.1 && (t272.toList == bt286.2.2.toList))) = true then (if t273 = 0 then (if (bt278.1 == 0 && (bt278.2.1 == 0 && (bt278.2.2.1.toList == ([] : List UInt8)))) = true then (alumlaw19_sanity.j0 k (bt278.2.2.2 == 0) 2 0 (⟨#[97, 98, 99, 100]⟩ : ByteArray)) else (none)) else (none)) else (none))) else (none)) else (none))) else (none)) else (none)) else (none))) = some r := H
 have A10 := Aside0.mk A100
 clear A100
 replace H := Option.bind_eq_some_iff.mp H
 obtain ⟨⟨t278, t279, t280, t281⟩, A110, H⟩ := H
 replace H : (if (t243 == 0 && (t244 == 0 && (t245.toList == ([] : List UInt8)))) = true then (if t246 = 0 then (if t254 = 7 then ((alumref19_Bool.f true).bind fun bt283 => (if (t262 == bt283.1 && (t263 == bt283.2.1 && (t264.toList == bt283.2.2.toList))) = true then (if t265 = 0 then ((alumref19_Bool.f false).bind fun bt286 => (if (t270 == bt286.1 && (t271 == bt286.2.1 && (t272.toList == bt286.2.2.toList))) = true then (if t273 = 0 then (if (t278 == 0 && (t279 == 0 && (t280.toList == ([] : List UInt8)))) = true then (alumlaw19_sanity.j0 k (t281 == 0) 2 0 (⟨#[97, 98, 99, 100]⟩ : ByteArray)) else (none)) else (none)) else (none))) else (none)) else (none))) else (none)) else (none)) else (none)) = some r := H
 have A11 := Aside0.mk A110
 clear A110
 have HC12 := Aside0.mk H
 clear H
 go_enter Tryd.func12, Tryd.ntmps12
 try go_wp2_with (first | ((with_reducible refine gate_dst (N := 1) rfl ?_); refine box_event ?hg (N := 1) ?hd (cs := #[.int .i64 0, .int .i64 0, .string (⟨#[]⟩ : ByteArray)]) (t := 23) ?hr ?_; (case hd => rfl); (case hg => rfl); (case hr => first | (go_simp; done) | (go_simp; rfl)); intro gb239 hg w13 hbox hb; have BK239 := Aside0.mk (hbox); have GW239 := (sizeB HB hg : Aside0 (w.heap.size ≤ gb239)); have GE239 := (sizeB HB hg : Aside0 (w.heap.size ≤ gb239)); replace HB := stepB HB hb; clear hb hbox hg; have hcz14_0 : w13.cell? ⟨gb239, 0, none⟩ = some (.int .i64 0) := bc BK239 0; have hcz14_1 : w13.cell? ⟨gb239, 1, none⟩ = some (.int .i64 0) := bc BK239 1; have hcz14_2 : w13.cell? ⟨gb239, 2, none⟩ = some (.string (⟨#[]⟩ : ByteArray)) := bc BK239 2; have hfz14_0 := blk_frozen BK239.out 0; have hfz14_1 := blk_frozen BK239.out 1; have hfz14_2 := blk_frozen BK239.out 2) | ((with_reducible refine gate_callee (f := 42) rfl ?_); refine goesL_ (some 17) rfl rfl Tryd.func42 (by kernel_rfl) rfl #[.int .i64 3] rfl (by (try simp only [List.map_toArray, List.map_cons, List.map_nil]); first | done | rfl | (simp only [List.length_drop, List.length_take]; rfl)) ?_; (with_reducible refine (alumlaw19_num.calls 3 t240 t241 t242 _ A1.out).mono ?_); rintro e w15 ⟨rfl, hb⟩; refine ⟨_, rfl, ?_⟩; replace BK239 := Aside0.mk (blk_below (g := gb239) (o := .cells #[.int .i64 2, .int .i64 0, .string (⟨#[97, 98, 99, 100]⟩ : ByteArray)] 23 (0, 0)) (by (with_reducible repeat (first | refine blk_drewN ?_ _ | refine blk_drew ?_ | refine blk_alloc ?_ _)); refine blk_put (cs := #[.int .i64 2, .int .i64 0, .string (⟨#[]⟩ : ByteArray)]) ?_ 2 _ rfl; (with_reducible repeat (first | refine blk_drewN ?_ _ | refine blk_drew ?_ | refine blk_alloc ?_ _)); refine blk_put (cs := #[.int .i64 2, .int .i64 0, .string (⟨#[]⟩ : ByteArray)]) ?_ 1 _ rfl; (with_reducible repeat (first | refine blk_drewN ?_ _ | refine blk_drew ?_ | refine blk_alloc ?_ _)); refine blk_put (cs := #[.int .i64 0, .int .i64 0, .string (⟨#[]⟩ : ByteArray)]) ?_ 0 _ rfl; (with_reducible repeat (first | refine blk_drewN ?_ _ | refine blk_drew ?_ | refine blk_alloc ?_ _)); exact BK239.out) hb); replace HB := stepB HB hb; (try clear hb); (try clear hb2); (try clear hk); (try clear hi)) | ((with_reducible refine gate_callee (f := 14) rfl ?_); refine goesL_ (some 19) rfl rfl Tryd.func14 (by kernel_rfl) rfl #[.int .i64 9, .agg #[.int .i64 t240, .int .i64 t241, .string t242], .agg #[.int .i64 0, .int .i64 0, .string (⟨#[]⟩ : ByteArray)]] rfl (by (try simp only [List.map_toArray, List.map_cons, List.map_nil]); first | done | rfl | (simp only [List.length_drop, List.length_take]; rfl)) ?_; (with_reducible refine (value_Test.calls k 9 t240 t241 t242 0 0 (⟨#[]⟩ : ByteArray) t243 t244 t245 t246 _ A2.out).mono ?_); rintro e w16 ⟨rfl, hb⟩; refine ⟨_, rfl, ?_⟩; replace BK239 := blkB BK239 hb; replace HB := stepB HB hb; (try clear hb); (try clear hb2); (try clear hk); (try clear hi)) | ((with_reducible refine gate_dst (N := 2) rfl ?_); refine box_event ?hg (N := 2) ?hd (cs := #[.int .i64 0, .int .i64 0, .string (⟨#[]⟩ : ByteArray)]) (t := 23) ?hr ?_; (case hd => rfl); (case hg => rfl); (case hr => first | (go_simp; done) | (go_simp; rfl)); intro gb247 hg w17 hbox hb; have BK247 := Aside0.mk (hbox); have GW247 := (sizeB HB hg : Aside0 (w.heap.size ≤ gb247)); have GE247 := (sizeB HB hg : Aside0 (w.heap.size ≤ gb247)); have NB239_247 := neB BK239 hg; have NB247_239 := neC BK239 hg; replace BK239 := blkB BK239 hb; replace HB := stepB HB hb; clear hb hbox hg; have hnb18 := NB247_239.out; have hnc18 := NB239_247.out; have hcz19_0 : w17.cell? ⟨gb247, 0, none⟩ = some (.int .i64 0) := bc BK247 0; have hcz19_1 : w17.cell? ⟨gb247, 1, none⟩ = some (.int .i64 0) := bc BK247 1; have hcz19_2 : w17.cell? ⟨gb247, 2, none⟩ = some (.string (⟨#[]⟩ : ByteArray)) := bc BK247 2; have hfz19_0 := blk_frozen BK247.out 0; have hfz19_1 := blk_frozen BK247.out 1; have hfz19_2 := blk_frozen BK247.out 2))
 have n0_ : Aside0 ((((w17.setCell ⟨gb247, 0, none⟩ (.int .i64 t243)).setCell ⟨gb247, 1, none⟩ (.int .i64 t244)).setCell ⟨gb247, 2, none⟩ (.string t245)).heap[gb239]? = some (.cells #[.int .i64 2, .int .i64 0, .string (⟨#[97, 98, 99, 100]⟩ : ByteArray)] 23 (0, 0))) := ⟨by (with_reducible repeat (first | refine blk_drewN ?_ _ | refine blk_drew ?_ | refine blk_alloc ?_ _)); refine blk_far ?_ NB239_247.out _; (with_reducible repeat (first | refine blk_drewN ?_ _ | refine blk_drew ?_ | refine blk_alloc ?_ _)); refine blk_far ?_ NB239_247.out _; (with_reducible repeat (first | refine blk_drewN ?_ _ | refine blk_drew ?_ | refine blk_alloc ?_ _)); refine blk_far ?_ NB239_247.out _; (with_reducible repeat (first | refine blk_drewN ?_ _ | refine blk_drew ?_ | refine blk_alloc ?_ _)); exact BK239.out⟩
 have n1_ : Aside0 ((((w17.setCell ⟨gb247, 0, none⟩ (.int .i64 t243)).setCell ⟨gb247, 1, none⟩ (.int .i64 t244)).setCell ⟨gb247, 2, none⟩ (.string t245)).heap[gb247]? = some (.cells #[.int .i64 t243, .int .i64 t244, .string t245] 23 (0, 0))) := ⟨by (with_reducible repeat (first | refine blk_drewN ?_ _ | refine blk_drew ?_ | refine blk_alloc ?_ _)); refine blk_put (cs := #[.int .i64 t243, .int .i64 t244, .string (⟨#[]⟩ : ByteArray)]) ?_ 2 _ rfl; (with_reducible repeat (first | refine blk_drewN ?_ _ | refine blk_drew ?_ | refine blk_alloc ?_ _)); refine blk_put (cs := #[.int .i64 t243, .int .i64 0, .string (⟨#[]⟩ : ByteArray)]) ?_ 1 _ rfl; (with_reducible repeat (first | refine blk_drewN ?_ _ | refine blk_drew ?_ | refine blk_alloc ?_ _)); refine blk_put (cs := #[.int .i64 0, .int .i64 0, .string (⟨#[]⟩ : ByteArray)]) ?_ 0 _ rfl; (with_reducible repeat (first | refine blk_drewN ?_ _ | refine blk_drew ?_ | refine blk_alloc ?_ _)); exact BK247.out⟩
 have n2_ : Aside0 (Below w.heap.size w (((w17.setCell ⟨gb247, 0, none⟩ (.int .i64 t243)).setCell ⟨gb247, 1, none⟩ (.int .i64 t244)).setCell ⟨gb247, 2, none⟩ (.string t245))) := ⟨by repeat (first | (with_reducible first | exact HB.out | apply below_alloc | apply pw_below_drewN | apply below_drew1 | refine below_set ?_ GE239.out | refine below_set ?_ GE247.out) | exact HB.out)⟩
 (try clear BK239)
 (try clear BK247)
 (try clear HB)
 generalize (((w17.setCell ⟨gb247, 0, none⟩ (.int .i64 t243)).setCell ⟨gb247, 1, none⟩ (.int .i64 t244)).setCell ⟨gb247, 2, none⟩ (.string t245)) = w20 at n0_ n1_ n2_ ⊢
 have BK239 := n0_
 have BK247 := n1_
 have HB := n2_
 clear n0_ n1_ n2_
 replace BK239 := Aside0.mk (blk_drew BK239.out)
 replace BK247 := Aside0.mk (blk_drew BK247.out)
 replace HB := Aside0.mk (below_drew1 HB.out)
 refine start_ (n := 9) (S := fun w' => w'.cell? ⟨gb239, 0, none⟩ = some (.int .i64 2) ∧ w'.cell? ⟨gb239, 1, none⟩ = some (.int .i64 0) ∧ w'.cell? ⟨gb239, 2, none⟩ = some (.string (⟨#[97, 98, 99, 100]⟩ : ByteArray))) (ds := []) #[false, false, false, false, false, false, false, false, false] (by kernel_rfl) rfl rfl ⟨bc BK239 0, bc BK239 1, bc BK239 2⟩ (fun hHeld => ?_); refine with_tabW alumlaw19_sanity.tab3 alumlaw19_sanity.bits3 (fun HT_ HW_ => ?_)
 generalize w20.drew = w21 at BK239 BK247 HB hHeld ⊢
 refine takeA 1 24 #[false, true, false, false, false, false, false, false, false] HT_ HW_ hHeld ?_
 refine join_ (σ := Nat) 2 #[true, true, true, true, true, true, true, false, false] (fun s_ => [(23, .agg #[.int .i64 t248, .int .i64 t249, .string t250]), (25, .tuple #[.agg #[.int .i64 t251, .int .i64 t252, .string t253], .int .i64 t254]), (4, .pointer (some ⟨s_, 0, none⟩)), (22, .tuple #[.agg #[.int .i64 t251, .int .i64 t252, .string t253], .int .i64 t254]), (26, .agg #[.int .i64 t251, .int .i64 t252, .string t253]), (27, .int .i64 t254)]) (fun s_ w' => (w'.cell? ⟨gb239, 0, none⟩ = some (.int .i64 2) ∧ w'.cell? ⟨gb239, 1, none⟩ = some (.int .i64 0) ∧ w'.cell? ⟨gb239, 2, none⟩ = some (.string (⟨#[97, 98, 99, 100]⟩ : ByteArray))) ∧ (w'.heap[gb239]? = some (.cells #[.int .i64 2, .int .i64 0, .string (⟨#[97, 98, 99, 100]⟩ : ByteArray)] 23 (0, 0))) ∧ (w'.heap[gb247]? = some (.cells #[.int .i64 t243, .int .i64 t244, .string t245] 23 (0, 0))) ∧ (w'.heap[s_]? = some (.cells #[.int .i64 0, .int .i64 0, .string (⟨#[]⟩ : ByteArray)] 23 (0, 0))) ∧ (w.heap.size ≤ s_) ∧ (w.heap.size ≤ s_) ∧ (gb239 ≠ s_) ∧ (s_ ≠ gb239) ∧ (gb247 ≠ s_) ∧ (s_ ≠ gb247) ∧ (Below w.heap.size w w')) ?_ ?_
 rotate_left
 ·intro hCont
  refine two_ (i := 0) (j := 6) (Ni := some 23) (Nj := some 4) #[true, true, false, false, false, false, false, false, false] #[false, true, false, false, false, false, true, false, false] rfl rfl rfl rfl (two_of HT_.out (by kernel_rfl)) (by decide) (by decide) (fun K hK => ?_) (fun K hK => ?_)
  ·skip
   refine goes_ Tryd.func42 (by kernel_rfl) rfl #[.int .i64 3] (by rfl) rfl rfl (by (try simp only [List.map_toArray, List.map_cons, List.map_nil]); first | done | rfl | (simp only [List.length_drop, List.length_take]; rfl)) ?_
   with_reducible refine (alumlaw19_num.calls 3 t248 t249 t250 _ A3.out).mono ?_
   rintro e w22 ⟨rfl, hb⟩
   refine ⟨_, rfl, ?_⟩
   replace BK239 := blkB BK239 hb
   replace BK247 := blkB BK247 hb
   replace HB := stepB HB hb
   (try clear hb)
   (try clear hb2)
   (try clear hk)
   (try clear hi)
   refine hK.out _ _ ⟨bc BK239 0, bc BK239 1, bc BK239 2⟩ (fun hHeld => ?_)
   clear hK K
   refine normA 23 ?_
   refine two_ (i := 2) (j := 6) (Ni := some 25) (Nj := some 4) #[true, true, true, false, false, false, false, false, false] #[true, true, false, false, false, false, true, false, false] rfl rfl rfl rfl (two_of HT_.out (by kernel_rfl)) (by decide) (by decide) (fun K hK => ?_) (fun K hK => ?_)
   ·skip
    refine goes_ Tryd.func14 (by kernel_rfl) rfl #[.int .i64 6, .agg #[.int .i64 t248, .int .i64 t249, .string t250], .agg #[.int .i64 2, .int .i64 0, .string (⟨#[97, 98, 99, 100]⟩ : ByteArray)]] (by rfl) rfl rfl (by (try simp only [List.map_toArray, List.map_cons, List.map_nil]); first | done | rfl | (simp only [List.length_drop, List.length_take]; rfl)) ?_
    with_reducible refine (value_Test.calls k 6 t248 t249 t250 2 0 (⟨#[97, 98, 99, 100]⟩ : ByteArray) t251 t252 t253 t254 _ A4.out).mono ?_
    rintro e w23 ⟨rfl, hb⟩
    refine ⟨_, rfl, ?_⟩
    replace BK239 := blkB BK239 hb
    replace BK247 := blkB BK247 hb
    replace HB := stepB HB hb
    (try clear hb)
    (try clear hb2)
    (try clear hk)
    (try clear hi)
    refine hK.out _ _ ⟨bc BK239 0, bc BK239 1, bc BK239 2⟩ (fun hHeld => ?_)
    clear hK K
    refine normA 25 ?_
    refine pureA 3 22 #[true, true, true, true, false, false, false, false, false] HT_ ?_
    refine pureA 4 26 #[true, true, true, true, true, false, false, false, false] HT_ ?_
    refine pureA 5 27 #[true, true, true, true, true, true, false, false, false] HT_ ?_
    refine one_ (i := 6) (N := some 4) #[true, true, true, true, true, true, true, false, false] rfl rfl (one_of HT_.out (by kernel_rfl)) (by decide) (fun K hK => ?_)
    refine box_step ?hg (N := 4) ?hd (cs := #[.int .i64 0, .int .i64 0, .string (⟨#[]⟩ : ByteArray)]) (t := 23) ?hr ?_; (case hd => rfl); (case hg => rfl); (case hr => first | (go_simp; done) | (go_simp; rfl))
    intro gb255 hg w24 hbox hb
    have BK255 := Aside0.mk (hbox)
    have GW255 := (sizeB HB hg : Aside0 (w.heap.size ≤ gb255))
    have GE255 := (sizeB HB hg : Aside0 (w.heap.size ≤ gb255))
    have NB239_255 := neB BK239 hg
    have NB255_239 := neC BK239 hg
    have NB247_255 := neB BK247 hg
    have NB255_247 := neC BK247 hg
    replace BK239 := blkB BK239 hb
    replace BK247 := blkB BK247 hb
    replace HB := stepB HB hb
    clear hb hbox hg
    refine hK.out _ _ ⟨bc BK239 0, bc BK239 1, bc BK239 2⟩ (fun hHeld => ?_)
    clear hK K
    refine normA 4 ?_
    exact norm_ (by simp only [putAll, Act.put, List.setIfInBounds_toArray, List.set_cons_zero, List.set_cons_succ]) (hCont (gb255) _ ⟨hHeld, (by (with_reducible repeat (first | refine blk_drewN ?_ _ | refine blk_drew ?_ | refine blk_alloc ?_ _)); exact BK239.out), (by (with_reducible repeat (first | refine blk_drewN ?_ _ | refine blk_drew ?_ | refine blk_alloc ?_ _)); exact BK247.out), (by (with_reducible repeat (first | refine blk_drewN ?_ _ | refine blk_drew ?_ | refine blk_alloc ?_ _)); exact BK255.out), GW255.out, GE255.out, NB239_255.out, NB255_239.out, NB247_255.out, NB255_247.out, (by repeat (first | (with_reducible first | exact HB.out | apply below_alloc | apply pw_below_drewN | apply below_drew1 | refine below_set ?_ GE239.out | refine below_set ?_ GE247.out | refine below_set ?_ GE255.out) | exact HB.out))⟩)
   ·skip
    refine box_step ?hg (N := 4) ?hd (cs := #[.int .i64 0, .int .i64 0, .string (⟨#[]⟩ : ByteArray)]) (t := 23) ?hr ?_; (case hd => rfl); (case hg => rfl); (case hr => first | (go_simp; done) | (go_simp; rfl))
    intro gb255 hg w23 hbox hb
    have BK255 := Aside0.mk (hbox)
    have GW255 := (sizeB HB hg : Aside0 (w.heap.size ≤ gb255))
    have GE255 := (sizeB HB hg : Aside0 (w.heap.size ≤ gb255))
    have NB239_255 := neB BK239 hg
    have NB255_239 := neC BK239 hg
    have NB247_255 := neB BK247 hg
    have NB255_247 := neC BK247 hg
    replace BK239 := blkB BK239 hb
    replace BK247 := blkB BK247 hb
    replace HB := stepB HB hb
    clear hb hbox hg
    refine hK.out _ _ ⟨bc BK239 0, bc BK239 1, bc BK239 2⟩ (fun hHeld => ?_)
    clear hK K
    refine normA 4 ?_
    refine one_ (i := 2) (N := some 25) #[true, true, true, false, false, false, true, false, false] rfl rfl (one_of HT_.out (by kernel_rfl)) (by decide) (fun K hK => ?_)
    refine goes_ Tryd.func14 (by kernel_rfl) rfl #[.int .i64 6, .agg #[.int .i64 t248, .int .i64 t249, .string t250], .agg #[.int .i64 2, .int .i64 0, .string (⟨#[97, 98, 99, 100]⟩ : ByteArray)]] (by rfl) rfl rfl (by (try simp only [List.map_toArray, List.map_cons, List.map_nil]); first | done | rfl | (simp only [List.length_drop, List.length_take]; rfl)) ?_
    with_reducible refine (value_Test.calls k 6 t248 t249 t250 2 0 (⟨#[97, 98, 99, 100]⟩ : ByteArray) t251 t252 t253 t254 _ A4.out).mono ?_
    rintro e w24 ⟨rfl, hb⟩
    refine ⟨_, rfl, ?_⟩
    replace BK239 := blkB BK239 hb
    replace BK247 := blkB BK247 hb
    replace BK255 := blkB BK255 hb
    replace HB := stepB HB hb
    (try clear hb)
    (try clear hb2)
    (try clear hk)
    (try clear hi)
    refine hK.out _ _ ⟨bc BK239 0, bc BK239 1, bc BK239 2⟩ (fun hHeld => ?_)
    clear hK K
    refine normA 25 ?_
    refine pureA 3 22 #[true, true, true, true, false, false, true, false, false] HT_ ?_
    refine pureA 4 26 #[true, true, true, true, true, false, true, false, false] HT_ ?_
    refine pureA 5 27 #[true, true, true, true, true, true, true, false, false] HT_ ?_
    exact norm_ (by simp only [putAll, Act.put, List.setIfInBounds_toArray, List.set_cons_zero, List.set_cons_succ]) (hCont (gb255) _ ⟨hHeld, (by (with_reducible repeat (first | refine blk_drewN ?_ _ | refine blk_drew ?_ | refine blk_alloc ?_ _)); exact BK239.out), (by (with_reducible repeat (first | refine blk_drewN ?_ _ | refine blk_drew ?_ | refine blk_alloc ?_ _)); exact BK247.out), (by (with_reducible repeat (first | refine blk_drewN ?_ _ | refine blk_drew ?_ | refine blk_alloc ?_ _)); exact BK255.out), GW255.out, GE255.out, NB239_255.out, NB255_239.out, NB247_255.out, NB255_247.out, (by repeat (first | (with_reducible first | exact HB.out | apply below_alloc | apply pw_below_drewN | apply below_drew1 | refine below_set ?_ GE239.out | refine below_set ?_ GE247.out | refine below_set ?_ GE255.out) | exact HB.out))⟩)
  ·skip
   refine box_step ?hg (N := 4) ?hd (cs := #[.int .i64 0, .int .i64 0, .string (⟨#[]⟩ : ByteArray)]) (t := 23) ?hr ?_; (case hd => rfl); (case hg => rfl); (case hr => first | (go_simp; done) | (go_simp; rfl))
   intro gb255 hg w22 hbox hb
   have BK255 := Aside0.mk (hbox)
   have GW255 := (sizeB HB hg : Aside0 (w.heap.size ≤ gb255))
   have GE255 := (sizeB HB hg : Aside0 (w.heap.size ≤ gb255))
   have NB239_255 := neB BK239 hg
   have NB255_239 := neC BK239 hg
   have NB247_255 := neB BK247 hg
   have NB255_247 := neC BK247 hg
   replace BK239 := blkB BK239 hb
   replace BK247 := blkB BK247 hb
   replace HB := stepB HB hb
   clear hb hbox hg
   refine hK.out _ _ ⟨bc BK239 0, bc BK239 1, bc BK239 2⟩ (fun hHeld => ?_)
   clear hK K
   refine normA 4 ?_
   refine one_ (i := 0) (N := some 23) #[true, true, false, false, false, false, true, false, false] rfl rfl (one_of HT_.out (by kernel_rfl)) (by decide) (fun K hK => ?_)
   refine goes_ Tryd.func42 (by kernel_rfl) rfl #[.int .i64 3] (by rfl) rfl rfl (by (try simp only [List.map_toArray, List.map_cons, List.map_nil]); first | done | rfl | (simp only [List.length_drop, List.length_take]; rfl)) ?_
   with_reducible refine (alumlaw19_num.calls 3 t248 t249 t250 _ A3.out).mono ?_
   rintro e w23 ⟨rfl, hb⟩
   refine ⟨_, rfl, ?_⟩
   replace BK239 := blkB BK239 hb
   replace BK247 := blkB BK247 hb
   replace BK255 := blkB BK255 hb
   replace HB := stepB HB hb
   (try clear hb)
   (try clear hb2)
   (try clear hk)
   (try clear hi)
   refine hK.out _ _ ⟨bc BK239 0, bc BK239 1, bc BK239 2⟩ (fun hHeld => ?_)
   clear hK K
   refine normA 23 ?_
   refine one_ (i := 2) (N := some 25) #[true, true, true, false, false, false, true, false, false] rfl rfl (one_of HT_.out (by kernel_rfl)) (by decide) (fun K hK => ?_)
   refine goes_ Tryd.func14 (by kernel_rfl) rfl #[.int .i64 6, .agg #[.int .i64 t248, .int .i64 t249, .string t250], .agg #[.int .i64 2, .int .i64 0, .string (⟨#[97, 98, 99, 100]⟩ : ByteArray)]] (by rfl) rfl rfl (by (try simp only [List.map_toArray, List.map_cons, List.map_nil]); first | done | rfl | (simp only [List.length_drop, List.length_take]; rfl)) ?_
   with_reducible refine (value_Test.calls k 6 t248 t249 t250 2 0 (⟨#[97, 98, 99, 100]⟩ : ByteArray) t251 t252 t253 t254 _ A4.out).mono ?_
   rintro e w24 ⟨rfl, hb⟩
   refine ⟨_, rfl, ?_⟩
   replace BK239 := blkB BK239 hb
   replace BK247 := blkB BK247 hb
   replace BK255 := blkB BK255 hb
   replace HB := stepB HB hb
   (try clear hb)
   (try clear hb2)
   (try clear hk)
   (try clear hi)
   refine hK.out _ _ ⟨bc BK239 0, bc BK239 1, bc BK239 2⟩ (fun hHeld => ?_)
   clear hK K
   refine normA 25 ?_
   refine pureA 3 22 #[true, true, true, true, false, false, true, false, false] HT_ ?_
   refine pureA 4 26 #[true, true, true, true, true, false, true, false, false] HT_ ?_
   refine pureA 5 27 #[true, true, true, true, true, true, true, false, false] HT_ ?_
   exact norm_ (by simp only [putAll, Act.put, List.setIfInBounds_toArray, List.set_cons_zero, List.set_cons_succ]) (hCont (gb255) _ ⟨hHeld, (by (with_reducible repeat (first | refine blk_drewN ?_ _ | refine blk_drew ?_ | refine blk_alloc ?_ _)); exact BK239.out), (by (with_reducible repeat (first | refine blk_drewN ?_ _ | refine blk_drew ?_ | refine blk_alloc ?_ _)); exact BK247.out), (by (with_reducible repeat (first | refine blk_drewN ?_ _ | refine blk_drew ?_ | refine blk_alloc ?_ _)); exact BK255.out), GW255.out, GE255.out, NB239_255.out, NB255_239.out, NB247_255.out, NB255_247.out, (by repeat (first | (with_reducible first | exact HB.out | apply below_alloc | apply pw_below_drewN | apply below_drew1 | refine below_set ?_ GE239.out | refine below_set ?_ GE247.out | refine below_set ?_ GE255.out) | exact HB.out))⟩)
 rintro gb255 w25 ⟨hS_, h0_, h1_, h2_, h3_, h4_, h5_, h6_, h7_, h8_, h9_⟩
 have BK255 : Aside0 (w25.heap[gb255]? = some (.cells #[.int .i64 0, .int .i64 0, .string (⟨#[]⟩ : ByteArray)] 23 (0, 0))) := ⟨h2_⟩
 have GW255 : Aside0 (w.heap.size ≤ gb255) := ⟨h3_⟩
 have GE255 : Aside0 (w.heap.size ≤ gb255) := ⟨h4_⟩
 have NB239_255 : Aside0 (gb239 ≠ gb255) := ⟨h5_⟩
 have NB255_239 : Aside0 (gb255 ≠ gb239) := ⟨h6_⟩
 have NB247_255 : Aside0 (gb247 ≠ gb255) := ⟨h7_⟩
 have NB255_247 : Aside0 (gb255 ≠ gb247) := ⟨h8_⟩
 replace BK239 : Aside0 (w25.heap[gb239]? = some (.cells #[.int .i64 2, .int .i64 0, .string (⟨#[97, 98, 99, 100]⟩ : ByteArray)] 23 (0, 0))) := ⟨h0_⟩
 replace BK247 : Aside0 (w25.heap[gb247]? = some (.cells #[.int .i64 t243, .int .i64 t244, .string t245] 23 (0, 0))) := ⟨h1_⟩
 replace HB : Aside0 (Below w.heap.size w w25) := ⟨h9_⟩
 clear h0_ h1_ h2_ h3_ h4_ h5_ h6_ h7_ h8_ h9_
 have hHeld : w25.cell? ⟨gb239, 0, none⟩ = some (.int .i64 2) ∧ w25.cell? ⟨gb239, 1, none⟩ = some (.int .i64 0) ∧ w25.cell? ⟨gb239, 2, none⟩ = some (.string (⟨#[97, 98, 99, 100]⟩ : ByteArray)) := hS_
 refine norm_ (a' := ?_) ?_ ?_
 rotate_left
 ·simp only [putAll, Act.put, List.setIfInBounds_toArray, List.set_cons_zero, List.set_cons_succ]
  rfl
 refine one_ (i := 7) (N := none) #[true, true, true, true, true, true, true, true, false] rfl rfl (one_of HT_.out (by kernel_rfl)) (by decide) (fun K hK => ?_)
 have hs26 : w25.cell? ⟨gb255, 0, none⟩ = some (.int .i64 0) := bc BK255 0
 have hfs26 := blk_frozen BK255.out 0
 have hns26_0 := NB239_255.out
 have hns26_1 := NB247_255.out
 have hms26_0 := NB255_239.out
 have hms26_1 := NB255_247.out
 have hs27 : w25.cell? ⟨gb255, 1, none⟩ = some (.int .i64 0) := bc BK255 1
 have hfs27 := blk_frozen BK255.out 1
 have hns27_0 := NB239_255.out
 have hns27_1 := NB247_255.out
 have hms27_0 := NB255_239.out
 have hms27_1 := NB255_247.out
 have hs28 : w25.cell? ⟨gb255, 2, none⟩ = some (.string (⟨#[]⟩ : ByteArray)) := bc BK255 2
 have hfs28 := blk_frozen BK255.out 2
 have hns28_0 := NB239_255.out
 have hns28_1 := NB247_255.out
 have hms28_0 := NB255_239.out
 have hms28_1 := NB255_247.out
 refine skip_ (w1 := ?_) (by rfl) rfl ?_ ?_
 rotate_left
 ·go_simp
  rfl
 refine hK.out _ _ ⟨((cell_far (p := ⟨gb255, _, none⟩) NB239_255.out _).trans (((cell_far (p := ⟨gb255, _, none⟩) NB239_255.out _).trans (((cell_far (p := ⟨gb255, _, none⟩) NB239_255.out _).trans (hHeld.1)))))), ((cell_far (p := ⟨gb255, _, none⟩) NB239_255.out _).trans (((cell_far (p := ⟨gb255, _, none⟩) NB239_255.out _).trans (((cell_far (p := ⟨gb255, _, none⟩) NB239_255.out _).trans (hHeld.2.1)))))), ((cell_far (p := ⟨gb255, _, none⟩) NB239_255.out _).trans (((cell_far (p := ⟨gb255, _, none⟩) NB239_255.out _).trans (((cell_far (p := ⟨gb255, _, none⟩) NB239_255.out _).trans (hHeld.2.2))))))⟩ (fun hHeld => ?_)
 clear hK K
 refine pureA 8 5 #[true, true, true, true, true, true, true, true, true] HT_ ?_
 refine done_ (done_of HT_.out (by kernel_rfl)) ?_
 go_upto_region 7 with (first | ((with_reducible refine gate_callee (f := 42) rfl ?_); refine goesL_ (some 29) rfl rfl Tryd.func42 (by kernel_rfl) rfl #[.int .i64 2] rfl (by (try simp only [List.map_toArray, List.map_cons, List.map_nil]); first | done | rfl | (simp only [List.length_drop, List.length_take]; rfl)) ?_; (with_reducible refine (alumlaw19_num.calls 2 t256 t257 t258 _ A5.out).mono ?_); rintro e w29 ⟨rfl, hb⟩; refine ⟨_, rfl, ?_⟩; replace BK239 := Aside0.mk (blk_below (g := gb239) (o := .cells #[.int .i64 2, .int .i64 0, .string (⟨#[97, 98, 99, 100]⟩ : ByteArray)] 23 (0, 0)) (by (with_reducible repeat (first | refine blk_drewN ?_ _ | refine blk_drew ?_ | refine blk_alloc ?_ _)); refine blk_far ?_ NB239_255.out _; (with_reducible repeat (first | refine blk_drewN ?_ _ | refine blk_drew ?_ | refine blk_alloc ?_ _)); refine blk_far ?_ NB239_255.out _; (with_reducible repeat (first | refine blk_drewN ?_ _ | refine blk_drew ?_ | refine blk_alloc ?_ _)); refine blk_far ?_ NB239_255.out _; (with_reducible repeat (first | refine blk_drewN ?_ _ | refine blk_drew ?_ | refine blk_alloc ?_ _)); exact BK239.out) hb); replace BK247 := Aside0.mk (blk_below (g := gb247) (o := .cells #[.int .i64 t243, .int .i64 t244, .string t245] 23 (0, 0)) (by (with_reducible repeat (first | refine blk_drewN ?_ _ | refine blk_drew ?_ | refine blk_alloc ?_ _)); refine blk_far ?_ NB247_255.out _; (with_reducible repeat (first | refine blk_drewN ?_ _ | refine blk_drew ?_ | refine blk_alloc ?_ _)); refine blk_far ?_ NB247_255.out _; (with_reducible repeat (first | refine blk_drewN ?_ _ | refine blk_drew ?_ | refine blk_alloc ?_ _)); refine blk_far ?_ NB247_255.out _; (with_reducible repeat (first | refine blk_drewN ?_ _ | refine blk_drew ?_ | refine blk_alloc ?_ _)); exact BK247.out) hb); replace BK255 := Aside0.mk (blk_below (g := gb255) (o := .cells #[.int .i64 t251, .int .i64 t252, .string t253] 23 (0, 0)) (by (with_reducible repeat (first | refine blk_drewN ?_ _ | refine blk_drew ?_ | refine blk_alloc ?_ _)); refine blk_put (cs := #[.int .i64 t251, .int .i64 t252, .string (⟨#[]⟩ : ByteArray)]) ?_ 2 _ rfl; (with_reducible repeat (first | refine blk_drewN ?_ _ | refine blk_drew ?_ | refine blk_alloc ?_ _)); refine blk_put (cs := #[.int .i64 t251, .int .i64 0, .string (⟨#[]⟩ : ByteArray)]) ?_ 1 _ rfl; (with_reducible repeat (first | refine blk_drewN ?_ _ | refine blk_drew ?_ | refine blk_alloc ?_ _)); refine blk_put (cs := #[.int .i64 0, .int .i64 0, .string (⟨#[]⟩ : ByteArray)]) ?_ 0 _ rfl; (with_reducible repeat (first | refine blk_drewN ?_ _ | refine blk_drew ?_ | refine blk_alloc ?_ _)); exact BK255.out) hb); replace HB := stepB HB hb; (try clear hb); (try clear hb2); (try clear hk); (try clear hi)) | ((with_reducible refine gate_callee (f := 42) rfl ?_); refine goesL_ (some 30) rfl rfl Tryd.func42 (by kernel_rfl) rfl #[.int .i64 3] rfl (by (try simp only [List.map_toArray, List.map_cons, List.map_nil]); first | done | rfl | (simp only [List.length_drop, List.length_take]; rfl)) ?_; (with_reducible refine (alumlaw19_num.calls 3 t259 t260 t261 _ A6.out).mono ?_); rintro e w30 ⟨rfl, hb⟩; refine ⟨_, rfl, ?_⟩; replace BK239 := blkB BK239 hb; replace BK247 := blkB BK247 hb; replace BK255 := blkB BK255 hb; replace HB := stepB HB hb; (try clear hb); (try clear hb2); (try clear hk); (try clear hi)) | ((with_reducible refine gate_callee (f := 14) rfl ?_); refine goesL_ (some 31) rfl rfl Tryd.func14 (by kernel_rfl) rfl #[.int .i64 8, .agg #[.int .i64 t256, .int .i64 t257, .string t258], .agg #[.int .i64 t259, .int .i64 t260, .string t261]] rfl (by (try simp only [List.map_toArray, List.map_cons, List.map_nil]); first | done | rfl | (simp only [List.length_drop, List.length_take]; rfl)) ?_; (with_reducible refine (value_Test.calls k 8 t256 t257 t258 t259 t260 t261 t262 t263 t264 t265 _ A7.out).mono ?_); rintro e w31 ⟨rfl, hb⟩; refine ⟨_, rfl, ?_⟩; replace BK239 := blkB BK239 hb; replace BK247 := blkB BK247 hb; replace BK255 := blkB BK255 hb; replace HB := stepB HB hb; (try clear hb); (try clear hb2); (try clear hk); (try clear hi)) | ((with_reducible refine gate_dst (N := 6) rfl ?_); refine box_event ?hg (N := 6) ?hd (cs := #[.int .i64 0, .int .i64 0, .string (⟨#[]⟩ : ByteArray)]) (t := 23) ?hr ?_; (case hd => rfl); (case hg => rfl); (case hr => first | (go_simp; done) | (go_simp; rfl)); intro gb266 hg w32 hbox hb; have BK266 := Aside0.mk (hbox); have GW266 := (sizeB HB hg : Aside0 (w.heap.size ≤ gb266)); have GE266 := (sizeB HB hg : Aside0 (w.heap.size ≤ gb266)); have NB239_266 := neB BK239 hg; have NB266_239 := neC BK239 hg; have NB247_266 := neB BK247 hg; have NB266_247 := neC BK247 hg; have NB255_266 := neB BK255 hg; have NB266_255 := neC BK255 hg; replace BK239 := blkB BK239 hb; replace BK247 := blkB BK247 hb; replace BK255 := blkB BK255 hb; replace HB := stepB HB hb; clear hb hbox hg; have hnb33 := NB266_239.out; have hnc33 := NB239_266.out; have hnb34 := NB266_247.out; have hnc34 := NB247_266.out; have hnb35 := NB266_255.out; have hnc35 := NB255_266.out; have hcz36_0 : w32.cell? ⟨gb266, 0, none⟩ = some (.int .i64 0) := bc BK266 0; have hcz36_1 : w32.cell? ⟨gb266, 1, none⟩ = some (.int .i64 0) := bc BK266 1; have hcz36_2 : w32.cell? ⟨gb266, 2, none⟩ = some (.string (⟨#[]⟩ : ByteArray)) := bc BK266 2; have hfz36_0 := blk_frozen BK266.out 0; have hfz36_1 := blk_frozen BK266.out 1; have hfz36_2 := blk_frozen BK266.out 2) | ((with_reducible refine gate_callee (f := 15) rfl ?_); refine goesL_ (some 35) rfl rfl Tryd.func15 (by kernel_rfl) rfl #[.bool false] rfl (by (try simp only [List.map_toArray, List.map_cons, List.map_nil]); first | done | rfl | (simp only [List.length_drop, List.length_take]; rfl)) ?_; (with_reducible refine (alumref19_Bool.calls false t267 t268 t269 _ A8.out).mono ?_); rintro e w37 ⟨rfl, hb⟩; refine ⟨_, rfl, ?_⟩; replace BK239 := Aside0.mk (blk_below (g := gb239) (o := .cells #[.int .i64 2, .int .i64 0, .string (⟨#[97, 98, 99, 100]⟩ : ByteArray)] 23 (0, 0)) (by (with_reducible repeat (first | refine blk_drewN ?_ _ | refine blk_drew ?_ | refine blk_alloc ?_ _)); refine blk_far ?_ NB239_266.out _; (with_reducible repeat (first | refine blk_drewN ?_ _ | refine blk_drew ?_ | refine blk_alloc ?_ _)); refine blk_far ?_ NB239_266.out _; (with_reducible repeat (first | refine blk_drewN ?_ _ | refine blk_drew ?_ | refine blk_alloc ?_ _)); refine blk_far ?_ NB239_266.out _; (with_reducible repeat (first | refine blk_drewN ?_ _ | refine blk_drew ?_ | refine blk_alloc ?_ _)); exact BK239.out) hb); replace BK247 := Aside0.mk (blk_below (g := gb247) (o := .cells #[.int .i64 t243, .int .i64 t244, .string t245] 23 (0, 0)) (by (with_reducible repeat (first | refine blk_drewN ?_ _ | refine blk_drew ?_ | refine blk_alloc ?_ _)); refine blk_far ?_ NB247_266.out _; (with_reducible repeat (first | refine blk_drewN ?_ _ | refine blk_drew ?_ | refine blk_alloc ?_ _)); refine blk_far ?_ NB247_266.out _; (with_reducible repeat (first | refine blk_drewN ?_ _ | refine blk_drew ?_ | refine blk_alloc ?_ _)); refine blk_far ?_ NB247_266.out _; (with_reducible repeat (first | refine blk_drewN ?_ _ | refine blk_drew ?_ | refine blk_alloc ?_ _)); exact BK247.out) hb); replace BK255 := Aside0.mk (blk_below (g := gb255) (o := .cells #[.int .i64 t251, .int .i64 t252, .string t253] 23 (0, 0)) (by (with_reducible repeat (first | refine blk_drewN ?_ _ | refine blk_drew ?_ | refine blk_alloc ?_ _)); refine blk_far ?_ NB255_266.out _; (with_reducible repeat (first | refine blk_drewN ?_ _ | refine blk_drew ?_ | refine blk_alloc ?_ _)); refine blk_far ?_ NB255_266.out _; (with_reducible repeat (first | refine blk_drewN ?_ _ | refine blk_drew ?_ | refine blk_alloc ?_ _)); refine blk_far ?_ NB255_266.out _; (with_reducible repeat (first | refine blk_drewN ?_ _ | refine blk_drew ?_ | refine blk_alloc ?_ _)); exact BK255.out) hb); replace BK266 := Aside0.mk (blk_below (g := gb266) (o := .cells #[.int .i64 t262, .int .i64 t263, .string t264] 23 (0, 0)) (by (with_reducible repeat (first | refine blk_drewN ?_ _ | refine blk_drew ?_ | refine blk_alloc ?_ _)); refine blk_put (cs := #[.int .i64 t262, .int .i64 t263, .string (⟨#[]⟩ : ByteArray)]) ?_ 2 _ rfl; (with_reducible repeat (first | refine blk_drewN ?_ _ | refine blk_drew ?_ | refine blk_alloc ?_ _)); refine blk_put (cs := #[.int .i64 t262, .int .i64 0, .string (⟨#[]⟩ : ByteArray)]) ?_ 1 _ rfl; (with_reducible repeat (first | refine blk_drewN ?_ _ | refine blk_drew ?_ | refine blk_alloc ?_ _)); refine blk_put (cs := #[.int .i64 0, .int .i64 0, .string (⟨#[]⟩ : ByteArray)]) ?_ 0 _ rfl; (with_reducible repeat (first | refine blk_drewN ?_ _ | refine blk_drew ?_ | refine blk_alloc ?_ _)); exact BK266.out) hb); replace HB := stepB HB hb; (try clear hb); (try clear hb2); (try clear hk); (try clear hi)) | ((with_reducible refine gate_callee (f := 22) rfl ?_); refine goesL_ (some 37) rfl rfl Tryd.func22 (by kernel_rfl) rfl #[.agg #[.int .i64 t267, .int .i64 t268, .string t269], .agg #[.int .i64 0, .int .i64 0, .string (⟨#[]⟩ : ByteArray)]] rfl (by (try simp only [List.map_toArray, List.map_cons, List.map_nil]); first | done | rfl | (simp only [List.length_drop, List.length_take]; rfl)) ?_; (with_reducible refine (value_And.calls k t267 t268 t269 0 0 (⟨#[]⟩ : ByteArray) t270 t271 t272 t273 _ A9.out).mono ?_); rintro e w38 ⟨rfl, hb⟩; refine ⟨_, rfl, ?_⟩; replace BK239 := blkB BK239 hb; replace BK247 := blkB BK247 hb; replace BK255 := blkB BK255 hb; replace BK266 := blkB BK266 hb; replace HB := stepB HB hb; (try clear hb); (try clear hb2); (try clear hk); (try clear hi)) | ((with_reducible refine gate_dst (N := 8) rfl ?_); refine box_event ?hg (N := 8) ?hd (cs := #[.int .i64 0, .int .i64 0, .string (⟨#[]⟩ : ByteArray)]) (t := 23) ?hr ?_; (case hd => rfl); (case hg => rfl); (case hr => first | (go_simp; done) | (go_simp; rfl)); intro gb274 hg w39 hbox hb; have BK274 := Aside0.mk (hbox); have GW274 := (sizeB HB hg : Aside0 (w.heap.size ≤ gb274)); have GE274 := (sizeB HB hg : Aside0 (w.heap.size ≤ gb274)); have NB239_274 := neB BK239 hg; have NB274_239 := neC BK239 hg; have NB247_274 := neB BK247 hg; have NB274_247 := neC BK247 hg; have NB255_274 := neB BK255 hg; have NB274_255 := neC BK255 hg; have NB266_274 := neB BK266 hg; have NB274_266 := neC BK266 hg; replace BK239 := blkB BK239 hb; replace BK247 := blkB BK247 hb; replace BK255 := blkB BK255 hb; replace BK266 := blkB BK266 hb; replace HB := stepB HB hb; clear hb hbox hg; have hnb40 := NB274_239.out; have hnc40 := NB239_274.out; have hnb41 := NB274_247.out; have hnc41 := NB247_274.out; have hnb42 := NB274_255.out; have hnc42 := NB255_274.out; have hnb43 := NB274_266.out; have hnc43 := NB266_274.out; have hcz44_0 : w39.cell? ⟨gb274, 0, none⟩ = some (.int .i64 0) := bc BK274 0; have hcz44_1 : w39.cell? ⟨gb274, 1, none⟩ = some (.int .i64 0) := bc BK274 1; have hcz44_2 : w39.cell? ⟨gb274, 2, none⟩ = some (.string (⟨#[]⟩ : ByteArray)) := bc BK274 2; have hfz44_0 := blk_frozen BK274.out 0; have hfz44_1 := blk_frozen BK274.out 1; have hfz44_2 := blk_frozen BK274.out 2) | ((with_reducible refine gate_callee (f := 15) rfl ?_); refine goesL_ (some 41) rfl rfl Tryd.func15 (by kernel_rfl) rfl #[.bool false] rfl (by (try simp only [List.map_toArray, List.map_cons, List.map_nil]); first | done | rfl | (simp only [List.length_drop, List.length_take]; rfl)) ?_; (with_reducible refine (alumref19_Bool.calls false t275 t276 t277 _ A10.out).mono ?_); rintro e w45 ⟨rfl, hb⟩; refine ⟨_, rfl, ?_⟩; replace BK239 := Aside0.mk (blk_below (g := gb239) (o := .cells #[.int .i64 2, .int .i64 0, .string (⟨#[97, 98, 99, 100]⟩ : ByteArray)] 23 (0, 0)) (by (with_reducible repeat (first | refine blk_drewN ?_ _ | refine blk_drew ?_ | refine blk_alloc ?_ _)); refine blk_far ?_ NB239_274.out _; (with_reducible repeat (first | refine blk_drewN ?_ _ | refine blk_drew ?_ | refine blk_alloc ?_ _)); refine blk_far ?_ NB239_274.out _; (with_reducible repeat (first | refine blk_drewN ?_ _ | refine blk_drew ?_ | refine blk_alloc ?_ _)); refine blk_far ?_ NB239_274.out _; (with_reducible repeat (first | refine blk_drewN ?_ _ | refine blk_drew ?_ | refine blk_alloc ?_ _)); exact BK239.out) hb); replace BK247 := Aside0.mk (blk_below (g := gb247) (o := .cells #[.int .i64 t243, .int .i64 t244, .string t245] 23 (0, 0)) (by (with_reducible repeat (first | refine blk_drewN ?_ _ | refine blk_drew ?_ | refine blk_alloc ?_ _)); refine blk_far ?_ NB247_274.out _; (with_reducible repeat (first | refine blk_drewN ?_ _ | refine blk_drew ?_ | refine blk_alloc ?_ _)); refine blk_far ?_ NB247_274.out _; (with_reducible repeat (first | refine blk_drewN ?_ _ | refine blk_drew ?_ | refine blk_alloc ?_ _)); refine blk_far ?_ NB247_274.out _; (with_reducible repeat (first | refine blk_drewN ?_ _ | refine blk_drew ?_ | refine blk_alloc ?_ _)); exact BK247.out) hb); replace BK255 := Aside0.mk (blk_below (g := gb255) (o := .cells #[.int .i64 t251, .int .i64 t252, .string t253] 23 (0, 0)) (by (with_reducible repeat (first | refine blk_drewN ?_ _ | refine blk_drew ?_ | refine blk_alloc ?_ _)); refine blk_far ?_ NB255_274.out _; (with_reducible repeat (first | refine blk_drewN ?_ _ | refine blk_drew ?_ | refine blk_alloc ?_ _)); refine blk_far ?_ NB255_274.out _; (with_reducible repeat (first | refine blk_drewN ?_ _ | refine blk_drew ?_ | refine blk_alloc ?_ _)); refine blk_far ?_ NB255_274.out _; (with_reducible repeat (first | refine blk_drewN ?_ _ | refine blk_drew ?_ | refine blk_alloc ?_ _)); exact BK255.out) hb); replace BK266 := Aside0.mk (blk_below (g := gb266) (o := .cells #[.int .i64 t262, .int .i64 t263, .string t264] 23 (0, 0)) (by (with_reducible repeat (first | refine blk_drewN ?_ _ | refine blk_drew ?_ | refine blk_alloc ?_ _)); refine blk_far ?_ NB266_274.out _; (with_reducible repeat (first | refine blk_drewN ?_ _ | refine blk_drew ?_ | refine blk_alloc ?_ _)); refine blk_far ?_ NB266_274.out _; (with_reducible repeat (first | refine blk_drewN ?_ _ | refine blk_drew ?_ | refine blk_alloc ?_ _)); refine blk_far ?_ NB266_274.out _; (with_reducible repeat (first | refine blk_drewN ?_ _ | refine blk_drew ?_ | refine blk_alloc ?_ _)); exact BK266.out) hb); replace BK274 := Aside0.mk (blk_below (g := gb274) (o := .cells #[.int .i64 t270, .int .i64 t271, .string t272] 23 (0, 0)) (by (with_reducible repeat (first | refine blk_drewN ?_ _ | refine blk_drew ?_ | refine blk_alloc ?_ _)); refine blk_put (cs := #[.int .i64 t270, .int .i64 t271, .string (⟨#[]⟩ : ByteArray)]) ?_ 2 _ rfl; (with_reducible repeat (first | refine blk_drewN ?_ _ | refine blk_drew ?_ | refine blk_alloc ?_ _)); refine blk_put (cs := #[.int .i64 t270, .int .i64 0, .string (⟨#[]⟩ : ByteArray)]) ?_ 1 _ rfl; (with_reducible repeat (first | refine blk_drewN ?_ _ | refine blk_drew ?_ | refine blk_alloc ?_ _)); refine blk_put (cs := #[.int .i64 0, .int .i64 0, .string (⟨#[]⟩ : ByteArray)]) ?_ 0 _ rfl; (with_reducible repeat (first | refine blk_drewN ?_ _ | refine blk_drew ?_ | refine blk_alloc ?_ _)); exact BK274.out) hb); replace HB := stepB HB hb; (try clear hb); (try clear hb2); (try clear hk); (try clear hi)) | ((with_reducible refine gate_callee (f := 24) rfl ?_); refine goesL_ (some 43) rfl rfl Tryd.func24 (by kernel_rfl) rfl #[.agg #[.int .i64 t275, .int .i64 t276, .string t277], .agg #[.int .i64 0, .int .i64 0, .string (⟨#[]⟩ : ByteArray)]] rfl (by (try simp only [List.map_toArray, List.map_cons, List.map_nil]); first | done | rfl | (simp only [List.length_drop, List.length_take]; rfl)) ?_; (with_reducible refine (value_Or.calls k t275 t276 t277 0 0 (⟨#[]⟩ : ByteArray) t278 t279 t280 t281 _ A11.out).mono ?_); rintro e w46 ⟨rfl, hb⟩; refine ⟨_, rfl, ?_⟩; replace BK239 := blkB BK239 hb; replace BK247 := blkB BK247 hb; replace BK255 := blkB BK255 hb; replace BK266 := blkB BK266 hb; replace BK274 := blkB BK274 hb; replace HB := stepB HB hb; (try clear hb); (try clear hb2); (try clear hk); (try clear hi)) | ((with_reducible refine gate_dst (N := 10) rfl ?_); refine box_event ?hg (N := 10) ?hd (cs := #[.int .i64 0, .int .i64 0, .string (⟨#[]⟩ : ByteArray)]) (t := 23) ?hr ?_; (case hd => rfl); (case hg => rfl); (case hr => first | (go_simp; done) | (go_simp; rfl)); intro gb282 hg w47 hbox hb; have BK282 := Aside0.mk (hbox); have GW282 := (sizeB HB hg : Aside0 (w.heap.size ≤ gb282)); have GE282 := (sizeB HB hg : Aside0 (w.heap.size ≤ gb282)); have NB239_282 := neB BK239 hg; have NB282_239 := neC BK239 hg; have NB247_282 := neB BK247 hg; have NB282_247 := neC BK247 hg; have NB255_282 := neB BK255 hg; have NB282_255 := neC BK255 hg; have NB266_282 := neB BK266 hg; have NB282_266 := neC BK266 hg; have NB274_282 := neB BK274 hg; have NB282_274 := neC BK274 hg; replace BK239 := blkB BK239 hb; replace BK247 := blkB BK247 hb; replace BK255 := blkB BK255 hb; replace BK266 := blkB BK266 hb; replace BK274 := blkB BK274 hb; replace HB := stepB HB hb; clear hb hbox hg; have hnb48 := NB282_239.out; have hnc48 := NB239_282.out; have hnb49 := NB282_247.out; have hnc49 := NB247_282.out; have hnb50 := NB282_255.out; have hnc50 := NB255_282.out; have hnb51 := NB282_266.out; have hnc51 := NB266_282.out; have hnb52 := NB282_274.out; have hnc52 := NB274_282.out; have hcz53_0 : w47.cell? ⟨gb282, 0, none⟩ = some (.int .i64 0) := bc BK282 0; have hcz53_1 : w47.cell? ⟨gb282, 1, none⟩ = some (.int .i64 0) := bc BK282 1; have hcz53_2 : w47.cell? ⟨gb282, 2, none⟩ = some (.string (⟨#[]⟩ : ByteArray)) := bc BK282 2; have hfz53_0 := blk_frozen BK282.out 0; have hfz53_1 := blk_frozen BK282.out 1; have hfz53_2 := blk_frozen BK282.out 2))
 (try simp only [Act.put, List.setIfInBounds_toArray, List.set_cons_zero, List.set_cons_succ])
 go_cut [12] (fun v12 wc => ∃ (kq : Nat) (x12_11 : Bool), v12 = .bool x12_11 ∧ Aside0 (alumlaw19_sanity.j0 kq x12_11 2 0 (⟨#[97, 98, 99, 100]⟩ : ByteArray) = some r) ∧ Aside0 (kq ≤ k) ∧ Aside0 (wc.heap[gb239]? = some (.cells #[.int .i64 2, .int .i64 0, .string (⟨#[97, 98, 99, 100]⟩ : ByteArray)] 23 (0, 0))) ∧ Aside0 (wc.heap[gb247]? = some (.cells #[.int .i64 t243, .int .i64 t244, .string t245] 23 (0, 0))) ∧ Aside0 (wc.heap[gb255]? = some (.cells #[.int .i64 t251, .int .i64 t252, .string t253] 23 (0, 0))) ∧ Aside0 (wc.heap[gb266]? = some (.cells #[.int .i64 t262, .int .i64 t263, .string t264] 23 (0, 0))) ∧ Aside0 (wc.heap[gb274]? = some (.cells #[.int .i64 t270, .int .i64 t271, .string t272] 23 (0, 0))) ∧ Aside0 (wc.heap[gb282]? = some (.cells #[.int .i64 t278, .int .i64 t279, .string t280] 23 (0, 0))) ∧ Aside0 (Below w.heap.size w wc))
 case first =>
  have H := HC12.out
  clear HC12
  by_cases c54 : (t243 == 0 && (t244 == 0 && (t245.toList == ([] : List UInt8)))) = true
  ·rw [if_pos c54] at H
   have c54b0 : (t243 == 0 && (t244 == 0 && (t245.toList == ([] : List UInt8)))) = true := c54
   (try (have c54b1 : (t243 == 0 && (t244 == 0 && (t245.toList.isEmpty))) = true := by simpa using c54))
   (try (have c54b2 : decide (t243 = 0 && (t244 == 0 && (t245.toList == ([] : List UInt8)))) = true := by simpa using c54))
   (try (have c54b3 : (t243 == 0 && (t244 == 0 && (t245.toList == ([] : List UInt8)))) = true := by simpa using c54))
   clear c54
   (first | rw [c54b0] | (simp only [i64_w, i32_w]; rw [c54b0]) | skip)
   by_cases c55 : t246 = 0
   ·rw [if_pos c55] at H
    have c55b0 : (t246 == 0) = true := beq_iff_eq.mpr c55
    have c55b1 : (t246 != 0) = false := bne_eq_false_iff_eq.mpr c55
    clear c55
    by_cases c56 : t254 = 7
    ·rw [if_pos c56] at H
     have c56b0 : (t254 == 7) = true := beq_iff_eq.mpr c56
     have c56b1 : (t254 != 7) = false := bne_eq_false_iff_eq.mpr c56
     clear c56
     replace H := Option.bind_eq_some_iff.mp H
     obtain ⟨⟨t283, t284, t285⟩, A570, H⟩ := H
     replace H : (if (t262 == t283 && (t263 == t284 && (t264.toList == t285.toList))) = true then (if t265 = 0 then ((alumref19_Bool.f false).bind fun bt286 => (if (t270 == bt286.1 && (t271 == bt286.2.1 && (t272.toList == bt286.2.2.toList))) = true then (if t273 = 0 then (if (t278 == 0 && (t279 == 0 && (t280.toList == ([] : List UInt8)))) = true then (alumlaw19_sanity.j0 k (t281 == 0) 2 0 (⟨#[97, 98, 99, 100]⟩ : ByteArray)) else (none)) else (none)) else (none))) else (none)) else (none)) = some r := H
     have A57 := Aside0.mk A570
     clear A570
     by_cases c58 : (t262 == t283 && (t263 == t284 && (t264.toList == t285.toList))) = true
     ·rw [if_pos c58] at H
      have c58b0 : (t262 == t283 && (t263 == t284 && (t264.toList == t285.toList))) = true := c58
      (try (have c58b1 : decide (t262 = t283 && (t263 == t284 && (t264.toList == t285.toList))) = true := by simpa using c58))
      (try (have c58b2 : (t262 == t283 && (t263 == t284 && (t264.toList == t285.toList))) = true := by simpa using c58))
      clear c58
      by_cases c59 : t265 = 0
      ·rw [if_pos c59] at H
       have c59b0 : (t265 == 0) = true := beq_iff_eq.mpr c59
       have c59b1 : (t265 != 0) = false := bne_eq_false_iff_eq.mpr c59
       clear c59
       replace H := Option.bind_eq_some_iff.mp H
       obtain ⟨⟨t286, t287, t288⟩, A600, H⟩ := H
       replace H : (if (t270 == t286 && (t271 == t287 && (t272.toList == t288.toList))) = true then (if t273 = 0 then (if (t278 == 0 && (t279 == 0 && (t280.toList == ([] : List UInt8)))) = true then (alumlaw19_sanity.j0 k (t281 == 0) 2 0 (⟨#[97, 98, 99, 100]⟩ : ByteArray)) else (none)) else (none)) else (none)) = some r := H
       have A60 := Aside0.mk A600
       clear A600
       by_cases c61 : (t270 == t286 && (t271 == t287 && (t272.toList == t288.toList))) = true
       ·rw [if_pos c61] at H
        have c61b0 : (t270 == t286 && (t271 == t287 && (t272.toList == t288.toList))) = true := c61
        (try (have c61b1 : decide (t270 = t286 && (t271 == t287 && (t272.toList == t288.toList))) = true := by simpa using c61))
        (try (have c61b2 : (t270 == t286 && (t271 == t287 && (t272.toList == t288.toList))) = true := by simpa using c61))
        clear c61
        by_cases c62 : t273 = 0
        ·rw [if_pos c62] at H
         have c62b0 : (t273 == 0) = true := beq_iff_eq.mpr c62
         have c62b1 : (t273 != 0) = false := bne_eq_false_iff_eq.mpr c62
         clear c62
         by_cases c63 : (t278 == 0 && (t279 == 0 && (t280.toList == ([] : List UInt8)))) = true
         ·rw [if_pos c63] at H
          have c63b0 : (t278 == 0 && (t279 == 0 && (t280.toList == ([] : List UInt8)))) = true := c63
          (try (have c63b1 : (t278 == 0 && (t279 == 0 && (t280.toList.isEmpty))) = true := by simpa using c63))
          (try (have c63b2 : decide (t278 = 0 && (t279 == 0 && (t280.toList == ([] : List UInt8)))) = true := by simpa using c63))
          (try (have c63b3 : (t278 == 0 && (t279 == 0 && (t280.toList == ([] : List UInt8)))) = true := by simpa using c63))
          clear c63
          have H' := Aside0.mk H
          clear H
          try go_wp2
          have n0_ : Aside0 ((((w47.setCell ⟨gb282, 0, none⟩ (.int .i64 t278)).setCell ⟨gb282, 1, none⟩ (.int .i64 t279)).setCell ⟨gb282, 2, none⟩ (.string t280)).heap[gb239]? = some (.cells #[.int .i64 2, .int .i64 0, .string (⟨#[97, 98, 99, 100]⟩ : ByteArray)] 23 (0, 0))) := ⟨by (with_reducible repeat (first | refine blk_drewN ?_ _ | refine blk_drew ?_ | refine blk_alloc ?_ _)); refine blk_far ?_ NB239_282.out _; (with_reducible repeat (first | refine blk_drewN ?_ _ | refine blk_drew ?_ | refine blk_alloc ?_ _)); refine blk_far ?_ NB239_282.out _; (with_reducible repeat (first | refine blk_drewN ?_ _ | refine blk_drew ?_ | refine blk_alloc ?_ _)); refine blk_far ?_ NB239_282.out _; (with_reducible repeat (first | refine blk_drewN ?_ _ | refine blk_drew ?_ | refine blk_alloc ?_ _)); exact BK239.out⟩
          have n1_ : Aside0 ((((w47.setCell ⟨gb282, 0, none⟩ (.int .i64 t278)).setCell ⟨gb282, 1, none⟩ (.int .i64 t279)).setCell ⟨gb282, 2, none⟩ (.string t280)).heap[gb247]? = some (.cells #[.int .i64 t243, .int .i64 t244, .string t245] 23 (0, 0))) := ⟨by (with_reducible repeat (first | refine blk_drewN ?_ _ | refine blk_drew ?_ | refine blk_alloc ?_ _)); refine blk_far ?_ NB247_282.out _; (with_reducible repeat (first | refine blk_drewN ?_ _ | refine blk_drew ?_ | refine blk_alloc ?_ _)); refine blk_far ?_ NB247_282.out _; (with_reducible repeat (first | refine blk_drewN ?_ _ | refine blk_drew ?_ | refine blk_alloc ?_ _)); refine blk_far ?_ NB247_282.out _; (with_reducible repeat (first | refine blk_drewN ?_ _ | refine blk_drew ?_ | refine blk_alloc ?_ _)); exact BK247.out⟩
          have n2_ : Aside0 ((((w47.setCell ⟨gb282, 0, none⟩ (.int .i64 t278)).setCell ⟨gb282, 1, none⟩ (.int .i64 t279)).setCell ⟨gb282, 2, none⟩ (.string t280)).heap[gb255]? = some (.cells #[.int .i64 t251, .int .i64 t252, .string t253] 23 (0, 0))) := ⟨by (with_reducible repeat (first | refine blk_drewN ?_ _ | refine blk_drew ?_ | refine blk_alloc ?_ _)); refine blk_far ?_ NB255_282.out _; (with_reducible repeat (first | refine blk_drewN ?_ _ | refine blk_drew ?_ | refine blk_alloc ?_ _)); refine blk_far ?_ NB255_282.out _; (with_reducible repeat (first | refine blk_drewN ?_ _ | refine blk_drew ?_ | refine blk_alloc ?_ _)); refine blk_far ?_ NB255_282.out _; (with_reducible repeat (first | refine blk_drewN ?_ _ | refine blk_drew ?_ | refine blk_alloc ?_ _)); exact BK255.out⟩
          have n3_ : Aside0 ((((w47.setCell ⟨gb282, 0, none⟩ (.int .i64 t278)).setCell ⟨gb282, 1, none⟩ (.int .i64 t279)).setCell ⟨gb282, 2, none⟩ (.string t280)).heap[gb266]? = some (.cells #[.int .i64 t262, .int .i64 t263, .string t264] 23 (0, 0))) := ⟨by (with_reducible repeat (first | refine blk_drewN ?_ _ | refine blk_drew ?_ | refine blk_alloc ?_ _)); refine blk_far ?_ NB266_282.out _; (with_reducible repeat (first | refine blk_drewN ?_ _ | refine blk_drew ?_ | refine blk_alloc ?_ _)); refine blk_far ?_ NB266_282.out _; (with_reducible repeat (first | refine blk_drewN ?_ _ | refine blk_drew ?_ | refine blk_alloc ?_ _)); refine blk_far ?_ NB266_282.out _; (with_reducible repeat (first | refine blk_drewN ?_ _ | refine blk_drew ?_ | refine blk_alloc ?_ _)); exact BK266.out⟩
          have n4_ : Aside0 ((((w47.setCell ⟨gb282, 0, none⟩ (.int .i64 t278)).setCell ⟨gb282, 1, none⟩ (.int .i64 t279)).setCell ⟨gb282, 2, none⟩ (.string t280)).heap[gb274]? = some (.cells #[.int .i64 t270, .int .i64 t271, .string t272] 23 (0, 0))) := ⟨by (with_reducible repeat (first | refine blk_drewN ?_ _ | refine blk_drew ?_ | refine blk_alloc ?_ _)); refine blk_far ?_ NB274_282.out _; (with_reducible repeat (first | refine blk_drewN ?_ _ | refine blk_drew ?_ | refine blk_alloc ?_ _)); refine blk_far ?_ NB274_282.out _; (with_reducible repeat (first | refine blk_drewN ?_ _ | refine blk_drew ?_ | refine blk_alloc ?_ _)); refine blk_far ?_ NB274_282.out _; (with_reducible repeat (first | refine blk_drewN ?_ _ | refine blk_drew ?_ | refine blk_alloc ?_ _)); exact BK274.out⟩
          have n5_ : Aside0 ((((w47.setCell ⟨gb282, 0, none⟩ (.int .i64 t278)).setCell ⟨gb282, 1, none⟩ (.int .i64 t279)).setCell ⟨gb282, 2, none⟩ (.string t280)).heap[gb282]? = some (.cells #[.int .i64 t278, .int .i64 t279, .string t280] 23 (0, 0))) := ⟨by (with_reducible repeat (first | refine blk_drewN ?_ _ | refine blk_drew ?_ | refine blk_alloc ?_ _)); refine blk_put (cs := #[.int .i64 t278, .int .i64 t279, .string (⟨#[]⟩ : ByteArray)]) ?_ 2 _ rfl; (with_reducible repeat (first | refine blk_drewN ?_ _ | refine blk_drew ?_ | refine blk_alloc ?_ _)); refine blk_put (cs := #[.int .i64 t278, .int .i64 0, .string (⟨#[]⟩ : ByteArray)]) ?_ 1 _ rfl; (with_reducible repeat (first | refine blk_drewN ?_ _ | refine blk_drew ?_ | refine blk_alloc ?_ _)); refine blk_put (cs := #[.int .i64 0, .int .i64 0, .string (⟨#[]⟩ : ByteArray)]) ?_ 0 _ rfl; (with_reducible repeat (first | refine blk_drewN ?_ _ | refine blk_drew ?_ | refine blk_alloc ?_ _)); exact BK282.out⟩
          have n6_ : Aside0 (Below w.heap.size w (((w47.setCell ⟨gb282, 0, none⟩ (.int .i64 t278)).setCell ⟨gb282, 1, none⟩ (.int .i64 t279)).setCell ⟨gb282, 2, none⟩ (.string t280))) := ⟨by repeat (first | (with_reducible first | exact HB.out | apply below_alloc | apply pw_below_drewN | apply below_drew1 | refine below_set ?_ GE239.out | refine below_set ?_ GE247.out | refine below_set ?_ GE255.out | refine below_set ?_ GE266.out | refine below_set ?_ GE274.out | refine below_set ?_ GE282.out) | exact HB.out)⟩
          (try clear BK239)
          (try clear BK247)
          (try clear BK255)
          (try clear BK266)
          (try clear BK274)
          (try clear BK282)
          (try clear HB)
          generalize (((w47.setCell ⟨gb282, 0, none⟩ (.int .i64 t278)).setCell ⟨gb282, 1, none⟩ (.int .i64 t279)).setCell ⟨gb282, 2, none⟩ (.string t280)) = w64 at n0_ n1_ n2_ n3_ n4_ n5_ n6_ ⊢
          have BK239 := n0_
          have BK247 := n1_
          have BK255 := n2_
          have BK266 := n3_
          have BK274 := n4_
          have BK282 := n5_
          have HB := n6_
          clear n0_ n1_ n2_ n3_ n4_ n5_ n6_
          replace BK239 := Aside0.mk (blk_drew BK239.out)
          replace BK247 := Aside0.mk (blk_drew BK247.out)
          replace BK255 := Aside0.mk (blk_drew BK255.out)
          replace BK266 := Aside0.mk (blk_drew BK266.out)
          replace BK274 := Aside0.mk (blk_drew BK274.out)
          replace BK282 := Aside0.mk (blk_drew BK282.out)
          replace HB := Aside0.mk (below_drew1 HB.out)
          refine start_ (n := 39) (S := fun w' => w'.cell? ⟨gb247, 0, none⟩ = some (.int .i64 t243) ∧ w'.cell? ⟨gb247, 1, none⟩ = some (.int .i64 t244) ∧ w'.cell? ⟨gb247, 2, none⟩ = some (.string t245) ∧ w'.cell? ⟨gb266, 0, none⟩ = some (.int .i64 t262) ∧ w'.cell? ⟨gb266, 1, none⟩ = some (.int .i64 t263) ∧ w'.cell? ⟨gb266, 2, none⟩ = some (.string t264) ∧ w'.cell? ⟨gb274, 0, none⟩ = some (.int .i64 t270) ∧ w'.cell? ⟨gb274, 1, none⟩ = some (.int .i64 t271) ∧ w'.cell? ⟨gb274, 2, none⟩ = some (.string t272) ∧ w'.cell? ⟨gb282, 0, none⟩ = some (.int .i64 t278) ∧ w'.cell? ⟨gb282, 1, none⟩ = some (.int .i64 t279) ∧ w'.cell? ⟨gb282, 2, none⟩ = some (.string t280)) (ds := []) #[false, false, false, false, false, false, false, false, false, false, false, false, false, false, false, false, false, false, false, false, false, false, false, false, false, false, false, false, false, false, false, false, false, false, false, false, false, false, false] (by kernel_rfl) rfl rfl ⟨bc BK247 0, bc BK247 1, bc BK247 2, bc BK266 0, bc BK266 1, bc BK266 2, bc BK274 0, bc BK274 1, bc BK274 2, bc BK282 0, bc BK282 1, bc BK282 2⟩ (fun hHeld => ?_); refine with_tabW alumlaw19_sanity.tab7 alumlaw19_sanity.bits7 (fun HT_ HW_ => ?_)
          generalize w64.drew = w65 at BK239 BK247 BK255 BK266 BK274 BK282 HB hHeld ⊢
          refine pureA 1 47 #[false, true, false, false, false, false, false, false, false, false, false, false, false, false, false, false, false, false, false, false, false, false, false, false, false, false, false, false, false, false, false, false, false, false, false, false, false, false, false] HT_ ?_
          refine takeA 0 46 #[true, true, false, false, false, false, false, false, false, false, false, false, false, false, false, false, false, false, false, false, false, false, false, false, false, false, false, false, false, false, false, false, false, false, false, false, false, false, false] HT_ HW_ hHeld ?_
          refine pureA 2 48 #[true, true, true, false, false, false, false, false, false, false, false, false, false, false, false, false, false, false, false, false, false, false, false, false, false, false, false, false, false, false, false, false, false, false, false, false, false, false, false] HT_ ?_
          refine pureA 3 49 #[true, true, true, true, false, false, false, false, false, false, false, false, false, false, false, false, false, false, false, false, false, false, false, false, false, false, false, false, false, false, false, false, false, false, false, false, false, false, false] HT_ ?_
          refine pureA 4 50 #[true, true, true, true, true, false, false, false, false, false, false, false, false, false, false, false, false, false, false, false, false, false, false, false, false, false, false, false, false, false, false, false, false, false, false, false, false, false, false] HT_ ?_
          refine pureA 5 51 #[true, true, true, true, true, true, false, false, false, false, false, false, false, false, false, false, false, false, false, false, false, false, false, false, false, false, false, false, false, false, false, false, false, false, false, false, false, false, false] HT_ ?_
          refine pureA 6 52 #[true, true, true, true, true, true, true, false, false, false, false, false, false, false, false, false, false, false, false, false, false, false, false, false, false, false, false, false, false, false, false, false, false, false, false, false, false, false, false] HT_ ?_
          refine pureA 7 53 #[true, true, true, true, true, true, true, true, false, false, false, false, false, false, false, false, false, false, false, false, false, false, false, false, false, false, false, false, false, false, false, false, false, false, false, false, false, false, false] HT_ ?_
          refine pureA 8 54 #[true, true, true, true, true, true, true, true, true, false, false, false, false, false, false, false, false, false, false, false, false, false, false, false, false, false, false, false, false, false, false, false, false, false, false, false, false, false, false] HT_ ?_
          refine pureA 9 55 #[true, true, true, true, true, true, true, true, true, true, false, false, false, false, false, false, false, false, false, false, false, false, false, false, false, false, false, false, false, false, false, false, false, false, false, false, false, false, false] HT_ ?_
          refine pureA 10 56 #[true, true, true, true, true, true, true, true, true, true, true, false, false, false, false, false, false, false, false, false, false, false, false, false, false, false, false, false, false, false, false, false, false, false, false, false, false, false, false] HT_ ?_
          refine pureA 11 57 #[true, true, true, true, true, true, true, true, true, true, true, true, false, false, false, false, false, false, false, false, false, false, false, false, false, false, false, false, false, false, false, false, false, false, false, false, false, false, false] HT_ ?_
          refine takeA 12 58 #[true, true, true, true, true, true, true, true, true, true, true, true, true, false, false, false, false, false, false, false, false, false, false, false, false, false, false, false, false, false, false, false, false, false, false, false, false, false, false] HT_ HW_ hHeld ?_
          refine one_ (i := 13) (N := some 59) #[true, true, true, true, true, true, true, true, true, true, true, true, true, true, false, false, false, false, false, false, false, false, false, false, false, false, false, false, false, false, false, false, false, false, false, false, false, false, false] rfl rfl (one_of HT_.out (by kernel_rfl)) (by decide) (fun K hK => ?_)
          refine goes_ Tryd.func15 (by kernel_rfl) rfl #[.bool true] (by rfl) rfl rfl (by (try simp only [List.map_toArray, List.map_cons, List.map_nil]); first | done | rfl | (simp only [List.length_drop, List.length_take]; rfl)) ?_
          with_reducible refine (alumref19_Bool.calls true t283 t284 t285 _ A57.out).mono ?_
          rintro e w66 ⟨rfl, hb⟩
          refine ⟨_, rfl, ?_⟩
          replace BK239 := blkB BK239 hb
          replace BK247 := blkB BK247 hb
          replace BK255 := blkB BK255 hb
          replace BK266 := blkB BK266 hb
          replace BK274 := blkB BK274 hb
          replace BK282 := blkB BK282 hb
          replace HB := stepB HB hb
          (try clear hb)
          (try clear hb2)
          (try clear hk)
          (try clear hi)
          refine hK.out _ _ ⟨bc BK247 0, bc BK247 1, bc BK247 2, bc BK266 0, bc BK266 1, bc BK266 2, bc BK274 0, bc BK274 1, bc BK274 2, bc BK282 0, bc BK282 1, bc BK282 2⟩ (fun hHeld => ?_)
          clear hK K
          refine normA 59 ?_
          refine pureA 14 60 #[true, true, true, true, true, true, true, true, true, true, true, true, true, true, true, false, false, false, false, false, false, false, false, false, false, false, false, false, false, false, false, false, false, false, false, false, false, false, false] HT_ ?_
          refine pureA 15 61 #[true, true, true, true, true, true, true, true, true, true, true, true, true, true, true, true, false, false, false, false, false, false, false, false, false, false, false, false, false, false, false, false, false, false, false, false, false, false, false] HT_ ?_
          refine pureA 16 62 #[true, true, true, true, true, true, true, true, true, true, true, true, true, true, true, true, true, false, false, false, false, false, false, false, false, false, false, false, false, false, false, false, false, false, false, false, false, false, false] HT_ ?_
          refine pureA 17 63 #[true, true, true, true, true, true, true, true, true, true, true, true, true, true, true, true, true, true, false, false, false, false, false, false, false, false, false, false, false, false, false, false, false, false, false, false, false, false, false] HT_ ?_
          refine pureA 18 64 #[true, true, true, true, true, true, true, true, true, true, true, true, true, true, true, true, true, true, true, false, false, false, false, false, false, false, false, false, false, false, false, false, false, false, false, false, false, false, false] HT_ ?_
          refine pureA 19 65 #[true, true, true, true, true, true, true, true, true, true, true, true, true, true, true, true, true, true, true, true, false, false, false, false, false, false, false, false, false, false, false, false, false, false, false, false, false, false, false] HT_ ?_
          refine pureA 20 66 #[true, true, true, true, true, true, true, true, true, true, true, true, true, true, true, true, true, true, true, true, true, false, false, false, false, false, false, false, false, false, false, false, false, false, false, false, false, false, false] HT_ ?_
          refine takeA 21 67 #[true, true, true, true, true, true, true, true, true, true, true, true, true, true, true, true, true, true, true, true, true, true, false, false, false, false, false, false, false, false, false, false, false, false, false, false, false, false, false] HT_ HW_ hHeld ?_
          refine one_ (i := 22) (N := some 68) #[true, true, true, true, true, true, true, true, true, true, true, true, true, true, true, true, true, true, true, true, true, true, true, false, false, false, false, false, false, false, false, false, false, false, false, false, false, false, false] rfl rfl (one_of HT_.out (by kernel_rfl)) (by decide) (fun K hK => ?_)
          refine goes_ Tryd.func15 (by kernel_rfl) rfl #[.bool false] (by rfl) rfl rfl (by (try simp only [List.map_toArray, List.map_cons, List.map_nil]); first | done | rfl | (simp only [List.length_drop, List.length_take]; rfl)) ?_
          with_reducible refine (alumref19_Bool.calls false t286 t287 t288 _ A60.out).mono ?_
          rintro e w67 ⟨rfl, hb⟩
          refine ⟨_, rfl, ?_⟩
          replace BK239 := blkB BK239 hb
          replace BK247 := blkB BK247 hb
          replace BK255 := blkB BK255 hb
          replace BK266 := blkB BK266 hb
          replace BK274 := blkB BK274 hb
          replace BK282 := blkB BK282 hb
          replace HB := stepB HB hb
          (try clear hb)
          (try clear hb2)
          (try clear hk)
          (try clear hi)
          refine hK.out _ _ ⟨bc BK247 0, bc BK247 1, bc BK247 2, bc BK266 0, bc BK266 1, bc BK266 2, bc BK274 0, bc BK274 1, bc BK274 2, bc BK282 0, bc BK282 1, bc BK282 2⟩ (fun hHeld => ?_)
          clear hK K
          refine normA 68 ?_
          refine pureA 23 69 #[true, true, true, true, true, true, true, true, true, true, true, true, true, true, true, true, true, true, true, true, true, true, true, true, false, false, false, false, false, false, false, false, false, false, false, false, false, false, false] HT_ ?_
          refine pureA 24 70 #[true, true, true, true, true, true, true, true, true, true, true, true, true, true, true, true, true, true, true, true, true, true, true, true, true, false, false, false, false, false, false, false, false, false, false, false, false, false, false] HT_ ?_
          refine pureA 25 71 #[true, true, true, true, true, true, true, true, true, true, true, true, true, true, true, true, true, true, true, true, true, true, true, true, true, true, false, false, false, false, false, false, false, false, false, false, false, false, false] HT_ ?_
          refine pureA 26 72 #[true, true, true, true, true, true, true, true, true, true, true, true, true, true, true, true, true, true, true, true, true, true, true, true, true, true, true, false, false, false, false, false, false, false, false, false, false, false, false] HT_ ?_
          refine pureA 27 73 #[true, true, true, true, true, true, true, true, true, true, true, true, true, true, true, true, true, true, true, true, true, true, true, true, true, true, true, true, false, false, false, false, false, false, false, false, false, false, false] HT_ ?_
          refine pureA 28 74 #[true, true, true, true, true, true, true, true, true, true, true, true, true, true, true, true, true, true, true, true, true, true, true, true, true, true, true, true, true, false, false, false, false, false, false, false, false, false, false] HT_ ?_
          refine pureA 29 75 #[true, true, true, true, true, true, true, true, true, true, true, true, true, true, true, true, true, true, true, true, true, true, true, true, true, true, true, true, true, true, false, false, false, false, false, false, false, false, false] HT_ ?_
          refine pureA 31 77 #[true, true, true, true, true, true, true, true, true, true, true, true, true, true, true, true, true, true, true, true, true, true, true, true, true, true, true, true, true, true, false, true, false, false, false, false, false, false, false] HT_ ?_
          refine takeA 30 76 #[true, true, true, true, true, true, true, true, true, true, true, true, true, true, true, true, true, true, true, true, true, true, true, true, true, true, true, true, true, true, true, true, false, false, false, false, false, false, false] HT_ HW_ hHeld ?_
          refine pureA 32 78 #[true, true, true, true, true, true, true, true, true, true, true, true, true, true, true, true, true, true, true, true, true, true, true, true, true, true, true, true, true, true, true, true, true, false, false, false, false, false, false] HT_ ?_
          refine pureA 33 79 #[true, true, true, true, true, true, true, true, true, true, true, true, true, true, true, true, true, true, true, true, true, true, true, true, true, true, true, true, true, true, true, true, true, true, false, false, false, false, false] HT_ ?_
          refine pureA 34 80 #[true, true, true, true, true, true, true, true, true, true, true, true, true, true, true, true, true, true, true, true, true, true, true, true, true, true, true, true, true, true, true, true, true, true, true, false, false, false, false] HT_ ?_
          refine pureA 35 81 #[true, true, true, true, true, true, true, true, true, true, true, true, true, true, true, true, true, true, true, true, true, true, true, true, true, true, true, true, true, true, true, true, true, true, true, true, false, false, false] HT_ ?_
          refine pureA 36 82 #[true, true, true, true, true, true, true, true, true, true, true, true, true, true, true, true, true, true, true, true, true, true, true, true, true, true, true, true, true, true, true, true, true, true, true, true, true, false, false] HT_ ?_
          refine pureA 37 83 #[true, true, true, true, true, true, true, true, true, true, true, true, true, true, true, true, true, true, true, true, true, true, true, true, true, true, true, true, true, true, true, true, true, true, true, true, true, true, false] HT_ ?_
          refine pureA 38 12 #[true, true, true, true, true, true, true, true, true, true, true, true, true, true, true, true, true, true, true, true, true, true, true, true, true, true, true, true, true, true, true, true, true, true, true, true, true, true, true] HT_ ?_
          refine done_ (done_of HT_.out (by kernel_rfl)) ?_
          try go_wp2
          go_meet
          case rel => exact ⟨_, ((t281 == 0)), (by first | rfl | (simp; done) | (simp [*]; done)), H', ⟨by first | omega | exact Nat.le_refl _⟩, ⟨by (with_reducible repeat (first | refine blk_drewN ?_ _ | refine blk_drew ?_ | refine blk_alloc ?_ _)); exact BK239.out⟩, ⟨by (with_reducible repeat (first | refine blk_drewN ?_ _ | refine blk_drew ?_ | refine blk_alloc ?_ _)); exact BK247.out⟩, ⟨by (with_reducible repeat (first | refine blk_drewN ?_ _ | refine blk_drew ?_ | refine blk_alloc ?_ _)); exact BK255.out⟩, ⟨by (with_reducible repeat (first | refine blk_drewN ?_ _ | refine blk_drew ?_ | refine blk_alloc ?_ _)); exact BK266.out⟩, ⟨by (with_reducible repeat (first | refine blk_drewN ?_ _ | refine blk_drew ?_ | refine blk_alloc ?_ _)); exact BK274.out⟩, ⟨by (with_reducible repeat (first | refine blk_drewN ?_ _ | refine blk_drew ?_ | refine blk_alloc ?_ _)); exact BK282.out⟩, ⟨by repeat (first | (with_reducible first | exact HB.out | apply below_alloc | apply pw_below_drewN | apply below_drew1 | refine below_set ?_ GE239.out | refine below_set ?_ GE247.out | refine below_set ?_ GE255.out | refine below_set ?_ GE266.out | refine below_set ?_ GE274.out | refine below_set ?_ GE282.out) | exact HB.out)⟩⟩
         ·rw [if_neg c63] at H
          exact absurd H (by simp)
        ·rw [if_neg c62] at H
         exact absurd H (by simp)
       ·rw [if_neg c61] at H
        exact absurd H (by simp)
      ·rw [if_neg c59] at H
       exact absurd H (by simp)
     ·rw [if_neg c58] at H
      exact absurd H (by simp)
    ·rw [if_neg c56] at H
     exact absurd H (by simp)
   ·rw [if_neg c55] at H
    exact absurd H (by simp)
  ·rw [if_neg c54] at H
   exact absurd H (by simp)
 case rest =>
  clear HC12
  try clear c1
  try clear c2
  try clear p2
  try clear c3
  try clear c4
  try clear c5
  try clear c6
  try clear c14
  try clear c15
  try clear c22
  try clear c24
  try clear c33
  try clear c34
  try clear c35
  try clear c40
  try clear c41
  try clear c42
  try clear c43
  try clear c48
  try clear c49
  try clear c50
  try clear c51
  try clear c52
  try clear c54
  try clear c54b0
  try clear c54b1
  try clear c54b2
  try clear c55
  try clear c55b0
  try clear c55b1
  try clear c56
  try clear c56b0
  try clear c56b1
  try clear c58
  try clear c58b0
  try clear c58b1
  try clear c58b2
  try clear c59
  try clear c59b0
  try clear c59b1
  try clear c61
  try clear c61b0
  try clear c61b1
  try clear c61b2
  try clear c62
  try clear c62b0
  try clear c62b1
  try clear c63
  try clear c63b0
  try clear c63b1
  try clear c63b2
  try clear hcz36_0
  try clear hcz36_1
  try clear hcz36_2
  try clear hcz44_0
  try clear hcz44_1
  try clear hcz44_2
  try clear hcz53_0
  try clear hcz53_1
  try clear hcz53_2
  try clear hfz36_0
  try clear hfz36_1
  try clear hfz36_2
  try clear hfz44_0
  try clear hfz44_1
  try clear hfz44_2
  try clear hfz53_0
  try clear hfz53_1
  try clear hfz53_2
  obtain ⟨kq, x12_11, rfl, HA, HJ11, BK239, BK247, BK255, BK266, BK274, BK282, HB⟩ := hcut
  cases kq with
  | zero => exact absurd HA.out (by simp [alumlaw19_sanity.j0])
  | succ kj11 =>
   have H := HA.out
   clear HA
   simp only [alumlaw19_sanity.j0] at H
   replace H := Option.bind_eq_some_iff.mp H
   obtain ⟨⟨t289, t290, t291⟩, A680, H⟩ := H
   replace H : ((value_Key.f kj11 (([(⟨t289, t290, t291⟩ : S23), (⟨2, 0, (⟨#[97, 98, 99, 100]⟩ : ByteArray)⟩ : S23)] : List (S23))) 9).bind fun t295 => ((alumref19_SameInts.f kj11 t295 (([1, 0, 2, 418262508548, 0] : List Int))).bind fun t301 => (if t301 = true then ((alumlaw19_num.f (-5)).bind fun bt302 => ((value_Compare.f kj11 0 0 (⟨#[]⟩ : ByteArray) bt302.1 bt302.2.1 bt302.2.2).bind fun t305 => (if t305 = (-1) then ((value_Compare.f kj11 2 0 (⟨#[98]⟩ : ByteArray) 2 0 (⟨#[97, 98]⟩ : ByteArray)).bind fun t306 => (alumlaw19_sanity.j1 kj11 x12_11 (t306 == 1))) else (none)))) else (none)))) = some r := H
   have A68 := Aside0.mk A680
   clear A680
   obtain ⟨y292, hy292⟩ : ∃ y_ : List (S23), y_ = (([(⟨t289, t290, t291⟩ : S23), (⟨2, 0, (⟨#[97, 98, 99, 100]⟩ : ByteArray)⟩ : S23)] : List (S23))) := ⟨_, rfl⟩
   replace H : ((value_Key.f kj11 y292 9).bind fun t295 => ((alumref19_SameInts.f kj11 t295 (([1, 0, 2, 418262508548, 0] : List Int))).bind fun t301 => (if t301 = true then ((alumlaw19_num.f (-5)).bind fun bt302 => ((value_Compare.f kj11 0 0 (⟨#[]⟩ : ByteArray) bt302.1 bt302.2.1 bt302.2.2).bind fun t305 => (if t305 = (-1) then ((value_Compare.f kj11 2 0 (⟨#[98]⟩ : ByteArray) 2 0 (⟨#[97, 98]⟩ : ByteArray)).bind fun t306 => (alumlaw19_sanity.j1 kj11 x12_11 (t306 == 1))) else (none)))) else (none)))) = some r := by first | (rw [hy292]; with_reducible exact H) | (have H2_ := (Option.bind_some _ _).symm.trans H; rw [hy292]; with_reducible exact H2_) | (have H2_ := (Option.bind_some _ _).symm.trans H; with_reducible exact H2_) | with_reducible exact H | (rw [hy292]; exact H) | exact H
   have Ny292 := Aside0.mk hy292
   clear hy292
   replace H := Option.bind_eq_some_iff.mp H
   obtain ⟨t295, A690, H⟩ := H
   replace H : ((alumref19_SameInts.f kj11 t295 (([1, 0, 2, 418262508548, 0] : List Int))).bind fun t301 => (if t301 = true then ((alumlaw19_num.f (-5)).bind fun bt302 => ((value_Compare.f kj11 0 0 (⟨#[]⟩ : ByteArray) bt302.1 bt302.2.1 bt302.2.2).bind fun t305 => (if t305 = (-1) then ((value_Compare.f kj11 2 0 (⟨#[98]⟩ : ByteArray) 2 0 (⟨#[97, 98]⟩ : ByteArray)).bind fun t306 => (alumlaw19_sanity.j1 kj11 x12_11 (t306 == 1))) else (none)))) else (none))) = some r := H
   have A69 := Aside0.mk A690
   clear A690
   have HC70 := Aside0.mk H
   clear H
   try go_wp2
   replace BK239 := Aside0.mk (blk_drew BK239.out)
   replace BK247 := Aside0.mk (blk_drew BK247.out)
   replace BK255 := Aside0.mk (blk_drew BK255.out)
   replace BK266 := Aside0.mk (blk_drew BK266.out)
   replace BK274 := Aside0.mk (blk_drew BK274.out)
   replace BK282 := Aside0.mk (blk_drew BK282.out)
   replace HB := Aside0.mk (below_drew1 HB.out)
   refine start_ (n := 5) (S := fun w' => w'.cell? ⟨gb239, 0, none⟩ = some (.int .i64 2) ∧ w'.cell? ⟨gb239, 1, none⟩ = some (.int .i64 0) ∧ w'.cell? ⟨gb239, 2, none⟩ = some (.string (⟨#[97, 98, 99, 100]⟩ : ByteArray))) (ds := []) #[false, false, false, false, false] (by kernel_rfl) rfl rfl ⟨bc BK239 0, bc BK239 1, bc BK239 2⟩ (fun hHeld => ?_)
   generalize wc.drew = w71 at BK239 BK247 BK255 BK266 BK274 BK282 HB hHeld ⊢
   refine take_ (i := 1) (N := some 85) (v := ?_) (a' := ?_) #[false, true, false, false, false] rfl rfl (by kernel_rfl) (fun _ _ _ h => h) (Or.inl ⟨by rfl, ?_⟩) hHeld ?_ ?_
   rotate_left
   ·rintro w' ⟨s0, s1, s2⟩
    go_simp
    with_reducible rfl
   rotate_left
   ·simp only [Act.put, List.setIfInBounds_toArray, List.set_cons_zero, List.set_cons_succ, i64_w, i32_w]
    rfl
   refine one_ (i := 0) (N := some 84) #[true, true, false, false, false] rfl rfl (by kernel_rfl) (by decide) (fun K hK => ?_)
   refine goes_ Tryd.func42 (by kernel_rfl) rfl #[.int .i64 (-549755813888)] (by rfl) rfl rfl (by (try simp only [List.map_toArray, List.map_cons, List.map_nil]); first | done | rfl | (simp only [List.length_drop, List.length_take]; rfl)) ?_
   with_reducible refine (alumlaw19_num.calls (-549755813888) t289 t290 t291 _ A68.out).mono ?_
   rintro e w72 ⟨rfl, hb⟩
   refine ⟨_, rfl, ?_⟩
   replace BK239 := blkB BK239 hb
   replace BK247 := blkB BK247 hb
   replace BK255 := blkB BK255 hb
   replace BK266 := blkB BK266 hb
   replace BK274 := blkB BK274 hb
   replace BK282 := blkB BK282 hb
   replace HB := stepB HB hb
   (try clear hb)
   (try clear hb2)
   (try clear hk)
   (try clear hi)
   refine hK.out _ _ ⟨bc BK239 0, bc BK239 1, bc BK239 2⟩ (fun hHeld => ?_)
   clear hK K
   refine normA 84 ?_
   refine one_ (i := 2) (N := some 86) #[true, true, true, false, false] rfl rfl (by kernel_rfl) (by decide) (fun K hK => ?_)
   refine Kd.R_lit_step k23 _ 23 ?hg (N := 86) ?hd (xs := ([(⟨t289, t290, t291⟩ : S23), (⟨2, 0, (⟨#[97, 98, 99, 100]⟩ : ByteArray)⟩ : S23)] : List (S23))) (inner := [.int .i64 t289, .int .i64 t290, .string t291, .int .i64 2, .int .i64 0, .string (⟨#[97, 98, 99, 100]⟩ : ByteArray)]) (ok := fun _ => True) (okp := fun _ => True) ?hr ?hp (fun _ hk => hk) trivial (Below.refl _ _) (Nat.le_refl _) (by simp) ?_; (case hd => rfl); (case hg => rfl); (case hr => first | (go_simp; done) | (go_simp; rfl)); (case hp => exact (Reps.c3 (show Kd.M k23 _ _ _ (⟨t289, t290, t291⟩ : S23) [.int .i64 t289, .int .i64 t290, .string t291] from (k23_mkM _ _ _ (⟨t289, t290, t291⟩ : S23) )) (Reps.c3 (show Kd.M k23 _ _ _ (⟨2, 0, (⟨#[97, 98, 99, 100]⟩ : ByteArray)⟩ : S23) [.int .i64 2, .int .i64 0, .string (⟨#[97, 98, 99, 100]⟩ : ByteArray)] from (k23_mkM _ _ _ (⟨2, 0, (⟨#[97, 98, 99, 100]⟩ : ByteArray)⟩ : S23) )) (Reps.none _ _))))
   intro v293 w73 ho74 hb hg_ hnew_
   clear hg_ hnew_
   (first | rw [← Ny292.out] at ho74 | (simp only [Int.reduceToNat] at ho74; rw [← Ny292.out] at ho74))
   have HO294 := Aside0.mk (Kd.R_lower (Kd.R_newB (Kd.R_newB (Kd.R_newB (Kd.R_newB (Kd.R_newB (Kd.R_newB ho74 (g := gb239) (o := .cells #[.int .i64 2, .int .i64 0, .string (⟨#[97, 98, 99, 100]⟩ : ByteArray)] 23 (0, 0)) (by (with_reducible repeat (first | refine blk_drewN ?_ _ | refine blk_drew ?_ | refine blk_alloc ?_ _)); exact BK239.out)) (g := gb247) (o := .cells #[.int .i64 t243, .int .i64 t244, .string t245] 23 (0, 0)) (by (with_reducible repeat (first | refine blk_drewN ?_ _ | refine blk_drew ?_ | refine blk_alloc ?_ _)); exact BK247.out)) (g := gb255) (o := .cells #[.int .i64 t251, .int .i64 t252, .string t253] 23 (0, 0)) (by (with_reducible repeat (first | refine blk_drewN ?_ _ | refine blk_drew ?_ | refine blk_alloc ?_ _)); exact BK255.out)) (g := gb266) (o := .cells #[.int .i64 t262, .int .i64 t263, .string t264] 23 (0, 0)) (by (with_reducible repeat (first | refine blk_drewN ?_ _ | refine blk_drew ?_ | refine blk_alloc ?_ _)); exact BK266.out)) (g := gb274) (o := .cells #[.int .i64 t270, .int .i64 t271, .string t272] 23 (0, 0)) (by (with_reducible repeat (first | refine blk_drewN ?_ _ | refine blk_drew ?_ | refine blk_alloc ?_ _)); exact BK274.out)) (g := gb282) (o := .cells #[.int .i64 t278, .int .i64 t279, .string t280] 23 (0, 0)) (by (with_reducible repeat (first | refine blk_drewN ?_ _ | refine blk_drew ?_ | refine blk_alloc ?_ _)); exact BK282.out)) (below_size (by repeat (first | (with_reducible first | exact HB.out | apply below_alloc | apply pw_below_drewN | apply below_drew1 | refine below_set ?_ GE239.out | refine below_set ?_ GE247.out | refine below_set ?_ GE255.out | refine below_set ?_ GE266.out | refine below_set ?_ GE274.out | refine below_set ?_ GE282.out) | exact HB.out))))
   replace BK239 := blkB BK239 hb
   replace BK247 := blkB BK247 hb
   replace BK255 := blkB BK255 hb
   replace BK266 := blkB BK266 hb
   replace BK274 := blkB BK274 hb
   replace BK282 := blkB BK282 hb
   replace HB := stepB HB hb
   clear hb ho74
   obtain ⟨Ao75, co75, eo75⟩ := Kd.R_slice HO294.out
   (first | subst eo75 | (injection eo75 with f1_ f2_ f3_; have f4_ := f1_.symm; have f5_ := f3_.symm; clear f1_ f2_ f3_; subst f4_; subst f5_))
   refine hK.out _ _ ⟨bc BK239 0, bc BK239 1, bc BK239 2⟩ (fun hHeld => ?_)
   clear hK K
   refine normA 86 ?_
   refine one_ (i := 3) (N := some 87) #[true, true, true, true, false] rfl rfl (by kernel_rfl) (by decide) (fun K hK => ?_)
   refine goes_ Tryd.func35 (by kernel_rfl) rfl #[.slice Ao75 y292.length co75, .int .i64 9] (by rfl) rfl rfl (by (try simp only [List.map_toArray, List.map_cons, List.map_nil]); first | done | rfl | (simp only [List.length_drop, List.length_take]; rfl)) ?_
   with_reducible refine (value_Key.calls kj11 _ _ y292 9 t295 _ ?side1 ?side2 A69.out).mono ?_
   (case side1 => repeat (first | exact (Kd.R_reads' HO294.out).2.2 | (with_reducible refine Kd.C_alloc ?_ _) | (with_reducible refine Kd.C_drewN ?_ _) | (with_reducible refine Kd.C_drew ?_)))
   (case side2 => exact (Kd.R_reads' HO294.out).2.1)
   rintro e w76 ⟨v296, rfl, ho0, hb⟩
   refine ⟨_, rfl, ?_⟩
   have HO297 := Aside0.mk (Kd.R_lower ho0 (below_size (by repeat (first | (with_reducible first | exact HB.out | apply below_alloc | apply pw_below_drewN | apply below_drew1 | refine below_set ?_ GE239.out | refine below_set ?_ GE247.out | refine below_set ?_ GE255.out | refine below_set ?_ GE266.out | refine below_set ?_ GE274.out | refine below_set ?_ GE282.out) | exact HB.out))))
   replace HO294 := Aside0.mk (Kd.R_below (by (with_reducible repeat (first | apply Kd.R_alloc | apply Kd.R_drewN | apply Kd.R_drew)); exact HO294.out) hb)
   replace BK239 := blkB BK239 hb
   replace BK247 := blkB BK247 hb
   replace BK255 := blkB BK255 hb
   replace BK266 := blkB BK266 hb
   replace BK274 := blkB BK274 hb
   replace BK282 := blkB BK282 hb
   replace HB := stepB HB hb
   (try clear hb)
   (try clear hb2)
   (try clear hk)
   (try clear hi)
   (try clear ho0)
   refine hK.out _ _ ⟨bc BK239 0, bc BK239 1, bc BK239 2⟩ (fun hHeld => ?_)
   clear hK K
   refine normA 87 ?_
   refine pure_ (i := 4) (N := some 13) (v := ?_) (a' := ?_) #[true, true, true, true, true] rfl rfl (by kernel_rfl) (fun _ _ _ h => h) (Or.inl ⟨by rfl, ?_⟩) ?_ ?_
   rotate_left
   ·intro w'
    go_simp
    with_reducible rfl
   rotate_left
   ·simp only [Act.put, List.setIfInBounds_toArray, List.set_cons_zero, List.set_cons_succ, i64_w, i32_w]
    rfl
   refine done_ (by kernel_rfl) ?_
   go_upto_region 9 with (fail)
   go_cut [14] (fun v14 wc => ∃ (kq : Nat) (x14_69 : Bool), v14 = .bool x14_69 ∧ Aside0 (alumlaw19_sanity.j1 kq x12_11 x14_69 = some r) ∧ Aside0 (kq ≤ kj11) ∧ Aside0 (wc.heap[gb239]? = some (.cells #[.int .i64 2, .int .i64 0, .string (⟨#[97, 98, 99, 100]⟩ : ByteArray)] 23 (0, 0))) ∧ Aside0 (wc.heap[gb247]? = some (.cells #[.int .i64 t243, .int .i64 t244, .string t245] 23 (0, 0))) ∧ Aside0 (wc.heap[gb255]? = some (.cells #[.int .i64 t251, .int .i64 t252, .string t253] 23 (0, 0))) ∧ Aside0 (wc.heap[gb266]? = some (.cells #[.int .i64 t262, .int .i64 t263, .string t264] 23 (0, 0))) ∧ Aside0 (wc.heap[gb274]? = some (.cells #[.int .i64 t270, .int .i64 t271, .string t272] 23 (0, 0))) ∧ Aside0 (wc.heap[gb282]? = some (.cells #[.int .i64 t278, .int .i64 t279, .string t280] 23 (0, 0))) ∧ Aside0 (Below w.heap.size w wc))
   case first =>
    have H := HC70.out
    clear HC70
    obtain ⟨y298, hy298⟩ : ∃ y_ : List Int, y_ = (([1, 0, 2, 418262508548, 0] : List Int)) := ⟨_, rfl⟩
    replace H : ((alumref19_SameInts.f kj11 t295 y298).bind fun t301 => (if t301 = true then ((alumlaw19_num.f (-5)).bind fun bt302 => ((value_Compare.f kj11 0 0 (⟨#[]⟩ : ByteArray) bt302.1 bt302.2.1 bt302.2.2).bind fun t305 => (if t305 = (-1) then ((value_Compare.f kj11 2 0 (⟨#[98]⟩ : ByteArray) 2 0 (⟨#[97, 98]⟩ : ByteArray)).bind fun t306 => (alumlaw19_sanity.j1 kj11 x12_11 (t306 == 1))) else (none)))) else (none))) = some r := by first | (rw [hy298]; with_reducible exact H) | (have H2_ := (Option.bind_some _ _).symm.trans H; rw [hy298]; with_reducible exact H2_) | (have H2_ := (Option.bind_some _ _).symm.trans H; with_reducible exact H2_) | with_reducible exact H | (rw [hy298]; exact H) | exact H
    have Ny298 := Aside0.mk hy298
    clear hy298
    replace H := Option.bind_eq_some_iff.mp H
    obtain ⟨t301, A770, H⟩ := H
    replace H : (if t301 = true then ((alumlaw19_num.f (-5)).bind fun bt302 => ((value_Compare.f kj11 0 0 (⟨#[]⟩ : ByteArray) bt302.1 bt302.2.1 bt302.2.2).bind fun t305 => (if t305 = (-1) then ((value_Compare.f kj11 2 0 (⟨#[98]⟩ : ByteArray) 2 0 (⟨#[97, 98]⟩ : ByteArray)).bind fun t306 => (alumlaw19_sanity.j1 kj11 x12_11 (t306 == 1))) else (none)))) else (none)) = some r := H
    have A77 := Aside0.mk A770
    clear A770
    by_cases c78 : t301 = true
    ·subst c78
     have H1 : ((alumlaw19_num.f (-5)).bind fun bt302 => ((value_Compare.f kj11 0 0 (⟨#[]⟩ : ByteArray) bt302.1 bt302.2.1 bt302.2.2).bind fun t305 => (if t305 = (-1) then ((value_Compare.f kj11 2 0 (⟨#[98]⟩ : ByteArray) 2 0 (⟨#[97, 98]⟩ : ByteArray)).bind fun t306 => (alumlaw19_sanity.j1 kj11 x12_11 (t306 == 1))) else (none)))) = some r := by rw [if_pos rfl] at H; exact H
     clear H
     have H := H1
     clear H1
     replace H := Option.bind_eq_some_iff.mp H
     obtain ⟨⟨t302, t303, t304⟩, A790, H⟩ := H
     replace H : ((value_Compare.f kj11 0 0 (⟨#[]⟩ : ByteArray) t302 t303 t304).bind fun t305 => (if t305 = (-1) then ((value_Compare.f kj11 2 0 (⟨#[98]⟩ : ByteArray) 2 0 (⟨#[97, 98]⟩ : ByteArray)).bind fun t306 => (alumlaw19_sanity.j1 kj11 x12_11 (t306 == 1))) else (none))) = some r := H
     have A79 := Aside0.mk A790
     clear A790
     replace H := Option.bind_eq_some_iff.mp H
     obtain ⟨t305, A800, H⟩ := H
     replace H : (if t305 = (-1) then ((value_Compare.f kj11 2 0 (⟨#[98]⟩ : ByteArray) 2 0 (⟨#[97, 98]⟩ : ByteArray)).bind fun t306 => (alumlaw19_sanity.j1 kj11 x12_11 (t306 == 1))) else (none)) = some r := H
     have A80 := Aside0.mk A800
     clear A800
     by_cases c81 : t305 = (-1)
     ·rw [if_pos c81] at H
      have c81b0 : (t305 == (-1)) = true := beq_iff_eq.mpr c81
      have c81b1 : (t305 != (-1)) = false := bne_eq_false_iff_eq.mpr c81
      clear c81
      (first | rw [c81b0] | (simp only [i64_w, i32_w]; rw [c81b0]) | skip)
      replace H := Option.bind_eq_some_iff.mp H
      obtain ⟨t306, A820, H⟩ := H
      replace H : (alumlaw19_sanity.j1 kj11 x12_11 (t306 == 1)) = some r := H
      have A82 := Aside0.mk A820
      clear A820
      have H' := Aside0.mk H
      clear H
      go_wp2_with (first | ((with_reducible refine gate_dst (N := 89) rfl ?_); refine Kd.R_lit (Kd.int .i64) _ 3 ?hg (N := 89) ?hd (xs := ([1, 0, 2, 418262508548, 0] : List Int)) (inner := [.int .i64 1, .int .i64 0, .int .i64 2, .int .i64 418262508548, .int .i64 0]) (ok := fun _ => True) (okp := fun _ => True) ?hr ?hp (fun _ hk => hk) trivial (Below.refl _ _) (Nat.le_refl _) (by simp) ?_; (case hd => rfl); (case hg => rfl); (case hr => first | (go_simp; done) | (go_simp; rfl)); (case hp => exact (Reps.one (show Kd.M (Kd.int .i64) _ _ _ 1 [.int .i64 1] from rfl) (Reps.one (show Kd.M (Kd.int .i64) _ _ _ 0 [.int .i64 0] from rfl) (Reps.one (show Kd.M (Kd.int .i64) _ _ _ 2 [.int .i64 2] from rfl) (Reps.one (show Kd.M (Kd.int .i64) _ _ _ 418262508548 [.int .i64 418262508548] from rfl) (Reps.one (show Kd.M (Kd.int .i64) _ _ _ 0 [.int .i64 0] from rfl) (Reps.none _ _))))))); intro v299 w83 ho84 hb hg_ hnew_; clear hg_ hnew_; (first | rw [← Ny298.out] at ho84 | (simp only [Int.reduceToNat] at ho84; rw [← Ny298.out] at ho84)); have HO300 := Aside0.mk (Kd.R_lower (Kd.R_new' ho84 (Kd.R_lt (by (with_reducible repeat (first | apply Kd.R_alloc | apply Kd.R_drewN | apply Kd.R_drew)); exact HO297.out))) (below_size (by repeat (first | (with_reducible first | exact HB.out | apply below_alloc | apply pw_below_drewN | apply below_drew1 | refine below_set ?_ GE239.out | refine below_set ?_ GE247.out | refine below_set ?_ GE255.out | refine below_set ?_ GE266.out | refine below_set ?_ GE274.out | refine below_set ?_ GE282.out) | exact HB.out)))); replace HO294 := Aside0.mk (Kd.R_below (by (with_reducible repeat (first | apply Kd.R_alloc | apply Kd.R_drewN | apply Kd.R_drew)); exact HO294.out) hb); replace HO297 := Aside0.mk (Kd.R_elder' (by (with_reducible repeat (first | apply Kd.R_alloc | apply Kd.R_drewN | apply Kd.R_drew)); exact HO297.out) (Kd.R_base ho84) hb); replace BK239 := blkB BK239 hb; replace BK247 := blkB BK247 hb; replace BK255 := blkB BK255 hb; replace BK266 := blkB BK266 hb; replace BK274 := blkB BK274 hb; replace BK282 := blkB BK282 hb; replace HB := stepB HB hb; clear hb ho84; obtain ⟨Ao85, co85, eo85⟩ := Kd.R_slice HO297.out; subst eo85; obtain ⟨Ao86, co86, eo86⟩ := Kd.R_slice HO300.out; subst eo86) | ((with_reducible refine gate_callee (f := 34) rfl ?_); refine goesL_ (some 90) rfl rfl Tryd.func34 (by kernel_rfl) rfl #[.slice Ao85 t295.length co85, .slice Ao86 y298.length co86] rfl (by (try simp only [List.map_toArray, List.map_cons, List.map_nil]); first | done | rfl | (simp only [List.length_drop, List.length_take]; rfl)) ?_; (with_reducible refine (alumref19_SameInts.calls kj11 _ _ t295 _ _ y298 true _ ?side1 ?side2 ?side3 ?side4 A77.out).mono ?_); (case side1 => repeat (first | exact (Kd.R_reads' HO297.out).2.2 | (with_reducible refine Kd.C_alloc ?_ _) | (with_reducible refine Kd.C_drewN ?_ _) | (with_reducible refine Kd.C_drew ?_))); (case side2 => exact (Kd.R_reads' HO297.out).2.1); (case side3 => repeat (first | exact (Kd.R_reads' HO300.out).2.2 | (with_reducible refine Kd.C_alloc ?_ _) | (with_reducible refine Kd.C_drewN ?_ _) | (with_reducible refine Kd.C_drew ?_))); (case side4 => exact (Kd.R_reads' HO300.out).2.1); rintro e w' ⟨rfl, ⟨nd, rfl⟩⟩; refine ⟨_, rfl, ?_⟩) | (go_at_call 42; (with_reducible refine (alumlaw19_num.calls (-5) t302 t303 t304 _ A79.out).mono ?_); rintro e w87 ⟨rfl, hb⟩; replace HO294 := Aside0.mk (Kd.R_below (by (with_reducible repeat (first | apply Kd.R_alloc | apply Kd.R_drewN | apply Kd.R_drew)); exact HO294.out) hb); replace HO297 := Aside0.mk (Kd.R_below (by (with_reducible repeat (first | apply Kd.R_alloc | apply Kd.R_drewN | apply Kd.R_drew)); exact HO297.out) hb); replace HO300 := Aside0.mk (Kd.R_below (by (with_reducible repeat (first | apply Kd.R_alloc | apply Kd.R_drewN | apply Kd.R_drew)); exact HO300.out) hb); replace BK239 := blkB BK239 hb; replace BK247 := blkB BK247 hb; replace BK255 := blkB BK255 hb; replace BK266 := blkB BK266 hb; replace BK274 := blkB BK274 hb; replace BK282 := blkB BK282 hb; replace HB := stepB HB hb; (try clear hb); (try clear hb2); (try clear hk); (try clear hi)) | (go_at_call 13; (with_reducible refine (value_Compare.calls kj11 0 0 (⟨#[]⟩ : ByteArray) t302 t303 t304 t305 _ A80.out).mono ?_); rintro e w88 ⟨rfl, hb⟩; replace HO294 := Aside0.mk (Kd.R_below (by (with_reducible repeat (first | apply Kd.R_alloc | apply Kd.R_drewN | apply Kd.R_drew)); exact HO294.out) hb); replace HO297 := Aside0.mk (Kd.R_below (by (with_reducible repeat (first | apply Kd.R_alloc | apply Kd.R_drewN | apply Kd.R_drew)); exact HO297.out) hb); replace HO300 := Aside0.mk (Kd.R_below (by (with_reducible repeat (first | apply Kd.R_alloc | apply Kd.R_drewN | apply Kd.R_drew)); exact HO300.out) hb); replace BK239 := blkB BK239 hb; replace BK247 := blkB BK247 hb; replace BK255 := blkB BK255 hb; replace BK266 := blkB BK266 hb; replace BK274 := blkB BK274 hb; replace BK282 := blkB BK282 hb; replace HB := stepB HB hb; (try clear hb); (try clear hb2); (try clear hk); (try clear hi)) | (go_at_call 13; (with_reducible refine (value_Compare.calls kj11 2 0 (⟨#[98]⟩ : ByteArray) 2 0 (⟨#[97, 98]⟩ : ByteArray) t306 _ A82.out).mono ?_); rintro e w89 ⟨rfl, hb⟩; replace HO294 := Aside0.mk (Kd.R_below (by (with_reducible repeat (first | apply Kd.R_alloc | apply Kd.R_drewN | apply Kd.R_drew)); exact HO294.out) hb); replace HO297 := Aside0.mk (Kd.R_below (by (with_reducible repeat (first | apply Kd.R_alloc | apply Kd.R_drewN | apply Kd.R_drew)); exact HO297.out) hb); replace HO300 := Aside0.mk (Kd.R_below (by (with_reducible repeat (first | apply Kd.R_alloc | apply Kd.R_drewN | apply Kd.R_drew)); exact HO300.out) hb); replace BK239 := blkB BK239 hb; replace BK247 := blkB BK247 hb; replace BK255 := blkB BK255 hb; replace BK266 := blkB BK266 hb; replace BK274 := blkB BK274 hb; replace BK282 := blkB BK282 hb; replace HB := stepB HB hb; (try clear hb); (try clear hb2); (try clear hk); (try clear hi)))
      go_meet
      case rel => exact ⟨_, ((t306 == 1)), (by first | rfl | (simp; done) | (simp [*]; done)), H', ⟨by have := HJ11.out; first | omega | exact Nat.le_refl _⟩, ⟨by (with_reducible repeat (first | refine blk_drewN ?_ _ | refine blk_drew ?_ | refine blk_alloc ?_ _)); exact BK239.out⟩, ⟨by (with_reducible repeat (first | refine blk_drewN ?_ _ | refine blk_drew ?_ | refine blk_alloc ?_ _)); exact BK247.out⟩, ⟨by (with_reducible repeat (first | refine blk_drewN ?_ _ | refine blk_drew ?_ | refine blk_alloc ?_ _)); exact BK255.out⟩, ⟨by (with_reducible repeat (first | refine blk_drewN ?_ _ | refine blk_drew ?_ | refine blk_alloc ?_ _)); exact BK266.out⟩, ⟨by (with_reducible repeat (first | refine blk_drewN ?_ _ | refine blk_drew ?_ | refine blk_alloc ?_ _)); exact BK274.out⟩, ⟨by (with_reducible repeat (first | refine blk_drewN ?_ _ | refine blk_drew ?_ | refine blk_alloc ?_ _)); exact BK282.out⟩, ⟨by repeat (first | (with_reducible first | exact HB.out | apply below_alloc | apply pw_below_drewN | apply below_drew1 | refine below_set ?_ GE239.out | refine below_set ?_ GE247.out | refine below_set ?_ GE255.out | refine below_set ?_ GE266.out | refine below_set ?_ GE274.out | refine below_set ?_ GE282.out) | exact HB.out)⟩⟩
     ·rw [if_neg c81] at H
      exact absurd H (by simp)
    ·replace c78 := Bool.eq_false_iff.mpr c78
     subst c78
     have H1 : (none) = some r := by rw [if_neg (show ¬ (false = true) by decide)] at H; exact H
     clear H
     have H := H1
     clear H1
     exact absurd H (by simp)
   case rest =>
    clear HC70
    try clear c1
    try clear c2
    try clear p2
    try clear c3
    try clear c4
    try clear c5
    try clear c6
    try clear c7
    try clear c8
    try clear c14
    try clear c15
    try clear c22
    try clear c24
    try clear c33
    try clear c34
    try clear c35
    try clear c40
    try clear c41
    try clear c42
    try clear c43
    try clear c48
    try clear c49
    try clear c50
    try clear c51
    try clear c52
    try clear c54
    try clear c54b0
    try clear c54b1
    try clear c54b2
    try clear c55
    try clear c55b0
    try clear c55b1
    try clear c56
    try clear c56b0
    try clear c56b1
    try clear c58
    try clear c58b0
    try clear c58b1
    try clear c58b2
    try clear c59
    try clear c59b0
    try clear c59b1
    try clear c61
    try clear c61b0
    try clear c61b1
    try clear c61b2
    try clear c62
    try clear c62b0
    try clear c62b1
    try clear c63
    try clear c63b0
    try clear c63b1
    try clear c63b2
    try clear c78
    try clear c81
    try clear c81b0
    try clear c81b1
    try clear hcz36_0
    try clear hcz36_1
    try clear hcz36_2
    try clear hcz44_0
    try clear hcz44_1
    try clear hcz44_2
    try clear hcz53_0
    try clear hcz53_1
    try clear hcz53_2
    try clear hfz36_0
    try clear hfz36_1
    try clear hfz36_2
    try clear hfz44_0
    try clear hfz44_1
    try clear hfz44_2
    try clear hfz53_0
    try clear hfz53_1
    try clear hfz53_2
    try clear p2
    obtain ⟨kq, x14_69, rfl, HA, HJ69, BK239, BK247, BK255, BK266, BK274, BK282, HB⟩ := hcut
    cases kq with
    | zero => exact absurd HA.out (by simp [alumlaw19_sanity.j1])
    | succ kj69 =>
     have H := HA.out
     clear HA
     simp only [alumlaw19_sanity.j1] at H
     by_cases c90 : x12_11 = true
     ·subst c90
      have H1 : (if x14_69 = true then ((value_Print.f kj69 2 0 (⟨#[97, 39, 10]⟩ : ByteArray)).bind fun t307 => (if t307.toList = ([39, 97, 92, 50, 55, 92, 48, 97, 39] : List UInt8) then ((alumlaw19_num.f 549755813887).bind fun bt308 => ((value_Right.f bt308.1 bt308.2.1 bt308.2.2).bind fun t311 => (if t311 = true then ((alumlaw19_num.f 549755813888).bind fun bt312 => ((value_Right.f bt312.1 bt312.2.1 bt312.2.2).bind fun t315 => (some (!t315)))) else (none)))) else (none))) else (none)) = some r := by rw [if_pos rfl] at H; exact H
      clear H
      have H := H1
      clear H1
      by_cases c91 : x14_69 = true
      ·subst c91
       have H1 : ((value_Print.f kj69 2 0 (⟨#[97, 39, 10]⟩ : ByteArray)).bind fun t307 => (if t307.toList = ([39, 97, 92, 50, 55, 92, 48, 97, 39] : List UInt8) then ((alumlaw19_num.f 549755813887).bind fun bt308 => ((value_Right.f bt308.1 bt308.2.1 bt308.2.2).bind fun t311 => (if t311 = true then ((alumlaw19_num.f 549755813888).bind fun bt312 => ((value_Right.f bt312.1 bt312.2.1 bt312.2.2).bind fun t315 => (some (!t315)))) else (none)))) else (none))) = some r := by rw [if_pos rfl] at H; exact H
       clear H
       have H := H1
       clear H1
       replace H := Option.bind_eq_some_iff.mp H
       obtain ⟨t307, A920, H⟩ := H
       replace H : (if t307.toList = ([39, 97, 92, 50, 55, 92, 48, 97, 39] : List UInt8) then ((alumlaw19_num.f 549755813887).bind fun bt308 => ((value_Right.f bt308.1 bt308.2.1 bt308.2.2).bind fun t311 => (if t311 = true then ((alumlaw19_num.f 549755813888).bind fun bt312 => ((value_Right.f bt312.1 bt312.2.1 bt312.2.2).bind fun t315 => (some (!t315)))) else (none)))) else (none)) = some r := H
       have A92 := Aside0.mk A920
       clear A920
       by_cases c93 : t307.toList = ([39, 97, 92, 50, 55, 92, 48, 97, 39] : List UInt8)
       ·rw [if_pos c93] at H
        have c93b0 : (t307.toList == ([39, 97, 92, 50, 55, 92, 48, 97, 39] : List UInt8)) = true := beq_iff_eq.mpr c93
        have c93b1 : (t307.toList != ([39, 97, 92, 50, 55, 92, 48, 97, 39] : List UInt8)) = false := bne_eq_false_iff_eq.mpr c93
        clear c93
        replace H := Option.bind_eq_some_iff.mp H
        obtain ⟨⟨t308, t309, t310⟩, A940, H⟩ := H
        replace H : ((value_Right.f t308 t309 t310).bind fun t311 => (if t311 = true then ((alumlaw19_num.f 549755813888).bind fun bt312 => ((value_Right.f bt312.1 bt312.2.1 bt312.2.2).bind fun t315 => (some (!t315)))) else (none))) = some r := H
        have A94 := Aside0.mk A940
        clear A940
        replace H := Option.bind_eq_some_iff.mp H
        obtain ⟨t311, A950, H⟩ := H
        replace H : (if t311 = true then ((alumlaw19_num.f 549755813888).bind fun bt312 => ((value_Right.f bt312.1 bt312.2.1 bt312.2.2).bind fun t315 => (some (!t315)))) else (none)) = some r := H
        have A95 := Aside0.mk A950
        clear A950
        by_cases c96 : t311 = true
        ·subst c96
         have H1 : ((alumlaw19_num.f 549755813888).bind fun bt312 => ((value_Right.f bt312.1 bt312.2.1 bt312.2.2).bind fun t315 => (some (!t315)))) = some r := by rw [if_pos rfl] at H; exact H
         clear H
         have H := H1
         clear H1
         replace H := Option.bind_eq_some_iff.mp H
         obtain ⟨⟨t312, t313, t314⟩, A970, H⟩ := H
         replace H : ((value_Right.f t312 t313 t314).bind fun t315 => (some (!t315))) = some r := H
         have A97 := Aside0.mk A970
         clear A970
         replace H := Option.bind_eq_some_iff.mp H
         obtain ⟨t315, A980, H⟩ := H
         replace H : (some (!t315)) = some r := H
         have A98 := Aside0.mk A980
         clear A980
         obtain rfl := Option.some.inj H
         go_wp2_with (first | (go_at_call 29; (with_reducible refine (value_Print.calls kj69 2 0 (⟨#[97, 39, 10]⟩ : ByteArray) t307 _ A92.out).mono ?_); rintro e w99 ⟨rfl, hb⟩; replace BK239 := blkB BK239 hb; replace BK247 := blkB BK247 hb; replace BK255 := blkB BK255 hb; replace BK266 := blkB BK266 hb; replace BK274 := blkB BK274 hb; replace BK282 := blkB BK282 hb; replace HB := stepB HB hb; (try clear hb); (try clear hb2); (try clear hk); (try clear hi)) | (go_at_call 42; (with_reducible refine (alumlaw19_num.calls 549755813887 t308 t309 t310 _ A94.out).mono ?_); rintro e w100 ⟨rfl, hb⟩; replace BK239 := blkB BK239 hb; replace BK247 := blkB BK247 hb; replace BK255 := blkB BK255 hb; replace BK266 := blkB BK266 hb; replace BK274 := blkB BK274 hb; replace BK282 := blkB BK282 hb; replace HB := stepB HB hb; (try clear hb); (try clear hb2); (try clear hk); (try clear hi)) | (go_at_call 19; (with_reducible refine (value_Right.calls t308 t309 t310 true _ A95.out).mono ?_); rintro e w101 ⟨rfl, hb⟩; replace BK239 := blkB BK239 hb; replace BK247 := blkB BK247 hb; replace BK255 := blkB BK255 hb; replace BK266 := blkB BK266 hb; replace BK274 := blkB BK274 hb; replace BK282 := blkB BK282 hb; replace HB := stepB HB hb; (try clear hb); (try clear hb2); (try clear hk); (try clear hi)) | (go_at_call 42; (with_reducible refine (alumlaw19_num.calls 549755813888 t312 t313 t314 _ A97.out).mono ?_); rintro e w102 ⟨rfl, hb⟩; replace BK239 := blkB BK239 hb; replace BK247 := blkB BK247 hb; replace BK255 := blkB BK255 hb; replace BK266 := blkB BK266 hb; replace BK274 := blkB BK274 hb; replace BK282 := blkB BK282 hb; replace HB := stepB HB hb; (try clear hb); (try clear hb2); (try clear hk); (try clear hi)) | (go_at_call 19; (with_reducible refine (value_Right.calls t312 t313 t314 t315 _ A98.out).mono ?_); rintro e w103 ⟨rfl, hb⟩; replace BK239 := blkB BK239 hb; replace BK247 := blkB BK247 hb; replace BK255 := blkB BK255 hb; replace BK266 := blkB BK266 hb; replace BK274 := blkB BK274 hb; replace BK282 := blkB BK282 hb; replace HB := stepB HB hb; (try clear hb); (try clear hb2); (try clear hk); (try clear hi)))
         go_ret
         exact ⟨by first | rfl | (simp [errW_none, errW_some] <;> rfl) | (simp [*, errW_none, errW_some] <;> rfl), by repeat (first | (with_reducible first | exact HB.out | apply below_alloc | apply pw_below_drewN | apply below_drew1 | refine below_set ?_ GE239.out | refine below_set ?_ GE247.out | refine below_set ?_ GE255.out | refine below_set ?_ GE266.out | refine below_set ?_ GE274.out | refine below_set ?_ GE282.out) | exact HB.out)⟩
        ·replace c96 := Bool.eq_false_iff.mpr c96
         subst c96
         have H1 : (none) = some r := by rw [if_neg (show ¬ (false = true) by decide)] at H; exact H
         clear H
         have H := H1
         clear H1
         exact absurd H (by simp)
       ·rw [if_neg c93] at H
        exact absurd H (by simp)
      ·replace c91 := Bool.eq_false_iff.mpr c91
       subst c91
       have H1 : (none) = some r := by rw [if_neg (show ¬ (false = true) by decide)] at H; exact H
       clear H
       have H := H1
       clear H1
       exact absurd H (by simp)
     ·replace c90 := Bool.eq_false_iff.mpr c90
      subst c90
      have H1 : (none) = some r := by rw [if_neg (show ¬ (false = true) by decide)] at H; exact H
      clear H
      have H := H1
      clear H1
      exact absurd H (by simp)
end Go.Proofs.YtmhnfdgegejlkaaDoor.P
end

section
namespace Go.Proofs.YtmhnfdgegejlkaaDoor.P
open Go.RowKit Go.Proofs.YtmhnfdgegejlkaaDoorW.PrintWords Go.Proofs.YtmhnfdgegejlkaaDoorW.PrintLast Go.Proofs.YtmhnfdgegejlkaaDoorW.PrintMore
attribute [local go_sem] max2_int min2_int max_two min_two max_three min_three max_four min_four
set_option linter.unusedVariables false
set_option linter.unusedSimpArgs false
def alumref19_Right.f (a0_0 : Int) (a0_1 : Int) (a0_2 : ByteArray) : Option (Bool) := if a0_0 = 0 then (if a0_1 = 0 then (some (a0_2.toList == ([] : List UInt8))) else (some false)) else (if a0_0 = 1 then (if a0_1 ≥ (-549755813888) then (if a0_1 ≤ 549755813887 then (some (a0_2.toList == ([] : List UInt8))) else (some false)) else (some false)) else (if a0_0 = 2 then (if a0_1 = 0 then (some (decide ((a0_2.size : Int) ≤ 40))) else (some false)) else (if a0_0 = 3 then (if a0_1 = 0 then (some (a0_2.toList == ([] : List UInt8))) else (if a0_1 = 1 then (some (a0_2.toList == ([] : List UInt8))) else (some false))) else (some false))))
set_option maxHeartbeats 8000000 in
set_option maxRecDepth 100000 in
theorem alumref19_Right.calls (a0_0 : Int) (a0_1 : Int) (a0_2 : ByteArray) (r : Bool) (w : World) (h : alumref19_Right.f a0_0 a0_1 a0_2 = some r) :
  Calls Tryd.prog 11 #[.agg #[.int .i64 a0_0, .int .i64 a0_1, .string a0_2]] w fun e w' => e = .returned (.bool r) ∧ Below w.heap.size w w' := by
 have hu23 := Tryd.underlying23
 have HB := Aside0.mk (Below.refl w.heap.size w)
 have H : (if a0_0 = 0 then (if a0_1 = 0 then (some (a0_2.toList == ([] : List UInt8))) else (some false)) else (if a0_0 = 1 then (if a0_1 ≥ (-549755813888) then (if a0_1 ≤ 549755813887 then (some (a0_2.toList == ([] : List UInt8))) else (some false)) else (some false)) else (if a0_0 = 2 then (if a0_1 = 0 then (some (decide ((a0_2.size : Int) ≤ 40))) else (some false)) else (if a0_0 = 3 then (if a0_1 = 0 then (some (a0_2.toList == ([] : List UInt8))) else (if a0_1 = 1 then (some (a0_2.toList == ([] : List UInt8))) else (some false))) else (some false))))) = some r := h
 clear h
 by_cases c2 : a0_0 = 0
 ·rw [if_pos c2] at H
  have c2b0 : (a0_0 == 0) = true := beq_iff_eq.mpr c2
  have c2b1 : (a0_0 != 0) = false := bne_eq_false_iff_eq.mpr c2
  clear c2
  by_cases c3 : a0_1 = 0
  ·rw [if_pos c3] at H
   have c3b0 : (a0_1 == 0) = true := beq_iff_eq.mpr c3
   have c3b1 : (a0_1 != 0) = false := bne_eq_false_iff_eq.mpr c3
   clear c3
   obtain rfl := Option.some.inj H
   go_enter Tryd.func11, Tryd.ntmps11
   go_wp2_with (first | ((with_reducible refine gate_dst (N := 1) rfl ?_); (try (refine gate_guard (by rfl) ?_; dsimp only)); refine box_event ?hg (N := 1) ?hd (cs := #[.int .i64 a0_0, .int .i64 a0_1, .string a0_2]) (t := 23) ?hr ?_; (case hd => rfl); (case hg => rfl); (case hr => first | (go_simp; done) | (go_simp; rfl)); intro gb101 hg w4 hbox hb; have BK101 := Aside0.mk (hbox); have GW101 := (sizeB HB hg : Aside0 (w.heap.size ≤ gb101)); have GE101 := (sizeB HB hg : Aside0 (w.heap.size ≤ gb101)); replace HB := stepB HB hb; clear hb hbox hg; have hcz5_0 : w4.cell? ⟨gb101, 0, none⟩ = some (.int .i64 a0_0) := bc BK101 0; have hcz5_1 : w4.cell? ⟨gb101, 1, none⟩ = some (.int .i64 a0_1) := bc BK101 1; have hcz5_2 : w4.cell? ⟨gb101, 2, none⟩ = some (.string a0_2) := bc BK101 2; have hfz5_0 := blk_frozen BK101.out 0; have hfz5_1 := blk_frozen BK101.out 1; have hfz5_2 := blk_frozen BK101.out 2))
   go_ret
   exact ⟨by first | rfl | (simp [errW_none, errW_some] <;> rfl) | (simp [*, errW_none, errW_some] <;> rfl), by repeat (first | (with_reducible first | exact HB.out | apply below_alloc | apply pw_below_drewN | apply below_drew1 | refine below_set ?_ GE101.out) | exact HB.out)⟩
  ·rw [if_neg c3] at H
   have c3b0 : (a0_1 == 0) = false := beq_eq_false_iff_ne.mpr c3
   have c3b1 : (a0_1 != 0) = true := bne_iff_ne.mpr c3
   obtain rfl := Option.some.inj H
   go_enter Tryd.func11, Tryd.ntmps11
   go_wp2_with (first | ((with_reducible refine gate_dst (N := 1) rfl ?_); (try (refine gate_guard (by rfl) ?_; dsimp only)); refine box_event ?hg (N := 1) ?hd (cs := #[.int .i64 a0_0, .int .i64 a0_1, .string a0_2]) (t := 23) ?hr ?_; (case hd => rfl); (case hg => rfl); (case hr => first | (go_simp; done) | (go_simp; rfl)); intro gb101 hg w6 hbox hb; have BK101 := Aside0.mk (hbox); have GW101 := (sizeB HB hg : Aside0 (w.heap.size ≤ gb101)); have GE101 := (sizeB HB hg : Aside0 (w.heap.size ≤ gb101)); replace HB := stepB HB hb; clear hb hbox hg; have hcz7_0 : w6.cell? ⟨gb101, 0, none⟩ = some (.int .i64 a0_0) := bc BK101 0; have hcz7_1 : w6.cell? ⟨gb101, 1, none⟩ = some (.int .i64 a0_1) := bc BK101 1; have hcz7_2 : w6.cell? ⟨gb101, 2, none⟩ = some (.string a0_2) := bc BK101 2; have hfz7_0 := blk_frozen BK101.out 0; have hfz7_1 := blk_frozen BK101.out 1; have hfz7_2 := blk_frozen BK101.out 2))
   go_ret
   exact ⟨by first | rfl | (simp [errW_none, errW_some] <;> rfl) | (simp [*, errW_none, errW_some] <;> rfl), by repeat (first | (with_reducible first | exact HB.out | apply below_alloc | apply pw_below_drewN | apply below_drew1 | refine below_set ?_ GE101.out) | exact HB.out)⟩
 ·rw [if_neg c2] at H
  have c2b0 : (a0_0 == 0) = false := beq_eq_false_iff_ne.mpr c2
  have c2b1 : (a0_0 != 0) = true := bne_iff_ne.mpr c2
  by_cases c8 : a0_0 = 1
  ·rw [if_pos c8] at H
   have c8b0 : (a0_0 == 1) = true := beq_iff_eq.mpr c8
   have c8b1 : (a0_0 != 1) = false := bne_eq_false_iff_eq.mpr c8
   clear c8
   by_cases c9 : a0_1 ≥ (-549755813888)
   ·rw [if_pos c9] at H
    have c9b0 : decide ((-549755813888) ≤ a0_1) = true := decide_eq_true c9
    clear c9
    by_cases c10 : a0_1 ≤ 549755813887
    ·rw [if_pos c10] at H
     have c10b0 : decide (a0_1 ≤ 549755813887) = true := decide_eq_true c10
     clear c10
     obtain rfl := Option.some.inj H
     go_enter Tryd.func11, Tryd.ntmps11
     go_wp2_with (first | ((with_reducible refine gate_dst (N := 1) rfl ?_); (try (refine gate_guard (by rfl) ?_; dsimp only)); refine box_event ?hg (N := 1) ?hd (cs := #[.int .i64 a0_0, .int .i64 a0_1, .string a0_2]) (t := 23) ?hr ?_; (case hd => rfl); (case hg => rfl); (case hr => first | (go_simp; done) | (go_simp; rfl)); intro gb101 hg w11 hbox hb; have BK101 := Aside0.mk (hbox); have GW101 := (sizeB HB hg : Aside0 (w.heap.size ≤ gb101)); have GE101 := (sizeB HB hg : Aside0 (w.heap.size ≤ gb101)); replace HB := stepB HB hb; clear hb hbox hg; have hcz12_0 : w11.cell? ⟨gb101, 0, none⟩ = some (.int .i64 a0_0) := bc BK101 0; have hcz12_1 : w11.cell? ⟨gb101, 1, none⟩ = some (.int .i64 a0_1) := bc BK101 1; have hcz12_2 : w11.cell? ⟨gb101, 2, none⟩ = some (.string a0_2) := bc BK101 2; have hfz12_0 := blk_frozen BK101.out 0; have hfz12_1 := blk_frozen BK101.out 1; have hfz12_2 := blk_frozen BK101.out 2))
     go_ret
     exact ⟨by first | rfl | (simp [errW_none, errW_some] <;> rfl) | (simp [*, errW_none, errW_some] <;> rfl), by repeat (first | (with_reducible first | exact HB.out | apply below_alloc | apply pw_below_drewN | apply below_drew1 | refine below_set ?_ GE101.out) | exact HB.out)⟩
    ·rw [if_neg c10] at H
     have c10b0 : decide (a0_1 ≤ 549755813887) = false := decide_eq_false c10
     clear c10
     obtain rfl := Option.some.inj H
     go_enter Tryd.func11, Tryd.ntmps11
     go_wp2_with (first | ((with_reducible refine gate_dst (N := 1) rfl ?_); (try (refine gate_guard (by rfl) ?_; dsimp only)); refine box_event ?hg (N := 1) ?hd (cs := #[.int .i64 a0_0, .int .i64 a0_1, .string a0_2]) (t := 23) ?hr ?_; (case hd => rfl); (case hg => rfl); (case hr => first | (go_simp; done) | (go_simp; rfl)); intro gb101 hg w13 hbox hb; have BK101 := Aside0.mk (hbox); have GW101 := (sizeB HB hg : Aside0 (w.heap.size ≤ gb101)); have GE101 := (sizeB HB hg : Aside0 (w.heap.size ≤ gb101)); replace HB := stepB HB hb; clear hb hbox hg; have hcz14_0 : w13.cell? ⟨gb101, 0, none⟩ = some (.int .i64 a0_0) := bc BK101 0; have hcz14_1 : w13.cell? ⟨gb101, 1, none⟩ = some (.int .i64 a0_1) := bc BK101 1; have hcz14_2 : w13.cell? ⟨gb101, 2, none⟩ = some (.string a0_2) := bc BK101 2; have hfz14_0 := blk_frozen BK101.out 0; have hfz14_1 := blk_frozen BK101.out 1; have hfz14_2 := blk_frozen BK101.out 2))
     go_ret
     exact ⟨by first | rfl | (simp [errW_none, errW_some] <;> rfl) | (simp [*, errW_none, errW_some] <;> rfl), by repeat (first | (with_reducible first | exact HB.out | apply below_alloc | apply pw_below_drewN | apply below_drew1 | refine below_set ?_ GE101.out) | exact HB.out)⟩
   ·rw [if_neg c9] at H
    have c9b0 : decide ((-549755813888) ≤ a0_1) = false := decide_eq_false c9
    clear c9
    obtain rfl := Option.some.inj H
    go_enter Tryd.func11, Tryd.ntmps11
    go_wp2_with (first | ((with_reducible refine gate_dst (N := 1) rfl ?_); (try (refine gate_guard (by rfl) ?_; dsimp only)); refine box_event ?hg (N := 1) ?hd (cs := #[.int .i64 a0_0, .int .i64 a0_1, .string a0_2]) (t := 23) ?hr ?_; (case hd => rfl); (case hg => rfl); (case hr => first | (go_simp; done) | (go_simp; rfl)); intro gb101 hg w15 hbox hb; have BK101 := Aside0.mk (hbox); have GW101 := (sizeB HB hg : Aside0 (w.heap.size ≤ gb101)); have GE101 := (sizeB HB hg : Aside0 (w.heap.size ≤ gb101)); replace HB := stepB HB hb; clear hb hbox hg; have hcz16_0 : w15.cell? ⟨gb101, 0, none⟩ = some (.int .i64 a0_0) := bc BK101 0; have hcz16_1 : w15.cell? ⟨gb101, 1, none⟩ = some (.int .i64 a0_1) := bc BK101 1; have hcz16_2 : w15.cell? ⟨gb101, 2, none⟩ = some (.string a0_2) := bc BK101 2; have hfz16_0 := blk_frozen BK101.out 0; have hfz16_1 := blk_frozen BK101.out 1; have hfz16_2 := blk_frozen BK101.out 2))
    go_ret
    exact ⟨by first | rfl | (simp [errW_none, errW_some] <;> rfl) | (simp [*, errW_none, errW_some] <;> rfl), by repeat (first | (with_reducible first | exact HB.out | apply below_alloc | apply pw_below_drewN | apply below_drew1 | refine below_set ?_ GE101.out) | exact HB.out)⟩
  ·rw [if_neg c8] at H
   have c8b0 : (a0_0 == 1) = false := beq_eq_false_iff_ne.mpr c8
   have c8b1 : (a0_0 != 1) = true := bne_iff_ne.mpr c8
   by_cases c17 : a0_0 = 2
   ·rw [if_pos c17] at H
    have c17b0 : (a0_0 == 2) = true := beq_iff_eq.mpr c17
    have c17b1 : (a0_0 != 2) = false := bne_eq_false_iff_eq.mpr c17
    clear c17
    by_cases c18 : a0_1 = 0
    ·rw [if_pos c18] at H
     have c18b0 : (a0_1 == 0) = true := beq_iff_eq.mpr c18
     have c18b1 : (a0_1 != 0) = false := bne_eq_false_iff_eq.mpr c18
     clear c18
     obtain rfl := Option.some.inj H
     go_enter Tryd.func11, Tryd.ntmps11
     go_wp2_with (first | ((with_reducible refine gate_dst (N := 1) rfl ?_); (try (refine gate_guard (by rfl) ?_; dsimp only)); refine box_event ?hg (N := 1) ?hd (cs := #[.int .i64 a0_0, .int .i64 a0_1, .string a0_2]) (t := 23) ?hr ?_; (case hd => rfl); (case hg => rfl); (case hr => first | (go_simp; done) | (go_simp; rfl)); intro gb101 hg w19 hbox hb; have BK101 := Aside0.mk (hbox); have GW101 := (sizeB HB hg : Aside0 (w.heap.size ≤ gb101)); have GE101 := (sizeB HB hg : Aside0 (w.heap.size ≤ gb101)); replace HB := stepB HB hb; clear hb hbox hg; have hcz20_0 : w19.cell? ⟨gb101, 0, none⟩ = some (.int .i64 a0_0) := bc BK101 0; have hcz20_1 : w19.cell? ⟨gb101, 1, none⟩ = some (.int .i64 a0_1) := bc BK101 1; have hcz20_2 : w19.cell? ⟨gb101, 2, none⟩ = some (.string a0_2) := bc BK101 2; have hfz20_0 := blk_frozen BK101.out 0; have hfz20_1 := blk_frozen BK101.out 1; have hfz20_2 := blk_frozen BK101.out 2))
     go_ret
     exact ⟨by first | rfl | (simp [errW_none, errW_some] <;> rfl) | (simp [*, errW_none, errW_some] <;> rfl), by repeat (first | (with_reducible first | exact HB.out | apply below_alloc | apply pw_below_drewN | apply below_drew1 | refine below_set ?_ GE101.out) | exact HB.out)⟩
    ·rw [if_neg c18] at H
     have c18b0 : (a0_1 == 0) = false := beq_eq_false_iff_ne.mpr c18
     have c18b1 : (a0_1 != 0) = true := bne_iff_ne.mpr c18
     obtain rfl := Option.some.inj H
     go_enter Tryd.func11, Tryd.ntmps11
     go_wp2_with (first | ((with_reducible refine gate_dst (N := 1) rfl ?_); (try (refine gate_guard (by rfl) ?_; dsimp only)); refine box_event ?hg (N := 1) ?hd (cs := #[.int .i64 a0_0, .int .i64 a0_1, .string a0_2]) (t := 23) ?hr ?_; (case hd => rfl); (case hg => rfl); (case hr => first | (go_simp; done) | (go_simp; rfl)); intro gb101 hg w21 hbox hb; have BK101 := Aside0.mk (hbox); have GW101 := (sizeB HB hg : Aside0 (w.heap.size ≤ gb101)); have GE101 := (sizeB HB hg : Aside0 (w.heap.size ≤ gb101)); replace HB := stepB HB hb; clear hb hbox hg; have hcz22_0 : w21.cell? ⟨gb101, 0, none⟩ = some (.int .i64 a0_0) := bc BK101 0; have hcz22_1 : w21.cell? ⟨gb101, 1, none⟩ = some (.int .i64 a0_1) := bc BK101 1; have hcz22_2 : w21.cell? ⟨gb101, 2, none⟩ = some (.string a0_2) := bc BK101 2; have hfz22_0 := blk_frozen BK101.out 0; have hfz22_1 := blk_frozen BK101.out 1; have hfz22_2 := blk_frozen BK101.out 2))
     go_ret
     exact ⟨by first | rfl | (simp [errW_none, errW_some] <;> rfl) | (simp [*, errW_none, errW_some] <;> rfl), by repeat (first | (with_reducible first | exact HB.out | apply below_alloc | apply pw_below_drewN | apply below_drew1 | refine below_set ?_ GE101.out) | exact HB.out)⟩
   ·rw [if_neg c17] at H
    have c17b0 : (a0_0 == 2) = false := beq_eq_false_iff_ne.mpr c17
    have c17b1 : (a0_0 != 2) = true := bne_iff_ne.mpr c17
    by_cases c23 : a0_0 = 3
    ·rw [if_pos c23] at H
     have c23b0 : (a0_0 == 3) = true := beq_iff_eq.mpr c23
     have c23b1 : (a0_0 != 3) = false := bne_eq_false_iff_eq.mpr c23
     clear c23
     by_cases c24 : a0_1 = 0
     ·rw [if_pos c24] at H
      have c24b0 : (a0_1 == 0) = true := beq_iff_eq.mpr c24
      have c24b1 : (a0_1 != 0) = false := bne_eq_false_iff_eq.mpr c24
      clear c24
      obtain rfl := Option.some.inj H
      go_enter Tryd.func11, Tryd.ntmps11
      go_wp2_with (first | ((with_reducible refine gate_dst (N := 1) rfl ?_); (try (refine gate_guard (by rfl) ?_; dsimp only)); refine box_event ?hg (N := 1) ?hd (cs := #[.int .i64 a0_0, .int .i64 a0_1, .string a0_2]) (t := 23) ?hr ?_; (case hd => rfl); (case hg => rfl); (case hr => first | (go_simp; done) | (go_simp; rfl)); intro gb101 hg w25 hbox hb; have BK101 := Aside0.mk (hbox); have GW101 := (sizeB HB hg : Aside0 (w.heap.size ≤ gb101)); have GE101 := (sizeB HB hg : Aside0 (w.heap.size ≤ gb101)); replace HB := stepB HB hb; clear hb hbox hg; have hcz26_0 : w25.cell? ⟨gb101, 0, none⟩ = some (.int .i64 a0_0) := bc BK101 0; have hcz26_1 : w25.cell? ⟨gb101, 1, none⟩ = some (.int .i64 a0_1) := bc BK101 1; have hcz26_2 : w25.cell? ⟨gb101, 2, none⟩ = some (.string a0_2) := bc BK101 2; have hfz26_0 := blk_frozen BK101.out 0; have hfz26_1 := blk_frozen BK101.out 1; have hfz26_2 := blk_frozen BK101.out 2))
      go_ret
      exact ⟨by first | rfl | (simp [errW_none, errW_some] <;> rfl) | (simp [*, errW_none, errW_some] <;> rfl), by repeat (first | (with_reducible first | exact HB.out | apply below_alloc | apply pw_below_drewN | apply below_drew1 | refine below_set ?_ GE101.out) | exact HB.out)⟩
     ·rw [if_neg c24] at H
      have c24b0 : (a0_1 == 0) = false := beq_eq_false_iff_ne.mpr c24
      have c24b1 : (a0_1 != 0) = true := bne_iff_ne.mpr c24
      by_cases c27 : a0_1 = 1
      ·rw [if_pos c27] at H
       have c27b0 : (a0_1 == 1) = true := beq_iff_eq.mpr c27
       have c27b1 : (a0_1 != 1) = false := bne_eq_false_iff_eq.mpr c27
       clear c27
       obtain rfl := Option.some.inj H
       go_enter Tryd.func11, Tryd.ntmps11
       go_wp2_with (first | ((with_reducible refine gate_dst (N := 1) rfl ?_); (try (refine gate_guard (by rfl) ?_; dsimp only)); refine box_event ?hg (N := 1) ?hd (cs := #[.int .i64 a0_0, .int .i64 a0_1, .string a0_2]) (t := 23) ?hr ?_; (case hd => rfl); (case hg => rfl); (case hr => first | (go_simp; done) | (go_simp; rfl)); intro gb101 hg w28 hbox hb; have BK101 := Aside0.mk (hbox); have GW101 := (sizeB HB hg : Aside0 (w.heap.size ≤ gb101)); have GE101 := (sizeB HB hg : Aside0 (w.heap.size ≤ gb101)); replace HB := stepB HB hb; clear hb hbox hg; have hcz29_0 : w28.cell? ⟨gb101, 0, none⟩ = some (.int .i64 a0_0) := bc BK101 0; have hcz29_1 : w28.cell? ⟨gb101, 1, none⟩ = some (.int .i64 a0_1) := bc BK101 1; have hcz29_2 : w28.cell? ⟨gb101, 2, none⟩ = some (.string a0_2) := bc BK101 2; have hfz29_0 := blk_frozen BK101.out 0; have hfz29_1 := blk_frozen BK101.out 1; have hfz29_2 := blk_frozen BK101.out 2))
       go_ret
       exact ⟨by first | rfl | (simp [errW_none, errW_some] <;> rfl) | (simp [*, errW_none, errW_some] <;> rfl), by repeat (first | (with_reducible first | exact HB.out | apply below_alloc | apply pw_below_drewN | apply below_drew1 | refine below_set ?_ GE101.out) | exact HB.out)⟩
      ·rw [if_neg c27] at H
       have c27b0 : (a0_1 == 1) = false := beq_eq_false_iff_ne.mpr c27
       have c27b1 : (a0_1 != 1) = true := bne_iff_ne.mpr c27
       obtain rfl := Option.some.inj H
       go_enter Tryd.func11, Tryd.ntmps11
       go_wp2_with (first | ((with_reducible refine gate_dst (N := 1) rfl ?_); (try (refine gate_guard (by rfl) ?_; dsimp only)); refine box_event ?hg (N := 1) ?hd (cs := #[.int .i64 a0_0, .int .i64 a0_1, .string a0_2]) (t := 23) ?hr ?_; (case hd => rfl); (case hg => rfl); (case hr => first | (go_simp; done) | (go_simp; rfl)); intro gb101 hg w30 hbox hb; have BK101 := Aside0.mk (hbox); have GW101 := (sizeB HB hg : Aside0 (w.heap.size ≤ gb101)); have GE101 := (sizeB HB hg : Aside0 (w.heap.size ≤ gb101)); replace HB := stepB HB hb; clear hb hbox hg; have hcz31_0 : w30.cell? ⟨gb101, 0, none⟩ = some (.int .i64 a0_0) := bc BK101 0; have hcz31_1 : w30.cell? ⟨gb101, 1, none⟩ = some (.int .i64 a0_1) := bc BK101 1; have hcz31_2 : w30.cell? ⟨gb101, 2, none⟩ = some (.string a0_2) := bc BK101 2; have hfz31_0 := blk_frozen BK101.out 0; have hfz31_1 := blk_frozen BK101.out 1; have hfz31_2 := blk_frozen BK101.out 2))
       go_ret
       exact ⟨by first | rfl | (simp [errW_none, errW_some] <;> rfl) | (simp [*, errW_none, errW_some] <;> rfl), by repeat (first | (with_reducible first | exact HB.out | apply below_alloc | apply pw_below_drewN | apply below_drew1 | refine below_set ?_ GE101.out) | exact HB.out)⟩
    ·rw [if_neg c23] at H
     have c23b0 : (a0_0 == 3) = false := beq_eq_false_iff_ne.mpr c23
     have c23b1 : (a0_0 != 3) = true := bne_iff_ne.mpr c23
     obtain rfl := Option.some.inj H
     go_enter Tryd.func11, Tryd.ntmps11
     go_wp2_with (first | ((with_reducible refine gate_dst (N := 1) rfl ?_); (try (refine gate_guard (by rfl) ?_; dsimp only)); refine box_event ?hg (N := 1) ?hd (cs := #[.int .i64 a0_0, .int .i64 a0_1, .string a0_2]) (t := 23) ?hr ?_; (case hd => rfl); (case hg => rfl); (case hr => first | (go_simp; done) | (go_simp; rfl)); intro gb101 hg w32 hbox hb; have BK101 := Aside0.mk (hbox); have GW101 := (sizeB HB hg : Aside0 (w.heap.size ≤ gb101)); have GE101 := (sizeB HB hg : Aside0 (w.heap.size ≤ gb101)); replace HB := stepB HB hb; clear hb hbox hg; have hcz33_0 : w32.cell? ⟨gb101, 0, none⟩ = some (.int .i64 a0_0) := bc BK101 0; have hcz33_1 : w32.cell? ⟨gb101, 1, none⟩ = some (.int .i64 a0_1) := bc BK101 1; have hcz33_2 : w32.cell? ⟨gb101, 2, none⟩ = some (.string a0_2) := bc BK101 2; have hfz33_0 := blk_frozen BK101.out 0; have hfz33_1 := blk_frozen BK101.out 1; have hfz33_2 := blk_frozen BK101.out 2))
     go_ret
     exact ⟨by first | rfl | (simp [errW_none, errW_some] <;> rfl) | (simp [*, errW_none, errW_some] <;> rfl), by repeat (first | (with_reducible first | exact HB.out | apply below_alloc | apply pw_below_drewN | apply below_drew1 | refine below_set ?_ GE101.out) | exact HB.out)⟩
end Go.Proofs.YtmhnfdgegejlkaaDoor.P
end

section
namespace Go.Proofs.YtmhnfdgegejlkaaDoor.P
open Go.RowKit Go.Proofs.YtmhnfdgegejlkaaDoorW.PrintWords Go.Proofs.YtmhnfdgegejlkaaDoorW.PrintLast Go.Proofs.YtmhnfdgegejlkaaDoorW.PrintMore
attribute [local go_sem] max2_int min2_int max_two min_two max_three min_three max_four min_four
set_option linter.unusedVariables false
set_option linter.unusedSimpArgs false
def value_PrintT.l0 : Nat → List Int → Int → Int → Int → Int → ByteArray → Option (ByteArray)
 | 0, _, _, _, _, _, _ => none
 | k + 1, x3, x24, x25, x220000, x220001, x220002 => if x25 < x24 then (if 0 ≤ x25 then (if x25 < (x220002.size : Int) then ((value_plain.f (bt x220002 x25)).bind fun t225 => (if t225 = true then (if x3.length < 140737488355328 then (value_PrintT.l0 k (x3 ++ [bt x220002 x25]) x24 (wrap64 (x25 + 1)) x220000 x220001 x220002) else (none)) else (if 0 ≤ ((bt x220002 x25) / 16) then (if ((bt x220002 x25) / 16) < 16 then (if 0 ≤ (Go.bits .and .u8 (bt x220002 x25) 15) then (if (Go.bits .and .u8 (bt x220002 x25) 15) < 16 then ((some (([92, bt (⟨#[48, 49, 50, 51, 52, 53, 54, 55, 56, 57, 97, 98, 99, 100, 101, 102]⟩ : ByteArray) ((bt x220002 x25) / 16), bt (⟨#[48, 49, 50, 51, 52, 53, 54, 55, 56, 57, 97, 98, 99, 100, 101, 102]⟩ : ByteArray) (Go.bits .and .u8 (bt x220002 x25) 15)] : List Int) : List Int)).bind fun y229 => (if x3.length + y229.length < 140737488355328 then (value_PrintT.l0 k (x3 ++ y229) x24 (wrap64 (x25 + 1)) x220000 x220001 x220002) else (none))) else (none)) else (none)) else (none)) else (none)))) else (none)) else (none)) else (if x3.length < 140737488355328 then (some (strOfNums (x3 ++ [39]))) else (none))
def value_PrintT.f (k : Nat) (a0_0 : Int) (a0_1 : Int) (a0_2 : ByteArray) : Option (ByteArray) := if a0_0 = 1 then ((strconv_ItoaT.f a0_1).bind fun t220 => (some t220)) else (if a0_0 = 3 then ((strconv_FormatBool.f (a0_1 == 1)).bind fun t221 => (some t221)) else (if a0_0 = 0 then (some (⟨#[110, 117, 108, 108]⟩ : ByteArray)) else (value_PrintT.l0 k (([39] : List Int)) (a0_2.size : Int) 0 a0_0 a0_1 a0_2)))
def value_PrintT.T15 : Bool × List (List Nat × List Nat) := (true, [([], []), ([], []), ([1], [1]), ([2], [2]), ([], []), ([4], [4]), ([5], [5]), ([3, 6], [3, 6]), ([0, 7], [0, 7]), ([8, 8, 0, 1, 2, 3, 4, 5, 6, 7, 8], [0, 8])])
def value_PrintT.B15 : List Nat := [0, 0, 2, 6, 0, 16, 48, 126, 255, 511]
theorem value_PrintT.tab15 : rtab .any (opsOf Tryd.f29 15) = value_PrintT.T15 := by kernel_rfl
theorem value_PrintT.bits15 : waitsOk value_PrintT.T15.2 value_PrintT.B15 = true := by kernel_rfl
set_option maxHeartbeats 8000000 in
set_option maxRecDepth 100000 in
theorem value_PrintT.calls (k : Nat) (a0_0 : Int) (a0_1 : Int) (a0_2 : ByteArray) (r : ByteArray) (w : World) (htab : TabW w) (h : value_PrintT.f k a0_0 a0_1 a0_2 = some r) :
  Calls Tryd.prog 29 #[.agg #[.int .i64 a0_0, .int .i64 a0_1, .string a0_2]] w fun e w' => e = .returned (.string r) ∧ Below w.heap.size w w' := by
 have hu23 := Tryd.underlying23
 have HB := Aside0.mk (Below.refl w.heap.size w)
 have HTAB := Aside0.mk htab
 clear htab
 have H : (if a0_0 = 1 then ((strconv_ItoaT.f a0_1).bind fun t220 => (some t220)) else (if a0_0 = 3 then ((strconv_FormatBool.f (a0_1 == 1)).bind fun t221 => (some t221)) else (if a0_0 = 0 then (some (⟨#[110, 117, 108, 108]⟩ : ByteArray)) else (value_PrintT.l0 k (([39] : List Int)) (a0_2.size : Int) 0 a0_0 a0_1 a0_2)))) = some r := h
 clear h
 by_cases c2 : a0_0 = 1
 ·rw [if_pos c2] at H
  have c2b0 : (a0_0 == 1) = true := beq_iff_eq.mpr c2
  have c2b1 : (a0_0 != 1) = false := bne_eq_false_iff_eq.mpr c2
  clear c2
  replace H := Option.bind_eq_some_iff.mp H
  obtain ⟨t220, A30, H⟩ := H
  replace H : (some t220) = some r := H
  have A3 := Aside0.mk A30
  clear A30
  obtain rfl := Option.some.inj H
  go_enter Tryd.func29, Tryd.ntmps29
  go_wp2_with (first | ((with_reducible refine gate_dst (N := 1) rfl ?_); refine box_event ?hg (N := 1) ?hd (cs := #[.int .i64 a0_0, .int .i64 a0_1, .string a0_2]) (t := 23) ?hr ?_; (case hd => rfl); (case hg => rfl); (case hr => first | (go_simp; done) | (go_simp; rfl)); intro gb219 hg w4 hbox hb; have BK219 := Aside0.mk (hbox); have GW219 := (sizeB HB hg : Aside0 (w.heap.size ≤ gb219)); have GE219 := (sizeB HB hg : Aside0 (w.heap.size ≤ gb219)); replace HB := stepB HB hb; clear hb hbox hg; have hcz5_0 : w4.cell? ⟨gb219, 0, none⟩ = some (.int .i64 a0_0) := bc BK219 0; have hcz5_1 : w4.cell? ⟨gb219, 1, none⟩ = some (.int .i64 a0_1) := bc BK219 1; have hcz5_2 : w4.cell? ⟨gb219, 2, none⟩ = some (.string a0_2) := bc BK219 2; have hfz5_0 := blk_frozen BK219.out 0; have hfz5_1 := blk_frozen BK219.out 1; have hfz5_2 := blk_frozen BK219.out 2) | ((with_reducible refine gate_callee (f := 53) rfl ?_); refine goesL_ (some 12) rfl rfl Tryd.func53 (by kernel_rfl) rfl #[.int .i64 a0_1] rfl (by (try simp only [List.map_toArray, List.map_cons, List.map_nil]); first | done | rfl | (simp only [List.length_drop, List.length_take]; rfl)) ?_; (with_reducible refine (strconv_ItoaT.calls (htab := tab_below HTAB.out (by repeat (first | (with_reducible first | exact HB.out | apply below_alloc | apply pw_below_drewN | apply below_drew1 | refine below_set ?_ GE219.out) | exact HB.out))) a0_1 t220 _ A3.out).mono ?_); rintro e w6 ⟨rfl, hb⟩; refine ⟨_, rfl, ?_⟩; replace BK219 := blkB BK219 hb; replace HB := stepB HB hb; (try clear hb); (try clear hb2); (try clear hk); (try clear hi)))
  go_ret
  exact ⟨by first | rfl | (simp [errW_none, errW_some] <;> rfl) | (simp [*, errW_none, errW_some] <;> rfl), by repeat (first | (with_reducible first | exact HB.out | apply below_alloc | apply pw_below_drewN | apply below_drew1 | refine below_set ?_ GE219.out) | exact HB.out)⟩
 ·rw [if_neg c2] at H
  have c2b0 : (a0_0 == 1) = false := beq_eq_false_iff_ne.mpr c2
  have c2b1 : (a0_0 != 1) = true := bne_iff_ne.mpr c2
  by_cases c7 : a0_0 = 3
  ·rw [if_pos c7] at H
   have c7b0 : (a0_0 == 3) = true := beq_iff_eq.mpr c7
   have c7b1 : (a0_0 != 3) = false := bne_eq_false_iff_eq.mpr c7
   clear c7
   replace H := Option.bind_eq_some_iff.mp H
   obtain ⟨t221, A80, H⟩ := H
   replace H : (some t221) = some r := H
   have A8 := Aside0.mk A80
   clear A80
   obtain rfl := Option.some.inj H
   go_enter Tryd.func29, Tryd.ntmps29
   go_wp2_with (first | ((with_reducible refine gate_dst (N := 1) rfl ?_); refine box_event ?hg (N := 1) ?hd (cs := #[.int .i64 a0_0, .int .i64 a0_1, .string a0_2]) (t := 23) ?hr ?_; (case hd => rfl); (case hg => rfl); (case hr => first | (go_simp; done) | (go_simp; rfl)); intro gb219 hg w9 hbox hb; have BK219 := Aside0.mk (hbox); have GW219 := (sizeB HB hg : Aside0 (w.heap.size ≤ gb219)); have GE219 := (sizeB HB hg : Aside0 (w.heap.size ≤ gb219)); replace HB := stepB HB hb; clear hb hbox hg; have hcz10_0 : w9.cell? ⟨gb219, 0, none⟩ = some (.int .i64 a0_0) := bc BK219 0; have hcz10_1 : w9.cell? ⟨gb219, 1, none⟩ = some (.int .i64 a0_1) := bc BK219 1; have hcz10_2 : w9.cell? ⟨gb219, 2, none⟩ = some (.string a0_2) := bc BK219 2; have hfz10_0 := blk_frozen BK219.out 0; have hfz10_1 := blk_frozen BK219.out 1; have hfz10_2 := blk_frozen BK219.out 2) | ((with_reducible refine gate_callee (f := 54) rfl ?_); refine goesL_ (some 18) rfl rfl Tryd.func54 (by kernel_rfl) rfl #[.bool (a0_1 == 1)] rfl (by (try simp only [List.map_toArray, List.map_cons, List.map_nil]); first | done | rfl | (simp only [List.length_drop, List.length_take]; rfl)) ?_; (with_reducible refine (strconv_FormatBool.calls (a0_1 == 1) t221 _ A8.out).mono ?_); rintro e w' ⟨rfl, ⟨nd, rfl⟩⟩; refine ⟨_, rfl, ?_⟩))
   go_ret
   exact ⟨by first | rfl | (simp [errW_none, errW_some] <;> rfl) | (simp [*, errW_none, errW_some] <;> rfl), by repeat (first | (with_reducible first | exact HB.out | apply below_alloc | apply pw_below_drewN | apply below_drew1 | refine below_set ?_ GE219.out) | exact HB.out)⟩
  ·rw [if_neg c7] at H
   have c7b0 : (a0_0 == 3) = false := beq_eq_false_iff_ne.mpr c7
   have c7b1 : (a0_0 != 3) = true := bne_iff_ne.mpr c7
   by_cases c11 : a0_0 = 0
   ·rw [if_pos c11] at H
    have c11b0 : (a0_0 == 0) = true := beq_iff_eq.mpr c11
    have c11b1 : (a0_0 != 0) = false := bne_eq_false_iff_eq.mpr c11
    clear c11
    obtain rfl := Option.some.inj H
    go_enter Tryd.func29, Tryd.ntmps29
    go_wp2_with (first | ((with_reducible refine gate_dst (N := 1) rfl ?_); refine box_event ?hg (N := 1) ?hd (cs := #[.int .i64 a0_0, .int .i64 a0_1, .string a0_2]) (t := 23) ?hr ?_; (case hd => rfl); (case hg => rfl); (case hr => first | (go_simp; done) | (go_simp; rfl)); intro gb219 hg w12 hbox hb; have BK219 := Aside0.mk (hbox); have GW219 := (sizeB HB hg : Aside0 (w.heap.size ≤ gb219)); have GE219 := (sizeB HB hg : Aside0 (w.heap.size ≤ gb219)); replace HB := stepB HB hb; clear hb hbox hg; have hcz13_0 : w12.cell? ⟨gb219, 0, none⟩ = some (.int .i64 a0_0) := bc BK219 0; have hcz13_1 : w12.cell? ⟨gb219, 1, none⟩ = some (.int .i64 a0_1) := bc BK219 1; have hcz13_2 : w12.cell? ⟨gb219, 2, none⟩ = some (.string a0_2) := bc BK219 2; have hfz13_0 := blk_frozen BK219.out 0; have hfz13_1 := blk_frozen BK219.out 1; have hfz13_2 := blk_frozen BK219.out 2))
    go_ret
    exact ⟨by first | rfl | (simp [errW_none, errW_some] <;> rfl) | (simp [*, errW_none, errW_some] <;> rfl), by repeat (first | (with_reducible first | exact HB.out | apply below_alloc | apply pw_below_drewN | apply below_drew1 | refine below_set ?_ GE219.out) | exact HB.out)⟩
   ·rw [if_neg c11] at H
    have c11b0 : (a0_0 == 0) = false := beq_eq_false_iff_ne.mpr c11
    have c11b1 : (a0_0 != 0) = true := bne_iff_ne.mpr c11
    obtain ⟨y222, hy222⟩ : ∃ y_ : List Int, y_ = (([39] : List Int)) := ⟨_, rfl⟩
    replace H : (value_PrintT.l0 k y222 (a0_2.size : Int) 0 a0_0 a0_1 a0_2) = some r := by first | (rw [hy222]; with_reducible exact H) | (have H2_ := (Option.bind_some _ _).symm.trans H; rw [hy222]; with_reducible exact H2_) | (have H2_ := (Option.bind_some _ _).symm.trans H; with_reducible exact H2_) | with_reducible exact H | (rw [hy222]; exact H) | exact H
    have Ny222 := Aside0.mk hy222
    clear hy222
    have H' := Aside0.mk H
    clear H
    go_enter Tryd.func29, Tryd.ntmps29
    go_wp2_with (first | ((with_reducible refine gate_dst (N := 1) rfl ?_); refine box_event ?hg (N := 1) ?hd (cs := #[.int .i64 a0_0, .int .i64 a0_1, .string a0_2]) (t := 23) ?hr ?_; (case hd => rfl); (case hg => rfl); (case hr => first | (go_simp; done) | (go_simp; rfl)); intro gb219 hg w14 hbox hb; have BK219 := Aside0.mk (hbox); have GW219 := (sizeB HB hg : Aside0 (w.heap.size ≤ gb219)); have GE219 := (sizeB HB hg : Aside0 (w.heap.size ≤ gb219)); replace HB := stepB HB hb; clear hb hbox hg; have hcz15_0 : w14.cell? ⟨gb219, 0, none⟩ = some (.int .i64 a0_0) := bc BK219 0; have hcz15_1 : w14.cell? ⟨gb219, 1, none⟩ = some (.int .i64 a0_1) := bc BK219 1; have hcz15_2 : w14.cell? ⟨gb219, 2, none⟩ = some (.string a0_2) := bc BK219 2; have hfz15_0 := blk_frozen BK219.out 0; have hfz15_1 := blk_frozen BK219.out 1; have hfz15_2 := blk_frozen BK219.out 2) | ((with_reducible refine gate_dst (N := 21) rfl ?_); refine Kd.R_lit (Kd.int .u8) _ 5 ?hg (N := 21) ?hd (xs := ([39] : List Int)) (inner := [.int .u8 39]) (ok := fun _ => True) (okp := fun _ => True) ?hr ?hp (fun _ hk => hk) trivial (Below.refl _ _) (Nat.le_refl _) (by simp) ?_; (case hd => rfl); (case hg => rfl); (case hr => first | (go_simp; done) | (go_simp; rfl)); (case hp => exact (Reps.one (show Kd.M (Kd.int .u8) _ _ _ 39 [.int .u8 39] from rfl) (Reps.none _ _))); intro v223 w16 ho17 hb hg_ hnew_; clear hg_ hnew_; (first | rw [← Ny222.out] at ho17 | (simp only [Int.reduceToNat] at ho17; rw [← Ny222.out] at ho17)); have HO224 := Aside0.mk (Kd.R_lower ho17 (below_size (by repeat (first | (with_reducible first | exact HB.out | apply below_alloc | apply pw_below_drewN | apply below_drew1 | refine below_set ?_ GE219.out) | exact HB.out)))); replace BK219 := blkB BK219 hb; replace HB := stepB HB hb; clear hb ho17; have hcz18_0 : w16.cell? ⟨gb219, 0, none⟩ = some (.int .i64 a0_0) := bc BK219 0; have hcz18_1 : w16.cell? ⟨gb219, 1, none⟩ = some (.int .i64 a0_1) := bc BK219 1; have hcz18_2 : w16.cell? ⟨gb219, 2, none⟩ = some (.string a0_2) := bc BK219 2; have hfz18_0 := blk_frozen BK219.out 0; have hfz18_1 := blk_frozen BK219.out 1; have hfz18_2 := blk_frozen BK219.out 2))
    go_loopg [3, 25] k (fun kq v3 v25 w' => ∃ (x3_1 : List Int) (x25_1 : Int), v25 = .int .i64 x25_1 ∧ Aside0 (value_PrintT.l0 kq x3_1 (a0_2.size : Int) x25_1 a0_0 a0_1 a0_2 = some r) ∧ Aside0 (kq ≤ k) ∧ Aside0 (Kd.R (Kd.int .u8) 5 w' w.heap.size (fun _ => True) v3 x3_1) ∧ Aside0 (w'.heap[gb219]? = some (.cells #[.int .i64 a0_0, .int .i64 a0_1, .string a0_2] 23 (0, 0))) ∧ Aside0 (Below w.heap.size w w'))
    case atStart => exact ⟨(y222), (0), (by first | rfl | (simp; done) | (simp [*]; done)), H', ⟨Nat.le_refl _⟩, ⟨by (with_reducible repeat (first | apply Kd.R_alloc | apply Kd.R_drewN | apply Kd.R_drew)); exact HO224.out⟩, ⟨by (with_reducible repeat (first | refine blk_drewN ?_ _ | refine blk_drew ?_ | refine blk_alloc ?_ _)); exact BK219.out⟩, ⟨by repeat (first | (with_reducible first | exact HB.out | apply below_alloc | apply pw_below_drewN | apply below_drew1 | refine below_set ?_ GE219.out) | exact HB.out)⟩⟩
    case round =>
     clear H'
     try clear c1
     try clear c2
     try clear c2b0
     try clear c2b1
     try clear p2
     try clear c5
     try clear c7
     try clear c7b0
     try clear c7b1
     try clear c11
     try clear c11b0
     try clear c11b1
     try clear hcz10_0
     try clear hcz10_1
     try clear hcz10_2
     try clear hcz13_0
     try clear hcz13_1
     try clear hcz13_2
     try clear hcz15_0
     try clear hcz15_1
     try clear hcz15_2
     try clear hcz18_0
     try clear hcz18_1
     try clear hcz18_2
     try clear hcz5_0
     try clear hcz5_1
     try clear hcz5_2
     try clear hfz10_0
     try clear hfz10_1
     try clear hfz10_2
     try clear hfz13_0
     try clear hfz13_1
     try clear hfz13_2
     try clear hfz15_0
     try clear hfz15_1
     try clear hfz15_2
     try clear hfz18_0
     try clear hfz18_1
     try clear hfz18_2
     try clear hfz5_0
     try clear hfz5_1
     try clear hfz5_2
     obtain ⟨x3_1, x25_1, rfl, HA, HK1, HO_3, BK219, HB⟩ := hrel
     cases gk with
     | zero => exact absurd HA.out (by simp [value_PrintT.l0])
     | succ k1 =>
      have H := HA.out
      clear HA
      simp only [value_PrintT.l0] at H
      by_cases c19 : x25_1 < (a0_2.size : Int)
      ·rw [if_pos c19] at H
       have c19b0 : decide (x25_1 < (a0_2.size : Int)) = true := decide_eq_true c19
       clear c19
       by_cases c20 : 0 ≤ x25_1
       ·rw [if_pos c20] at H
        have c20b0 : decide (0 ≤ x25_1) = true := decide_eq_true c20
        clear c20
        by_cases c21 : x25_1 < (a0_2.size : Int)
        ·rw [if_pos c21] at H
         have c21b0 : decide (x25_1 < (a0_2.size : Int)) = true := decide_eq_true c21
         clear c21
         replace H := Option.bind_eq_some_iff.mp H
         obtain ⟨t225, A230, H⟩ := H
         replace H : (if t225 = true then (if x3_1.length < 140737488355328 then (value_PrintT.l0 k1 (x3_1 ++ [bt a0_2 x25_1]) (a0_2.size : Int) (wrap64 (x25_1 + 1)) a0_0 a0_1 a0_2) else (none)) else (if 0 ≤ ((bt a0_2 x25_1) / 16) then (if ((bt a0_2 x25_1) / 16) < 16 then (if 0 ≤ (Go.bits .and .u8 (bt a0_2 x25_1) 15) then (if (Go.bits .and .u8 (bt a0_2 x25_1) 15) < 16 then ((some (([92, bt (⟨#[48, 49, 50, 51, 52, 53, 54, 55, 56, 57, 97, 98, 99, 100, 101, 102]⟩ : ByteArray) ((bt a0_2 x25_1) / 16), bt (⟨#[48, 49, 50, 51, 52, 53, 54, 55, 56, 57, 97, 98, 99, 100, 101, 102]⟩ : ByteArray) (Go.bits .and .u8 (bt a0_2 x25_1) 15)] : List Int) : List Int)).bind fun y229 => (if x3_1.length + y229.length < 140737488355328 then (value_PrintT.l0 k1 (x3_1 ++ y229) (a0_2.size : Int) (wrap64 (x25_1 + 1)) a0_0 a0_1 a0_2) else (none))) else (none)) else (none)) else (none)) else (none))) = some r := H
         have A23 := Aside0.mk A230
         clear A230
         by_cases c24 : t225 = true
         ·subst c24
          have H1 : (if x3_1.length < 140737488355328 then (value_PrintT.l0 k1 (x3_1 ++ [bt a0_2 x25_1]) (a0_2.size : Int) (wrap64 (x25_1 + 1)) a0_0 a0_1 a0_2) else (none)) = some r := by rw [if_pos rfl] at H; exact H
          clear H
          have H := H1
          clear H1
          by_cases c25 : x3_1.length < 140737488355328
          ·rw [if_pos c25] at H
           have LMc25 := Aside0.mk c25
           clear c25
           obtain ⟨y226, hy226⟩ : ∃ y_ : List Int, y_ = (x3_1 ++ [bt a0_2 x25_1]) := ⟨_, rfl⟩
           replace H : (value_PrintT.l0 k1 y226 (a0_2.size : Int) (wrap64 (x25_1 + 1)) a0_0 a0_1 a0_2) = some r := by first | (rw [hy226]; with_reducible exact H) | (have H2_ := (Option.bind_some _ _).symm.trans H; rw [hy226]; with_reducible exact H2_) | (have H2_ := (Option.bind_some _ _).symm.trans H; with_reducible exact H2_) | with_reducible exact H | (rw [hy226]; exact H) | exact H
           have Ny226 := Aside0.mk hy226
           clear hy226
           have H' := Aside0.mk H
           clear H
           have hcz26_0 : wr.cell? ⟨gb219, 0, none⟩ = some (.int .i64 a0_0) := bc BK219 0
           have hcz26_1 : wr.cell? ⟨gb219, 1, none⟩ = some (.int .i64 a0_1) := bc BK219 1
           have hcz26_2 : wr.cell? ⟨gb219, 2, none⟩ = some (.string a0_2) := bc BK219 2
           have hfz26_0 := blk_frozen BK219.out 0
           have hfz26_1 := blk_frozen BK219.out 1
           have hfz26_2 := blk_frozen BK219.out 2
           have p22 : 0 ≤ (x25_1 : Int) := of_decide_eq_true (by first | (with_reducible assumption) | assumption)
           have q22 : x25_1 < (a0_2.size : Int) := of_decide_eq_true (by first | (with_reducible assumption) | assumption)
           have hx22 := bt_at a0_2 x25_1
           replace p22 := eq_true p22
           replace q22 := eq_true q22
           go_wp2_with (first | ((with_reducible refine gate_callee (f := 55) rfl ?_); refine goesL_ (some 33) rfl rfl Tryd.func55 (by kernel_rfl) rfl #[.int .u8 (bt a0_2 x25_1)] rfl (by (try simp only [List.map_toArray, List.map_cons, List.map_nil]); first | done | rfl | (simp only [List.length_drop, List.length_take]; rfl)) ?_; (with_reducible refine (value_plain.calls (bt a0_2 x25_1) true _ A23.out).mono ?_); rintro e w' ⟨rfl, ⟨nd, rfl⟩⟩; refine ⟨_, rfl, ?_⟩) | ((with_reducible refine gate_builtin (b := .append) (xs := #[.tmp 34, .tmp 36]) rfl ?_); at_builtin; refine Kd.R_append (Kd.int .u8) (w0 := w) w.heap.size rfl (.tmp 34) (.tmp 36) 63 5 (.int .u8 0) 1 rfl Tryd.underlying63 info5 rfl (by decide) (by omega) u3 x3_1 (bt a0_2 x25_1) [.int .u8 (bt a0_2 x25_1)] (fun _ => True) (fun _ => False) rfl rfl ?aP (fun _ hk => hk.elim) ?aF ?aO ?aB ?aS ?aL ?_; (case aP => exact rfl); (case aB => exact (by repeat (first | (with_reducible first | exact HB.out | apply below_alloc | apply pw_below_drewN | apply below_drew1 | refine below_set ?_ GE219.out) | exact HB.out))); (case aF => exact (fun _ _ => trivial)); (case aO => exact (by (with_reducible repeat (first | apply Kd.R_alloc | apply Kd.R_drewN | apply Kd.R_drew)); exact HO_3.out)); (case aS => exact (below_size (by repeat (first | (with_reducible first | exact HB.out | apply below_alloc | apply pw_below_drewN | apply below_drew1 | refine below_set ?_ GE219.out) | exact HB.out)))); (case aL => have := LMc25.out; omega); intro v227 w27 ho hb hg hat; rw [← Ny226.out] at ho; have HO228 := Aside0.mk (ho); replace BK219 := Aside0.mk (blk_grown (g := gb219) (o := .cells #[.int .i64 a0_0, .int .i64 a0_1, .string a0_2] 23 (0, 0)) (by (with_reducible repeat (first | refine blk_drewN ?_ _ | refine blk_drew ?_ | refine blk_alloc ?_ _)); exact BK219.out) hg (Kd.R_ne HO_3.out BK219.out (by decide))); replace HB := Aside0.mk (hb); clear HO_3; clear ho hb hg hat))
           go_roundg k1
           case measure => have := HK1.out; omega
           case rel => exact ⟨(y226), (wrap64 (x25_1 + 1)), (by first | rfl | (simp; done) | (simp [*]; done)), H', ⟨by have := HK1.out; omega⟩, ⟨by (with_reducible repeat (first | apply Kd.R_alloc | apply Kd.R_drewN | apply Kd.R_drew)); exact HO228.out⟩, ⟨by (with_reducible repeat (first | refine blk_drewN ?_ _ | refine blk_drew ?_ | refine blk_alloc ?_ _)); exact BK219.out⟩, ⟨by repeat (first | (with_reducible first | exact HB.out | apply below_alloc | apply pw_below_drewN | apply below_drew1 | refine below_set ?_ GE219.out) | exact HB.out)⟩⟩
          ·rw [if_neg c25] at H
           exact absurd H (by simp)
         ·replace c24 := Bool.eq_false_iff.mpr c24
          subst c24
          have H1 : (if 0 ≤ ((bt a0_2 x25_1) / 16) then (if ((bt a0_2 x25_1) / 16) < 16 then (if 0 ≤ (Go.bits .and .u8 (bt a0_2 x25_1) 15) then (if (Go.bits .and .u8 (bt a0_2 x25_1) 15) < 16 then ((some (([92, bt (⟨#[48, 49, 50, 51, 52, 53, 54, 55, 56, 57, 97, 98, 99, 100, 101, 102]⟩ : ByteArray) ((bt a0_2 x25_1) / 16), bt (⟨#[48, 49, 50, 51, 52, 53, 54, 55, 56, 57, 97, 98, 99, 100, 101, 102]⟩ : ByteArray) (Go.bits .and .u8 (bt a0_2 x25_1) 15)] : List Int) : List Int)).bind fun y229 => (if x3_1.length + y229.length < 140737488355328 then (value_PrintT.l0 k1 (x3_1 ++ y229) (a0_2.size : Int) (wrap64 (x25_1 + 1)) a0_0 a0_1 a0_2) else (none))) else (none)) else (none)) else (none)) else (none)) = some r := by rw [if_neg (show ¬ (false = true) by decide)] at H; exact H
          clear H
          have H := H1
          clear H1
          obtain ⟨ji28, hji28⟩ : ∃ j_ : Int, ((bt a0_2 x25_1) / 16) = j_ := ⟨_, rfl⟩
          replace H : (if 0 ≤ (ji28) then (if (ji28) < 16 then (if 0 ≤ (Go.bits .and .u8 (bt a0_2 x25_1) 15) then (if (Go.bits .and .u8 (bt a0_2 x25_1) 15) < 16 then ((some (([92, bt (⟨#[48, 49, 50, 51, 52, 53, 54, 55, 56, 57, 97, 98, 99, 100, 101, 102]⟩ : ByteArray) (ji28), bt (⟨#[48, 49, 50, 51, 52, 53, 54, 55, 56, 57, 97, 98, 99, 100, 101, 102]⟩ : ByteArray) (Go.bits .and .u8 (bt a0_2 x25_1) 15)] : List Int) : List Int)).bind fun y229 => (if x3_1.length + y229.length < 140737488355328 then (value_PrintT.l0 k1 (x3_1 ++ y229) (a0_2.size : Int) (wrap64 (x25_1 + 1)) a0_0 a0_1 a0_2) else (none))) else (none)) else (none)) else (none)) else (none)) = some r := by first | (rw [hji28] at H; exact H) | (simp only [hji28] at H ⊢; exact H)
          (try rw [hji28] at A23)
          by_cases c29 : 0 ≤ (ji28)
          ·rw [if_pos c29] at H
           have c29b0 : decide (0 ≤ (ji28)) = true := decide_eq_true c29
           clear c29
           by_cases c30 : (ji28) < 16
           ·rw [if_pos c30] at H
            have c30b0 : decide ((ji28) < 16) = true := decide_eq_true c30
            clear c30
            by_cases c32 : 0 ≤ (Go.bits .and .u8 (bt a0_2 x25_1) 15)
            ·rw [if_pos c32] at H
             have c32b0 : decide (0 ≤ (Go.bits .and .u8 (bt a0_2 x25_1) 15)) = true := decide_eq_true c32
             clear c32
             by_cases c33 : (Go.bits .and .u8 (bt a0_2 x25_1) 15) < 16
             ·rw [if_pos c33] at H
              have c33b0 : decide ((Go.bits .and .u8 (bt a0_2 x25_1) 15) < 16) = true := decide_eq_true c33
              clear c33
              obtain ⟨y229, hy229⟩ : ∃ y_ : List Int, y_ = (([92, bt (⟨#[48, 49, 50, 51, 52, 53, 54, 55, 56, 57, 97, 98, 99, 100, 101, 102]⟩ : ByteArray) (ji28), bt (⟨#[48, 49, 50, 51, 52, 53, 54, 55, 56, 57, 97, 98, 99, 100, 101, 102]⟩ : ByteArray) (Go.bits .and .u8 (bt a0_2 x25_1) 15)] : List Int)) := ⟨_, rfl⟩
              replace H : (if x3_1.length + y229.length < 140737488355328 then (value_PrintT.l0 k1 (x3_1 ++ y229) (a0_2.size : Int) (wrap64 (x25_1 + 1)) a0_0 a0_1 a0_2) else (none)) = some r := by first | (rw [hy229]; with_reducible exact H) | (have H2_ := (Option.bind_some _ _).symm.trans H; rw [hy229]; with_reducible exact H2_) | (have H2_ := (Option.bind_some _ _).symm.trans H; with_reducible exact H2_) | with_reducible exact H | (rw [hy229]; exact H) | exact H
              have Ny229 := Aside0.mk hy229
              clear hy229
              by_cases c35 : x3_1.length + y229.length < 140737488355328
              ·rw [if_pos c35] at H
               have LMc35 := Aside0.mk c35
               clear c35
               obtain ⟨y232, hy232⟩ : ∃ y_ : List Int, y_ = (x3_1 ++ y229) := ⟨_, rfl⟩
               replace H : (value_PrintT.l0 k1 y232 (a0_2.size : Int) (wrap64 (x25_1 + 1)) a0_0 a0_1 a0_2) = some r := by first | (rw [hy232]; with_reducible exact H) | (have H2_ := (Option.bind_some _ _).symm.trans H; rw [hy232]; with_reducible exact H2_) | (have H2_ := (Option.bind_some _ _).symm.trans H; with_reducible exact H2_) | with_reducible exact H | (rw [hy232]; exact H) | exact H
               have Ny232 := Aside0.mk hy232
               clear hy232
               have H' := Aside0.mk H
               clear H
               have hcz36_0 : wr.cell? ⟨gb219, 0, none⟩ = some (.int .i64 a0_0) := bc BK219 0
               have hcz36_1 : wr.cell? ⟨gb219, 1, none⟩ = some (.int .i64 a0_1) := bc BK219 1
               have hcz36_2 : wr.cell? ⟨gb219, 2, none⟩ = some (.string a0_2) := bc BK219 2
               have hfz36_0 := blk_frozen BK219.out 0
               have hfz36_1 := blk_frozen BK219.out 1
               have hfz36_2 := blk_frozen BK219.out 2
               have p22 : 0 ≤ (x25_1 : Int) := of_decide_eq_true (by first | (with_reducible assumption) | assumption)
               have q22 : x25_1 < (a0_2.size : Int) := of_decide_eq_true (by first | (with_reducible assumption) | assumption)
               have hx22 := bt_at a0_2 x25_1
               replace p22 := eq_true p22
               replace q22 := eq_true q22
               try go_wp2_with (first | ((with_reducible refine gate_callee (f := 55) rfl ?_); refine goesL_ (some 33) rfl rfl Tryd.func55 (by kernel_rfl) rfl #[.int .u8 (bt a0_2 x25_1)] rfl (by (try simp only [List.map_toArray, List.map_cons, List.map_nil]); first | done | rfl | (simp only [List.length_drop, List.length_take]; rfl)) ?_; (with_reducible refine (value_plain.calls (bt a0_2 x25_1) false _ A23.out).mono ?_); rintro e w' ⟨rfl, ⟨nd, rfl⟩⟩; refine ⟨_, rfl, ?_⟩))
               (try (rw [drewN_self wr]; generalize hq_ : World.drewN wr _ = wr; replace HO_3 : Aside0 (Kd.R (Kd.int .u8) 5 wr w.heap.size (fun _ => True) u3 x3_1) := ⟨by rw [← hq_]; exact (by (with_reducible repeat (first | apply Kd.R_alloc | apply Kd.R_drewN | apply Kd.R_drew)); exact HO_3.out)⟩; replace BK219 : Aside0 (wr.heap[gb219]? = some (.cells #[.int .i64 a0_0, .int .i64 a0_1, .string a0_2] 23 (0, 0))) := ⟨by rw [← hq_]; exact (by (with_reducible repeat (first | refine blk_drewN ?_ _ | refine blk_drew ?_ | refine blk_alloc ?_ _)); exact BK219.out)⟩; replace HB : Aside0 (Below w.heap.size w wr) := ⟨by rw [← hq_]; exact (by repeat (first | (with_reducible first | exact HB.out | apply below_alloc | apply pw_below_drewN | apply below_drew1 | refine below_set ?_ GE219.out) | exact HB.out))⟩; clear hq_))
               replace HO_3 := Aside0.mk (Kd.R_drew HO_3.out)
               replace BK219 := Aside0.mk (blk_drew BK219.out)
               replace HB := Aside0.mk (below_drew1 HB.out)
               have p31 : 0 ≤ ((ji28) : Int) := of_decide_eq_true (by first | (with_reducible assumption) | assumption)
               have q31 : (ji28) < (16 : Int) := of_decide_eq_true (by first | (with_reducible assumption) | assumption)
               have hx31 := bt_at (⟨#[48, 49, 50, 51, 52, 53, 54, 55, 56, 57, 97, 98, 99, 100, 101, 102]⟩ : ByteArray) (ji28)
               replace p31 := eq_true p31
               replace q31 := eq_true q31
               have p34 : 0 ≤ ((Go.bits .and .u8 (bt a0_2 x25_1) 15) : Int) := of_decide_eq_true (by first | (with_reducible assumption) | assumption)
               have q34 : (Go.bits .and .u8 (bt a0_2 x25_1) 15) < (16 : Int) := of_decide_eq_true (by first | (with_reducible assumption) | assumption)
               have hx34 := bt_at (⟨#[48, 49, 50, 51, 52, 53, 54, 55, 56, 57, 97, 98, 99, 100, 101, 102]⟩ : ByteArray) (Go.bits .and .u8 (bt a0_2 x25_1) 15)
               replace p34 := eq_true p34
               replace q34 := eq_true q34
               refine start_ (n := 10) (S := fun w' => True) (ds := []) #[false, false, false, false, false, false, false, false, false, false] (by kernel_rfl) rfl rfl trivial (fun hHeld => ?_); refine with_tabW value_PrintT.tab15 value_PrintT.bits15 (fun HT_ HW_ => ?_)
               generalize wr.drew = w37 at HO_3 BK219 HB hHeld ⊢
               refine pureA 0 38 #[true, false, false, false, false, false, false, false, false, false] HT_ ?_
               refine pureA 1 39 #[true, true, false, false, false, false, false, false, false, false] HT_ ?_
               refine pureA 2 40 #[true, true, true, false, false, false, false, false, false, false] HT_ ?_
               refine pureA 4 42 #[true, true, true, false, true, false, false, false, false, false] HT_ ?_
               refine pureA 5 43 #[true, true, true, false, true, true, false, false, false, false] HT_ ?_
               refine take_ (i := 3) (N := some 41) (v := ?_) (a' := ?_) #[true, true, true, true, true, true, false, false, false, false] rfl rfl (take_ofW HT_.out HW_.out (by kernel_rfl)) (fun _ _ _ h => h) (Or.inl ⟨by rfl, ?_⟩) hHeld ?_ ?_
               rotate_left
               ·intro w' _
                go_simp
                with_reducible rfl
               rotate_left
               ·simp only [Act.put, List.setIfInBounds_toArray, List.set_cons_zero, List.set_cons_succ, i64_w, i32_w]
                rfl
               refine take_ (i := 6) (N := some 44) (v := ?_) (a' := ?_) #[true, true, true, true, true, true, true, false, false, false] rfl rfl (take_ofW HT_.out HW_.out (by kernel_rfl)) (fun _ _ _ h => h) (Or.inl ⟨by rfl, ?_⟩) hHeld ?_ ?_
               rotate_left
               ·intro w' _
                go_simp
                with_reducible rfl
               rotate_left
               ·simp only [Act.put, List.setIfInBounds_toArray, List.set_cons_zero, List.set_cons_succ, i64_w, i32_w]
                rfl
               refine one_ (i := 7) (N := some 45) #[true, true, true, true, true, true, true, true, false, false] rfl rfl (one_of HT_.out (by kernel_rfl)) (by decide) (fun K hK => ?_)
               refine Kd.R_lit_step (Kd.int .u8) _ 5 ?hg (N := 45) ?hd (xs := ([92, bt (⟨#[48, 49, 50, 51, 52, 53, 54, 55, 56, 57, 97, 98, 99, 100, 101, 102]⟩ : ByteArray) (ji28), bt (⟨#[48, 49, 50, 51, 52, 53, 54, 55, 56, 57, 97, 98, 99, 100, 101, 102]⟩ : ByteArray) (Go.bits .and .u8 (bt a0_2 x25_1) 15)] : List Int)) (inner := [.int .u8 92, .int .u8 (bt (⟨#[48, 49, 50, 51, 52, 53, 54, 55, 56, 57, 97, 98, 99, 100, 101, 102]⟩ : ByteArray) (ji28)), .int .u8 (bt (⟨#[48, 49, 50, 51, 52, 53, 54, 55, 56, 57, 97, 98, 99, 100, 101, 102]⟩ : ByteArray) (Go.bits .and .u8 (bt a0_2 x25_1) 15))]) (ok := fun _ => True) (okp := fun _ => True) ?hr ?hp (fun _ hk => hk) trivial (Below.refl _ _) (Nat.le_refl _) (by simp) ?_; (case hd => rfl); (case hg => rfl); (case hr => first | (go_simp; done) | (go_simp; rfl)); (case hp => exact (Reps.one (show Kd.M (Kd.int .u8) _ _ _ 92 [.int .u8 92] from rfl) (Reps.one (show Kd.M (Kd.int .u8) _ _ _ (bt (⟨#[48, 49, 50, 51, 52, 53, 54, 55, 56, 57, 97, 98, 99, 100, 101, 102]⟩ : ByteArray) (ji28)) [.int .u8 (bt (⟨#[48, 49, 50, 51, 52, 53, 54, 55, 56, 57, 97, 98, 99, 100, 101, 102]⟩ : ByteArray) (ji28))] from rfl) (Reps.one (show Kd.M (Kd.int .u8) _ _ _ (bt (⟨#[48, 49, 50, 51, 52, 53, 54, 55, 56, 57, 97, 98, 99, 100, 101, 102]⟩ : ByteArray) (Go.bits .and .u8 (bt a0_2 x25_1) 15)) [.int .u8 (bt (⟨#[48, 49, 50, 51, 52, 53, 54, 55, 56, 57, 97, 98, 99, 100, 101, 102]⟩ : ByteArray) (Go.bits .and .u8 (bt a0_2 x25_1) 15))] from rfl) (Reps.none _ _)))))
               intro v230 w38 ho39 hb hg_ hnew_
               clear hg_ hnew_
               (first | rw [← Ny229.out] at ho39 | (simp only [Int.reduceToNat] at ho39; rw [← Ny229.out] at ho39))
               have HO231 := Aside0.mk (Kd.R_lower (Kd.R_new' ho39 (Kd.R_lt (by (with_reducible repeat (first | apply Kd.R_alloc | apply Kd.R_drewN | apply Kd.R_drew)); exact HO_3.out))) (below_size (by repeat (first | (with_reducible first | exact HB.out | apply below_alloc | apply pw_below_drewN | apply below_drew1 | refine below_set ?_ GE219.out) | exact HB.out))))
               replace HO_3 := Aside0.mk (Kd.R_elder' (by (with_reducible repeat (first | apply Kd.R_alloc | apply Kd.R_drewN | apply Kd.R_drew)); exact HO_3.out) (Kd.R_base ho39) hb)
               replace BK219 := blkB BK219 hb
               replace HB := stepB HB hb
               clear hb ho39
               obtain ⟨Ao41, co41, eo41⟩ := Kd.R_slice HO231.out
               (first | subst eo41 | (injection eo41 with f1_ f2_ f3_; have f4_ := f1_.symm; have f5_ := f3_.symm; clear f1_ f2_ f3_; subst f4_; subst f5_))
               refine hK.out _ _ trivial (fun hHeld => ?_)
               clear hK K
               refine normA 45 ?_
               refine one_ (i := 8) (N := some 46) #[true, true, true, true, true, true, true, true, true, false] rfl rfl (one_of HT_.out (by kernel_rfl)) (by decide) (fun K hK => ?_)
               refine Kd.R_append_rows_step (Kd.int .u8) (w0 := w) w.heap.size (by rfl) (.tmp 38) (.tmp 45) 63 5 (.int .u8 0) 1 rfl Tryd.underlying63 info5 rfl (by decide) (by omega) u3 x3_1 y229 _ _ _ (fun k_ => some k_ ≠ (.slice Ao41 y229.length co41 : Value).ownBlock) (fun _ => False) rfl rfl ?aO ?aR (fun _ _ h => h) (fun _ h => h.elim) ?aF ?aB ?aS ?aL ?_
               (case aR => repeat (first | exact (Kd.R_reads' HO231.out).2.2 | (with_reducible refine Kd.C_alloc ?_ _) | (with_reducible refine Kd.C_drewN ?_ _) | (with_reducible refine Kd.C_drew ?_)))
               (case aB => exact (by repeat (first | (with_reducible first | exact HB.out | apply below_alloc | apply pw_below_drewN | apply below_drew1 | refine below_set ?_ GE219.out) | exact HB.out)))
               (case aF => exact (fun k_ hk => Kd.fresh' (Kd.R_lt (by (with_reducible repeat (first | apply Kd.R_alloc | apply Kd.R_drewN | apply Kd.R_drew)); exact HO231.out)) k_ hk))
               (case aO => exact (by (with_reducible repeat (first | apply Kd.R_alloc | apply Kd.R_drewN | apply Kd.R_drew)); exact Kd.R_mono HO_3.out (fun _ hk => hk.2)))
               (case aS => exact (below_size (by repeat (first | (with_reducible first | exact HB.out | apply below_alloc | apply pw_below_drewN | apply below_drew1 | refine below_set ?_ GE219.out) | exact HB.out))))
               (case aL => have := LMc35.out; omega)
               intro v233 w40 ho hb hg hat
               rw [← Ny232.out] at ho
               have HO234 := Aside0.mk (ho)
               replace BK219 := Aside0.mk (blk_grown (g := gb219) (o := .cells #[.int .i64 a0_0, .int .i64 a0_1, .string a0_2] 23 (0, 0)) (by (with_reducible repeat (first | refine blk_drewN ?_ _ | refine blk_drew ?_ | refine blk_alloc ?_ _)); exact BK219.out) hg (Kd.R_ne HO_3.out BK219.out (by decide)))
               replace HO231 := Aside0.mk (Kd.R_after (ok := (fun _ => True)) (by (with_reducible repeat (first | apply Kd.R_alloc | apply Kd.R_drewN | apply Kd.R_drew)); exact HO231.out) hg hat)
               replace HB := Aside0.mk (hb)
               clear HO_3
               clear ho hb hg hat
               refine hK.out _ _ trivial (fun hHeld => ?_)
               clear hK K
               refine normA 46 ?_
               refine pureA 9 3 #[true, true, true, true, true, true, true, true, true, true] HT_ ?_
               refine done_ (done_of HT_.out (by kernel_rfl)) ?_
               try go_wp2
               go_roundg k1
               case measure => have := HK1.out; omega
               case rel => exact ⟨(y232), (wrap64 (x25_1 + 1)), (by first | rfl | (simp; done) | (simp [*]; done)), H', ⟨by have := HK1.out; omega⟩, ⟨by (with_reducible repeat (first | apply Kd.R_alloc | apply Kd.R_drewN | apply Kd.R_drew)); exact Kd.R_mono HO234.out (fun _ hk => trivial)⟩, ⟨by (with_reducible repeat (first | refine blk_drewN ?_ _ | refine blk_drew ?_ | refine blk_alloc ?_ _)); exact BK219.out⟩, ⟨by repeat (first | (with_reducible first | exact HB.out | apply below_alloc | apply pw_below_drewN | apply below_drew1 | refine below_set ?_ GE219.out) | exact HB.out)⟩⟩
              ·rw [if_neg c35] at H
               exact absurd H (by simp)
             ·rw [if_neg c33] at H
              exact absurd H (by simp)
            ·rw [if_neg c32] at H
             exact absurd H (by simp)
           ·rw [if_neg c30] at H
            exact absurd H (by simp)
          ·rw [if_neg c29] at H
           exact absurd H (by simp)
        ·rw [if_neg c21] at H
         exact absurd H (by simp)
       ·rw [if_neg c20] at H
        exact absurd H (by simp)
      ·rw [if_neg c19] at H
       have c19b0 : decide (x25_1 < (a0_2.size : Int)) = false := decide_eq_false c19
       clear c19
       by_cases c42 : x3_1.length < 140737488355328
       ·rw [if_pos c42] at H
        have LMc42 := Aside0.mk c42
        clear c42
        obtain ⟨y235, hy235⟩ : ∃ y_ : List Int, y_ = (x3_1 ++ [39]) := ⟨_, rfl⟩
        replace H : (some (strOfNums y235)) = some r := by first | (rw [hy235]; with_reducible exact H) | (have H2_ := (Option.bind_some _ _).symm.trans H; rw [hy235]; with_reducible exact H2_) | (have H2_ := (Option.bind_some _ _).symm.trans H; with_reducible exact H2_) | with_reducible exact H | (rw [hy235]; exact H) | exact H
        have Ny235 := Aside0.mk hy235
        clear hy235
        obtain rfl := Option.some.inj H
        go_wp2_with (first | ((with_reducible refine gate_builtin (b := .append) (xs := #[.tmp 48, .tmp 49]) rfl ?_); at_builtin; refine Kd.R_append (Kd.int .u8) (w0 := w) w.heap.size rfl (.tmp 48) (.tmp 49) 63 5 (.int .u8 0) 1 rfl Tryd.underlying63 info5 rfl (by decide) (by omega) u3 x3_1 39 [.int .u8 39] (fun _ => True) (fun _ => False) rfl rfl ?aP (fun _ hk => hk.elim) ?aF ?aO ?aB ?aS ?aL ?_; (case aP => exact rfl); (case aB => exact (by repeat (first | (with_reducible first | exact HB.out | apply below_alloc | apply pw_below_drewN | apply below_drew1 | refine below_set ?_ GE219.out) | exact HB.out))); (case aF => exact (fun _ _ => trivial)); (case aO => exact (by (with_reducible repeat (first | apply Kd.R_alloc | apply Kd.R_drewN | apply Kd.R_drew)); exact HO_3.out)); (case aS => exact (below_size (by repeat (first | (with_reducible first | exact HB.out | apply below_alloc | apply pw_below_drewN | apply below_drew1 | refine below_set ?_ GE219.out) | exact HB.out)))); (case aL => have := LMc42.out; omega); intro v236 w43 ho hb hg hat; rw [← Ny235.out] at ho; have HO237 := Aside0.mk (ho); replace BK219 := Aside0.mk (blk_grown (g := gb219) (o := .cells #[.int .i64 a0_0, .int .i64 a0_1, .string a0_2] 23 (0, 0)) (by (with_reducible repeat (first | refine blk_drewN ?_ _ | refine blk_drew ?_ | refine blk_alloc ?_ _)); exact BK219.out) hg (Kd.R_ne HO_3.out BK219.out (by decide))); replace HB := Aside0.mk (hb); clear HO_3; clear ho hb hg hat; have hcv44 := own_string (P := Tryd.prog) Tryd.underlying63 Tryd.underlying5 Tryd.underlying9 (Kd.own_of_R HO237.out)))
        go_ret
        exact ⟨by first | rfl | (simp [errW_none, errW_some] <;> rfl) | (simp [*, errW_none, errW_some] <;> rfl), by repeat (first | (with_reducible first | exact HB.out | apply below_alloc | apply pw_below_drewN | apply below_drew1 | refine below_set ?_ GE219.out) | exact HB.out)⟩
       ·rw [if_neg c42] at H
        exact absurd H (by simp)
end Go.Proofs.YtmhnfdgegejlkaaDoor.P
end

section
namespace Go.Proofs.YtmhnfdgegejlkaaDoor.P
open Go.RowKit Go.Proofs.YtmhnfdgegejlkaaDoorW.PrintWords Go.Proofs.YtmhnfdgegejlkaaDoorW.PrintLast Go.Proofs.YtmhnfdgegejlkaaDoorW.PrintMore
attribute [local go_sem] max2_int min2_int max_two min_two max_three min_three max_four min_four
set_option linter.unusedVariables false
set_option linter.unusedSimpArgs false
attribute [local go_sem high] eqA23
def alumlaw19_ValuePrintsT.l0 : Nat → ByteArray → Int → Int → Int → ByteArray → Option (Bool)
 | 0, _, _, _, _, _ => none
 | k + 1, x3, x4, x863000, x863001, x863002 => if x4 < (x3.size : Int) then (if 0 ≤ x4 then (if (bt x3 x4) < 32 then (none) else (if (bt x3 x4) > 126 then (none) else (alumlaw19_ValuePrintsT.l0 k x3 (wrap64 (x4 + 1)) x863000 x863001 x863002))) else (none)) else ((value_ParseT.f x3).bind fun bt866 => ((alumlaw19_sanity.f k).bind fun t871 => (if t871 = true then (if bt866.2.2.2 = true then (some (bt866.1 == x863000 && (bt866.2.1 == x863001 && (bt866.2.2.1.toList == x863002.toList)))) else (none)) else (none))))
def alumlaw19_ValuePrintsT.f (k : Nat) (a0_0 : Int) (a0_1 : Int) (a0_2 : ByteArray) : Option (Bool) := (alumref19_Right.f a0_0 a0_1 a0_2).bind fun t863 => (if t863 = true then ((value_PrintT.f k a0_0 a0_1 a0_2).bind fun t865 => (alumlaw19_ValuePrintsT.l0 k t865 0 a0_0 a0_1 a0_2)) else ((alumlaw19_sanity.f k).bind fun t864 => (some t864)))
set_option maxHeartbeats 8000000 in
set_option maxRecDepth 100000 in
theorem alumlaw19_ValuePrintsT.calls (k : Nat) (a0_0 : Int) (a0_1 : Int) (a0_2 : ByteArray) (r : Bool) (w : World) (htab : TabW w) (h : alumlaw19_ValuePrintsT.f k a0_0 a0_1 a0_2 = some r) :
  Calls Tryd.prog 10 #[.agg #[.int .i64 a0_0, .int .i64 a0_1, .string a0_2]] w fun e w' => e = .returned (.bool r) ∧ Below w.heap.size w w' := by
 have hu23 := Tryd.underlying23
 have HB := Aside0.mk (Below.refl w.heap.size w)
 have HTAB := Aside0.mk htab
 clear htab
 have H : ((alumref19_Right.f a0_0 a0_1 a0_2).bind fun t863 => (if t863 = true then ((value_PrintT.f k a0_0 a0_1 a0_2).bind fun t865 => (alumlaw19_ValuePrintsT.l0 k t865 0 a0_0 a0_1 a0_2)) else ((alumlaw19_sanity.f k).bind fun t864 => (some t864)))) = some r := h
 clear h
 replace H := Option.bind_eq_some_iff.mp H
 obtain ⟨t863, A20, H⟩ := H
 replace H : (if t863 = true then ((value_PrintT.f k a0_0 a0_1 a0_2).bind fun t865 => (alumlaw19_ValuePrintsT.l0 k t865 0 a0_0 a0_1 a0_2)) else ((alumlaw19_sanity.f k).bind fun t864 => (some t864))) = some r := H
 have A2 := Aside0.mk A20
 clear A20
 by_cases c3 : t863 = true
 ·subst c3
  have H1 : ((value_PrintT.f k a0_0 a0_1 a0_2).bind fun t865 => (alumlaw19_ValuePrintsT.l0 k t865 0 a0_0 a0_1 a0_2)) = some r := by rw [if_pos rfl] at H; exact H
  clear H
  have H := H1
  clear H1
  replace H := Option.bind_eq_some_iff.mp H
  obtain ⟨t865, A40, H⟩ := H
  replace H : (alumlaw19_ValuePrintsT.l0 k t865 0 a0_0 a0_1 a0_2) = some r := H
  have A4 := Aside0.mk A40
  clear A40
  have H' := Aside0.mk H
  clear H
  go_enter Tryd.func10, Tryd.ntmps10
  go_wp2_with (first | ((with_reducible refine gate_dst (N := 1) rfl ?_); refine box_event ?hg (N := 1) ?hd (cs := #[.int .i64 a0_0, .int .i64 a0_1, .string a0_2]) (t := 23) ?hr ?_; (case hd => rfl); (case hg => rfl); (case hr => first | (go_simp; done) | (go_simp; rfl)); intro gb862 hg w5 hbox hb; have BK862 := Aside0.mk (hbox); have GW862 := (sizeB HB hg : Aside0 (w.heap.size ≤ gb862)); have GE862 := (sizeB HB hg : Aside0 (w.heap.size ≤ gb862)); replace HB := stepB HB hb; clear hb hbox hg; have hcz6_0 : w5.cell? ⟨gb862, 0, none⟩ = some (.int .i64 a0_0) := bc BK862 0; have hcz6_1 : w5.cell? ⟨gb862, 1, none⟩ = some (.int .i64 a0_1) := bc BK862 1; have hcz6_2 : w5.cell? ⟨gb862, 2, none⟩ = some (.string a0_2) := bc BK862 2; have hfz6_0 := blk_frozen BK862.out 0; have hfz6_1 := blk_frozen BK862.out 1; have hfz6_2 := blk_frozen BK862.out 2) | ((with_reducible refine gate_callee (f := 11) rfl ?_); refine goesL_ (some 8) rfl rfl Tryd.func11 (by kernel_rfl) rfl #[.agg #[.int .i64 a0_0, .int .i64 a0_1, .string a0_2]] rfl (by (try simp only [List.map_toArray, List.map_cons, List.map_nil]); first | done | rfl | (simp only [List.length_drop, List.length_take]; rfl)) ?_; (with_reducible refine (alumref19_Right.calls a0_0 a0_1 a0_2 true _ A2.out).mono ?_); rintro e w7 ⟨rfl, hb⟩; refine ⟨_, rfl, ?_⟩; replace BK862 := blkB BK862 hb; replace HB := stepB HB hb; (try clear hb); (try clear hb2); (try clear hk); (try clear hi); have hcz8_0 : w7.cell? ⟨gb862, 0, none⟩ = some (.int .i64 a0_0) := bc BK862 0; have hcz8_1 : w7.cell? ⟨gb862, 1, none⟩ = some (.int .i64 a0_1) := bc BK862 1; have hcz8_2 : w7.cell? ⟨gb862, 2, none⟩ = some (.string a0_2) := bc BK862 2; have hfz8_0 := blk_frozen BK862.out 0; have hfz8_1 := blk_frozen BK862.out 1; have hfz8_2 := blk_frozen BK862.out 2) | ((with_reducible refine gate_callee (f := 29) rfl ?_); refine goesL_ (some 12) rfl rfl Tryd.func29 (by kernel_rfl) rfl #[.agg #[.int .i64 a0_0, .int .i64 a0_1, .string a0_2]] rfl (by (try simp only [List.map_toArray, List.map_cons, List.map_nil]); first | done | rfl | (simp only [List.length_drop, List.length_take]; rfl)) ?_; (with_reducible refine (value_PrintT.calls (htab := tab_below HTAB.out (by repeat (first | (with_reducible first | exact HB.out | apply below_alloc | apply pw_below_drewN | apply below_drew1 | refine below_set ?_ GE862.out) | exact HB.out))) k a0_0 a0_1 a0_2 t865 _ A4.out).mono ?_); rintro e w9 ⟨rfl, hb⟩; refine ⟨_, rfl, ?_⟩; replace BK862 := blkB BK862 hb; replace HB := stepB HB hb; (try clear hb); (try clear hb2); (try clear hk); (try clear hi)))
  go_loopg [4] k (fun kq v4 w' => ∃ (x4_1 : Int), v4 = .int .i64 x4_1 ∧ Aside0 (alumlaw19_ValuePrintsT.l0 kq t865 x4_1 a0_0 a0_1 a0_2 = some r) ∧ Aside0 (kq ≤ k) ∧ Aside0 (w'.heap[gb862]? = some (.cells #[.int .i64 a0_0, .int .i64 a0_1, .string a0_2] 23 (0, 0))) ∧ Aside0 (Below w.heap.size w w'))
  case atStart => exact ⟨(0), (by first | rfl | (simp; done) | (simp [*]; done)), H', ⟨Nat.le_refl _⟩, ⟨by (with_reducible repeat (first | refine blk_drewN ?_ _ | refine blk_drew ?_ | refine blk_alloc ?_ _)); exact BK862.out⟩, ⟨by repeat (first | (with_reducible first | exact HB.out | apply below_alloc | apply pw_below_drewN | apply below_drew1 | refine below_set ?_ GE862.out) | exact HB.out)⟩⟩
  case round =>
   clear H'
   try clear c1
   try clear c2
   try clear p2
   try clear c3
   try clear hcz6_0
   try clear hcz6_1
   try clear hcz6_2
   try clear hcz8_0
   try clear hcz8_1
   try clear hcz8_2
   try clear hfz6_0
   try clear hfz6_1
   try clear hfz6_2
   try clear hfz8_0
   try clear hfz8_1
   try clear hfz8_2
   obtain ⟨x4_1, rfl, HA, HK1, BK862, HB⟩ := hrel
   cases gk with
   | zero => exact absurd HA.out (by simp [alumlaw19_ValuePrintsT.l0])
   | succ k1 =>
    have H := HA.out
    clear HA
    simp only [alumlaw19_ValuePrintsT.l0] at H
    by_cases c10 : x4_1 < (t865.size : Int)
    ·rw [if_pos c10] at H
     have c10b0 : decide (x4_1 < (t865.size : Int)) = true := decide_eq_true c10
     clear c10
     by_cases c11 : 0 ≤ x4_1
     ·rw [if_pos c11] at H
      have c11b0 : decide (0 ≤ x4_1) = true := decide_eq_true c11
      clear c11
      by_cases c13 : (bt t865 x4_1) < 32
      ·rw [if_pos c13] at H
       exact absurd H (by simp)
      ·rw [if_neg c13] at H
       have c13b0 : decide ((bt t865 x4_1) < 32) = false := decide_eq_false c13
       clear c13
       by_cases c15 : (bt t865 x4_1) > 126
       ·rw [if_pos c15] at H
        exact absurd H (by simp)
       ·rw [if_neg c15] at H
        have c15b0 : decide (126 < (bt t865 x4_1)) = false := decide_eq_false c15
        clear c15
        have H' := Aside0.mk H
        clear H
        have p12 : 0 ≤ (x4_1 : Int) := of_decide_eq_true (by first | (with_reducible assumption) | assumption)
        have q12 : x4_1 < (t865.size : Int) := of_decide_eq_true (by first | (with_reducible assumption) | assumption)
        have hx12 := bt_at t865 x4_1
        replace p12 := eq_true p12
        replace q12 := eq_true q12
        have p14 : 0 ≤ (x4_1 : Int) := of_decide_eq_true (by first | (with_reducible assumption) | assumption)
        have q14 : x4_1 < (t865.size : Int) := of_decide_eq_true (by first | (with_reducible assumption) | assumption)
        have hx14 := bt_at t865 x4_1
        replace p14 := eq_true p14
        replace q14 := eq_true q14
        go_wp2
        go_roundg k1
        case measure => have := HK1.out; omega
        case rel => exact ⟨(wrap64 (x4_1 + 1)), (by first | rfl | (simp; done) | (simp [*]; done)), H', ⟨by have := HK1.out; omega⟩, ⟨by (with_reducible repeat (first | refine blk_drewN ?_ _ | refine blk_drew ?_ | refine blk_alloc ?_ _)); exact BK862.out⟩, ⟨by repeat (first | (with_reducible first | exact HB.out | apply below_alloc | apply pw_below_drewN | apply below_drew1 | refine below_set ?_ GE862.out) | exact HB.out)⟩⟩
     ·rw [if_neg c11] at H
      exact absurd H (by simp)
    ·rw [if_neg c10] at H
     have c10b0 : decide (x4_1 < (t865.size : Int)) = false := decide_eq_false c10
     clear c10
     replace H := Option.bind_eq_some_iff.mp H
     obtain ⟨⟨t866, t867, t868, t869⟩, A160, H⟩ := H
     replace H : ((alumlaw19_sanity.f k1).bind fun t871 => (if t871 = true then (if t869 = true then (some (t866 == a0_0 && (t867 == a0_1 && (t868.toList == a0_2.toList)))) else (none)) else (none))) = some r := H
     have A16 := Aside0.mk A160
     clear A160
     replace H := Option.bind_eq_some_iff.mp H
     obtain ⟨t871, A170, H⟩ := H
     replace H : (if t871 = true then (if t869 = true then (some (t866 == a0_0 && (t867 == a0_1 && (t868.toList == a0_2.toList)))) else (none)) else (none)) = some r := H
     have A17 := Aside0.mk A170
     clear A170
     by_cases c18 : t871 = true
     ·subst c18
      have H1 : (if t869 = true then (some (t866 == a0_0 && (t867 == a0_1 && (t868.toList == a0_2.toList)))) else (none)) = some r := by rw [if_pos rfl] at H; exact H
      clear H
      have H := H1
      clear H1
      by_cases c19 : t869 = true
      ·subst c19
       have H1 : (some (t866 == a0_0 && (t867 == a0_1 && (t868.toList == a0_2.toList)))) = some r := by rw [if_pos rfl] at H; exact H
       clear H
       have H := H1
       clear H1
       obtain rfl := Option.some.inj H
       go_wp2_with (first | ((with_reducible refine gate_callee (f := 40) rfl ?_); refine goesL_ (some 31) rfl rfl Tryd.func40 (by kernel_rfl) rfl #[.string t865] rfl (by (try simp only [List.map_toArray, List.map_cons, List.map_nil]); first | done | rfl | (simp only [List.length_drop, List.length_take]; rfl)) ?_; (with_reducible refine (value_ParseT.calls (htab := tab_below HTAB.out (by repeat (first | (with_reducible first | exact HB.out | apply below_alloc | apply pw_below_drewN | apply below_drew1 | refine below_set ?_ GE862.out) | exact HB.out))) t865 t866 t867 t868 true _ A16.out).mono ?_); rintro e w20 ⟨rfl, hb⟩; refine ⟨_, rfl, ?_⟩; replace BK862 := blkB BK862 hb; replace HB := stepB HB hb; (try clear hb); (try clear hb2); (try clear hk); (try clear hi)) | ((with_reducible refine gate_dst (N := 5) rfl ?_); refine box_event ?hg (N := 5) ?hd (cs := #[.int .i64 0, .int .i64 0, .string (⟨#[]⟩ : ByteArray)]) (t := 23) ?hr ?_; (case hd => rfl); (case hg => rfl); (case hr => first | (go_simp; done) | (go_simp; rfl)); intro gb870 hg w21 hbox hb; have BK870 := Aside0.mk (hbox); have GW870 := (sizeB HB hg : Aside0 (w.heap.size ≤ gb870)); have GE870 := (sizeB HB hg : Aside0 (w.heap.size ≤ gb870)); have NB862_870 := neB BK862 hg; have NB870_862 := neC BK862 hg; replace BK862 := blkB BK862 hb; replace HB := stepB HB hb; clear hb hbox hg; have hnb22 := NB870_862.out; have hnc22 := NB862_870.out; have hcz23_0 : w21.cell? ⟨gb870, 0, none⟩ = some (.int .i64 0) := bc BK870 0; have hcz23_1 : w21.cell? ⟨gb870, 1, none⟩ = some (.int .i64 0) := bc BK870 1; have hcz23_2 : w21.cell? ⟨gb870, 2, none⟩ = some (.string (⟨#[]⟩ : ByteArray)) := bc BK870 2; have hfz23_0 := blk_frozen BK870.out 0; have hfz23_1 := blk_frozen BK870.out 1; have hfz23_2 := blk_frozen BK870.out 2) | ((with_reducible refine gate_callee (f := 12) rfl ?_); refine goesL_ (some 34) rfl rfl Tryd.func12 (by kernel_rfl) rfl #[] rfl (by (try simp only [List.map_toArray, List.map_cons, List.map_nil]); first | done | rfl | (simp only [List.length_drop, List.length_take]; rfl)) ?_; (with_reducible refine (alumlaw19_sanity.calls k1  true _ A17.out).mono ?_); rintro e w24 ⟨rfl, hb⟩; refine ⟨_, rfl, ?_⟩; replace BK862 := Aside0.mk (blk_below (g := gb862) (o := .cells #[.int .i64 a0_0, .int .i64 a0_1, .string a0_2] 23 (0, 0)) (by (with_reducible repeat (first | refine blk_drewN ?_ _ | refine blk_drew ?_ | refine blk_alloc ?_ _)); refine blk_far ?_ NB862_870.out _; (with_reducible repeat (first | refine blk_drewN ?_ _ | refine blk_drew ?_ | refine blk_alloc ?_ _)); refine blk_far ?_ NB862_870.out _; (with_reducible repeat (first | refine blk_drewN ?_ _ | refine blk_drew ?_ | refine blk_alloc ?_ _)); refine blk_far ?_ NB862_870.out _; (with_reducible repeat (first | refine blk_drewN ?_ _ | refine blk_drew ?_ | refine blk_alloc ?_ _)); exact BK862.out) hb); replace BK870 := Aside0.mk (blk_below (g := gb870) (o := .cells #[.int .i64 t866, .int .i64 t867, .string t868] 23 (0, 0)) (by (with_reducible repeat (first | refine blk_drewN ?_ _ | refine blk_drew ?_ | refine blk_alloc ?_ _)); refine blk_put (cs := #[.int .i64 t866, .int .i64 t867, .string (⟨#[]⟩ : ByteArray)]) ?_ 2 _ rfl; (with_reducible repeat (first | refine blk_drewN ?_ _ | refine blk_drew ?_ | refine blk_alloc ?_ _)); refine blk_put (cs := #[.int .i64 t866, .int .i64 0, .string (⟨#[]⟩ : ByteArray)]) ?_ 1 _ rfl; (with_reducible repeat (first | refine blk_drewN ?_ _ | refine blk_drew ?_ | refine blk_alloc ?_ _)); refine blk_put (cs := #[.int .i64 0, .int .i64 0, .string (⟨#[]⟩ : ByteArray)]) ?_ 0 _ rfl; (with_reducible repeat (first | refine blk_drewN ?_ _ | refine blk_drew ?_ | refine blk_alloc ?_ _)); exact BK870.out) hb); replace HB := stepB HB hb; (try clear hb); (try clear hb2); (try clear hk); (try clear hi); have hcz25_0 : w24.cell? ⟨gb870, 0, none⟩ = some (.int .i64 t866) := bc BK870 0; have hcz25_1 : w24.cell? ⟨gb870, 1, none⟩ = some (.int .i64 t867) := bc BK870 1; have hcz25_2 : w24.cell? ⟨gb870, 2, none⟩ = some (.string t868) := bc BK870 2; have hfz25_0 := blk_frozen BK870.out 0; have hfz25_1 := blk_frozen BK870.out 1; have hfz25_2 := blk_frozen BK870.out 2; have hcz26_0 : w24.cell? ⟨gb862, 0, none⟩ = some (.int .i64 a0_0) := bc BK862 0; have hcz26_1 : w24.cell? ⟨gb862, 1, none⟩ = some (.int .i64 a0_1) := bc BK862 1; have hcz26_2 : w24.cell? ⟨gb862, 2, none⟩ = some (.string a0_2) := bc BK862 2; have hfz26_0 := blk_frozen BK862.out 0; have hfz26_1 := blk_frozen BK862.out 1; have hfz26_2 := blk_frozen BK862.out 2))
       go_ret
       exact ⟨by first | rfl | (simp [errW_none, errW_some] <;> rfl) | (simp [*, errW_none, errW_some] <;> rfl), by repeat (first | (with_reducible first | exact HB.out | apply below_alloc | apply pw_below_drewN | apply below_drew1 | refine below_set ?_ GE862.out | refine below_set ?_ GE870.out) | exact HB.out)⟩
      ·replace c19 := Bool.eq_false_iff.mpr c19
       subst c19
       have H1 : (none) = some r := by rw [if_neg (show ¬ (false = true) by decide)] at H; exact H
       clear H
       have H := H1
       clear H1
       exact absurd H (by simp)
     ·replace c18 := Bool.eq_false_iff.mpr c18
      subst c18
      have H1 : (none) = some r := by rw [if_neg (show ¬ (false = true) by decide)] at H; exact H
      clear H
      have H := H1
      clear H1
      exact absurd H (by simp)
 ·replace c3 := Bool.eq_false_iff.mpr c3
  subst c3
  have H1 : ((alumlaw19_sanity.f k).bind fun t864 => (some t864)) = some r := by rw [if_neg (show ¬ (false = true) by decide)] at H; exact H
  clear H
  have H := H1
  clear H1
  replace H := Option.bind_eq_some_iff.mp H
  obtain ⟨t864, A270, H⟩ := H
  replace H : (some t864) = some r := H
  have A27 := Aside0.mk A270
  clear A270
  obtain rfl := Option.some.inj H
  go_enter Tryd.func10, Tryd.ntmps10
  go_wp2_with (first | ((with_reducible refine gate_dst (N := 1) rfl ?_); refine box_event ?hg (N := 1) ?hd (cs := #[.int .i64 a0_0, .int .i64 a0_1, .string a0_2]) (t := 23) ?hr ?_; (case hd => rfl); (case hg => rfl); (case hr => first | (go_simp; done) | (go_simp; rfl)); intro gb862 hg w28 hbox hb; have BK862 := Aside0.mk (hbox); have GW862 := (sizeB HB hg : Aside0 (w.heap.size ≤ gb862)); have GE862 := (sizeB HB hg : Aside0 (w.heap.size ≤ gb862)); replace HB := stepB HB hb; clear hb hbox hg; have hcz29_0 : w28.cell? ⟨gb862, 0, none⟩ = some (.int .i64 a0_0) := bc BK862 0; have hcz29_1 : w28.cell? ⟨gb862, 1, none⟩ = some (.int .i64 a0_1) := bc BK862 1; have hcz29_2 : w28.cell? ⟨gb862, 2, none⟩ = some (.string a0_2) := bc BK862 2; have hfz29_0 := blk_frozen BK862.out 0; have hfz29_1 := blk_frozen BK862.out 1; have hfz29_2 := blk_frozen BK862.out 2) | ((with_reducible refine gate_callee (f := 11) rfl ?_); refine goesL_ (some 8) rfl rfl Tryd.func11 (by kernel_rfl) rfl #[.agg #[.int .i64 a0_0, .int .i64 a0_1, .string a0_2]] rfl (by (try simp only [List.map_toArray, List.map_cons, List.map_nil]); first | done | rfl | (simp only [List.length_drop, List.length_take]; rfl)) ?_; (with_reducible refine (alumref19_Right.calls a0_0 a0_1 a0_2 false _ A2.out).mono ?_); rintro e w30 ⟨rfl, hb⟩; refine ⟨_, rfl, ?_⟩; replace BK862 := blkB BK862 hb; replace HB := stepB HB hb; (try clear hb); (try clear hb2); (try clear hk); (try clear hi)) | ((with_reducible refine gate_callee (f := 12) rfl ?_); refine goesL_ (some 10) rfl rfl Tryd.func12 (by kernel_rfl) rfl #[] rfl (by (try simp only [List.map_toArray, List.map_cons, List.map_nil]); first | done | rfl | (simp only [List.length_drop, List.length_take]; rfl)) ?_; (with_reducible refine (alumlaw19_sanity.calls k  t864 _ A27.out).mono ?_); rintro e w31 ⟨rfl, hb⟩; refine ⟨_, rfl, ?_⟩; replace BK862 := blkB BK862 hb; replace HB := stepB HB hb; (try clear hb); (try clear hb2); (try clear hk); (try clear hi)))
  go_ret
  exact ⟨by first | rfl | (simp [errW_none, errW_some] <;> rfl) | (simp [*, errW_none, errW_some] <;> rfl), by repeat (first | (with_reducible first | exact HB.out | apply below_alloc | apply pw_below_drewN | apply below_drew1 | refine below_set ?_ GE862.out) | exact HB.out)⟩
end Go.Proofs.YtmhnfdgegejlkaaDoor.P
end

section
namespace Go.Proofs.YtmhnfdgegejlkaaDoor.P
open Go.RowKit Go.Proofs.YtmhnfdgegejlkaaDoorW.PrintWords
section
variable {H : Type} {enc : TypeId × Value → H} {P : Program} {W : World}
def Opens {α : Type} (enc : TypeId × Value → H) (P : Program) (W : World) (d : Kd α) (t : TypeId) (good : α → Prop) : Prop :=
  P.cellsOf t = d.sz ∧ ∀ (fuel : Nat) (cs : List Value) (x : DataW H) (ps : List MemPlace), DataW.trod enc P W 0 (fun _ => true) true fuel t cs = some (x, ps) → (∀ n ∈ x.weights P t, n ≤ reachBytes) → ∃ a : α, d.K W a cs ∧ good a
theorem opens_int {t : TypeId} {k : IntKind} (hu : P.underlying t = some (.int k)) (hc : P.cellsOf t = 1) : Opens enc P W (Kd.int k) t (fun a => (Lit.int k a).wf = true) := by
  refine ⟨hc, fun fuel cs x ps h _ => ?_⟩
  obtain ⟨n, rfl, _, hw⟩ := DataW.trod_int hu h
  exact ⟨n, rfl, hw⟩
theorem opens_string {t : TypeId} (hu : P.underlying t = some .string) (hc : P.cellsOf t = 1) : Opens enc P W Kd.string t (fun s => s.size ≤ 140737488351232) := by
  refine ⟨hc, fun fuel cs x ps h hw => ?_⟩
  obtain ⟨s, rfl, hx, _⟩ := DataW.trod_string hu h
  obtain ⟨rfl, rfl⟩ := Prod.mk.inj hx
  refine ⟨s, rfl, ?_⟩
  have := hw s.data.toList.length (by simp [DataW.weights])
  rw [Array.length_toList] at this
  exact this
def OpensFs {α : Type} (enc : TypeId × Value → H) (P : Program) (W : World) (d : Kd α) (fs : List Field) (o : Nat) (good : α → Prop) : Prop :=
  ∀ (n : Nat) (cs : List Value) (xs : List (DataW H × List MemPlace)), xs.length = fs.length → cs.length = o + d.sz →
    (∀ (i : Nat) (f : Field), fs[i]? = some f → DataW.trod enc P W 0 (fun _ => true) true n f.type ((cs.drop f.offset).take (P.cellsOf f.type)) = xs[i]?) →
    (∀ m ∈ DataW.weightsEach P (fs.map (·.type)) (xs.map (·.1)), m ≤ reachBytes) → ∃ a : α, d.K W a (cs.drop o) ∧ good a
theorem opensFs_one {α : Type} {d : Kd α} {f : Field} {o : Nat} {good : α → Prop} (ho : f.offset = o) (hf : Opens enc P W d f.type good) : OpensFs enc P W d [f] o good := by
  intro n cs xs hl hcs h hw
  match xs, hl with
  | [x], _ =>
    have h0 := h 0 f rfl
    rw [ho, hf.1, List.take_of_length_le (by simp; omega)] at h0
    exact hf.2 n _ x.1 x.2 h0 (fun m hm => hw m (by simpa [DataW.weightsEach] using hm))
theorem opensFs_cons {α β : Type} {d : Kd α} {e : Kd β} {f : Field} {fs : List Field} {o o' : Nat} {good : α → Prop} {good' : β → Prop} (ho : f.offset = o) (hf : Opens enc P W d f.type good) (ho' : o + d.sz = o') (hfs : OpensFs enc P W e fs o' good') :
    OpensFs enc P W (Kd.pair d e) (f :: fs) o (fun p => good p.1 ∧ good' p.2) := by
  intro n cs xs hl hcs h hw
  match xs, hl with
  | x :: xs, hl =>
    have hsz : (Kd.pair d e).sz = d.sz + e.sz := rfl
    have h0 := h 0 f rfl
    rw [ho, hf.1] at h0
    obtain ⟨a, ha, ga⟩ := hf.2 n _ x.1 x.2 h0 (fun m hm => hw m (by simp [DataW.weightsEach]; exact Or.inl hm))
    obtain ⟨b, hb, gb⟩ := hfs n cs xs (by simpa using hl) (by omega) (fun i g hg => h (i + 1) g (by simpa using hg)) (fun m hm => hw m (by simp [DataW.weightsEach]; exact Or.inr (by simpa using hm)))
    refine ⟨(a, b), ⟨(cs.drop o).take d.sz, cs.drop o', ?_, ha, hb⟩, ga, gb⟩
    rw [← ho', ← List.drop_drop, List.take_append_drop]
theorem opens_struct {α : Type} {d : Kd α} {t : TypeId} {fs : Array Field} {good : α → Prop} (hu : P.underlying t = some (.struct fs)) (hc : P.cellsOf t = d.sz) (h : OpensFs enc P W d fs.toList 0 good) : Opens enc P W d t good := by
  refine ⟨hc, fun fuel cs x ps hx hw => ?_⟩
  obtain ⟨xs, n, _, he, hl, hn, hf⟩ := DataW.trod_struct hu hx
  obtain ⟨rfl, rfl⟩ := Prod.mk.inj he
  have := h n cs xs (by simpa using hn) (by omega) (fun i f hi => hf i f (by simpa using hi)) (fun m hm => hw m (by simp only [DataW.weights, hu]; exact hm))
  simpa using this
theorem opens_iso {α β : Type} {d : Kd α} {t : TypeId} {good : α → Prop} (f : β → α) (g : α → β) (hfg : ∀ a, f (g a) = a) (h : Opens enc P W d t good) : Opens enc P W (Kd.iso d f) t (fun b => good (f b)) := by
  refine ⟨h.1, fun fuel cs x ps hx hw => ?_⟩
  obtain ⟨a, ha, ga⟩ := h.2 fuel cs x ps hx hw
  exact ⟨g a, by show d.K W (f (g a)) cs; rw [hfg]; exact ha, by show good (f (g a)); rw [hfg]; exact ga⟩
end
end Go.Proofs.YtmhnfdgegejlkaaDoor.P
end

section
namespace Go.Proofs.YtmhnfdgegejlkaaDoor.P
open Go Go.RowKit Go.Proofs.YtmhnfdgegejlkaaDoorW.PrintWords
set_option linter.unusedVariables false
theorem op3 {H : Type} (enc : TypeId × Value → H) (W : World) : Opens enc Tryd.prog W (Kd.int .i64) 3 (fun a => (Lit.int .i64 a).wf = true) := opens_int Tryd.underlying3 (by kernel_rfl)
theorem op9 {H : Type} (enc : TypeId × Value → H) (W : World) : Opens enc Tryd.prog W Kd.string 9 (fun s => s.size ≤ 140737488351232) := opens_string Tryd.underlying9 (by kernel_rfl)
def G23 (x : S23) : Prop := (Lit.int .i64 x.f0).wf = true ∧ (Lit.int .i64 x.f1).wf = true ∧ x.f2.size ≤ 140737488351232
theorem op23 {H : Type} (enc : TypeId × Value → H) (W : World) : Opens enc Tryd.prog W k23 23 G23 := opens_iso (fun x : S23 => (x.f0, x.f1, x.f2)) (fun p => ⟨p.1, p.2.1, p.2.2⟩) (fun _ => rfl) (opens_struct Tryd.underlying23 (by kernel_rfl) (opensFs_cons rfl (op3 enc W) rfl (opensFs_cons rfl (op3 enc W) rfl (opensFs_one rfl (op9 enc W)))))
def alumlaw19_ValuePrintsT.Pure : Prop := ∀ (x0 : S23), G23 x0 → ∃ k, alumlaw19_ValuePrintsT.f k x0.f0 x0.f1 x0.f2 = some true
end Go.Proofs.YtmhnfdgegejlkaaDoor.P
end

section
namespace Go.Proofs.YtmhnfdgegejlkaaDoor.V
open Go
set_option linter.unusedSimpArgs false
set_option linter.unusedVariables false
structure TC {α : Type} (f : α → α → Int) : Prop where
  rng : ∀ a b, f a b = -1 ∨ f a b = 0 ∨ f a b = 1
  eq0 : ∀ a b, f a b = 0 ↔ a = b
  sym : ∀ a b, f b a = - f a b
  tr : ∀ a b c, f a b = -1 → f b c = -1 → f a c = -1
namespace TC
variable {α : Type} {f : α → α → Int} (h : TC f)
include h
theorem refl (a : α) : f a a = 0 := (h.eq0 a a).2 rfl
theorem le_trans {a b c : α} (h1 : f a b ≤ 0) (h2 : f b c ≤ 0) : f a c ≤ 0 := by
  have r1 := h.rng a b; have r2 := h.rng b c
  rcases r1 with r1 | r1 | r1
  · rcases r2 with r2 | r2 | r2
    · have := h.tr a b c r1 r2; omega
    · rw [h.eq0] at r2; subst r2; omega
    · omega
  · rw [h.eq0] at r1; subst r1; exact h2
  · omega
end TC
theorem bytes_ext {a b : ByteArray} (h : a.data.toList = b.data.toList) : a = b := ByteArray.ext (Array.toList_inj.1 h)
end Go.Proofs.YtmhnfdgegejlkaaDoor.V
end

section
namespace Go.Proofs.YtmhnfdgegejlkaaDoor.V
open Go Go.RowKit Go.Proofs.YtmhnfdgegejlkaaDoor.P Go.Proofs.YtmhnfdgegejlkaaDoorW.PrintWords
set_option linter.unusedSimpArgs false
set_option linter.unusedVariables false
abbrev V := S23
abbrev e0 : ByteArray := ⟨#[]⟩
theorem V_ext {a b : V} (h0 : a.f0 = b.f0) (h1 : a.f1 = b.f1) (h2 : a.f2 = b.f2) : a = b := by cases a; cases b; simp_all
instance : DecidableEq V := fun a b => decidable_of_iff (a.f0 = b.f0 ∧ a.f1 = b.f1 ∧ a.f2 = b.f2) ⟨fun h => V_ext h.1 h.2.1 h.2.2, fun h => by rw [h]; exact ⟨rfl, rfl, rfl⟩⟩
theorem wrap64_id {x : Int} (h1 : -9223372036854775808 ≤ x) (h2 : x ≤ 9223372036854775807) : wrap64 x = x := by unfold wrap64; omega
end Go.Proofs.YtmhnfdgegejlkaaDoor.V
end

section
namespace Go.Proofs.YtmhnfdgegejlkaaDoor.P
open Go.RowKit Go.Proofs.YtmhnfdgegejlkaaDoorW.PrintWords Go.Proofs.YtmhnfdgegejlkaaDoorW.PrintLast Go.Proofs.YtmhnfdgegejlkaaDoorW.PrintMore
attribute [local go_sem] max2_int min2_int max_two min_two max_three min_three max_four min_four
set_option linter.unusedVariables false
set_option linter.unusedSimpArgs false
end Go.Proofs.YtmhnfdgegejlkaaDoor.P
end

section
namespace Go.Proofs.YtmhnfdgegejlkaaDoor.P
open Go.RowKit Go.Proofs.YtmhnfdgegejlkaaDoorW.PrintWords Go.Proofs.YtmhnfdgegejlkaaDoorW.PrintLast Go.Proofs.YtmhnfdgegejlkaaDoorW.PrintMore
attribute [local go_sem] max2_int min2_int max_two min_two max_three min_three max_four min_four
set_option linter.unusedVariables false
set_option linter.unusedSimpArgs false
end Go.Proofs.YtmhnfdgegejlkaaDoor.P
end

section
namespace Go.Proofs.YtmhnfdgegejlkaaDoor.V
open Go Go.RowKit Go.Proofs.YtmhnfdgegejlkaaDoor.P Go.Proofs.YtmhnfdgegejlkaaDoorW.PrintWords
set_option linter.unusedSimpArgs false
set_option linter.unusedVariables false
theorem wrap_succ (i : Nat) (h : i < 9223372036854775807) : wrap64 ((i : Int) + 1) = ((i + 1 : Nat) : Int) := by rw [wrap64_id (by omega) (by omega)]; rfl
end Go.Proofs.YtmhnfdgegejlkaaDoor.V
end

section
namespace Go.Proofs.YtmhnfdgegejlkaaDoor.V
open Go Go.RowKit Go.Proofs.YtmhnfdgegejlkaaDoor.P Go.Proofs.YtmhnfdgegejlkaaDoorW.PrintWords
set_option linter.unusedSimpArgs false
set_option linter.unusedVariables false
def Rt (v : V) : Prop := (v.f0 = 0 ∧ v.f1 = 0 ∧ v.f2 = e0) ∨ (v.f0 = 1 ∧ -549755813888 ≤ v.f1 ∧ v.f1 ≤ 549755813887 ∧ v.f2 = e0) ∨ (v.f0 = 2 ∧ v.f1 = 0 ∧ v.f2.size ≤ 40) ∨ (v.f0 = 3 ∧ (v.f1 = 0 ∨ v.f1 = 1) ∧ v.f2 = e0)
theorem empty_beq (s : ByteArray) : (s.toList == ([] : List UInt8)) = true ↔ s = e0 := by
  rw [beq_iff_eq, ByteArray.toList_eq]
  constructor
  · intro h; exact bytes_ext h
  · rintro rfl; rfl
theorem refRight_some (v : V) : ∃ b, alumref19_Right.f v.f0 v.f1 v.f2 = some b ∧ (b = true ↔ Rt v) := by
  unfold alumref19_Right.f Rt
  by_cases h0 : v.f0 = 0
  · rw [if_pos h0]
    by_cases h1 : v.f1 = 0
    · rw [if_pos h1]; exact ⟨_, rfl, by rw [empty_beq]; simp [h0, h1]⟩
    · rw [if_neg h1]; exact ⟨_, rfl, by simp [h0, h1]⟩
  · rw [if_neg h0]
    by_cases h1 : v.f0 = 1
    · rw [if_pos h1]
      by_cases h2 : v.f1 ≥ -549755813888
      · rw [if_pos h2]
        by_cases h3 : v.f1 ≤ 549755813887
        · rw [if_pos h3]; exact ⟨_, rfl, by rw [empty_beq]; simp [h1, h3]; omega⟩
        · rw [if_neg h3]; exact ⟨_, rfl, by simp [h1, h3]⟩
      · rw [if_neg h2]; exact ⟨_, rfl, by simp [h1]; omega⟩
    · rw [if_neg h1]
      by_cases h2 : v.f0 = 2
      · rw [if_pos h2]
        by_cases h3 : v.f1 = 0
        · rw [if_pos h3]; exact ⟨_, rfl, by simp [h2, h3]; omega⟩
        · rw [if_neg h3]; exact ⟨_, rfl, by simp [h2, h3]⟩
      · rw [if_neg h2]
        by_cases h3 : v.f0 = 3
        · rw [if_pos h3]
          by_cases h4 : v.f1 = 0
          · rw [if_pos h4]; exact ⟨_, rfl, by rw [empty_beq]; simp [h3, h4]⟩
          · rw [if_neg h4]
            by_cases h5 : v.f1 = 1
            · rw [if_pos h5]; exact ⟨_, rfl, by rw [empty_beq]; simp [h3, h4, h5]⟩
            · rw [if_neg h5]; exact ⟨_, rfl, by simp [h3, h4, h5]⟩
        · rw [if_neg h3]; exact ⟨_, rfl, by simp [h0, h1, h2, h3]⟩
theorem refRight_yes {v : V} (h : Rt v) : alumref19_Right.f v.f0 v.f1 v.f2 = some true := by
  obtain ⟨b, hb, hi⟩ := refRight_some v
  rw [hb, hi.2 h]
theorem refRight_no {v : V} (h : ¬ Rt v) : alumref19_Right.f v.f0 v.f1 v.f2 = some false := by
  obtain ⟨b, hb, hi⟩ := refRight_some v
  rw [hb]
  cases b with
  | false => rfl
  | true => exact absurd (hi.1 rfl) h
end Go.Proofs.YtmhnfdgegejlkaaDoor.V
end

section
namespace Go.Proofs.YtmhnfdgegejlkaaDoor.P
open Go.RowKit Go.Proofs.YtmhnfdgegejlkaaDoorW.PrintWords Go.Proofs.YtmhnfdgegejlkaaDoorW.PrintLast Go.Proofs.YtmhnfdgegejlkaaDoorW.PrintMore
attribute [local go_sem] max2_int min2_int max_two min_two max_three min_three max_four min_four
set_option linter.unusedVariables false
set_option linter.unusedSimpArgs false
end Go.Proofs.YtmhnfdgegejlkaaDoor.P
end

section
namespace Go.Proofs.YtmhnfdgegejlkaaDoor.P
open Go.RowKit Go.Proofs.YtmhnfdgegejlkaaDoorW.PrintWords Go.Proofs.YtmhnfdgegejlkaaDoorW.PrintLast Go.Proofs.YtmhnfdgegejlkaaDoorW.PrintMore
attribute [local go_sem] max2_int min2_int max_two min_two max_three min_three max_four min_four
set_option linter.unusedVariables false
set_option linter.unusedSimpArgs false
end Go.Proofs.YtmhnfdgegejlkaaDoor.P
end

section
namespace Go.Proofs.YtmhnfdgegejlkaaDoor.P
open Go.RowKit Go.Proofs.YtmhnfdgegejlkaaDoorW.PrintWords Go.Proofs.YtmhnfdgegejlkaaDoorW.PrintLast Go.Proofs.YtmhnfdgegejlkaaDoorW.PrintMore
attribute [local go_sem] max2_int min2_int max_two min_two max_three min_three max_four min_four
set_option linter.unusedVariables false
set_option linter.unusedSimpArgs false
end Go.Proofs.YtmhnfdgegejlkaaDoor.P
end

section
namespace Go.Proofs.YtmhnfdgegejlkaaDoor.P
open Go.RowKit Go.Proofs.YtmhnfdgegejlkaaDoorW.PrintWords Go.Proofs.YtmhnfdgegejlkaaDoorW.PrintLast Go.Proofs.YtmhnfdgegejlkaaDoorW.PrintMore
attribute [local go_sem] max2_int min2_int max_two min_two max_three min_three max_four min_four
set_option linter.unusedVariables false
set_option linter.unusedSimpArgs false
end Go.Proofs.YtmhnfdgegejlkaaDoor.P
end

section
namespace Go.Proofs.YtmhnfdgegejlkaaDoor.P
open Go.RowKit Go.Proofs.YtmhnfdgegejlkaaDoorW.PrintWords Go.Proofs.YtmhnfdgegejlkaaDoorW.PrintLast Go.Proofs.YtmhnfdgegejlkaaDoorW.PrintMore
attribute [local go_sem] max2_int min2_int max_two min_two max_three min_three max_four min_four
set_option linter.unusedVariables false
set_option linter.unusedSimpArgs false
end Go.Proofs.YtmhnfdgegejlkaaDoor.P
end

section
namespace Go.Proofs.YtmhnfdgegejlkaaDoor.P
open Go.RowKit Go.Proofs.YtmhnfdgegejlkaaDoorW.PrintWords Go.Proofs.YtmhnfdgegejlkaaDoorW.PrintLast Go.Proofs.YtmhnfdgegejlkaaDoorW.PrintMore
attribute [local go_sem] max2_int min2_int max_two min_two max_three min_three max_four min_four
set_option linter.unusedVariables false
set_option linter.unusedSimpArgs false
end Go.Proofs.YtmhnfdgegejlkaaDoor.P
end

section
namespace Go.Proofs.YtmhnfdgegejlkaaDoor.P
open Go.RowKit Go.Proofs.YtmhnfdgegejlkaaDoorW.PrintWords Go.Proofs.YtmhnfdgegejlkaaDoorW.PrintLast Go.Proofs.YtmhnfdgegejlkaaDoorW.PrintMore
attribute [local go_sem] max2_int min2_int max_two min_two max_three min_three max_four min_four
set_option linter.unusedVariables false
set_option linter.unusedSimpArgs false
end Go.Proofs.YtmhnfdgegejlkaaDoor.P
end

section
namespace Go.Proofs.YtmhnfdgegejlkaaDoor.P
open Go.RowKit Go.Proofs.YtmhnfdgegejlkaaDoorW.PrintWords Go.Proofs.YtmhnfdgegejlkaaDoorW.PrintLast Go.Proofs.YtmhnfdgegejlkaaDoorW.PrintMore
attribute [local go_sem] max2_int min2_int max_two min_two max_three min_three max_four min_four
set_option linter.unusedVariables false
set_option linter.unusedSimpArgs false
end Go.Proofs.YtmhnfdgegejlkaaDoor.P
end

section
namespace Go.Proofs.YtmhnfdgegejlkaaDoor.P
open Go.RowKit Go.Proofs.YtmhnfdgegejlkaaDoorW.PrintWords Go.Proofs.YtmhnfdgegejlkaaDoorW.PrintLast Go.Proofs.YtmhnfdgegejlkaaDoorW.PrintMore
attribute [local go_sem] max2_int min2_int max_two min_two max_three min_three max_four min_four
set_option linter.unusedVariables false
set_option linter.unusedSimpArgs false
end Go.Proofs.YtmhnfdgegejlkaaDoor.P
end

section
namespace Go.Proofs.YtmhnfdgegejlkaaDoor.P
open Go.RowKit Go.Proofs.YtmhnfdgegejlkaaDoorW.PrintWords Go.Proofs.YtmhnfdgegejlkaaDoorW.PrintLast Go.Proofs.YtmhnfdgegejlkaaDoorW.PrintMore
attribute [local go_sem] max2_int min2_int max_two min_two max_three min_three max_four min_four
set_option linter.unusedVariables false
set_option linter.unusedSimpArgs false
end Go.Proofs.YtmhnfdgegejlkaaDoor.P
end

section
namespace Go.Proofs.YtmhnfdgegejlkaaDoor.V
open Go Go.RowKit Go.Proofs.YtmhnfdgegejlkaaDoor.P Go.Proofs.YtmhnfdgegejlkaaDoorW.PrintWords Go.Proofs.YtmhnfdgegejlkaaDoorW.PrintMore
set_option linter.unusedSimpArgs false
set_option linter.unusedVariables false
def bts (s : ByteArray) : List Int := s.data.toList.map fun b => (b.toNat : Int)
theorem bts_len (s : ByteArray) : (bts s).length = s.size := by simp [bts]
theorem bts_rng (s : ByteArray) : ∀ b ∈ bts s, 0 ≤ b ∧ b < 256 := by
  intro b hb
  simp only [bts, List.mem_map] at hb
  obtain ⟨u, _, rfl⟩ := hb
  exact ⟨by omega, by have := u.toNat_lt; omega⟩
theorem bt_get (s : ByteArray) (i : Nat) : bt s (i : Int) = (bts s).getD i 0 := by
  unfold bt
  rw [Int.toNat_natCast]
  by_cases h : i < s.size
  · rw [dif_pos h, List.getD_eq_getElem?_getD, List.getElem?_eq_getElem (by rw [bts_len]; exact h)]
    simp [bts]
    rfl
  · rw [dif_neg h, List.getD_eq_getElem?_getD, List.getElem?_eq_none (by rw [bts_len]; omega)]
    rfl
def w4 (a b c d n : Int) : Int := (((a * 256 + b) * 256 + c) * 256 + d) * 256 + n
def tw : List Int → List Int
  | [] => [w4 0 0 0 0 0]
  | [a] => [w4 a 0 0 0 1]
  | [a, b] => [w4 a b 0 0 2]
  | [a, b, c] => [w4 a b c 0 3]
  | a :: b :: c :: d :: r => w4 a b c d 4 :: tw r
def W (v : V) : List Int := if v.f0 = 1 then [1, v.f1 + 549755813888] else if v.f0 = 3 then [3, v.f1] else if v.f0 = 0 then [0] else 2 :: tw (bts v.f2)
end Go.Proofs.YtmhnfdgegejlkaaDoor.V
end

section
namespace Go.Proofs.YtmhnfdgegejlkaaDoor.P
open Go.RowKit Go.Proofs.YtmhnfdgegejlkaaDoorW.PrintWords Go.Proofs.YtmhnfdgegejlkaaDoorW.PrintLast Go.Proofs.YtmhnfdgegejlkaaDoorW.PrintMore
attribute [local go_sem] max2_int min2_int max_two min_two max_three min_three max_four min_four
set_option linter.unusedVariables false
set_option linter.unusedSimpArgs false
end Go.Proofs.YtmhnfdgegejlkaaDoor.P
end

section
namespace Go.Proofs.YtmhnfdgegejlkaaDoor.P
open Go.RowKit Go.Proofs.YtmhnfdgegejlkaaDoorW.PrintWords Go.Proofs.YtmhnfdgegejlkaaDoorW.PrintLast Go.Proofs.YtmhnfdgegejlkaaDoorW.PrintMore
attribute [local go_sem] max2_int min2_int max_two min_two max_three min_three max_four min_four
set_option linter.unusedVariables false
set_option linter.unusedSimpArgs false
end Go.Proofs.YtmhnfdgegejlkaaDoor.P
end

section
namespace Go.Proofs.YtmhnfdgegejlkaaDoor.P
open Go.RowKit Go.Proofs.YtmhnfdgegejlkaaDoorW.PrintWords Go.Proofs.YtmhnfdgegejlkaaDoorW.PrintLast Go.Proofs.YtmhnfdgegejlkaaDoorW.PrintMore
attribute [local go_sem] max2_int min2_int max_two min_two max_three min_three max_four min_four
set_option linter.unusedVariables false
set_option linter.unusedSimpArgs false
end Go.Proofs.YtmhnfdgegejlkaaDoor.P
end

section
namespace Go.Proofs.YtmhnfdgegejlkaaDoor.P
open Go.RowKit Go.Proofs.YtmhnfdgegejlkaaDoorW.PrintWords Go.Proofs.YtmhnfdgegejlkaaDoorW.PrintLast Go.Proofs.YtmhnfdgegejlkaaDoorW.PrintMore
attribute [local go_sem] max2_int min2_int max_two min_two max_three min_three max_four min_four
set_option linter.unusedVariables false
set_option linter.unusedSimpArgs false
end Go.Proofs.YtmhnfdgegejlkaaDoor.P
end

section
namespace Go.Proofs.YtmhnfdgegejlkaaDoor.V
open Go Go.RowKit Go.Proofs.YtmhnfdgegejlkaaDoor.P Go.Proofs.YtmhnfdgegejlkaaDoorW.PrintWords Go.Proofs.YtmhnfdgegejlkaaDoorW.PrintMore
set_option linter.unusedSimpArgs false
set_option linter.unusedVariables false
theorem ba_size (x : List UInt8) : (⟨x.toArray⟩ : ByteArray).size = x.length := by simp [ByteArray.size]
theorem dig_len : ∀ (n m : Nat), m < 10 ^ (n + 1) → (Lib.decDigits m).length ≤ n + 1 := by
  intro n
  induction n with
  | zero => intro m h; rw [Lib.decDigits, dif_pos (by omega)]; simp
  | succ n ih =>
    intro m h
    rw [Lib.decDigits]
    by_cases h1 : m < 10
    · rw [dif_pos h1]; simp
    · rw [dif_neg h1, List.length_append]
      have := ih (m / 10) (by rw [Nat.pow_succ] at h; omega)
      simp only [List.length_cons, List.length_nil]
      omega
def plainB (b : Int) : Bool := decide (32 ≤ b) && decide (b ≤ 126) && b != 39 && b != 92
def hexd (n : Int) : Int := if n < 10 then 48 + n else 87 + n
def esc (b : Int) : List Int := if plainB b then [b] else [92, hexd (b / 16), hexd (b % 16)]
theorem ev_plain (b : Int) : value_plain.f b = some (plainB b) := by
  unfold value_plain.f plainB
  by_cases h1 : b ≥ 32
  · rw [if_pos h1]
    by_cases h2 : b ≤ 126
    · rw [if_pos h2]
      by_cases h3 : b = 39
      · rw [if_pos h3]; simp [h3]
      · rw [if_neg h3]; simp [h1, h2, h3]
    · rw [if_neg h2]; simp [h2]
  · rw [if_neg h1]; simp [h1]
theorem and15_all : ((List.range 256).all fun b => Go.bits .and .u8 (b : Int) 15 == (b : Int) % 16) = true := by kernel_rfl
theorem and15 (b : Int) (h0 : 0 ≤ b) (h1 : b < 256) : Go.bits .and .u8 b 15 = b % 16 := by
  have := List.all_eq_true.1 and15_all b.toNat (by rw [List.mem_range]; omega)
  rw [show ((b.toNat : Nat) : Int) = b from by omega] at this
  exact of_decide_eq_true (by simpa using this)
def digTab : ByteArray := ⟨#[48, 49, 50, 51, 52, 53, 54, 55, 56, 57, 97, 98, 99, 100, 101, 102]⟩
theorem dig_all : ((List.range 16).all fun n => bt digTab (n : Int) == hexd (n : Int)) = true := by kernel_rfl
theorem dig_at (n : Int) (h0 : 0 ≤ n) (h1 : n < 16) : bt digTab n = hexd n := by
  have := List.all_eq_true.1 dig_all n.toNat (by rw [List.mem_range]; omega)
  rw [show ((n.toNat : Nat) : Int) = n from by omega] at this
  exact of_decide_eq_true (by simpa using this)
theorem esc_len (b : Int) : (esc b).length ≤ 3 := by unfold esc; split <;> simp
theorem bt_drop (s : ByteArray) (i : Nat) (h : i < s.size) : (bts s).drop i = bt s (i : Int) :: (bts s).drop (i + 1) := by
  have hl : i < (bts s).length := by rw [bts_len]; exact h
  rw [List.drop_eq_getElem_cons hl, bt_get, List.getD_eq_getElem?_getD, List.getElem?_eq_getElem hl]
  rfl
theorem bt_rng (s : ByteArray) (i : Nat) (h : i < s.size) : 0 ≤ bt s (i : Int) ∧ bt s (i : Int) < 256 := by
  have hl : i < (bts s).length := by rw [bts_len]; exact h
  rw [bt_get, List.getD_eq_getElem?_getD, List.getElem?_eq_getElem hl]
  exact bts_rng s _ (List.getElem_mem hl)
theorem print_loop (s : ByteArray) (p q : Int) (hs : s.size ≤ 1000) (d : Nat) : ∀ (k i : Nat) (acc : List Int), s.size - i = d → i ≤ s.size → acc.length ≤ 3 * i + 1 → d + 1 ≤ k →
    value_PrintT.l0 k acc s.size i p q s = some (strOfNums (acc ++ ((bts s).drop i).flatMap esc ++ [39])) := by
  induction d with
  | zero =>
    intro k i acc hd hi ha hk
    obtain ⟨k, rfl⟩ : ∃ m, k = m + 1 := ⟨k - 1, by omega⟩
    rw [value_PrintT.l0, if_neg (by omega), if_pos (by omega), List.drop_eq_nil_of_le (by rw [bts_len]; omega)]
    simp
  | succ d ih =>
    intro k i acc hd hi ha hk
    obtain ⟨k, rfl⟩ : ∃ m, k = m + 1 := ⟨k - 1, by omega⟩
    have hi' : i < s.size := by omega
    have hb := bt_rng s i hi'
    rw [value_PrintT.l0, if_pos (by omega), if_pos (by omega), if_pos (by omega), ev_plain, bt_drop s i hi', List.flatMap_cons]
    simp only [Option.bind_some]
    by_cases hp : plainB (bt s i) = true
    · have he : esc (bt s i) = [bt s i] := by unfold esc; rw [if_pos hp]
      rw [if_pos hp, if_pos (by omega), he, wrap_succ i (by omega), ih k (i + 1) _ (by omega) (by omega) (by rw [List.length_append]; simp only [List.length_cons, List.length_nil]; omega) (by omega)]
      simp only [List.append_assoc]
    · have he : esc (bt s i) = [92, hexd (bt s i / 16), hexd (bt s i % 16)] := by unfold esc; rw [if_neg hp]
      rw [if_neg hp, and15 _ hb.1 hb.2, if_pos (by omega), if_pos (by omega), if_pos (by omega), if_pos (by omega)]
      rw [show (⟨#[48, 49, 50, 51, 52, 53, 54, 55, 56, 57, 97, 98, 99, 100, 101, 102]⟩ : ByteArray) = digTab from rfl, dig_at _ (by omega) (by omega), dig_at _ (by omega) (by omega)]
      simp only [List.length_cons, List.length_nil]
      rw [if_pos (by omega), he, wrap_succ i (by omega), ih k (i + 1) _ (by omega) (by omega) (by rw [List.length_append]; simp only [List.length_cons, List.length_nil]; omega) (by omega)]
      simp only [List.append_assoc]
def vprint (v : V) : ByteArray := if v.f0 = 1 then ⟨(Lib.itoa v.f1).toArray⟩ else if v.f0 = 3 then (if v.f1 = 1 then ⟨#[116, 114, 117, 101]⟩ else ⟨#[102, 97, 108, 115, 101]⟩) else if v.f0 = 0 then ⟨#[110, 117, 108, 108]⟩ else strOfNums (39 :: (bts v.f2).flatMap esc ++ [39])
theorem ev_Print (k : Nat) (hk : 60 ≤ k) (v : V) (h : Rt v) : value_PrintT.f k v.f0 v.f1 v.f2 = some (vprint v) := by
  unfold value_PrintT.f vprint
  by_cases h1 : v.f0 = 1
  · have hr : -549755813888 ≤ v.f1 ∧ v.f1 ≤ 549755813887 := by rcases h with h | h | h | h <;> omega
    rw [if_pos h1, if_pos h1]
    unfold strconv_ItoaT.f
    rw [if_pos (by omega)]
    rfl
  · rw [if_neg h1, if_neg h1]
    by_cases h3 : v.f0 = 3
    · rw [if_pos h3, if_pos h3]
      unfold strconv_FormatBool.f internal_strconv_FormatBool.f
      by_cases h4 : v.f1 = 1
      · rw [if_pos h4]; simp [h4]
      · rw [if_neg h4]; simp [h4]
    · rw [if_neg h3, if_neg h3]
      by_cases h0 : v.f0 = 0
      · rw [if_pos h0, if_pos h0]
      · have h2 : v.f2.size ≤ 40 := by
          rcases h with h | h | h | h
          · omega
          · omega
          · exact h.2.2
          · omega
        rw [if_neg h0, if_neg h0]
        have := print_loop v.f2 v.f0 v.f1 (by omega) v.f2.size k 0 [39] (by omega) (by omega) (by simp) (by omega)
        rw [Int.natCast_zero] at this
        rw [this]
        rfl
end Go.Proofs.YtmhnfdgegejlkaaDoor.V
end

section
namespace Go.Proofs.YtmhnfdgegejlkaaDoor.P
open Go.RowKit Go.Proofs.YtmhnfdgegejlkaaDoorW.PrintWords Go.Proofs.YtmhnfdgegejlkaaDoorW.PrintLast Go.Proofs.YtmhnfdgegejlkaaDoorW.PrintMore
attribute [local go_sem] max2_int min2_int max_two min_two max_three min_three max_four min_four
set_option linter.unusedVariables false
set_option linter.unusedSimpArgs false
end Go.Proofs.YtmhnfdgegejlkaaDoor.P
end

section
namespace Go.Proofs.YtmhnfdgegejlkaaDoor.P
open Go.RowKit Go.Proofs.YtmhnfdgegejlkaaDoorW.PrintWords Go.Proofs.YtmhnfdgegejlkaaDoorW.PrintLast Go.Proofs.YtmhnfdgegejlkaaDoorW.PrintMore
attribute [local go_sem] max2_int min2_int max_two min_two max_three min_three max_four min_four
set_option linter.unusedVariables false
set_option linter.unusedSimpArgs false
end Go.Proofs.YtmhnfdgegejlkaaDoor.P
end

section
namespace Go.Proofs.YtmhnfdgegejlkaaDoor.V
open Go Go.RowKit Go.Proofs.YtmhnfdgegejlkaaDoor.P Go.Proofs.YtmhnfdgegejlkaaDoorW.PrintWords
theorem sanity_at : alumlaw19_sanity.f 40 = some true := by kernel_rfl
theorem ev_sanity (k : Nat) (hk : 40 ≤ k) : alumlaw19_sanity.f k = some true := at_rounds (fun k => alumlaw19_sanity.mono k) hk sanity_at
end Go.Proofs.YtmhnfdgegejlkaaDoor.V
end

section
namespace Go.Proofs.YtmhnfdgegejlkaaDoor.V
open Go Go.RowKit Go.Proofs.YtmhnfdgegejlkaaDoor.P Go.Proofs.YtmhnfdgegejlkaaDoorW.PrintWords Go.Proofs.YtmhnfdgegejlkaaDoorW.PrintMore
set_option linter.unusedSimpArgs false
set_option linter.unusedVariables false
theorem pl_eq (b : Int) : P.plainB b = plainB b := by unfold P.plainB plainB; simp [Bool.and_assoc]
def ofI (l : List Int) : List UInt8 := l.map fun x => UInt8.ofNat x.toNat
def toI (l : List UInt8) : List Int := l.map fun b => (b.toNat : Int)
theorem toI_ofI (l : List Int) (h : ∀ b ∈ l, 0 ≤ b ∧ b < 256) : toI (ofI l) = l := by
  induction l with
  | nil => rfl
  | cons x l ih =>
    have hx := h x (List.mem_cons_self)
    have := ih (fun b hb => h b (List.mem_cons_of_mem _ hb))
    unfold toI ofI at this ⊢
    rw [List.map_cons, List.map_cons, this, UInt8.toNat_ofNat']
    congr 1
    omega
theorem ofI_toI (l : List UInt8) : ofI (toI l) = l := by
  induction l with
  | nil => rfl
  | cons x l ih =>
    unfold toI ofI at ih ⊢
    rw [List.map_cons, List.map_cons, ih]
    congr 1
    simp
theorem strOf_toI (l : List UInt8) : strOfNums (toI l) = ⟨l.toArray⟩ := Lib.Lz.strOfNums_map l
theorem bts_str (l : List Int) (h : ∀ b ∈ l, 0 ≤ b ∧ b < 256) : bts (strOfNums l) = l := by
  rw [← toI_ofI l h, strOf_toI]
  unfold bts toI
  simp
theorem str_bts (s : ByteArray) : strOfNums (bts s) = s := strOf_toI s.data.toList
theorem esc_all : ((List.range 256).all fun b => (P.phex 0 [UInt8.ofNat (hexd ((b : Int) / 16)).toNat, UInt8.ofNat (hexd ((b : Int) % 16)).toNat] == some b) && decide (Lib.toLowerA [UInt8.ofNat (hexd ((b : Int) / 16)).toNat, UInt8.ofNat (hexd ((b : Int) % 16)).toNat] = [UInt8.ofNat (hexd ((b : Int) / 16)).toNat, UInt8.ofNat (hexd ((b : Int) % 16)).toNat])) = true := by kernel_rfl
theorem esc_rng (b : Int) (h : 0 ≤ b ∧ b < 256) : ∀ x ∈ esc b, 0 ≤ x ∧ x < 256 := by
  intro x hx
  unfold esc at hx
  split at hx
  · simp at hx; omega
  · unfold hexd at hx
    simp at hx
    rcases hx with hx | hx | hx
    · omega
    · split at hx <;> omega
    · split at hx <;> omega
theorem flat_rng (l : List Int) (h : ∀ b ∈ l, 0 ≤ b ∧ b < 256) : ∀ x ∈ l.flatMap esc, 0 ≤ x ∧ x < 256 := by
  intro x hx
  obtain ⟨b, hb, hx⟩ := List.mem_flatMap.1 hx
  exact esc_rng b (h b hb) x hx
theorem qd_esc_all (l : List Int) (h : ∀ b ∈ l, 0 ≤ b ∧ b < 256) : qd (ofI (l.flatMap esc)) = some l := by
  induction l with
  | nil => rfl
  | cons b l ih =>
    have hb := h b (List.mem_cons_self)
    have ih := ih (fun b hb => h b (List.mem_cons_of_mem _ hb))
    rw [List.flatMap_cons]
    unfold ofI at ih ⊢
    rw [List.map_append]
    by_cases hp : plainB b = true
    · have he : esc b = [b] := by unfold esc; rw [if_pos hp]
      rw [he, List.map_cons, List.map_nil, List.singleton_append]
      have e : ((UInt8.ofNat b.toNat).toNat : Int) = b := by rw [UInt8.toNat_ofNat']; omega
      rw [P.qd_plain, ih, e]
      · rfl
      · intro h92
        rw [h92] at e
        unfold plainB at hp
        rw [← e] at hp
        revert hp
        decide
      · rw [e, pl_eq]; exact hp
    · have he : esc b = [92, hexd (b / 16), hexd (b % 16)] := by unfold esc; rw [if_neg hp]
      have hall := List.all_eq_true.1 esc_all b.toNat (by rw [List.mem_range]; omega)
      rw [show ((b.toNat : Nat) : Int) = b from by omega] at hall
      simp only [Bool.and_eq_true, beq_iff_eq, decide_eq_true_eq] at hall
      rw [he]
      simp only [List.map_cons, List.map_nil, List.cons_append, List.nil_append]
      rw [show UInt8.ofNat (Int.toNat 92) = 92 from rfl, P.qd_esc, hall.1]
      simp only []
      rw [show ((b.toNat : Nat) : Int) = b from by omega, pl_eq, if_neg hp, if_pos hall.2, ih]
      rfl
def txt (t : ByteArray) : ByteArray := strOfNums (39 :: (bts t).flatMap esc ++ [39])
theorem txt_rng (t : ByteArray) : ∀ x ∈ 39 :: (bts t).flatMap esc ++ [39], 0 ≤ x ∧ x < 256 := by
  intro x hx
  simp only [List.mem_append, List.mem_cons, List.cons_append, List.mem_nil_iff, or_false] at hx
  rcases hx with rfl | hx | rfl
  · omega
  · exact flat_rng _ (bts_rng t) x hx
  · omega
theorem bts_txt (t : ByteArray) : bts (txt t) = 39 :: (bts t).flatMap esc ++ [39] := bts_str _ (txt_rng t)
theorem quoted_txt (t : ByteArray) : quotedP (txt t) = some t := by
  have hb := bts_txt t
  have hl : (txt t).size = (bts t |>.flatMap esc).length + 2 := by rw [← bts_len, hb]; simp
  have h0 : bt (txt t) 0 = 39 := by rw [show (0 : Int) = ((0 : Nat) : Int) from rfl, bt_get, hb]; rfl
  have h1 : bt (txt t) ((txt t).size - 1) = 39 := by
    rw [show (((txt t).size : Int) - 1) = (((txt t).size - 1 : Nat) : Int) from by omega, bt_get, hb, hl, List.getD_eq_getElem?_getD]
    simp
  unfold quotedP
  rw [if_neg (by omega), if_neg (by simpa using h0), if_neg (by simpa using h1)]
  have hi : ((txt t).extract 1 ((txt t).size - 1)).data.toList = ofI ((bts t).flatMap esc) := by
    rw [Lib.extract_data, ← ofI_toI (txt t).data.toList, show toI (txt t).data.toList = bts (txt t) from rfl, hb, hl]
    unfold ofI
    simp
  rw [hi, qd_esc_all _ (bts_rng t)]
  simp only [Option.map_some, str_bts]
end Go.Proofs.YtmhnfdgegejlkaaDoor.V
end

section
namespace Go.Proofs.YtmhnfdgegejlkaaDoor.V
open Go Go.RowKit Go.Proofs.YtmhnfdgegejlkaaDoor.P Go.Proofs.YtmhnfdgegejlkaaDoorW.PrintWords Go.Proofs.YtmhnfdgegejlkaaDoorW.PrintMore
set_option linter.unusedSimpArgs false
set_option linter.unusedVariables false
theorem pu_snoc (d : Nat) (hd : d ≤ 9) : ∀ (l : List UInt8) (acc u : Nat), Lib.parseUint10 acc l = .ok u → u < 100000000000000000 → Lib.parseUint10 acc (l ++ [UInt8.ofNat (48 + d)]) = .ok (u * 10 + d) := by
  have hc : (UInt8.ofNat (48 + d)).toNat = 48 + d := by rw [UInt8.toNat_ofNat']; omega
  intro l
  induction l with
  | nil =>
    intro acc u h hu
    simp only [Lib.parseUint10] at h
    injection h with h
    subst h
    simp only [List.nil_append, Lib.parseUint10, hc]
    rw [if_pos (by omega), if_neg (by omega), if_neg (by omega)]
    congr 1
    omega
  | cons c l ih =>
    intro acc u h hu
    simp only [List.cons_append, Lib.parseUint10] at h ⊢
    split at h
    · rename_i h1
      rw [if_pos h1]
      split at h
      · cases h
      · rename_i h2
        rw [if_neg h2]
        split at h
        · cases h
        · rename_i h3
          rw [if_neg h3]
          exact ih _ _ h hu
    · cases h
theorem pu_dec : ∀ (n m : Nat), m ≤ n → m < 100000000000000000 → Lib.parseUint10 0 (Lib.decDigits m) = .ok m := by
  intro n
  induction n with
  | zero =>
    intro m hm hb
    obtain rfl : m = 0 := by omega
    rw [Lib.decDigits_one (by omega)]
    rfl
  | succ n ih =>
    intro m hm hb
    by_cases h : m < 10
    · have := pu_snoc m (by omega) [] 0 0 rfl (by omega)
      rw [Lib.decDigits_one h]
      simpa using this
    · rw [Lib.decDigits, dif_neg h, pu_snoc (m % 10) (by omega) _ 0 (m / 10) (ih _ (by omega) (by omega)) (by omega)]
      congr 1
      omega
theorem dec_all : ∀ (n m : Nat), m ≤ n → ∀ c ∈ Lib.decDigits m, 48 ≤ c.toNat ∧ c.toNat ≤ 57 := by
  intro n
  induction n with
  | zero =>
    intro m hm c hc
    obtain rfl : m = 0 := by omega
    rw [Lib.decDigits_one (by omega)] at hc
    simp at hc
    subst hc
    decide
  | succ n ih =>
    intro m hm c hc
    by_cases h : m < 10
    · rw [Lib.decDigits_one h] at hc
      simp only [List.mem_singleton] at hc
      rw [hc, UInt8.toNat_ofNat']
      omega
    · rw [Lib.decDigits, dif_neg h] at hc
      rcases List.mem_append.1 hc with hc | hc
      · exact ih _ (by omega) c hc
      · simp only [List.mem_singleton] at hc
        rw [hc, UInt8.toNat_ofNat']
        omega
theorem dec_ne (m : Nat) : Lib.decDigits m ≠ [] := by
  rw [Lib.decDigits]
  split <;> simp
theorem dec_cons (m : Nat) : ∃ c r, Lib.decDigits m = c :: r ∧ 48 ≤ c.toNat ∧ c.toNat ≤ 57 := by
  cases h : Lib.decDigits m with
  | nil => exact absurd h (dec_ne m)
  | cons c r => exact ⟨c, r, rfl, dec_all m m (Nat.le_refl _) c (by rw [h]; exact List.mem_cons_self)⟩
theorem itoa_cons (n : Int) : ∃ c r, Lib.itoa n = c :: r ∧ (c.toNat = 45 ∨ 48 ≤ c.toNat ∧ c.toNat ≤ 57) := by
  unfold Lib.itoa
  by_cases h : n < 0
  · rw [if_pos h]; exact ⟨_, _, rfl, Or.inl rfl⟩
  · rw [if_neg h]
    obtain ⟨c, r, e, hc⟩ := dec_cons n.toNat
    exact ⟨c, r, e, Or.inr hc⟩
theorem atoi_itoa (n : Int) (h1 : -549755813888 ≤ n) (h2 : n ≤ 549755813887) : Lib.atoiAll (Lib.itoa n) = .ok n := by
  unfold Lib.itoa
  by_cases h : n < 0
  · rw [if_pos h]
    unfold Lib.atoiAll Lib.parseMag
    simp only [show ((45 : UInt8).toNat = 43 ∨ (45 : UInt8).toNat = 45) from by decide, if_true, dec_ne, if_false, pu_dec _ n.natAbs (Nat.le_refl _) (by omega)]
    rw [if_neg (by intro hh; exact hh.1 rfl), if_neg (by intro hh; have := hh.2; omega)]
    congr 1
    rw [if_pos (by decide)]
    omega
  · rw [if_neg h]
    obtain ⟨c, r, e, hc⟩ := dec_cons n.toNat
    have hp := pu_dec _ n.toNat (Nat.le_refl _) (by omega)
    rw [e] at hp ⊢
    unfold Lib.atoiAll Lib.parseMag
    simp only [show ¬ (c.toNat = 43 ∨ c.toNat = 45) from by omega, if_false, List.cons_ne_nil, hp]
    rw [if_neg (by intro hh; have := hh.2; omega), if_neg (by intro hh; have := hh.1; omega)]
    congr 1
    rw [if_neg (by omega)]
    omega
theorem toList_mk (l : List UInt8) : (⟨l.toArray⟩ : ByteArray).toList = l := by rw [Lib.toList_data]
theorem bt_mk (c : UInt8) (r : List UInt8) : bt (⟨(c :: r).toArray⟩ : ByteArray) 0 = (c.toNat : Int) := by
  rw [show (0 : Int) = ((0 : Nat) : Int) from rfl, bt_get]
  simp [bts]
theorem quoted_no {s : ByteArray} (h : bt s 0 ≠ 39) : quotedP s = none := by
  unfold quotedP
  by_cases h2 : s.size < 2
  · rw [if_pos h2]
  · rw [if_neg h2, if_pos h]
theorem txt_cons (t : ByteArray) : ∃ r, (txt t).toList = 39 :: r := by
  rw [Lib.toList_data, ← ofI_toI (txt t).data.toList, show toI (txt t).data.toList = bts (txt t) from rfl, bts_txt]
  exact ⟨_, rfl⟩
theorem vprint_txt (t : ByteArray) : vprint ⟨2, 0, t⟩ = txt t := by
  unfold vprint txt
  simp
theorem rightI_iff (n : Int) : rightI n = true ↔ -549755813888 ≤ n ∧ n ≤ 549755813887 := by unfold rightI; simp
theorem rightT_iff (t : ByteArray) : rightT t = true ↔ t.size ≤ 40 := by unfold rightT; simp; omega
theorem parse_print {v : V} (h : Rt v) : parseP (vprint v) = some (v.f0, v.f1, v.f2) := by
  obtain ⟨a, b, c⟩ := v
  rcases h with h | h | h | h
  · obtain ⟨rfl, rfl, rfl⟩ : a = 0 ∧ b = 0 ∧ c = e0 := h
    rw [show vprint ⟨0, 0, e0⟩ = ⟨([110, 117, 108, 108] : List UInt8).toArray⟩ from rfl]
    unfold parseP
    rw [toList_mk, if_pos rfl]
  · obtain ⟨rfl, h1, h2, rfl⟩ : a = 1 ∧ -549755813888 ≤ b ∧ b ≤ 549755813887 ∧ c = e0 := h
    have hv : vprint ⟨1, b, e0⟩ = ⟨(Lib.itoa b).toArray⟩ := by unfold vprint; rw [if_pos rfl]
    rw [hv]
    obtain ⟨ch, r, e, hc⟩ := itoa_cons b
    have hq : quotedP ⟨(Lib.itoa b).toArray⟩ = none := by
      rw [e]
      exact quoted_no (by rw [bt_mk]; omega)
    unfold parseP
    rw [toList_mk, hq, if_neg, if_neg, if_neg]
    · simp only [atoi_itoa b h1 h2, if_true]
      rw [if_pos ((rightI_iff b).2 ⟨h1, h2⟩)]
    all_goals
      rw [e]
      intro hh
      injection hh with hh _
      subst hh
      revert hc
      decide
  · obtain ⟨rfl, rfl, h1⟩ : a = 2 ∧ b = 0 ∧ c.size ≤ 40 := h
    rw [vprint_txt]
    obtain ⟨r, e⟩ := txt_cons c
    unfold parseP
    rw [quoted_txt, if_neg, if_neg, if_neg]
    · simp only []
      rw [if_pos ((rightT_iff c).2 h1)]
    all_goals
      rw [e]
      intro hh
      injection hh with hh _
      revert hh
      decide
  · obtain ⟨rfl, h1, rfl⟩ : a = 3 ∧ (b = 0 ∨ b = 1) ∧ c = e0 := h
    rcases h1 with rfl | rfl
    · rw [show vprint ⟨3, 0, e0⟩ = ⟨([102, 97, 108, 115, 101] : List UInt8).toArray⟩ from rfl]
      unfold parseP
      rw [toList_mk, if_neg (by decide), if_neg (by decide), if_pos rfl]
    · rw [show vprint ⟨3, 1, e0⟩ = ⟨([116, 114, 117, 101] : List UInt8).toArray⟩ from rfl]
      unfold parseP
      rw [toList_mk, if_neg (by decide), if_pos rfl]
theorem toList_eq {s : ByteArray} {l : List UInt8} (h : s.toList = l) : s = ⟨l.toArray⟩ := by
  rw [Lib.toList_data] at h
  rw [← h]
end Go.Proofs.YtmhnfdgegejlkaaDoor.V
end

section
namespace Go.Proofs.YtmhnfdgegejlkaaDoor.V
open Go Go.RowKit Go.Proofs.YtmhnfdgegejlkaaDoor.P Go.Proofs.YtmhnfdgegejlkaaDoorW.PrintWords Go.Proofs.YtmhnfdgegejlkaaDoorW.PrintMore
set_option linter.unusedSimpArgs false
set_option linter.unusedVariables false
def dgv (c : Int) : Int := if 48 ≤ c then (if c ≤ 57 then (c - 48) % 256 else if 97 ≤ c ∧ c ≤ 102 then (c - 97) % 256 + 10 else -1) else -1
def hx (a b : Int) : Int := (wrap64 (wrap64 (mx 0 (dgv a) * 16) + mx 0 (dgv b))) % 256
end Go.Proofs.YtmhnfdgegejlkaaDoor.V
end

section
namespace Go.Proofs.YtmhnfdgegejlkaaDoor.V
open Go Go.RowKit Go.Proofs.YtmhnfdgegejlkaaDoor.P Go.Proofs.YtmhnfdgegejlkaaDoorW.PrintWords Go.Proofs.YtmhnfdgegejlkaaDoorW.PrintMore
set_option linter.unusedSimpArgs false
set_option linter.unusedVariables false
theorem print_rng {v : V} (h : Rt v) : ∀ x ∈ bts (vprint v), 32 ≤ x ∧ x ≤ 126 := by
  obtain ⟨a, b, c⟩ := v
  intro x hx
  rcases h with h | h | h | h
  · obtain ⟨rfl, rfl, rfl⟩ : a = 0 ∧ b = 0 ∧ c = e0 := h
    have : bts (vprint ⟨0, 0, e0⟩) = [110, 117, 108, 108] := rfl
    rw [this] at hx
    simp at hx
    omega
  · obtain ⟨rfl, h1, h2, rfl⟩ : a = 1 ∧ -549755813888 ≤ b ∧ b ≤ 549755813887 ∧ c = e0 := h
    have hv : vprint ⟨1, b, e0⟩ = ⟨(Lib.itoa b).toArray⟩ := by unfold vprint; rw [if_pos rfl]
    rw [hv] at hx
    have hb : bts (⟨(Lib.itoa b).toArray⟩ : ByteArray) = toI (Lib.itoa b) := by unfold bts toI; simp
    rw [hb] at hx
    obtain ⟨y, hy, rfl⟩ := List.mem_map.1 hx
    unfold Lib.itoa at hy
    split at hy
    · rcases List.mem_cons.1 hy with rfl | hy
      · decide
      · have := dec_all _ _ (Nat.le_refl _) y hy; omega
    · have := dec_all _ _ (Nat.le_refl _) y hy; omega
  · obtain ⟨rfl, rfl, h1⟩ : a = 2 ∧ b = 0 ∧ c.size ≤ 40 := h
    rw [vprint_txt, bts_txt] at hx
    simp only [List.mem_append, List.mem_cons, List.cons_append, List.mem_nil_iff, or_false] at hx
    rcases hx with rfl | hx | rfl
    · omega
    · obtain ⟨y, hy, hx⟩ := List.mem_flatMap.1 hx
      have hr := bts_rng c y hy
      unfold esc at hx
      split at hx
      · rename_i hp
        simp at hx
        subst hx
        unfold plainB at hp
        simp at hp
        omega
      · unfold hexd at hx
        simp at hx
        rcases hx with hx | hx | hx
        · omega
        · split at hx <;> omega
        · split at hx <;> omega
    · omega
  · obtain ⟨rfl, h1, rfl⟩ : a = 3 ∧ (b = 0 ∨ b = 1) ∧ c = e0 := h
    rcases h1 with rfl | rfl
    · have : bts (vprint ⟨3, 0, e0⟩) = [102, 97, 108, 115, 101] := rfl
      rw [this] at hx
      simp at hx
      omega
    · have : bts (vprint ⟨3, 1, e0⟩) = [116, 114, 117, 101] := rfl
      rw [this] at hx
      simp at hx
      omega
theorem print_len {v : V} (h : Rt v) : (vprint v).size ≤ 1000 := by
  obtain ⟨a, b, c⟩ := v
  rcases h with h | h | h | h
  · obtain ⟨rfl, rfl, rfl⟩ : a = 0 ∧ b = 0 ∧ c = e0 := h
    decide
  · obtain ⟨rfl, h1, h2, rfl⟩ : a = 1 ∧ -549755813888 ≤ b ∧ b ≤ 549755813887 ∧ c = e0 := h
    have hv : vprint ⟨1, b, e0⟩ = ⟨(Lib.itoa b).toArray⟩ := by unfold vprint; rw [if_pos rfl]
    rw [hv, ba_size]
    unfold Lib.itoa
    split
    · have := dig_len 11 b.natAbs (by omega)
      simp only [List.length_cons]
      omega
    · have := dig_len 11 b.toNat (by omega)
      omega
  · obtain ⟨rfl, rfl, h1⟩ : a = 2 ∧ b = 0 ∧ c.size ≤ 40 := h
    rw [vprint_txt, ← bts_len, bts_txt]
    have hl : ∀ l : List Int, (l.flatMap esc).length ≤ 3 * l.length := by
      intro l
      induction l with
      | nil => simp
      | cons x l ih =>
        have := esc_len x
        rw [List.flatMap_cons, List.length_append, List.length_cons]
        omega
    have := hl (bts c)
    rw [bts_len] at this
    rw [List.length_append, List.length_cons, List.length_cons, List.length_nil]
    omega
  · obtain ⟨rfl, h1, rfl⟩ : a = 3 ∧ (b = 0 ∨ b = 1) ∧ c = e0 := h
    rcases h1 with rfl | rfl <;> decide
theorem scan {v : V} (h : Rt v) (d : Nat) : ∀ (k i : Nat), (vprint v).size - i = d → i ≤ (vprint v).size → d + 60 ≤ k → alumlaw19_ValuePrintsT.l0 k (vprint v) i v.f0 v.f1 v.f2 = some true := by
  have hlen := print_len h
  induction d with
  | zero =>
    intro k i hd hi hk
    obtain ⟨k, rfl⟩ : ∃ m, k = m + 1 := ⟨k - 1, by omega⟩
    have hP : value_ParseT.f (vprint v) = some (v.f0, v.f1, v.f2, true) := by
      unfold value_ParseT.f
      rw [if_pos (by omega), parse_print h]
    rw [alumlaw19_ValuePrintsT.l0, if_neg (by omega), hP]
    simp only [Option.bind_some]
    rw [ev_sanity _ (by omega)]
    simp
  | succ d ih =>
    intro k i hd hi hk
    obtain ⟨k, rfl⟩ : ∃ m, k = m + 1 := ⟨k - 1, by omega⟩
    have hb : 32 ≤ bt (vprint v) i ∧ bt (vprint v) i ≤ 126 := by
      rw [bt_get, List.getD_eq_getElem?_getD, List.getElem?_eq_getElem (by rw [bts_len]; omega)]
      exact print_rng h _ (List.getElem_mem _)
    rw [alumlaw19_ValuePrintsT.l0, if_pos (by omega), if_pos (by omega), if_neg (by omega), if_neg (by omega), show (wrap64 ((i : Int) + 1)) = (((i + 1 : Nat)) : Int) from by rw [wrap64_id (by omega) (by omega)]; omega]
    exact ih k (i + 1) (by omega) (by omega) (by omega)
theorem ValuePrints : alumlaw19_ValuePrintsT.Pure := by
  intro v hv
  refine ⟨1200, ?_⟩
  unfold alumlaw19_ValuePrintsT.f
  by_cases h : Rt v
  · rw [refRight_yes h]
    simp only [Option.bind_some, if_true]
    rw [ev_Print _ (by omega) v h]
    simp only [Option.bind_some]
    exact scan h _ _ 0 rfl (by omega) (by have := print_len h; omega)
  · rw [refRight_no h]
    simp only [Option.bind_some]
    rw [if_neg (by simp), ev_sanity _ (by omega)]
    rfl
end Go.Proofs.YtmhnfdgegejlkaaDoor.V
end

section
namespace Go.Proofs.YtmhnfdgegejlkaaDoor.valuePrints
open Go Go.ChangeShapes Go.WideShapes Go.ChangeAt Go.RowKit Go.Proofs.YtmhnfdgegejlkaaDoor.P Go.Proofs.YtmhnfdgegejlkaaDoorW.PrintWords
open Go.ChangeMaps (open_string shut_string)
set_option linter.unusedVariables false
theorem own : ownKnob Tryd.prog.godebug = none := by kernel_rfl
theorem laidOut : laidOutB Tryd.prog = true := by kernel_rfl
set_option maxRecDepth 100000 in
set_option maxHeartbeats 4000000 in
theorem lifted (os : Os) (started : os.Started) (H : Type) (enc : TypeId × Value → H) :
    ReturnsInHanded {} Tryd.checked os 10 .any (fun w args => (Rows.valuePrintsSpec.pre enc Tryd.prog Tryd.f10 [] false w args ∧ laidMetH Tryd.prog Rows.valuePrintsRow.laid w) ∧ sizedMet enc Tryd.prog Tryd.f10 (OpenSpec.ofChange Rows.valuePrintsSpec) false w args)
      (Rows.valuePrintsSpec.post enc Tryd.prog Tryd.f10 false true false false) := by
  refine returnsInHanded_of_change_and (C := Tryd.checked) (X := fun w _ => laidMetH Tryd.prog Rows.valuePrintsRow.laid w) (fun _ _ _ hh h => h.of_heap hh) own started (by kernel_rfl) Tryd.func10
    (ChangeSpec.witness_shaped (enc := enc) (C := Tryd.checked) (os := os) (X := fun w _ => laidMetH Tryd.prog Rows.valuePrintsRow.laid w) false (World.laidAll Tryd.prog os Rows.valuePrintsRow.laid) #[.agg #[.int .i64 0, .int .i64 0, .string ByteArray.empty]] 8 (World.laidAll_os _ _ _) (World.shaped_of_ZipB (by kernel_rfl) (by kernel_rfl)) (by kernel_rfl) (by kernel_rfl) (by kernel_rfl) (by rw [MakeChecks.laidMetH_plain _ _ _ (by kernel_rfl)]; exact laidMet_laidAll _ (by kernel_rfl) (by kernel_rfl))) ?_
  intro W base args ds gs before hval0 hW hcnd hsz0 hL _
  have hsz : (DataW.weightsEach Tryd.prog (Tryd.f10.params.toList ++ Rows.valuePrintsSpec.plain.varTypes Tryd.prog) (ds ++ gs)).all (· ≤ reachBytes) = true := hsz0
  have hval : ∀ (j : Nat) t v, Tryd.f10.params[j]? = some t → args[j]? = some v → Value.okWide Tryd.prog W .any base t v := hval0
  have hW' := hW
  obtain ⟨p, q, hA0, hV, rfl, hfz, hnd⟩ := hW
  have hA : DataW.TrodAll enc Tryd.prog W 0 (fun _ => true) true Tryd.f10.params.toList args.toList ds p := hA0
  rw [Tryd.params10] at hA hval hsz
  obtain ⟨v0, vs0, d0, ds0, p0, q0, hargs, rfl, rfl, h0, r0⟩ := trodAll_cons hA
  obtain ⟨rfl, rfl, rfl⟩ := trodAll_nil r0
  obtain rfl : args = #[v0] := Array.toList_inj.1 hargs
  obtain ⟨rfl, rfl⟩ := trodVars_none hV
  have wt0 : ∀ m ∈ d0.weights Tryd.prog 23, m ≤ reachBytes := fun m hm => of_decide_eq_true (List.all_eq_true.1 hsz m (DataW.weights_mem_each (j := 0) rfl rfl m hm))
  have k0 := h0
  have lt0 : ∀ x ∈ p0, x.block < W.heap.size := by obtain ⟨m, hm⟩ := k0; exact DataW.trod_lt m _ _ _ hm
  obtain ⟨cs0, rfl, hcs0⟩ := okWide_struct Tryd.underlying23 (hval 0 23 v0 rfl rfl)
  obtain ⟨fu0, hf0⟩ := h0
  obtain ⟨x0, K0, g0⟩ := (op23 enc W).2 fu0 _ _ _ hf0 wt0
  obtain rfl : cs0 = #[.int .i64 x0.f0, .int .i64 x0.f1, .string x0.f2] := Array.toList_inj.1 (k23_open K0)
  clear hA0 hval0 hsz0 hsz
  obtain ⟨k, h⟩ := V.ValuePrints x0 g0
  refine (alumlaw19_ValuePrintsT.calls (htab := tabW_of (by kernel_rfl) (by kernel_rfl) (by kernel_rfl) hL) k x0.f0 x0.f1 x0.f2 true W h).mono fun e W' ⟨he, bel⟩ => ?_
  subst he
  exact ⟨_, rfl, _, _, _, [], _, [], hW', trodAll_mk1 (shut_bool Tryd.underlying4 _), (trodAll_cons_mk (Below.trod laidOut (by kernel_rfl) (of_decide_eq_true (by kernel_rfl)) k0 bel lt0) trodAll_mk0), rfl, bel.frame _, fun h => by cases h⟩
theorem over : Rows.valuePrintsRow.holds Tryd.pinned (OpenSpec.ofChange Rows.valuePrintsSpec) :=
  OpenClaim.holds_of_wide 10 Tryd.f10 rfl rfl rfl rfl rfl rfl rfl ⟨rfl, rfl, rfl, rfl, rfl⟩ rfl rfl rfl rfl rfl (by kernel_rfl) Tryd.func10 (by kernel_rfl)
    (of_decide_eq_true (by kernel_rfl)) (by unfold Func.isWrapper; first | (rw [if_pos (by decide +kernel)]; kernel_rfl) | (rw [if_neg (by decide +kernel)]; exact ⟨rfl, rfl⟩))
    (fun os started H enc _ => lifted os started H enc)
theorem proved : Rows.ValuePrintsSaid := over
theorem card : Rows.ValuePrintsCardSaid :=
  Claim7.holds_tied_plain_at .later [] [.data, .data, .data, .data, .sentinel, .sentinel, .pinned, .pinned] true (true, "eaa6d28c6d451e0ea154fbe0a4847d0661ee0ec78c71484efcf210b047928753") true
    proved (fun _ h => by cases h) (by kernel_rfl) (fun _ h => by cases h) valuePrints_row_tie rfl ⟨rfl, rfl⟩ (by kernel_rfl) rfl
    (fun f fn hf hfn => by
      obtain rfl : f = 10 := Option.some.inj ((show Tryd.prog.funcNamed "alum/alumlaw19.ValuePrints" = some 10 by kernel_rfl).symm.trans hf) |>.symm
      obtain rfl : fn = Tryd.f10 := (Option.some.inj (Tryd.func10.symm.trans hfn)).symm
      exact ⟨by kernel_rfl, fun j t ht => by
        rw [Tryd.params10] at ht
        have hm : t ∈ [23] := by simpa using Array.mem_of_getElem? ht
        have hall : ([23].all fun u => !Tryd.prog.wantsStandIn u) = true := by kernel_rfl
        exact (show Tryd.prog.wantsStandIn t = false by simpa using List.all_eq_true.1 hall t hm)⟩)
    (by kernel_rfl)
#print axioms card
end Go.Proofs.YtmhnfdgegejlkaaDoor.valuePrints
end
