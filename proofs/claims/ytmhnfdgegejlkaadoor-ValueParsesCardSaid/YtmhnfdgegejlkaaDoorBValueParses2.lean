/- Part 2 of the proof of ValueParses: what the functions that it reaches answer. -/
import Derived.Test.YtmhnfdgegejlkaaDoorBValueParses0
import Derived.Test.YtmhnfdgegejlkaaDoorBValueParses1
section
namespace Go.Proofs.YtmhnfdgegejlkaaDoor.P
open Go.RowKit Go.Proofs.YtmhnfdgegejlkaaDoorW.PrintWords Go.Proofs.YtmhnfdgegejlkaaDoorW.PrintLast Go.Proofs.YtmhnfdgegejlkaaDoorW.PrintMore
attribute [local go_sem] max2_int min2_int max_two min_two max_three min_three max_four min_four
set_option linter.unusedVariables false
set_option linter.unusedSimpArgs false
attribute [local go_sem high] eqA23
mutual
def alumlaw19_sanity.j0 : Nat → Bool → Int → Int → ByteArray → Option (Bool)
 | 0, _, _, _, _ => none
 | k + 1, x12, x240000, x240001, x240002 => (alumlaw19_num.f (-549755813888)).bind fun bt289 => ((value_Key.f k (([(⟨bt289.1, bt289.2.1, bt289.2.2⟩ : S23), (⟨x240000, x240001, x240002⟩ : S23)] : List (S23))) 9).bind fun t295 => ((alumref19_SameInts.f k t295 (([1, 0, 2, 418262508548, 0] : List Int))).bind fun t301 => (if t301 = true then ((alumlaw19_num.f (-5)).bind fun bt302 => ((value_Compare.f k 0 0 (⟨#[]⟩ : ByteArray) bt302.1 bt302.2.1 bt302.2.2).bind fun t305 => (if t305 = (-1) then ((value_Compare.f k 2 0 (⟨#[98]⟩ : ByteArray) 2 0 (⟨#[97, 98]⟩ : ByteArray)).bind fun t306 => (alumlaw19_sanity.j1 k x12 (t306 == 1))) else (none)))) else (none))))
def alumlaw19_sanity.j1 : Nat → Bool → Bool → Option (Bool)
 | 0, _, _ => none
 | k + 1, x12, x14 => if x12 = true then (if x14 = true then ((value_Print.f k 2 0 (⟨#[97, 39, 10]⟩ : ByteArray)).bind fun t307 => (if t307.toList = ([39, 97, 92, 50, 55, 92, 48, 97, 39] : List UInt8) then ((alumlaw19_num.f 549755813887).bind fun bt308 => ((value_Right.f bt308.1 bt308.2.1 bt308.2.2).bind fun t311 => (if t311 = true then ((alumlaw19_num.f 549755813888).bind fun bt312 => ((value_Right.f bt312.1 bt312.2.1 bt312.2.2).bind fun t315 => (some (!t315)))) else (none)))) else (none))) else (none)) else (none)
end
def alumlaw19_sanity.f (k : Nat)  : Option (Bool) := (alumlaw19_num.f 3).bind fun bt240 => ((value_Test.f k 9 bt240.1 bt240.2.1 bt240.2.2 0 0 (⟨#[]⟩ : ByteArray)).bind fun bt243 => ((alumlaw19_num.f 3).bind fun bt248 => ((value_Test.f k 6 bt248.1 bt248.2.1 bt248.2.2 2 0 (⟨#[97, 98, 99, 100]⟩ : ByteArray)).bind fun bt251 => ((alumlaw19_num.f 2).bind fun bt256 => ((alumlaw19_num.f 3).bind fun bt259 => ((value_Test.f k 8 bt256.1 bt256.2.1 bt256.2.2 bt259.1 bt259.2.1 bt259.2.2).bind fun bt262 => ((alumref19_Bool.f false).bind fun bt267 => ((value_And.f k bt267.1 bt267.2.1 bt267.2.2 0 0 (⟨#[]⟩ : ByteArray)).bind fun bt270 => ((alumref19_Bool.f false).bind fun bt275 => ((value_Or.f k bt275.1 bt275.2.1 bt275.2.2 0 0 (⟨#[]⟩ : ByteArray)).bind fun bt278 => (if (bt243.1 == 0 && (bt243.2.1 == 0 && (bt243.2.2.1.toList == ([] : List UInt8)))) = true then (if bt243.2.2.2 = 0 then (if bt251.2.2.2 = 7 then ((alumref19_Bool.f true).bind fun bt283 => (if (bt262.1 == bt283.1 && (bt262.2.1 == bt283.2.1 && (bt262.2.2.1.toList == bt283.2.2.toList))) = true then (if bt262.2.2.2 = 0 then ((alumref19_Bool.f false).bind fun bt286 => (if (bt270.1 == bt286.1 && (bt270.2.1 == bt286.2.1 && (bt270.2.2.1.toList == bt286.2.2.toList))) = true then (if bt270.2.2.2 = 0 then (if (bt278.1 == 0 && (bt278.2.1 == 0 && (bt278.2.2.1.toList == ([] : List UInt8)))) = true then (alumlaw19_sanity.j0 k (bt278.2.2.2 == 0) 2 0 (⟨#[97, 98, 99, 100]⟩ : ByteArray)) else (none)) else (none)) else (none))) else (none)) else (none))) else (none)) else (none)) else (none))))))))))))
theorem alumlaw19_sanity.mono_l : ∀ k, (∀ y0 y1 y2 y3, LeO (alumlaw19_sanity.j0 k y0 y1 y2 y3) (alumlaw19_sanity.j0 (k + 1) y0 y1 y2 y3)) ∧ (∀ y0 y1, LeO (alumlaw19_sanity.j1 k y0 y1) (alumlaw19_sanity.j1 (k + 1) y0 y1))
 | 0 => ⟨fun _ _ _ _ r h => by simp [alumlaw19_sanity.j0] at h, fun _ _ r h => by simp [alumlaw19_sanity.j1] at h⟩
 | k + 1 => by
  obtain ⟨ih0, ih1⟩ := alumlaw19_sanity.mono_l k
  refine ⟨?_, ?_⟩
  ·intro y0 y1 y2 y3
   unfold alumlaw19_sanity.j0
   repeat' first
   | (with_reducible exact ih0 _ _ _ _)
   | (with_reducible exact ih1 _ _)
   | (with_reducible exact alumref19_SameInts.mono _ _ _)
   | (with_reducible exact value_And.mono _ _ _ _ _ _ _)
   | (with_reducible exact value_Compare.mono _ _ _ _ _ _ _)
   | (with_reducible exact value_Key.mono _ _ _)
   | (with_reducible exact value_Or.mono _ _ _ _ _ _ _)
   | (with_reducible exact value_Print.mono _ _ _ _)
   | (with_reducible exact value_Test.mono _ _ _ _ _ _ _ _)
   | (with_reducible exact LeO.refl _)
   | (with_reducible exact LeO.none _)
   | (with_reducible refine LeO.ite ?_ ?_)
   | (with_reducible refine LeO.bind ?_ (fun _ => ?_))
   | exact ih0 _ _ _ _
   | exact ih1 _ _
   | exact alumref19_SameInts.mono _ _ _
   | exact value_And.mono _ _ _ _ _ _ _
   | exact value_Compare.mono _ _ _ _ _ _ _
   | exact value_Key.mono _ _ _
   | exact value_Or.mono _ _ _ _ _ _ _
   | exact value_Print.mono _ _ _ _
   | exact value_Test.mono _ _ _ _ _ _ _ _
   | exact LeO.none _
   | refine LeO.ite ?_ ?_
   | refine LeO.bind ?_ (fun _ => ?_)
  ·intro y0 y1
   unfold alumlaw19_sanity.j1
   repeat' first
   | (with_reducible exact ih0 _ _ _ _)
   | (with_reducible exact ih1 _ _)
   | (with_reducible exact alumref19_SameInts.mono _ _ _)
   | (with_reducible exact value_And.mono _ _ _ _ _ _ _)
   | (with_reducible exact value_Compare.mono _ _ _ _ _ _ _)
   | (with_reducible exact value_Key.mono _ _ _)
   | (with_reducible exact value_Or.mono _ _ _ _ _ _ _)
   | (with_reducible exact value_Print.mono _ _ _ _)
   | (with_reducible exact value_Test.mono _ _ _ _ _ _ _ _)
   | (with_reducible exact LeO.refl _)
   | (with_reducible exact LeO.none _)
   | (with_reducible refine LeO.ite ?_ ?_)
   | (with_reducible refine LeO.bind ?_ (fun _ => ?_))
   | exact ih0 _ _ _ _
   | exact ih1 _ _
   | exact alumref19_SameInts.mono _ _ _
   | exact value_And.mono _ _ _ _ _ _ _
   | exact value_Compare.mono _ _ _ _ _ _ _
   | exact value_Key.mono _ _ _
   | exact value_Or.mono _ _ _ _ _ _ _
   | exact value_Print.mono _ _ _ _
   | exact value_Test.mono _ _ _ _ _ _ _ _
   | exact LeO.none _
   | refine LeO.ite ?_ ?_
   | refine LeO.bind ?_ (fun _ => ?_)
theorem alumlaw19_sanity.mono : ∀ k, LeO (alumlaw19_sanity.f k ) (alumlaw19_sanity.f (k + 1) ) := by
 intro  k
 obtain ⟨ih0, ih1⟩ := alumlaw19_sanity.mono_l k
 unfold alumlaw19_sanity.f
 repeat' first
   | (with_reducible exact ih0 _ _ _ _)
   | (with_reducible exact ih1 _ _)
   | (with_reducible exact alumref19_SameInts.mono _ _ _)
   | (with_reducible exact value_And.mono _ _ _ _ _ _ _)
   | (with_reducible exact value_Compare.mono _ _ _ _ _ _ _)
   | (with_reducible exact value_Key.mono _ _ _)
   | (with_reducible exact value_Or.mono _ _ _ _ _ _ _)
   | (with_reducible exact value_Print.mono _ _ _ _)
   | (with_reducible exact value_Test.mono _ _ _ _ _ _ _ _)
   | (with_reducible exact LeO.refl _)
   | (with_reducible exact LeO.none _)
   | (with_reducible refine LeO.ite ?_ ?_)
   | (with_reducible refine LeO.bind ?_ (fun _ => ?_))
   | exact ih0 _ _ _ _
   | exact ih1 _ _
   | exact alumref19_SameInts.mono _ _ _
   | exact value_And.mono _ _ _ _ _ _ _
   | exact value_Compare.mono _ _ _ _ _ _ _
   | exact value_Key.mono _ _ _
   | exact value_Or.mono _ _ _ _ _ _ _
   | exact value_Print.mono _ _ _ _
   | exact value_Test.mono _ _ _ _ _ _ _ _
   | exact LeO.none _
   | refine LeO.ite ?_ ?_
   | refine LeO.bind ?_ (fun _ => ?_)
def alumlaw19_sanity.T3 : Bool × List (List Nat × List Nat) := (true, [([], []), ([], []), ([0, 1, 0], [0, 1]), ([2], [2]), ([3], [3]), ([3], [3]), ([], []), ([6, 4, 2, 0, 1, 2, 3, 4, 6], [4, 6]), ([5, 7, 0, 1, 2, 3, 4, 5, 6, 7], [5])])
def alumlaw19_sanity.B3 : List Nat := [0, 0, 3, 7, 15, 15, 0, 95, 255]
theorem alumlaw19_sanity.tab3 : rtab .any (opsOf Tryd.f12 3) = alumlaw19_sanity.T3 := by kernel_rfl
theorem alumlaw19_sanity.bits3 : waitsOk alumlaw19_sanity.T3.2 alumlaw19_sanity.B3 = true := by kernel_rfl
def alumlaw19_sanity.T7 : Bool × List (List Nat × List Nat) := (true, [([], []), ([], []), ([0, 1], [0, 1]), ([2], [2]), ([3], [3]), ([4, 3], [3, 4]), ([3, 5], [3, 5]), ([6, 3], [6]), ([7], [7]), ([8, 7], [7, 8]), ([7, 9], [7, 9]), ([10, 7], [10]), ([11], [11]), ([11, 11], [11]), ([12, 13, 11], [11, 12, 13]), ([11, 14], [11, 14]), ([15, 13], [15]), ([16], [16]), ([17, 16], [16, 17]), ([16, 18], [16, 18]), ([19, 16], [19]), ([20], [20]), ([20, 20], [20]), ([21, 22, 20], [20, 21, 22]), ([20, 23], [20, 23]), ([24, 22], [24]), ([25], [25]), ([26, 25], [25, 26]), ([25, 27], [25, 27]), ([28, 25], [28]), ([29], [29]), ([29], [29]), ([30, 31, 29], [29, 30, 31]), ([29, 32], [29, 32]), ([33, 29], [33]), ([34], [34]), ([35, 34], [34, 35]), ([34, 36], [34, 36]), ([37, 34, 0, 1, 2, 3, 4, 5, 6, 7, 8, 9, 10, 11, 12, 13, 14, 15, 16, 17, 18, 19, 20, 21, 22, 23, 24, 25, 26, 27, 28, 29, 30, 31, 32, 33, 34, 35, 36, 37], [37])])
def alumlaw19_sanity.B7 : List Nat := [0, 0, 3, 7, 15, 31, 63, 127, 255, 511, 1023, 2047, 4095, 4095, 16383, 32767, 65535, 131071, 262143, 524287, 1048575, 2097151, 2097151, 8388607, 16777215, 33554431, 67108863, 134217727, 268435455, 536870911, 1073741823, 1073741823, 4294967295, 8589934591, 17179869183, 34359738367, 68719476735, 137438953471, 274877906943]
theorem alumlaw19_sanity.tab7 : rtab .any (opsOf Tryd.f12 7) = alumlaw19_sanity.T7 := by kernel_rfl
theorem alumlaw19_sanity.bits7 : waitsOk alumlaw19_sanity.T7.2 alumlaw19_sanity.B7 = true := by kernel_rfl
set_option maxHeartbeats 8000000 in
set_option maxRecDepth 100000 in
theorem alumlaw19_sanity.calls (k : Nat)  (r : Bool) (w : World) (h : alumlaw19_sanity.f k  = some r) :
  Calls Tryd.prog 12 #[] w fun e w' => e = .returned (.bool r) ∧ Below w.heap.size w w' := by
 have hu23 := Tryd.underlying23
 have HB := Aside0.mk (Below.refl w.heap.size w)
 have H : ((alumlaw19_num.f 3).bind fun bt240 => ((value_Test.f k 9 bt240.1 bt240.2.1 bt240.2.2 0 0 (⟨#[]⟩ : ByteArray)).bind fun bt243 => ((alumlaw19_num.f 3).bind fun bt248 => ((value_Test.f k 6 bt248.1 bt248.2.1 bt248.2.2 2 0 (⟨#[97, 98, 99, 100]⟩ : ByteArray)).bind fun bt251 => ((alumlaw19_num.f 2).bind fun bt256 => ((alumlaw19_num.f 3).bind fun bt259 => ((value_Test.f k 8 bt256.1 bt256.2.1 bt256.2.2 bt259.1 bt259.2.1 bt259.2.2).bind fun bt262 => ((alumref19_Bool.f false).bind fun bt267 => ((value_And.f k bt267.1 bt267.2.1 bt267.2.2 0 0 (⟨#[]⟩ : ByteArray)).bind fun bt270 => ((alumref19_Bool.f false).bind fun bt275 => ((value_Or.f k bt275.1 bt275.2.1 bt275.2.2 0 0 (⟨#[]⟩ : ByteArray)).bind fun bt278 => (if (bt243.1 == 0 && (bt243.2.1 == 0 && (bt243.2.2.1.toList == ([] : List UInt8)))) = true then (if bt243.2.2.2 = 0 then (if bt251.2.2.2 = 7 then ((alumref19_Bool.f true).bind fun bt283 => (if (bt262.1 == bt283.1 && (bt262.2.1 == bt283.2.1 && (bt262.2.2.1.toList == bt283.2.2.toList))) = true then (if bt262.2.2.2 = 0 then ((alumref19_Bool.f false).bind fun bt286 => (if (bt270.1 == bt286.1 && (bt270.2.1 == bt286.2.1 && (bt270.2.2.1.toList == bt286.2.2.toList))) = true then (if bt270.2.2.2 = 0 then (if (bt278.1 == 0 && (bt278.2.1 == 0 && (bt278.2.2.1.toList == ([] : List UInt8)))) = true then (alumlaw19_sanity.j0 k (bt278.2.2.2 == 0) 2 0 (⟨#[97, 98, 99, 100]⟩ : ByteArray)) else (none)) else (none)) else (none))) else (none)) else (none))) else (none)) else (none)) else (none))))))))))))) = some r := h
 clear h
 replace H := Option.bind_eq_some_iff.mp H
 obtain ⟨⟨t240, t241, t242⟩, A10, H⟩ := H
 replace H : ((value_Test.f k 9 t240 t241 t242 0 0 (⟨#[]⟩ : ByteArray)).bind fun bt243 => ((alumlaw19_num.f 3).bind fun bt248 => ((value_Test.f k 6 bt248.1 bt248.2.1 bt248.2.2 2 0 (⟨#[97, 98, 99, 100]⟩ : ByteArray)).bind fun bt251 => ((alumlaw19_num.f 2).bind fun bt256 => ((alumlaw19_num.f 3).bind fun bt259 => ((value_Test.f k 8 bt256.1 bt256.2.1 bt256.2.2 bt259.1 bt259.2.1 bt259.2.2).bind fun bt262 => ((alumref19_Bool.f false).bind fun bt267 => ((value_And.f k bt267.1 bt267.2.1 bt267.2.2 0 0 (⟨#[]⟩ : ByteArray)).bind fun bt270 => ((alumref19_Bool.f false).bind fun bt275 => ((value_Or.f k bt275.1 bt275.2.1 bt275.2.2 0 0 (⟨#[]⟩ : ByteArray)).bind fun bt278 => (if (bt243.1 == 0 && (bt243.2.1 == 0 && (bt243.2.2.1.toList == ([] : List UInt8)))) = true then (if bt243.2.2.2 = 0 then (if bt251.2.2.2 = 7 then ((alumref19_Bool.f true).bind fun bt283 => (if (bt262.1 == bt283.1 && (bt262.2.1 == bt283.2.1 && (bt262.2.2.1.toList == bt283.2.2.toList))) = true then (if bt262.2.2.2 = 0 then ((alumref19_Bool.f false).bind fun bt286 => (if (bt270.1 == bt286.1 && (bt270.2.1 == bt286.2.1 && (bt270.2.2.1.toList == bt286.2.2.toList))) = true then (if bt270.2.2.2 = 0 then (if (bt278.1 == 0 && (bt278.2.1 == 0 && (bt278.2.2.1.toList == ([] : List UInt8)))) = true then (alumlaw19_sanity.j0 k (bt278.2.2.2 == 0) 2 0 (⟨#[97, 98, 99, 100]⟩ : ByteArray)) else (none)) else (none)) else (none))) else (none)) else (none))) else (none)) else (none)) else (none)))))))))))) = some r := H
 have A1 := Aside0.mk A10
 clear A10
 replace H := Option.bind_eq_some_iff.mp H
 obtain ⟨⟨t243, t244, t245, t246⟩, A20, H⟩ := H
 replace H : ((alumlaw19_num.f 3).bind fun bt248 => ((value_Test.f k 6 bt248.1 bt248.2.1 bt248.2.2 2 0 (⟨#[97, 98, 99, 100]⟩ : ByteArray)).bind fun bt251 => ((alumlaw19_num.f 2).bind fun bt256 => ((alumlaw19_num.f 3).bind fun bt259 => ((value_Test.f k 8 bt256.1 bt256.2.1 bt256.2.2 bt259.1 bt259.2.1 bt259.2.2).bind fun bt262 => ((alumref19_Bool.f false).bind fun bt267 => ((value_And.f k bt267.1 bt267.2.1 bt267.2.2 0 0 (⟨#[]⟩ : ByteArray)).bind fun bt270 => ((alumref19_Bool.f false).bind fun bt275 => ((value_Or.f k bt275.1 bt275.2.1 bt275.2.2 0 0 (⟨#[]⟩ : ByteArray)).bind fun bt278 => (if (t243 == 0 && (t244 == 0 && (t245.toList == ([] : List UInt8)))) = true then (if t246 = 0 then (if bt251.2.2.2 = 7 then ((alumref19_Bool.f true).bind fun bt283 => (if (bt262.1 == bt283.1 && (bt262.2.1 == bt283.2.1 && (bt262.2.2.1.toList == bt283.2.2.toList))) = true then (if bt262.2.2.2 = 0 then ((alumref19_Bool.f false).bind fun bt286 => (if (bt270.1 == bt286.1 && (bt270.2.1 == bt286.2.1 && (bt270.2.2.1.toList == bt286.2.2.toList))) = true then (if bt270.2.2.2 = 0 then (if (bt278.1 == 0 && (bt278.2.1 == 0 && (bt278.2.2.1.toList == ([] : List UInt8)))) = true then (alumlaw19_sanity.j0 k (bt278.2.2.2 == 0) 2 0 (⟨#[97, 98, 99, 100]⟩ : ByteArray)) else (none)) else (none)) else (none))) else (none)) else (none))) else (none)) else (none)) else (none))))))))))) = some r := H
 have A2 := Aside0.mk A20
 clear A20
 replace H := Option.bind_eq_some_iff.mp H
 obtain ⟨⟨t248, t249, t250⟩, A30, H⟩ := H
 replace H : ((value_Test.f k 6 t248 t249 t250 2 0 (⟨#[97, 98, 99, 100]⟩ : ByteArray)).bind fun bt251 => ((alumlaw19_num.f 2).bind fun bt256 => ((alumlaw19_num.f 3).bind fun bt259 => ((value_Test.f k 8 bt256.1 bt256.2.1 bt256.2.2 bt259.1 bt259.2.1 bt259.2.2).bind fun bt262 => ((alumref19_Bool.f false).bind fun bt267 => ((value_And.f k bt267.1 bt267.2.1 bt267.2.2 0 0 (⟨#[]⟩ : ByteArray)).bind fun bt270 => ((alumref19_Bool.f false).bind fun bt275 => ((value_Or.f k bt275.1 bt275.2.1 bt275.2.2 0 0 (⟨#[]⟩ : ByteArray)).bind fun bt278 => (if (t243 == 0 && (t244 == 0 && (t245.toList == ([] : List UInt8)))) = true then (if t246 = 0 then (if bt251.2.2.2 = 7 then ((alumref19_Bool.f true).bind fun bt283 => (if (bt262.1 == bt283.1 && (bt262.2.1 == bt283.2.1 && (bt262.2.2.1.toList == bt283.2.2.toList))) = true then (if bt262.2.2.2 = 0 then ((alumref19_Bool.f false).bind fun bt286 => (if (bt270.1 == bt286.1 && (bt270.2.1 == bt286.2.1 && (bt270.2.2.1.toList == bt286.2.2.toList))) = true then (if bt270.2.2.2 = 0 then (if (bt278.1 == 0 && (bt278.2.1 == 0 && (bt278.2.2.1.toList == ([] : List UInt8)))) = true then (alumlaw19_sanity.j0 k (bt278.2.2.2 == 0) 2 0 (⟨#[97, 98, 99, 100]⟩ : ByteArray)) else (none)) else (none)) else (none))) else (none)) else (none))) else (none)) else (none)) else (none)))))))))) = some r := H
 have A3 := Aside0.mk A30
 clear A30
 replace H := Option.bind_eq_some_iff.mp H
 obtain ⟨⟨t251, t252, t253, t254⟩, A40, H⟩ := H
 replace H : ((alumlaw19_num.f 2).bind fun bt256 => ((alumlaw19_num.f 3).bind fun bt259 => ((value_Test.f k 8 bt256.1 bt256.2.1 bt256.2.2 bt259.1 bt259.2.1 bt259.2.2).bind fun bt262 => ((alumref19_Bool.f false).bind fun bt267 => ((value_And.f k bt267.1 bt267.2.1 bt267.2.2 0 0 (⟨#[]⟩ : ByteArray)).bind fun bt270 => ((alumref19_Bool.f false).bind fun bt275 => ((value_Or.f k bt275.1 bt275.2.1 bt275.2.2 0 0 (⟨#[]⟩ : ByteArray)).bind fun bt278 => (if (t243 == 0 && (t244 == 0 && (t245.toList == ([] : List UInt8)))) = true then (if t246 = 0 then (if t254 = 7 then ((alumref19_Bool.f true).bind fun bt283 => (if (bt262.1 == bt283.1 && (bt262.2.1 == bt283.2.1 && (bt262.2.2.1.toList == bt283.2.2.toList))) = true then (if bt262.2.2.2 = 0 then ((alumref19_Bool.f false).bind fun bt286 => (if (bt270.1 == bt286.1 && (bt270.2.1 == bt286.2.1 && (bt270.2.2.1.toList == bt286.2.2.toList))) = true then (if bt270.2.2.2 = 0 then (if (bt278.1 == 0 && (bt278.2.1 == 0 && (bt278.2.2.1.toList == ([] : List UInt8)))) = true then (alumlaw19_sanity.j0 k (bt278.2.2.2 == 0) 2 0 (⟨#[97, 98, 99, 100]⟩ : ByteArray)) else (none)) else (none)) else (none))) else (none)) else (none))) else (none)) else (none)) else (none))))))))) = some r := H
 have A4 := Aside0.mk A40
 clear A40
 replace H := Option.bind_eq_some_iff.mp H
 obtain ⟨⟨t256, t257, t258⟩, A50, H⟩ := H
 replace H : ((alumlaw19_num.f 3).bind fun bt259 => ((value_Test.f k 8 t256 t257 t258 bt259.1 bt259.2.1 bt259.2.2).bind fun bt262 => ((alumref19_Bool.f false).bind fun bt267 => ((value_And.f k bt267.1 bt267.2.1 bt267.2.2 0 0 (⟨#[]⟩ : ByteArray)).bind fun bt270 => ((alumref19_Bool.f false).bind fun bt275 => ((value_Or.f k bt275.1 bt275.2.1 bt275.2.2 0 0 (⟨#[]⟩ : ByteArray)).bind fun bt278 => (if (t243 == 0 && (t244 == 0 && (t245.toList == ([] : List UInt8)))) = true then (if t246 = 0 then (if t254 = 7 then ((alumref19_Bool.f true).bind fun bt283 => (if (bt262.1 == bt283.1 && (bt262.2.1 == bt283.2.1 && (bt262.2.2.1.toList == bt283.2.2.toList))) = true then (if bt262.2.2.2 = 0 then ((alumref19_Bool.f false).bind fun bt286 => (if (bt270.1 == bt286.1 && (bt270.2.1 == bt286.2.1 && (bt270.2.2.1.toList == bt286.2.2.toList))) = true then (if bt270.2.2.2 = 0 then (if (bt278.1 == 0 && (bt278.2.1 == 0 && (bt278.2.2.1.toList == ([] : List UInt8)))) = true then (alumlaw19_sanity.j0 k (bt278.2.2.2 == 0) 2 0 (⟨#[97, 98, 99, 100]⟩ : ByteArray)) else (none)) else (none)) else (none))) else (none)) else (none))) else (none)) else (none)) else (none)))))))) = some r := H
 have A5 := Aside0.mk A50
 clear A50
 replace H := Option.bind_eq_some_iff.mp H
 obtain ⟨⟨t259, t260, t261⟩, A60, H⟩ := H
 replace H : ((value_Test.f k 8 t256 t257 t258 t259 t260 t261).bind fun bt262 => ((alumref19_Bool.f false).bind fun bt267 => ((value_And.f k bt267.1 bt267.2.1 bt267.2.2 0 0 (⟨#[]⟩ : ByteArray)).bind fun bt270 => ((alumref19_Bool.f false).bind fun bt275 => ((value_Or.f k bt275.1 bt275.2.1 bt275.2.2 0 0 (⟨#[]⟩ : ByteArray)).bind fun bt278 => (if (t243 == 0 && (t244 == 0 && (t245.toList == ([] : List UInt8)))) = true then (if t246 = 0 then (if t254 = 7 then ((alumref19_Bool.f true).bind fun bt283 => (if (bt262.1 == bt283.1 && (bt262.2.1 == bt283.2.1 && (bt262.2.2.1.toList == bt283.2.2.toList))) = true then (if bt262.2.2.2 = 0 then ((alumref19_Bool.f false).bind fun bt286 => (if (bt270.1 == bt286.1 && (bt270.2.1 == bt286.2.1 && (bt270.2.2.1.toList == bt286.2.2.toList))) = true then (if bt270.2.2.2 = 0 then (if (bt278.1 == 0 && (bt278.2.1 == 0 && (bt278.2.2.1.toList == ([] : List UInt8)))) = true then (alumlaw19_sanity.j0 k (bt278.2.2.2 == 0) 2 0 (⟨#[97, 98, 99, 100]⟩ : ByteArray)) else (none)) else (none)) else (none))) else (none)) else (none))) else (none)) else (none)) else (none))))))) = some r := H
 have A6 := Aside0.mk A60
 clear A60
 replace H := Option.bind_eq_some_iff.mp H
 obtain ⟨⟨t262, t263, t264, t265⟩, A70, H⟩ := H
 replace H : ((alumref19_Bool.f false).bind fun bt267 => ((value_And.f k bt267.1 bt267.2.1 bt267.2.2 0 0 (⟨#[]⟩ : ByteArray)).bind fun bt270 => ((alumref19_Bool.f false).bind fun bt275 => ((value_Or.f k bt275.1 bt275.2.1 bt275.2.2 0 0 (⟨#[]⟩ : ByteArray)).bind fun bt278 => (if (t243 == 0 && (t244 == 0 && (t245.toList == ([] : List UInt8)))) = true then (if t246 = 0 then (if t254 = 7 then ((alumref19_Bool.f true).bind fun bt283 => (if (t262 == bt283.1 && (t263 == bt283.2.1 && (t264.toList == bt283.2.2.toList))) = true then (if t265 = 0 then ((alumref19_Bool.f false).bind fun bt286 => (if (bt270.1 == bt286.1 && (bt270.2.1 == bt286.2.1 && (bt270.2.2.1.toList == bt286.2.2.toList))) = true then (if bt270.2.2.2 = 0 then (if (bt278.1 == 0 && (bt278.2.1 == 0 && (bt278.2.2.1.toList == ([] : List UInt8)))) = true then (alumlaw19_sanity.j0 k (bt278.2.2.2 == 0) 2 0 (⟨#[97, 98, 99, 100]⟩ : ByteArray)) else (none)) else (none)) else (none))) else (none)) else (none))) else (none)) else (none)) else (none)))))) = some r := H
 have A7 := Aside0.mk A70
 clear A70
 replace H := Option.bind_eq_some_iff.mp H
 obtain ⟨⟨t267, t268, t269⟩, A80, H⟩ := H
 replace H : ((value_And.f k t267 t268 t269 0 0 (⟨#[]⟩ : ByteArray)).bind fun bt270 => ((alumref19_Bool.f false).bind fun bt275 => ((value_Or.f k bt275.1 bt275.2.1 bt275.2.2 0 0 (⟨#[]⟩ : ByteArray)).bind fun bt278 => (if (t243 == 0 && (t244 == 0 && (t245.toList == ([] : List UInt8)))) = true then (if t246 = 0 then (if t254 = 7 then ((alumref19_Bool.f true).bind fun bt283 => (if (t262 == bt283.1 && (t263 == bt283.2.1 && (t264.toList == bt283.2.2.toList))) = true then (if t265 = 0 then ((alumref19_Bool.f false).bind fun bt286 => (if (bt270.1 == bt286.1 && (bt270.2.1 == bt286.2.1 && (bt270.2.2.1.toList == bt286.2.2.toList))) = true then (if bt270.2.2.2 = 0 then (if (bt278.1 == 0 && (bt278.2.1 == 0 && (bt278.2.2.1.toList == ([] : List UInt8)))) = true then (alumlaw19_sanity.j0 k (bt278.2.2.2 == 0) 2 0 (⟨#[97, 98, 99, 100]⟩ : ByteArray)) else (none)) else (none)) else (none))) else (none)) else (none))) else (none)) else (none)) else (none))))) = some r := H
 have A8 := Aside0.mk A80
 clear A80
 replace H := Option.bind_eq_some_iff.mp H
 obtain ⟨⟨t270, t271, t272, t273⟩, A90, H⟩ := H
 replace H : ((alumref19_Bool.f false).bind fun bt275 => ((value_Or.f k bt275.1 bt275.2.1 bt275.2.2 0 0 (⟨#[]⟩ : ByteArray)).bind fun bt278 => (if (t243 == 0 && (t244 == 0 && (t245.toList == ([] : List UInt8)))) = true then (if t246 = 0 then (if t254 = 7 then ((alumref19_Bool.f true).bind fun bt283 => (if (t262 == bt283.1 && (t263 == bt283.2.1 && (t264.toList == bt283.2.2.toList))) = true then (if t265 = 0 then ((alumref19_Bool.f false).bind fun bt286 => (if (t270 == bt286.1 && (t271 == bt286.2.1 && (t272.toList == bt286.2.2.toList))) = true then (if t273 = 0 then (if (bt278.1 == 0 && (bt278.2.1 == 0 && (bt278.2.2.1.toList == ([] : List UInt8)))) = true then (alumlaw19_sanity.j0 k (bt278.2.2.2 == 0) 2 0 (⟨#[97, 98, 99, 100]⟩ : ByteArray)) else (none)) else (none)) else (none))) else (none)) else (none))) else (none)) else (none)) else (none)))) = some r := H
 have A9 := Aside0.mk A90
 clear A90
 replace H := Option.bind_eq_some_iff.mp H
 obtain ⟨⟨t275, t276, t277⟩, A100, H⟩ := H
 replace H : ((value_Or.f k t275 t276 t277 0 0 (⟨#[]⟩ : ByteArray)).bind fun bt278 => (if (t243 == 0 && (t244 == 0 && (t245.toList == ([] : List UInt8)))) = true then (if t246 = 0 then (if t254 = 7 then ((alumref19_Bool.f true).bind fun bt283 => (if (t262 == bt283.1 && (t263 == bt283.2.1 && (t264.toList == bt283.2.2.toList))) = true then (if t265 = 0 then ((alumref19_Bool.f false).bind fun bt286 => (if (t270 == bt286.1 && (t271 == bt286.2.1 && (t272.toList == bt286.2.2.toList))) = true then (if t273 = 0 then (if (bt278.1 == 0 && (bt278.2.1 == 0 && (bt278.2.2.1.toList == ([] : List UInt8)))) = true then (alumlaw19_sanity.j0 k (bt278.2.2.2 == 0) 2 0 (⟨#[97, 98, 99, 100]⟩ : ByteArray)) else (none)) else (none)) else (none))) else (none)) else (none))) else (none)) else (none)) else (none))) = some r := H
 have A10 := Aside0.mk A100
 clear A100
 replace H := Option.bind_eq_some_iff.mp H
 obtain ⟨⟨t278, t279, t280, t281⟩, A110, H⟩ := H
 replace H : (if (t243 == 0 && (t244 == 0 && (t245.toList == ([] : List UInt8)))) = true then (if t246 = 0 then (if t254 = 7 then ((alumref19_Bool.f true).bind fun bt283 => (if (t262 == bt283.1 && (t263 == bt283.2.1 && (t264.toList == bt283.2.2.toList))) = true then (if t265 = 0 then ((alumref19_Bool.f false).bind fun bt286 => (if (t270 == bt286.1 && (t271 == bt286.2.1 && (t272.toList == bt286.2.2.toList))) = true then (if t273 = 0 then (if (t278 == 0 && (t279 == 0 && (t280.toList == ([] : List UInt8)))) = true then (alumlaw19_sanity.j0 k (t281 == 0) 2 0 (⟨#[97, 98, 99, 100]⟩ : ByteArray)) else (none)) else (none)) else (none))) else (none)) else (none))) else (none)) else (none)) else (none)) = some r := H
 have A11 := Aside0.mk A110
 clear A110
 have HC12 := Aside0.mk H
 clear H
 go_enter Tryd.func12, Tryd.ntmps12
 try go_wp2_with (first | ((with_reducible refine gate_dst (N := 1) rfl ?_); refine box_event ?hg (N := 1) ?hd (cs := #[.int .i64 0, .int .i64 0, .string (⟨#[]⟩ : ByteArray)]) (t := 23) ?hr ?_; (case hd => rfl); (case hg => rfl); (case hr => first | (go_simp; done) | (go_simp; rfl)); intro gb239 hg w13 hbox hb; have BK239 := Aside0.mk (hbox); have GW239 := (sizeB HB hg : Aside0 (w.heap.size ≤ gb239)); have GE239 := (sizeB HB hg : Aside0 (w.heap.size ≤ gb239)); replace HB := stepB HB hb; clear hb hbox hg; have hcz14_0 : w13.cell? ⟨gb239, 0, none⟩ = some (.int .i64 0) := bc BK239 0; have hcz14_1 : w13.cell? ⟨gb239, 1, none⟩ = some (.int .i64 0) := bc BK239 1; have hcz14_2 : w13.cell? ⟨gb239, 2, none⟩ = some (.string (⟨#[]⟩ : ByteArray)) := bc BK239 2; have hfz14_0 := blk_frozen BK239.out 0; have hfz14_1 := blk_frozen BK239.out 1; have hfz14_2 := blk_frozen BK239.out 2) | ((with_reducible refine gate_callee (f := 42) rfl ?_); refine goesL_ (some 17) rfl rfl Tryd.func42 (by kernel_rfl) rfl #[.int .i64 3] rfl (by (try simp only [List.map_toArray, List.map_cons, List.map_nil]); first | done | rfl | (simp only [List.length_drop, List.length_take]; rfl)) ?_; (with_reducible refine (alumlaw19_num.calls 3 t240 t241 t242 _ A1.out).mono ?_); rintro e w15 ⟨rfl, hb⟩; refine ⟨_, rfl, ?_⟩; replace BK239 := Aside0.mk (blk_below (g := gb239) (o := .cells #[.int .i64 2, .int .i64 0, .string (⟨#[97, 98, 99, 100]⟩ : ByteArray)] 23 (0, 0)) (by (with_reducible repeat (first | refine blk_drewN ?_ _ | refine blk_drew ?_ | refine blk_alloc ?_ _)); refine blk_put (cs := #[.int .i64 2, .int .i64 0, .string (⟨#[]⟩ : ByteArray)]) ?_ 2 _ rfl; (with_reducible repeat (first | refine blk_drewN ?_ _ | refine blk_drew ?_ | refine blk_alloc ?_ _)); refine blk_put (cs := #[.int .i64 2, .int .i64 0, .string (⟨#[]⟩ : ByteArray)]) ?_ 1 _ rfl; (with_reducible repeat (first | refine blk_drewN ?_ _ | refine blk_drew ?_ | refine blk_alloc ?_ _)); refine blk_put (cs := #[.int .i64 0, .int .i64 0, .string (⟨#[]⟩ : ByteArray)]) ?_ 0 _ rfl; (with_reducible repeat (first | refine blk_drewN ?_ _ | refine blk_drew ?_ | refine blk_alloc ?_ _)); exact BK239.out) hb); replace HB := stepB HB hb; (try clear hb); (try clear hb2); (try clear hk); (try clear hi)) | ((with_reducible refine gate_callee (f := 14) rfl ?_); refine goesL_ (some 19) rfl rfl Tryd.func14 (by kernel_rfl) rfl #[.int .i64 9, .agg #[.int .i64 t240, .int .i64 t241, .string t242], .agg #[.int .i64 0, .int .i64 0, .string (⟨#[]⟩ : ByteArray)]] rfl (by (try simp only [List.map_toArray, List.map_cons, List.map_nil]); first | done | rfl | (simp only [List.length_drop, List.length_take]; rfl)) ?_; (with_reducible refine (value_Test.calls k 9 t240 t241 t242 0 0 (⟨#[]⟩ : ByteArray) t243 t244 t245 t246 _ A2.out).mono ?_); rintro e w16 ⟨rfl, hb⟩; refine ⟨_, rfl, ?_⟩; replace BK239 := blkB BK239 hb; replace HB := stepB HB hb; (try clear hb); (try clear hb2); (try clear hk); (try clear hi)) | ((with_reducible refine gate_dst (N := 2) rfl ?_); refine box_event ?hg (N := 2) ?hd (cs := #[.int .i64 0, .int .i64 0, .string (⟨#[]⟩ : ByteArray)]) (t := 23) ?hr ?_; (case hd => rfl); (case hg => rfl); (case hr => first | (go_simp; done) | (go_simp; rfl)); intro gb247 hg w17 hbox hb; have BK247 := Aside0.mk (hbox); have GW247 := (sizeB HB hg : Aside0 (w.heap.size ≤ gb247)); have GE247 := (sizeB HB hg : Aside0 (w.heap.size ≤ gb247)); have NB239_247 := neB BK239 hg; have NB247_239 := neC BK239 hg; replace BK239 := blkB BK239 hb; replace HB := stepB HB hb; clear hb hbox hg; have hnb18 := NB247_239.out; have hnc18 := NB239_247.out; have hcz19_0 : w17.cell? ⟨gb247, 0, none⟩ = some (.int .i64 0) := bc BK247 0; have hcz19_1 : w17.cell? ⟨gb247, 1, none⟩ = some (.int .i64 0) := bc BK247 1; have hcz19_2 : w17.cell? ⟨gb247, 2, none⟩ = some (.string (⟨#[]⟩ : ByteArray)) := bc BK247 2; have hfz19_0 := blk_frozen BK247.out 0; have hfz19_1 := blk_frozen BK247.out 1; have hfz19_2 := blk_frozen BK247.out 2))
 have n0_ : Aside0 ((((w17.setCell ⟨gb247, 0, none⟩ (.int .i64 t243)).setCell ⟨gb247, 1, none⟩ (.int .i64 t244)).setCell ⟨gb247, 2, none⟩ (.string t245)).heap[gb239]? = some (.cells #[.int .i64 2, .int .i64 0, .string (⟨#[97, 98, 99, 100]⟩ : ByteArray)] 23 (0, 0))) := ⟨by (with_reducible repeat (first | refine blk_drewN ?_ _ | refine blk_drew ?_ | refine blk_alloc ?_ _)); refine blk_far ?_ NB239_247.out _; (with_reducible repeat (first | refine blk_drewN ?_ _ | refine blk_drew ?_ | refine blk_alloc ?_ _)); refine blk_far ?_ NB239_247.out _; (with_reducible repeat (first | refine blk_drewN ?_ _ | refine blk_drew ?_ | refine blk_alloc ?_ _)); refine blk_far ?_ NB239_247.out _; (with_reducible repeat (first | refine blk_drewN ?_ _ | refine blk_drew ?_ | refine blk_alloc ?_ _)); exact BK239.out⟩
 have n1_ : Aside0 ((((w17.setCell ⟨gb247, 0, none⟩ (.int .i64 t243)).setCell ⟨gb247, 1, none⟩ (.int .i64 t244)).setCell ⟨gb247, 2, none⟩ (.string t245)).heap[gb247]? = some (.cells #[.int .i64 t243, .int .i64 t244, .string t245] 23 (0, 0))) := ⟨by (with_reducible repeat (first | refine blk_drewN ?_ _ | refine blk_drew ?_ | refine blk_alloc ?_ _)); refine blk_put (cs := #[.int .i64 t243, .int .i64 t244, .string (⟨#[]⟩ : ByteArray)]) ?_ 2 _ rfl; (with_reducible repeat (first | refine blk_drewN ?_ _ | refine blk_drew ?_ | refine blk_alloc ?_ _)); refine blk_put (cs := #[.int .i64 t243, .int .i64 0, .string (⟨#[]⟩ : ByteArray)]) ?_ 1 _ rfl; (with_reducible repeat (first | refine blk_drewN ?_ _ | refine blk_drew ?_ | refine blk_alloc ?_ _)); refine blk_put (cs := #[.int .i64 0, .int .i64 0, .string (⟨#[]⟩ : ByteArray)]) ?_ 0 _ rfl; (with_reducible repeat (first | refine blk_drewN ?_ _ | refine blk_drew ?_ | refine blk_alloc ?_ _)); exact BK247.out⟩
 have n2_ : Aside0 (Below w.heap.size w (((w17.setCell ⟨gb247, 0, none⟩ (.int .i64 t243)).setCell ⟨gb247, 1, none⟩ (.int .i64 t244)).setCell ⟨gb247, 2, none⟩ (.string t245))) := ⟨by repeat (first | (with_reducible first | exact HB.out | apply below_alloc | apply pw_below_drewN | apply below_drew1 | refine below_set ?_ GE239.out | refine below_set ?_ GE247.out) | exact HB.out)⟩
 (try clear BK239)
 (try clear BK247)
 (try clear HB)
 generalize (((w17.setCell ⟨gb247, 0, none⟩ (.int .i64 t243)).setCell ⟨gb247, 1, none⟩ (.int .i64 t244)).setCell ⟨gb247, 2, none⟩ (.string t245)) = w20 at n0_ n1_ n2_ ⊢
 have BK239 := n0_
 have BK247 := n1_
 have HB := n2_
 clear n0_ n1_ n2_
 replace BK239 := Aside0.mk (blk_drew BK239.out)
 replace BK247 := Aside0.mk (blk_drew BK247.out)
 replace HB := Aside0.mk (below_drew1 HB.out)
 refine start_ (n := 9) (S := fun w' => w'.cell? ⟨gb239, 0, none⟩ = some (.int .i64 2) ∧ w'.cell? ⟨gb239, 1, none⟩ = some (.int .i64 0) ∧ w'.cell? ⟨gb239, 2, none⟩ = some (.string (⟨#[97, 98, 99, 100]⟩ : ByteArray))) (ds := []) #[false, false, false, false, false, false, false, false, false] (by kernel_rfl) rfl rfl ⟨bc BK239 0, bc BK239 1, bc BK239 2⟩ (fun hHeld => ?_); refine with_tabW alumlaw19_sanity.tab3 alumlaw19_sanity.bits3 (fun HT_ HW_ => ?_)
 generalize w20.drew = w21 at BK239 BK247 HB hHeld ⊢
 refine takeA 1 24 #[false, true, false, false, false, false, false, false, false] HT_ HW_ hHeld ?_
 refine join_ (σ := Nat) 2 #[true, true, true, true, true, true, true, false, false] (fun s_ => [(23, .agg #[.int .i64 t248, .int .i64 t249, .string t250]), (25, .tuple #[.agg #[.int .i64 t251, .int .i64 t252, .string t253], .int .i64 t254]), (4, .pointer (some ⟨s_, 0, none⟩)), (22, .tuple #[.agg #[.int .i64 t251, .int .i64 t252, .string t253], .int .i64 t254]), (26, .agg #[.int .i64 t251, .int .i64 t252, .string t253]), (27, .int .i64 t254)]) (fun s_ w' => (w'.cell? ⟨gb239, 0, none⟩ = some (.int .i64 2) ∧ w'.cell? ⟨gb239, 1, none⟩ = some (.int .i64 0) ∧ w'.cell? ⟨gb239, 2, none⟩ = some (.string (⟨#[97, 98, 99, 100]⟩ : ByteArray))) ∧ (w'.heap[gb239]? = some (.cells #[.int .i64 2, .int .i64 0, .string (⟨#[97, 98, 99, 100]⟩ : ByteArray)] 23 (0, 0))) ∧ (w'.heap[gb247]? = some (.cells #[.int .i64 t243, .int .i64 t244, .string t245] 23 (0, 0))) ∧ (w'.heap[s_]? = some (.cells #[.int .i64 0, .int .i64 0, .string (⟨#[]⟩ : ByteArray)] 23 (0, 0))) ∧ (w.heap.size ≤ s_) ∧ (w.heap.size ≤ s_) ∧ (gb239 ≠ s_) ∧ (s_ ≠ gb239) ∧ (gb247 ≠ s_) ∧ (s_ ≠ gb247) ∧ (Below w.heap.size w w')) ?_ ?_
 rotate_left
 ·intro hCont
  refine two_ (i := 0) (j := 6) (Ni := some 23) (Nj := some 4) #[true, true, false, false, false, false, false, false, false] #[false, true, false, false, false, false, true, false, false] rfl rfl rfl rfl (two_of HT_.out (by kernel_rfl)) (by decide) (by decide) (fun K hK => ?_) (fun K hK => ?_)
  ·skip
   refine goes_ Tryd.func42 (by kernel_rfl) rfl #[.int .i64 3] (by rfl) rfl rfl (by (try simp only [List.map_toArray, List.map_cons, List.map_nil]); first | done | rfl | (simp only [List.length_drop, List.length_take]; rfl)) ?_
   with_reducible refine (alumlaw19_num.calls 3 t248 t249 t250 _ A3.out).mono ?_
   rintro e w22 ⟨rfl, hb⟩
   refine ⟨_, rfl, ?_⟩
   replace BK239 := blkB BK239 hb
   replace BK247 := blkB BK247 hb
   replace HB := stepB HB hb
   (try clear hb)
   (try clear hb2)
   (try clear hk)
   (try clear hi)
   refine hK.out _ _ ⟨bc BK239 0, bc BK239 1, bc BK239 2⟩ (fun hHeld => ?_)
   clear hK K
   refine normA 23 ?_
   refine two_ (i := 2) (j := 6) (Ni := some 25) (Nj := some 4) #[true, true, true, false, false, false, false, false, false] #[true, true, false, false, false, false, true, false, false] rfl rfl rfl rfl (two_of HT_.out (by kernel_rfl)) (by decide) (by decide) (fun K hK => ?_) (fun K hK => ?_)
   ·skip
    refine goes_ Tryd.func14 (by kernel_rfl) rfl #[.int .i64 6, .agg #[.int .i64 t248, .int .i64 t249, .string t250], .agg #[.int .i64 2, .int .i64 0, .string (⟨#[97, 98, 99, 100]⟩ : ByteArray)]] (by rfl) rfl rfl (by (try simp only [List.map_toArray, List.map_cons, List.map_nil]); first | done | rfl | (simp only [List.length_drop, List.length_take]; rfl)) ?_
    with_reducible refine (value_Test.calls k 6 t248 t249 t250 2 0 (⟨#[97, 98, 99, 100]⟩ : ByteArray) t251 t252 t253 t254 _ A4.out).mono ?_
    rintro e w23 ⟨rfl, hb⟩
    refine ⟨_, rfl, ?_⟩
    replace BK239 := blkB BK239 hb
    replace BK247 := blkB BK247 hb
    replace HB := stepB HB hb
    (try clear hb)
    (try clear hb2)
    (try clear hk)
    (try clear hi)
    refine hK.out _ _ ⟨bc BK239 0, bc BK239 1, bc BK239 2⟩ (fun hHeld => ?_)
    clear hK K
    refine normA 25 ?_
    refine pureA 3 22 #[true, true, true, true, false, false, false, false, false] HT_ ?_
    refine pureA 4 26 #[true, true, true, true, true, false, false, false, false] HT_ ?_
    refine pureA 5 27 #[true, true, true, true, true, true, false, false, false] HT_ ?_
    refine one_ (i := 6) (N := some 4) #[true, true, true, true, true, true, true, false, false] rfl rfl (one_of HT_.out (by kernel_rfl)) (by decide) (fun K hK => ?_)
    refine box_step ?hg (N := 4) ?hd (cs := #[.int .i64 0, .int .i64 0, .string (⟨#[]⟩ : ByteArray)]) (t := 23) ?hr ?_; (case hd => rfl); (case hg => rfl); (case hr => first | (go_simp; done) | (go_simp; rfl))
    intro gb255 hg w24 hbox hb
    have BK255 := Aside0.mk (hbox)
    have GW255 := (sizeB HB hg : Aside0 (w.heap.size ≤ gb255))
    have GE255 := (sizeB HB hg : Aside0 (w.heap.size ≤ gb255))
    have NB239_255 := neB BK239 hg
    have NB255_239 := neC BK239 hg
    have NB247_255 := neB BK247 hg
    have NB255_247 := neC BK247 hg
    replace BK239 := blkB BK239 hb
    replace BK247 := blkB BK247 hb
    replace HB := stepB HB hb
    clear hb hbox hg
    refine hK.out _ _ ⟨bc BK239 0, bc BK239 1, bc BK239 2⟩ (fun hHeld => ?_)
    clear hK K
    refine normA 4 ?_
    exact norm_ (by simp only [putAll, Act.put, List.setIfInBounds_toArray, List.set_cons_zero, List.set_cons_succ]) (hCont (gb255) _ ⟨hHeld, (by (with_reducible repeat (first | refine blk_drewN ?_ _ | refine blk_drew ?_ | refine blk_alloc ?_ _)); exact BK239.out), (by (with_reducible repeat (first | refine blk_drewN ?_ _ | refine blk_drew ?_ | refine blk_alloc ?_ _)); exact BK247.out), (by (with_reducible repeat (first | refine blk_drewN ?_ _ | refine blk_drew ?_ | refine blk_alloc ?_ _)); exact BK255.out), GW255.out, GE255.out, NB239_255.out, NB255_239.out, NB247_255.out, NB255_247.out, (by repeat (first | (with_reducible first | exact HB.out | apply below_alloc | apply pw_below_drewN | apply below_drew1 | refine below_set ?_ GE239.out | refine below_set ?_ GE247.out | refine below_set ?_ GE255.out) | exact HB.out))⟩)
   ·skip
    refine box_step ?hg (N := 4) ?hd (cs := #[.int .i64 0, .int .i64 0, .string (⟨#[]⟩ : ByteArray)]) (t := 23) ?hr ?_; (case hd => rfl); (case hg => rfl); (case hr => first | (go_simp; done) | (go_simp; rfl))
    intro gb255 hg w23 hbox hb
    have BK255 := Aside0.mk (hbox)
    have GW255 := (sizeB HB hg : Aside0 (w.heap.size ≤ gb255))
    have GE255 := (sizeB HB hg : Aside0 (w.heap.size ≤ gb255))
    have NB239_255 := neB BK239 hg
    have NB255_239 := neC BK239 hg
    have NB247_255 := neB BK247 hg
    have NB255_247 := neC BK247 hg
    replace BK239 := blkB BK239 hb
    replace BK247 := blkB BK247 hb
    replace HB := stepB HB hb
    clear hb hbox hg
    refine hK.out _ _ ⟨bc BK239 0, bc BK239 1, bc BK239 2⟩ (fun hHeld => ?_)
    clear hK K
    refine normA 4 ?_
    refine one_ (i := 2) (N := some 25) #[true, true, true, false, false, false, true, false, false] rfl rfl (one_of HT_.out (by kernel_rfl)) (by decide) (fun K hK => ?_)
    refine goes_ Tryd.func14 (by kernel_rfl) rfl #[.int .i64 6, .agg #[.int .i64 t248, .int .i64 t249, .string t250], .agg #[.int .i64 2, .int .i64 0, .string (⟨#[97, 98, 99, 100]⟩ : ByteArray)]] (by rfl) rfl rfl (by (try simp only [List.map_toArray, List.map_cons, List.map_nil]); first | done | rfl | (simp only [List.length_drop, List.length_take]; rfl)) ?_
    with_reducible refine (value_Test.calls k 6 t248 t249 t250 2 0 (⟨#[97, 98, 99, 100]⟩ : ByteArray) t251 t252 t253 t254 _ A4.out).mono ?_
    rintro e w24 ⟨rfl, hb⟩
    refine ⟨_, rfl, ?_⟩
    replace BK239 := blkB BK239 hb
    replace BK247 := blkB BK247 hb
    replace BK255 := blkB BK255 hb
    replace HB := stepB HB hb
    (try clear hb)
    (try clear hb2)
    (try clear hk)
    (try clear hi)
    refine hK.out _ _ ⟨bc BK239 0, bc BK239 1, bc BK239 2⟩ (fun hHeld => ?_)
    clear hK K
    refine normA 25 ?_
    refine pureA 3 22 #[true, true, true, true, false, false, true, false, false] HT_ ?_
    refine pureA 4 26 #[true, true, true, true, true, false, true, false, false] HT_ ?_
    refine pureA 5 27 #[true, true, true, true, true, true, true, false, false] HT_ ?_
    exact norm_ (by simp only [putAll, Act.put, List.setIfInBounds_toArray, List.set_cons_zero, List.set_cons_succ]) (hCont (gb255) _ ⟨hHeld, (by (with_reducible repeat (first | refine blk_drewN ?_ _ | refine blk_drew ?_ | refine blk_alloc ?_ _)); exact BK239.out), (by (with_reducible repeat (first | refine blk_drewN ?_ _ | refine blk_drew ?_ | refine blk_alloc ?_ _)); exact BK247.out), (by (with_reducible repeat (first | refine blk_drewN ?_ _ | refine blk_drew ?_ | refine blk_alloc ?_ _)); exact BK255.out), GW255.out, GE255.out, NB239_255.out, NB255_239.out, NB247_255.out, NB255_247.out, (by repeat (first | (with_reducible first | exact HB.out | apply below_alloc | apply pw_below_drewN | apply below_drew1 | refine below_set ?_ GE239.out | refine below_set ?_ GE247.out | refine below_set ?_ GE255.out) | exact HB.out))⟩)
  ·skip
   refine box_step ?hg (N := 4) ?hd (cs := #[.int .i64 0, .int .i64 0, .string (⟨#[]⟩ : ByteArray)]) (t := 23) ?hr ?_; (case hd => rfl); (case hg => rfl); (case hr => first | (go_simp; done) | (go_simp; rfl))
   intro gb255 hg w22 hbox hb
   have BK255 := Aside0.mk (hbox)
   have GW255 := (sizeB HB hg : Aside0 (w.heap.size ≤ gb255))
   have GE255 := (sizeB HB hg : Aside0 (w.heap.size ≤ gb255))
   have NB239_255 := neB BK239 hg
   have NB255_239 := neC BK239 hg
   have NB247_255 := neB BK247 hg
   have NB255_247 := neC BK247 hg
   replace BK239 := blkB BK239 hb
   replace BK247 := blkB BK247 hb
   replace HB := stepB HB hb
   clear hb hbox hg
   refine hK.out _ _ ⟨bc BK239 0, bc BK239 1, bc BK239 2⟩ (fun hHeld => ?_)
   clear hK K
   refine normA 4 ?_
   refine one_ (i := 0) (N := some 23) #[true, true, false, false, false, false, true, false, false] rfl rfl (one_of HT_.out (by kernel_rfl)) (by decide) (fun K hK => ?_)
   refine goes_ Tryd.func42 (by kernel_rfl) rfl #[.int .i64 3] (by rfl) rfl rfl (by (try simp only [List.map_toArray, List.map_cons, List.map_nil]); first | done | rfl | (simp only [List.length_drop, List.length_take]; rfl)) ?_
   with_reducible refine (alumlaw19_num.calls 3 t248 t249 t250 _ A3.out).mono ?_
   rintro e w23 ⟨rfl, hb⟩
   refine ⟨_, rfl, ?_⟩
   replace BK239 := blkB BK239 hb
   replace BK247 := blkB BK247 hb
   replace BK255 := blkB BK255 hb
   replace HB := stepB HB hb
   (try clear hb)
   (try clear hb2)
   (try clear hk)
   (try clear hi)
   refine hK.out _ _ ⟨bc BK239 0, bc BK239 1, bc BK239 2⟩ (fun hHeld => ?_)
   clear hK K
   refine normA 23 ?_
   refine one_ (i := 2) (N := some 25) #[true, true, true, false, false, false, true, false, false] rfl rfl (one_of HT_.out (by kernel_rfl)) (by decide) (fun K hK => ?_)
   refine goes_ Tryd.func14 (by kernel_rfl) rfl #[.int .i64 6, .agg #[.int .i64 t248, .int .i64 t249, .string t250], .agg #[.int .i64 2, .int .i64 0, .string (⟨#[97, 98, 99, 100]⟩ : ByteArray)]] (by rfl) rfl rfl (by (try simp only [List.map_toArray, List.map_cons, List.map_nil]); first | done | rfl | (simp only [List.length_drop, List.length_take]; rfl)) ?_
   with_reducible refine (value_Test.calls k 6 t248 t249 t250 2 0 (⟨#[97, 98, 99, 100]⟩ : ByteArray) t251 t252 t253 t254 _ A4.out).mono ?_
   rintro e w24 ⟨rfl, hb⟩
   refine ⟨_, rfl, ?_⟩
   replace BK239 := blkB BK239 hb
   replace BK247 := blkB BK247 hb
   replace BK255 := blkB BK255 hb
   replace HB := stepB HB hb
   (try clear hb)
   (try clear hb2)
   (try clear hk)
   (try clear hi)
   refine hK.out _ _ ⟨bc BK239 0, bc BK239 1, bc BK239 2⟩ (fun hHeld => ?_)
   clear hK K
   refine normA 25 ?_
   refine pureA 3 22 #[true, true, true, true, false, false, true, false, false] HT_ ?_
   refine pureA 4 26 #[true, true, true, true, true, false, true, false, false] HT_ ?_
   refine pureA 5 27 #[true, true, true, true, true, true, true, false, false] HT_ ?_
   exact norm_ (by simp only [putAll, Act.put, List.setIfInBounds_toArray, List.set_cons_zero, List.set_cons_succ]) (hCont (gb255) _ ⟨hHeld, (by (with_reducible repeat (first | refine blk_drewN ?_ _ | refine blk_drew ?_ | refine blk_alloc ?_ _)); exact BK239.out), (by (with_reducible repeat (first | refine blk_drewN ?_ _ | refine blk_drew ?_ | refine blk_alloc ?_ _)); exact BK247.out), (by (with_reducible repeat (first | refine blk_drewN ?_ _ | refine blk_drew ?_ | refine blk_alloc ?_ _)); exact BK255.out), GW255.out, GE255.out, NB239_255.out, NB255_239.out, NB247_255.out, NB255_247.out, (by repeat (first | (with_reducible first | exact HB.out | apply below_alloc | apply pw_below_drewN | apply below_drew1 | refine below_set ?_ GE239.out | refine below_set ?_ GE247.out | refine below_set ?_ GE255.out) | exact HB.out))⟩)
 rintro gb255 w25 ⟨hS_, h0_, h1_, h2_, h3_, h4_, h5_, h6_, h7_, h8_, h9_⟩
 have BK255 : Aside0 (w25.heap[gb255]? = some (.cells #[.int .i64 0, .int .i64 0, .string (⟨#[]⟩ : ByteArray)] 23 (0, 0))) := ⟨h2_⟩
 have GW255 : Aside0 (w.heap.size ≤ gb255) := ⟨h3_⟩
 have GE255 : Aside0 (w.heap.size ≤ gb255) := ⟨h4_⟩
 have NB239_255 : Aside0 (gb239 ≠ gb255) := ⟨h5_⟩
 have NB255_239 : Aside0 (gb255 ≠ gb239) := ⟨h6_⟩
 have NB247_255 : Aside0 (gb247 ≠ gb255) := ⟨h7_⟩
 have NB255_247 : Aside0 (gb255 ≠ gb247) := ⟨h8_⟩
 replace BK239 : Aside0 (w25.heap[gb239]? = some (.cells #[.int .i64 2, .int .i64 0, .string (⟨#[97, 98, 99, 100]⟩ : ByteArray)] 23 (0, 0))) := ⟨h0_⟩
 replace BK247 : Aside0 (w25.heap[gb247]? = some (.cells #[.int .i64 t243, .int .i64 t244, .string t245] 23 (0, 0))) := ⟨h1_⟩
 replace HB : Aside0 (Below w.heap.size w w25) := ⟨h9_⟩
 clear h0_ h1_ h2_ h3_ h4_ h5_ h6_ h7_ h8_ h9_
 have hHeld : w25.cell? ⟨gb239, 0, none⟩ = some (.int .i64 2) ∧ w25.cell? ⟨gb239, 1, none⟩ = some (.int .i64 0) ∧ w25.cell? ⟨gb239, 2, none⟩ = some (.string (⟨#[97, 98, 99, 100]⟩ : ByteArray)) := hS_
 refine norm_ (a' := ?_) ?_ ?_
 rotate_left
 ·simp only [putAll, Act.put, List.setIfInBounds_toArray, List.set_cons_zero, List.set_cons_succ]
  rfl
 refine one_ (i := 7) (N := none) #[true, true, true, true, true, true, true, true, false] rfl rfl (one_of HT_.out (by kernel_rfl)) (by decide) (fun K hK => ?_)
 have hs26 : w25.cell? ⟨gb255, 0, none⟩ = some (.int .i64 0) := bc BK255 0
 have hfs26 := blk_frozen BK255.out 0
 have hns26_0 := NB239_255.out
 have hns26_1 := NB247_255.out
 have hms26_0 := NB255_239.out
 have hms26_1 := NB255_247.out
 have hs27 : w25.cell? ⟨gb255, 1, none⟩ = some (.int .i64 0) := bc BK255 1
 have hfs27 := blk_frozen BK255.out 1
 have hns27_0 := NB239_255.out
 have hns27_1 := NB247_255.out
 have hms27_0 := NB255_239.out
 have hms27_1 := NB255_247.out
 have hs28 : w25.cell? ⟨gb255, 2, none⟩ = some (.string (⟨#[]⟩ : ByteArray)) := bc BK255 2
 have hfs28 := blk_frozen BK255.out 2
 have hns28_0 := NB239_255.out
 have hns28_1 := NB247_255.out
 have hms28_0 := NB255_239.out
 have hms28_1 := NB255_247.out
 refine skip_ (w1 := ?_) (by rfl) rfl ?_ ?_
 rotate_left
 ·go_simp
  rfl
 refine hK.out _ _ ⟨((cell_far (p := ⟨gb255, _, none⟩) NB239_255.out _).trans (((cell_far (p := ⟨gb255, _, none⟩) NB239_255.out _).trans (((cell_far (p := ⟨gb255, _, none⟩) NB239_255.out _).trans (hHeld.1)))))), ((cell_far (p := ⟨gb255, _, none⟩) NB239_255.out _).trans (((cell_far (p := ⟨gb255, _, none⟩) NB239_255.out _).trans (((cell_far (p := ⟨gb255, _, none⟩) NB239_255.out _).trans (hHeld.2.1)))))), ((cell_far (p := ⟨gb255, _, none⟩) NB239_255.out _).trans (((cell_far (p := ⟨gb255, _, none⟩) NB239_255.out _).trans (((cell_far (p := ⟨gb255, _, none⟩) NB239_255.out _).trans (hHeld.2.2))))))⟩ (fun hHeld => ?_)
 clear hK K
 refine pureA 8 5 #[true, true, true, true, true, true, true, true, true] HT_ ?_
 refine done_ (done_of HT_.out (by kernel_rfl)) ?_
 go_upto_region 7 with (first | ((with_reducible refine gate_callee (f := 42) rfl ?_); refine goesL_ (some 29) rfl rfl Tryd.func42 (by kernel_rfl) rfl #[.int .i64 2] rfl (by (try simp only [List.map_toArray, List.map_cons, List.map_nil]); first | done | rfl | (simp only [List.length_drop, List.length_take]; rfl)) ?_; (with_reducible refine (alumlaw19_num.calls 2 t256 t257 t258 _ A5.out).mono ?_); rintro e w29 ⟨rfl, hb⟩; refine ⟨_, rfl, ?_⟩; replace BK239 := Aside0.mk (blk_below (g := gb239) (o := .cells #[.int .i64 2, .int .i64 0, .string (⟨#[97, 98, 99, 100]⟩ : ByteArray)] 23 (0, 0)) (by (with_reducible repeat (first | refine blk_drewN ?_ _ | refine blk_drew ?_ | refine blk_alloc ?_ _)); refine blk_far ?_ NB239_255.out _; (with_reducible repeat (first | refine blk_drewN ?_ _ | refine blk_drew ?_ | refine blk_alloc ?_ _)); refine blk_far ?_ NB239_255.out _; (with_reducible repeat (first | refine blk_drewN ?_ _ | refine blk_drew ?_ | refine blk_alloc ?_ _)); refine blk_far ?_ NB239_255.out _; (with_reducible repeat (first | refine blk_drewN ?_ _ | refine blk_drew ?_ | refine blk_alloc ?_ _)); exact BK239.out) hb); replace BK247 := Aside0.mk (blk_below (g := gb247) (o := .cells #[.int .i64 t243, .int .i64 t244, .string t245] 23 (0, 0)) (by (with_reducible repeat (first | refine blk_drewN ?_ _ | refine blk_drew ?_ | refine blk_alloc ?_ _)); refine blk_far ?_ NB247_255.out _; (with_reducible repeat (first | refine blk_drewN ?_ _ | refine blk_drew ?_ | refine blk_alloc ?_ _)); refine blk_far ?_ NB247_255.out _; (with_reducible repeat (first | refine blk_drewN ?_ _ | refine blk_drew ?_ | refine blk_alloc ?_ _)); refine blk_far ?_ NB247_255.out _; (with_reducible repeat (first | refine blk_drewN ?_ _ | refine blk_drew ?_ | refine blk_alloc ?_ _)); exact BK247.out) hb); replace BK255 := Aside0.mk (blk_below (g := gb255) (o := .cells #[.int .i64 t251, .int .i64 t252, .string t253] 23 (0, 0)) (by (with_reducible repeat (first | refine blk_drewN ?_ _ | refine blk_drew ?_ | refine blk_alloc ?_ _)); refine blk_put (cs := #[.int .i64 t251, .int .i64 t252, .string (⟨#[]⟩ : ByteArray)]) ?_ 2 _ rfl; (with_reducible repeat (first | refine blk_drewN ?_ _ | refine blk_drew ?_ | refine blk_alloc ?_ _)); refine blk_put (cs := #[.int .i64 t251, .int .i64 0, .string (⟨#[]⟩ : ByteArray)]) ?_ 1 _ rfl; (with_reducible repeat (first | refine blk_drewN ?_ _ | refine blk_drew ?_ | refine blk_alloc ?_ _)); refine blk_put (cs := #[.int .i64 0, .int .i64 0, .string (⟨#[]⟩ : ByteArray)]) ?_ 0 _ rfl; (with_reducible repeat (first | refine blk_drewN ?_ _ | refine blk_drew ?_ | refine blk_alloc ?_ _)); exact BK255.out) hb); replace HB := stepB HB hb; (try clear hb); (try clear hb2); (try clear hk); (try clear hi)) | ((with_reducible refine gate_callee (f := 42) rfl ?_); refine goesL_ (some 30) rfl rfl Tryd.func42 (by kernel_rfl) rfl #[.int .i64 3] rfl (by (try simp only [List.map_toArray, List.map_cons, List.map_nil]); first | done | rfl | (simp only [List.length_drop, List.length_take]; rfl)) ?_; (with_reducible refine (alumlaw19_num.calls 3 t259 t260 t261 _ A6.out).mono ?_); rintro e w30 ⟨rfl, hb⟩; refine ⟨_, rfl, ?_⟩; replace BK239 := blkB BK239 hb; replace BK247 := blkB BK247 hb; replace BK255 := blkB BK255 hb; replace HB := stepB HB hb; (try clear hb); (try clear hb2); (try clear hk); (try clear hi)) | ((with_reducible refine gate_callee (f := 14) rfl ?_); refine goesL_ (some 31) rfl rfl Tryd.func14 (by kernel_rfl) rfl #[.int .i64 8, .agg #[.int .i64 t256, .int .i64 t257, .string t258], .agg #[.int .i64 t259, .int .i64 t260, .string t261]] rfl (by (try simp only [List.map_toArray, List.map_cons, List.map_nil]); first | done | rfl | (simp only [List.length_drop, List.length_take]; rfl)) ?_; (with_reducible refine (value_Test.calls k 8 t256 t257 t258 t259 t260 t261 t262 t263 t264 t265 _ A7.out).mono ?_); rintro e w31 ⟨rfl, hb⟩; refine ⟨_, rfl, ?_⟩; replace BK239 := blkB BK239 hb; replace BK247 := blkB BK247 hb; replace BK255 := blkB BK255 hb; replace HB := stepB HB hb; (try clear hb); (try clear hb2); (try clear hk); (try clear hi)) | ((with_reducible refine gate_dst (N := 6) rfl ?_); refine box_event ?hg (N := 6) ?hd (cs := #[.int .i64 0, .int .i64 0, .string (⟨#[]⟩ : ByteArray)]) (t := 23) ?hr ?_; (case hd => rfl); (case hg => rfl); (case hr => first | (go_simp; done) | (go_simp; rfl)); intro gb266 hg w32 hbox hb; have BK266 := Aside0.mk (hbox); have GW266 := (sizeB HB hg : Aside0 (w.heap.size ≤ gb266)); have GE266 := (sizeB HB hg : Aside0 (w.heap.size ≤ gb266)); have NB239_266 := neB BK239 hg; have NB266_239 := neC BK239 hg; have NB247_266 := neB BK247 hg; have NB266_247 := neC BK247 hg; have NB255_266 := neB BK255 hg; have NB266_255 := neC BK255 hg; replace BK239 := blkB BK239 hb; replace BK247 := blkB BK247 hb; replace BK255 := blkB BK255 hb; replace HB := stepB HB hb; clear hb hbox hg; have hnb33 := NB266_239.out; have hnc33 := NB239_266.out; have hnb34 := NB266_247.out; have hnc34 := NB247_266.out; have hnb35 := NB266_255.out; have hnc35 := NB255_266.out; have hcz36_0 : w32.cell? ⟨gb266, 0, none⟩ = some (.int .i64 0) := bc BK266 0; have hcz36_1 : w32.cell? ⟨gb266, 1, none⟩ = some (.int .i64 0) := bc BK266 1; have hcz36_2 : w32.cell? ⟨gb266, 2, none⟩ = some (.string (⟨#[]⟩ : ByteArray)) := bc BK266 2; have hfz36_0 := blk_frozen BK266.out 0; have hfz36_1 := blk_frozen BK266.out 1; have hfz36_2 := blk_frozen BK266.out 2) | ((with_reducible refine gate_callee (f := 15) rfl ?_); refine goesL_ (some 35) rfl rfl Tryd.func15 (by kernel_rfl) rfl #[.bool false] rfl (by (try simp only [List.map_toArray, List.map_cons, List.map_nil]); first | done | rfl | (simp only [List.length_drop, List.length_take]; rfl)) ?_; (with_reducible refine (alumref19_Bool.calls false t267 t268 t269 _ A8.out).mono ?_); rintro e w37 ⟨rfl, hb⟩; refine ⟨_, rfl, ?_⟩; replace BK239 := Aside0.mk (blk_below (g := gb239) (o := .cells #[.int .i64 2, .int .i64 0, .string (⟨#[97, 98, 99, 100]⟩ : ByteArray)] 23 (0, 0)) (by (with_reducible repeat (first | refine blk_drewN ?_ _ | refine blk_drew ?_ | refine blk_alloc ?_ _)); refine blk_far ?_ NB239_266.out _; (with_reducible repeat (first | refine blk_drewN ?_ _ | refine blk_drew ?_ | refine blk_alloc ?_ _)); refine blk_far ?_ NB239_266.out _; (with_reducible repeat (first | refine blk_drewN ?_ _ | refine blk_drew ?_ | refine blk_alloc ?_ _)); refine blk_far ?_ NB239_266.out _; (with_reducible repeat (first | refine blk_drewN ?_ _ | refine blk_drew ?_ | refine blk_alloc ?_ _)); exact BK239.out) hb); replace BK247 := Aside0.mk (blk_below (g := gb247) (o := .cells #[.int .i64 t243, .int .i64 t244, .string t245] 23 (0, 0)) (by (with_reducible repeat (first | refine blk_drewN ?_ _ | refine blk_drew ?_ | refine blk_alloc ?_ _)); refine blk_far ?_ NB247_266.out _; (with_reducible repeat (first | refine blk_drewN ?_ _ | refine blk_drew ?_ | refine blk_alloc ?_ _)); refine blk_far ?_ NB247_266.out _; (with_reducible repeat (first | refine blk_drewN ?_ _ | refine blk_drew ?_ | refine blk_alloc ?_ _)); refine blk_far ?_ NB247_266.out _; (with_reducible repeat (first | refine blk_drewN ?_ _ | refine blk_drew ?_ | refine blk_alloc ?_ _)); exact BK247.out) hb); replace BK255 := Aside0.mk (blk_below (g := gb255) (o := .cells #[.int .i64 t251, .int .i64 t252, .string t253] 23 (0, 0)) (by (with_reducible repeat (first | refine blk_drewN ?_ _ | refine blk_drew ?_ | refine blk_alloc ?_ _)); refine blk_far ?_ NB255_266.out _; (with_reducible repeat (first | refine blk_drewN ?_ _ | refine blk_drew ?_ | refine blk_alloc ?_ _)); refine blk_far ?_ NB255_266.out _; (with_reducible repeat (first | refine blk_drewN ?_ _ | refine blk_drew ?_ | refine blk_alloc ?_ _)); refine blk_far ?_ NB255_266.out _; (with_reducible repeat (first | refine blk_drewN ?_ _ | refine blk_drew ?_ | refine blk_alloc ?_ _)); exact BK255.out) hb); replace BK266 := Aside0.mk (blk_below (g := gb266) (o := .cells #[.int .i64 t262, .int .i64 t263, .string t264] 23 (0, 0)) (by (with_reducible repeat (first | refine blk_drewN ?_ _ | refine blk_drew ?_ | refine blk_alloc ?_ _)); refine blk_put (cs := #[.int .i64 t262, .int .i64 t263, .string (⟨#[]⟩ : ByteArray)]) ?_ 2 _ rfl; (with_reducible repeat (first | refine blk_drewN ?_ _ | refine blk_drew ?_ | refine blk_alloc ?_ _)); refine blk_put (cs := #[.int .i64 t262, .int .i64 0, .string (⟨#[]⟩ : ByteArray)]) ?_ 1 _ rfl; (with_reducible repeat (first | refine blk_drewN ?_ _ | refine blk_drew ?_ | refine blk_alloc ?_ _)); refine blk_put (cs := #[.int .i64 0, .int .i64 0, .string (⟨#[]⟩ : ByteArray)]) ?_ 0 _ rfl; (with_reducible repeat (first | refine blk_drewN ?_ _ | refine blk_drew ?_ | refine blk_alloc ?_ _)); exact BK266.out) hb); replace HB := stepB HB hb; (try clear hb); (try clear hb2); (try clear hk); (try clear hi)) | ((with_reducible refine gate_callee (f := 22) rfl ?_); refine goesL_ (some 37) rfl rfl Tryd.func22 (by kernel_rfl) rfl #[.agg #[.int .i64 t267, .int .i64 t268, .string t269], .agg #[.int .i64 0, .int .i64 0, .string (⟨#[]⟩ : ByteArray)]] rfl (by (try simp only [List.map_toArray, List.map_cons, List.map_nil]); first | done | rfl | (simp only [List.length_drop, List.length_take]; rfl)) ?_; (with_reducible refine (value_And.calls k t267 t268 t269 0 0 (⟨#[]⟩ : ByteArray) t270 t271 t272 t273 _ A9.out).mono ?_); rintro e w38 ⟨rfl, hb⟩; refine ⟨_, rfl, ?_⟩; replace BK239 := blkB BK239 hb; replace BK247 := blkB BK247 hb; replace BK255 := blkB BK255 hb; replace BK266 := blkB BK266 hb; replace HB := stepB HB hb; (try clear hb); (try clear hb2); (try clear hk); (try clear hi)) | ((with_reducible refine gate_dst (N := 8) rfl ?_); refine box_event ?hg (N := 8) ?hd (cs := #[.int .i64 0, .int .i64 0, .string (⟨#[]⟩ : ByteArray)]) (t := 23) ?hr ?_; (case hd => rfl); (case hg => rfl); (case hr => first | (go_simp; done) | (go_simp; rfl)); intro gb274 hg w39 hbox hb; have BK274 := Aside0.mk (hbox); have GW274 := (sizeB HB hg : Aside0 (w.heap.size ≤ gb274)); have GE274 := (sizeB HB hg : Aside0 (w.heap.size ≤ gb274)); have NB239_274 := neB BK239 hg; have NB274_239 := neC BK239 hg; have NB247_274 := neB BK247 hg; have NB274_247 := neC BK247 hg; have NB255_274 := neB BK255 hg; have NB274_255 := neC BK255 hg; have NB266_274 := neB BK266 hg; have NB274_266 := neC BK266 hg; replace BK239 := blkB BK239 hb; replace BK247 := blkB BK247 hb; replace BK255 := blkB BK255 hb; replace BK266 := blkB BK266 hb; replace HB := stepB HB hb; clear hb hbox hg; have hnb40 := NB274_239.out; have hnc40 := NB239_274.out; have hnb41 := NB274_247.out; have hnc41 := NB247_274.out; have hnb42 := NB274_255.out; have hnc42 := NB255_274.out; have hnb43 := NB274_266.out; have hnc43 := NB266_274.out; have hcz44_0 : w39.cell? ⟨gb274, 0, none⟩ = some (.int .i64 0) := bc BK274 0; have hcz44_1 : w39.cell? ⟨gb274, 1, none⟩ = some (.int .i64 0) := bc BK274 1; have hcz44_2 : w39.cell? ⟨gb274, 2, none⟩ = some (.string (⟨#[]⟩ : ByteArray)) := bc BK274 2; have hfz44_0 := blk_frozen BK274.out 0; have hfz44_1 := blk_frozen BK274.out 1; have hfz44_2 := blk_frozen BK274.out 2) | ((with_reducible refine gate_callee (f := 15) rfl ?_); refine goesL_ (some 41) rfl rfl Tryd.func15 (by kernel_rfl) rfl #[.bool false] rfl (by (try simp only [List.map_toArray, List.map_cons, List.map_nil]); first | done | rfl | (simp only [List.length_drop, List.length_take]; rfl)) ?_; (with_reducible refine (alumref19_Bool.calls false t275 t276 t277 _ A10.out).mono ?_); rintro e w45 ⟨rfl, hb⟩; refine ⟨_, rfl, ?_⟩; replace BK239 := Aside0.mk (blk_below (g := gb239) (o := .cells #[.int .i64 2, .int .i64 0, .string (⟨#[97, 98, 99, 100]⟩ : ByteArray)] 23 (0, 0)) (by (with_reducible repeat (first | refine blk_drewN ?_ _ | refine blk_drew ?_ | refine blk_alloc ?_ _)); refine blk_far ?_ NB239_274.out _; (with_reducible repeat (first | refine blk_drewN ?_ _ | refine blk_drew ?_ | refine blk_alloc ?_ _)); refine blk_far ?_ NB239_274.out _; (with_reducible repeat (first | refine blk_drewN ?_ _ | refine blk_drew ?_ | refine blk_alloc ?_ _)); refine blk_far ?_ NB239_274.out _; (with_reducible repeat (first | refine blk_drewN ?_ _ | refine blk_drew ?_ | refine blk_alloc ?_ _)); exact BK239.out) hb); replace BK247 := Aside0.mk (blk_below (g := gb247) (o := .cells #[.int .i64 t243, .int .i64 t244, .string t245] 23 (0, 0)) (by (with_reducible repeat (first | refine blk_drewN ?_ _ | refine blk_drew ?_ | refine blk_alloc ?_ _)); refine blk_far ?_ NB247_274.out _; (with_reducible repeat (first | refine blk_drewN ?_ _ | refine blk_drew ?_ | refine blk_alloc ?_ _)); refine blk_far ?_ NB247_274.out _; (with_reducible repeat (first | refine blk_drewN ?_ _ | refine blk_drew ?_ | refine blk_alloc ?_ _)); refine blk_far ?_ NB247_274.out _; (with_reducible repeat (first | refine blk_drewN ?_ _ | refine blk_drew ?_ | refine blk_alloc ?_ _)); exact BK247.out) hb); replace BK255 := Aside0.mk (blk_below (g := gb255) (o := .cells #[.int .i64 t251, .int .i64 t252, .string t253] 23 (0, 0)) (by (with_reducible repeat (first | refine blk_drewN ?_ _ | refine blk_drew ?_ | refine blk_alloc ?_ _)); refine blk_far ?_ NB255_274.out _; (with_reducible repeat (first | refine blk_drewN ?_ _ | refine blk_drew ?_ | refine blk_alloc ?_ _)); refine blk_far ?_ NB255_274.out _; (with_reducible repeat (first | refine blk_drewN ?_ _ | refine blk_drew ?_ | refine blk_alloc ?_ _)); refine blk_far ?_ NB255_274.out _; (with_reducible repeat (first | refine blk_drewN ?_ _ | refine blk_drew ?_ | refine blk_alloc ?_ _)); exact BK255.out) hb); replace BK266 := Aside0.mk (blk_below (g := gb266) (o := .cells #[.int .i64 t262, .int .i64 t263, .string t264] 23 (0, 0)) (by (with_reducible repeat (first | refine blk_drewN ?_ _ | refine blk_drew ?_ | refine blk_alloc ?_ _)); refine blk_far ?_ NB266_274.out _; (with_reducible repeat (first | refine blk_drewN ?_ _ | refine blk_drew ?_ | refine blk_alloc ?_ _)); refine blk_far ?_ NB266_274.out _; (with_reducible repeat (first | refine blk_drewN ?_ _ | refine blk_drew ?_ | refine blk_alloc ?_ _)); refine blk_far ?_ NB266_274.out _; (with_reducible repeat (first | refine blk_drewN ?_ _ | refine blk_drew ?_ | refine blk_alloc ?_ _)); exact BK266.out) hb); replace BK274 := Aside0.mk (blk_below (g := gb274) (o := .cells #[.int .i64 t270, .int .i64 t271, .string t272] 23 (0, 0)) (by (with_reducible repeat (first | refine blk_drewN ?_ _ | refine blk_drew ?_ | refine blk_alloc ?_ _)); refine blk_put (cs := #[.int .i64 t270, .int .i64 t271, .string (⟨#[]⟩ : ByteArray)]) ?_ 2 _ rfl; (with_reducible repeat (first | refine blk_drewN ?_ _ | refine blk_drew ?_ | refine blk_alloc ?_ _)); refine blk_put (cs := #[.int .i64 t270, .int .i64 0, .string (⟨#[]⟩ : ByteArray)]) ?_ 1 _ rfl; (with_reducible repeat (first | refine blk_drewN ?_ _ | refine blk_drew ?_ | refine blk_alloc ?_ _)); refine blk_put (cs := #[.int .i64 0, .int .i64 0, .string (⟨#[]⟩ : ByteArray)]) ?_ 0 _ rfl; (with_reducible repeat (first | refine blk_drewN ?_ _ | refine blk_drew ?_ | refine blk_alloc ?_ _)); exact BK274.out) hb); replace HB := stepB HB hb; (try clear hb); (try clear hb2); (try clear hk); (try clear hi)) | ((with_reducible refine gate_callee (f := 24) rfl ?_); refine goesL_ (some 43) rfl rfl Tryd.func24 (by kernel_rfl) rfl #[.agg #[.int .i64 t275, .int .i64 t276, .string t277], .agg #[.int .i64 0, .int .i64 0, .string (⟨#[]⟩ : ByteArray)]] rfl (by (try simp only [List.map_toArray, List.map_cons, List.map_nil]); first | done | rfl | (simp only [List.length_drop, List.length_take]; rfl)) ?_; (with_reducible refine (value_Or.calls k t275 t276 t277 0 0 (⟨#[]⟩ : ByteArray) t278 t279 t280 t281 _ A11.out).mono ?_); rintro e w46 ⟨rfl, hb⟩; refine ⟨_, rfl, ?_⟩; replace BK239 := blkB BK239 hb; replace BK247 := blkB BK247 hb; replace BK255 := blkB BK255 hb; replace BK266 := blkB BK266 hb; replace BK274 := blkB BK274 hb; replace HB := stepB HB hb; (try clear hb); (try clear hb2); (try clear hk); (try clear hi)) | ((with_reducible refine gate_dst (N := 10) rfl ?_); refine box_event ?hg (N := 10) ?hd (cs := #[.int .i64 0, .int .i64 0, .string (⟨#[]⟩ : ByteArray)]) (t := 23) ?hr ?_; (case hd => rfl); (case hg => rfl); (case hr => first | (go_simp; done) | (go_simp; rfl)); intro gb282 hg w47 hbox hb; have BK282 := Aside0.mk (hbox); have GW282 := (sizeB HB hg : Aside0 (w.heap.size ≤ gb282)); have GE282 := (sizeB HB hg : Aside0 (w.heap.size ≤ gb282)); have NB239_282 := neB BK239 hg; have NB282_239 := neC BK239 hg; have NB247_282 := neB BK247 hg; have NB282_247 := neC BK247 hg; have NB255_282 := neB BK255 hg; have NB282_255 := neC BK255 hg; have NB266_282 := neB BK266 hg; have NB282_266 := neC BK266 hg; have NB274_282 := neB BK274 hg; have NB282_274 := neC BK274 hg; replace BK239 := blkB BK239 hb; replace BK247 := blkB BK247 hb; replace BK255 := blkB BK255 hb; replace BK266 := blkB BK266 hb; replace BK274 := blkB BK274 hb; replace HB := stepB HB hb; clear hb hbox hg; have hnb48 := NB282_239.out; have hnc48 := NB239_282.out; have hnb49 := NB282_247.out; have hnc49 := NB247_282.out; have hnb50 := NB282_255.out; have hnc50 := NB255_282.out; have hnb51 := NB282_266.out; have hnc51 := NB266_282.out; have hnb52 := NB282_274.out; have hnc52 := NB274_282.out; have hcz53_0 : w47.cell? ⟨gb282, 0, none⟩ = some (.int .i64 0) := bc BK282 0; have hcz53_1 : w47.cell? ⟨gb282, 1, none⟩ = some (.int .i64 0) := bc BK282 1; have hcz53_2 : w47.cell? ⟨gb282, 2, none⟩ = some (.string (⟨#[]⟩ : ByteArray)) := bc BK282 2; have hfz53_0 := blk_frozen BK282.out 0; have hfz53_1 := blk_frozen BK282.out 1; have hfz53_2 := blk_frozen BK282.out 2))
 (try simp only [Act.put, List.setIfInBounds_toArray, List.set_cons_zero, List.set_cons_succ])
 go_cut [12] (fun v12 wc => ∃ (kq : Nat) (x12_11 : Bool), v12 = .bool x12_11 ∧ Aside0 (alumlaw19_sanity.j0 kq x12_11 2 0 (⟨#[97, 98, 99, 100]⟩ : ByteArray) = some r) ∧ Aside0 (kq ≤ k) ∧ Aside0 (wc.heap[gb239]? = some (.cells #[.int .i64 2, .int .i64 0, .string (⟨#[97, 98, 99, 100]⟩ : ByteArray)] 23 (0, 0))) ∧ Aside0 (wc.heap[gb247]? = some (.cells #[.int .i64 t243, .int .i64 t244, .string t245] 23 (0, 0))) ∧ Aside0 (wc.heap[gb255]? = some (.cells #[.int .i64 t251, .int .i64 t252, .string t253] 23 (0, 0))) ∧ Aside0 (wc.heap[gb266]? = some (.cells #[.int .i64 t262, .int .i64 t263, .string t264] 23 (0, 0))) ∧ Aside0 (wc.heap[gb274]? = some (.cells #[.int .i64 t270, .int .i64 t271, .string t272] 23 (0, 0))) ∧ Aside0 (wc.heap[gb282]? = some (.cells #[.int .i64 t278, .int .i64 t279, .string t280] 23 (0, 0))) ∧ Aside0 (Below w.heap.size w wc))
 case first =>
  have H := HC12.out
  clear HC12
  by_cases c54 : (t243 == 0 && (t244 == 0 && (t245.toList == ([] : List UInt8)))) = true
  ·rw [if_pos c54] at H
   have c54b0 : (t243 == 0 && (t244 == 0 && (t245.toList == ([] : List UInt8)))) = true := c54
   (try (have c54b1 : (t243 == 0 && (t244 == 0 && (t245.toList.isEmpty))) = true := by simpa using c54))
   (try (have c54b2 : decide (t243 = 0 && (t244 == 0 && (t245.toList == ([] : List UInt8)))) = true := by simpa using c54))
   (try (have c54b3 : (t243 == 0 && (t244 == 0 && (t245.toList == ([] : List UInt8)))) = true := by simpa using c54))
   clear c54
   (first | rw [c54b0] | (simp only [i64_w, i32_w]; rw [c54b0]) | skip)
   by_cases c55 : t246 = 0
   ·rw [if_pos c55] at H
    have c55b0 : (t246 == 0) = true := beq_iff_eq.mpr c55
    have c55b1 : (t246 != 0) = false := bne_eq_false_iff_eq.mpr c55
    clear c55
    by_cases c56 : t254 = 7
    ·rw [if_pos c56] at H
     have c56b0 : (t254 == 7) = true := beq_iff_eq.mpr c56
     have c56b1 : (t254 != 7) = false := bne_eq_false_iff_eq.mpr c56
     clear c56
     replace H := Option.bind_eq_some_iff.mp H
     obtain ⟨⟨t283, t284, t285⟩, A570, H⟩ := H
     replace H : (if (t262 == t283 && (t263 == t284 && (t264.toList == t285.toList))) = true then (if t265 = 0 then ((alumref19_Bool.f false).bind fun bt286 => (if (t270 == bt286.1 && (t271 == bt286.2.1 && (t272.toList == bt286.2.2.toList))) = true then (if t273 = 0 then (if (t278 == 0 && (t279 == 0 && (t280.toList == ([] : List UInt8)))) = true then (alumlaw19_sanity.j0 k (t281 == 0) 2 0 (⟨#[97, 98, 99, 100]⟩ : ByteArray)) else (none)) else (none)) else (none))) else (none)) else (none)) = some r := H
     have A57 := Aside0.mk A570
     clear A570
     by_cases c58 : (t262 == t283 && (t263 == t284 && (t264.toList == t285.toList))) = true
     ·rw [if_pos c58] at H
      have c58b0 : (t262 == t283 && (t263 == t284 && (t264.toList == t285.toList))) = true := c58
      (try (have c58b1 : decide (t262 = t283 && (t263 == t284 && (t264.toList == t285.toList))) = true := by simpa using c58))
      (try (have c58b2 : (t262 == t283 && (t263 == t284 && (t264.toList == t285.toList))) = true := by simpa using c58))
      clear c58
      by_cases c59 : t265 = 0
      ·rw [if_pos c59] at H
       have c59b0 : (t265 == 0) = true := beq_iff_eq.mpr c59
       have c59b1 : (t265 != 0) = false := bne_eq_false_iff_eq.mpr c59
       clear c59
       replace H := Option.bind_eq_some_iff.mp H
       obtain ⟨⟨t286, t287, t288⟩, A600, H⟩ := H
       replace H : (if (t270 == t286 && (t271 == t287 && (t272.toList == t288.toList))) = true then (if t273 = 0 then (if (t278 == 0 && (t279 == 0 && (t280.toList == ([] : List UInt8)))) = true then (alumlaw19_sanity.j0 k (t281 == 0) 2 0 (⟨#[97, 98, 99, 100]⟩ : ByteArray)) else (none)) else (none)) else (none)) = some r := H
       have A60 := Aside0.mk A600
       clear A600
       by_cases c61 : (t270 == t286 && (t271 == t287 && (t272.toList == t288.toList))) = true
       ·rw [if_pos c61] at H
        have c61b0 : (t270 == t286 && (t271 == t287 && (t272.toList == t288.toList))) = true := c61
        (try (have c61b1 : decide (t270 = t286 && (t271 == t287 && (t272.toList == t288.toList))) = true := by simpa using c61))
        (try (have c61b2 : (t270 == t286 && (t271 == t287 && (t272.toList == t288.toList))) = true := by simpa using c61))
        clear c61
        by_cases c62 : t273 = 0
        ·rw [if_pos c62] at H
         have c62b0 : (t273 == 0) = true := beq_iff_eq.mpr c62
         have c62b1 : (t273 != 0) = false := bne_eq_false_iff_eq.mpr c62
         clear c62
         by_cases c63 : (t278 == 0 && (t279 == 0 && (t280.toList == ([] : List UInt8)))) = true
         ·rw [if_pos c63] at H
          have c63b0 : (t278 == 0 && (t279 == 0 && (t280.toList == ([] : List UInt8)))) = true := c63
          (try (have c63b1 : (t278 == 0 && (t279 == 0 && (t280.toList.isEmpty))) = true := by simpa using c63))
          (try (have c63b2 : decide (t278 = 0 && (t279 == 0 && (t280.toList == ([] : List UInt8)))) = true := by simpa using c63))
          (try (have c63b3 : (t278 == 0 && (t279 == 0 && (t280.toList == ([] : List UInt8)))) = true := by simpa using c63))
          clear c63
          have H' := Aside0.mk H
          clear H
          try go_wp2
          have n0_ : Aside0 ((((w47.setCell ⟨gb282, 0, none⟩ (.int .i64 t278)).setCell ⟨gb282, 1, none⟩ (.int .i64 t279)).setCell ⟨gb282, 2, none⟩ (.string t280)).heap[gb239]? = some (.cells #[.int .i64 2, .int .i64 0, .string (⟨#[97, 98, 99, 100]⟩ : ByteArray)] 23 (0, 0))) := ⟨by (with_reducible repeat (first | refine blk_drewN ?_ _ | refine blk_drew ?_ | refine blk_alloc ?_ _)); refine blk_far ?_ NB239_282.out _; (with_reducible repeat (first | refine blk_drewN ?_ _ | refine blk_drew ?_ | refine blk_alloc ?_ _)); refine blk_far ?_ NB239_282.out _; (with_reducible repeat (first | refine blk_drewN ?_ _ | refine blk_drew ?_ | refine blk_alloc ?_ _)); refine blk_far ?_ NB239_282.out _; (with_reducible repeat (first | refine blk_drewN ?_ _ | refine blk_drew ?_ | refine blk_alloc ?_ _)); exact BK239.out⟩
          have n1_ : Aside0 ((((w47.setCell ⟨gb282, 0, none⟩ (.int .i64 t278)).setCell ⟨gb282, 1, none⟩ (.int .i64 t279)).setCell ⟨gb282, 2, none⟩ (.string t280)).heap[gb247]? = some (.cells #[.int .i64 t243, .int .i64 t244, .string t245] 23 (0, 0))) := ⟨by (with_reducible repeat (first | refine blk_drewN ?_ _ | refine blk_drew ?_ | refine blk_alloc ?_ _)); refine blk_far ?_ NB247_282.out _; (with_reducible repeat (first | refine blk_drewN ?_ _ | refine blk_drew ?_ | refine blk_alloc ?_ _)); refine blk_far ?_ NB247_282.out _; (with_reducible repeat (first | refine blk_drewN ?_ _ | refine blk_drew ?_ | refine blk_alloc ?_ _)); refine blk_far ?_ NB247_282.out _; (with_reducible repeat (first | refine blk_drewN ?_ _ | refine blk_drew ?_ | refine blk_alloc ?_ _)); exact BK247.out⟩
          have n2_ : Aside0 ((((w47.setCell ⟨gb282, 0, none⟩ (.int .i64 t278)).setCell ⟨gb282, 1, none⟩ (.int .i64 t279)).setCell ⟨gb282, 2, none⟩ (.string t280)).heap[gb255]? = some (.cells #[.int .i64 t251, .int .i64 t252, .string t253] 23 (0, 0))) := ⟨by (with_reducible repeat (first | refine blk_drewN ?_ _ | refine blk_drew ?_ | refine blk_alloc ?_ _)); refine blk_far ?_ NB255_282.out _; (with_reducible repeat (first | refine blk_drewN ?_ _ | refine blk_drew ?_ | refine blk_alloc ?_ _)); refine blk_far ?_ NB255_282.out _; (with_reducible repeat (first | refine blk_drewN ?_ _ | refine blk_drew ?_ | refine blk_alloc ?_ _)); refine blk_far ?_ NB255_282.out _; (with_reducible repeat (first | refine blk_drewN ?_ _ | refine blk_drew ?_ | refine blk_alloc ?_ _)); exact BK255.out⟩
          have n3_ : Aside0 ((((w47.setCell ⟨gb282, 0, none⟩ (.int .i64 t278)).setCell ⟨gb282, 1, none⟩ (.int .i64 t279)).setCell ⟨gb282, 2, none⟩ (.string t280)).heap[gb266]? = some (.cells #[.int .i64 t262, .int .i64 t263, .string t264] 23 (0, 0))) := ⟨by (with_reducible repeat (first | refine blk_drewN ?_ _ | refine blk_drew ?_ | refine blk_alloc ?_ _)); refine blk_far ?_ NB266_282.out _; (with_reducible repeat (first | refine blk_drewN ?_ _ | refine blk_drew ?_ | refine blk_alloc ?_ _)); refine blk_far ?_ NB266_282.out _; (with_reducible repeat (first | refine blk_drewN ?_ _ | refine blk_drew ?_ | refine blk_alloc ?_ _)); refine blk_far ?_ NB266_282.out _; (with_reducible repeat (first | refine blk_drewN ?_ _ | refine blk_drew ?_ | refine blk_alloc ?_ _)); exact BK266.out⟩
          have n4_ : Aside0 ((((w47.setCell ⟨gb282, 0, none⟩ (.int .i64 t278)).setCell ⟨gb282, 1, none⟩ (.int .i64 t279)).setCell ⟨gb282, 2, none⟩ (.string t280)).heap[gb274]? = some (.cells #[.int .i64 t270, .int .i64 t271, .string t272] 23 (0, 0))) := ⟨by (with_reducible repeat (first | refine blk_drewN ?_ _ | refine blk_drew ?_ | refine blk_alloc ?_ _)); refine blk_far ?_ NB274_282.out _; (with_reducible repeat (first | refine blk_drewN ?_ _ | refine blk_drew ?_ | refine blk_alloc ?_ _)); refine blk_far ?_ NB274_282.out _; (with_reducible repeat (first | refine blk_drewN ?_ _ | refine blk_drew ?_ | refine blk_alloc ?_ _)); refine blk_far ?_ NB274_282.out _; (with_reducible repeat (first | refine blk_drewN ?_ _ | refine blk_drew ?_ | refine blk_alloc ?_ _)); exact BK274.out⟩
          have n5_ : Aside0 ((((w47.setCell ⟨gb282, 0, none⟩ (.int .i64 t278)).setCell ⟨gb282, 1, none⟩ (.int .i64 t279)).setCell ⟨gb282, 2, none⟩ (.string t280)).heap[gb282]? = some (.cells #[.int .i64 t278, .int .i64 t279, .string t280] 23 (0, 0))) := ⟨by (with_reducible repeat (first | refine blk_drewN ?_ _ | refine blk_drew ?_ | refine blk_alloc ?_ _)); refine blk_put (cs := #[.int .i64 t278, .int .i64 t279, .string (⟨#[]⟩ : ByteArray)]) ?_ 2 _ rfl; (with_reducible repeat (first | refine blk_drewN ?_ _ | refine blk_drew ?_ | refine blk_alloc ?_ _)); refine blk_put (cs := #[.int .i64 t278, .int .i64 0, .string (⟨#[]⟩ : ByteArray)]) ?_ 1 _ rfl; (with_reducible repeat (first | refine blk_drewN ?_ _ | refine blk_drew ?_ | refine blk_alloc ?_ _)); refine blk_put (cs := #[.int .i64 0, .int .i64 0, .string (⟨#[]⟩ : ByteArray)]) ?_ 0 _ rfl; (with_reducible repeat (first | refine blk_drewN ?_ _ | refine blk_drew ?_ | refine blk_alloc ?_ _)); exact BK282.out⟩
          have n6_ : Aside0 (Below w.heap.size w (((w47.setCell ⟨gb282, 0, none⟩ (.int .i64 t278)).setCell ⟨gb282, 1, none⟩ (.int .i64 t279)).setCell ⟨gb282, 2, none⟩ (.string t280))) := ⟨by repeat (first | (with_reducible first | exact HB.out | apply below_alloc | apply pw_below_drewN | apply below_drew1 | refine below_set ?_ GE239.out | refine below_set ?_ GE247.out | refine below_set ?_ GE255.out | refine below_set ?_ GE266.out | refine below_set ?_ GE274.out | refine below_set ?_ GE282.out) | exact HB.out)⟩
          (try clear BK239)
          (try clear BK247)
          (try clear BK255)
          (try clear BK266)
          (try clear BK274)
          (try clear BK282)
          (try clear HB)
          generalize (((w47.setCell ⟨gb282, 0, none⟩ (.int .i64 t278)).setCell ⟨gb282, 1, none⟩ (.int .i64 t279)).setCell ⟨gb282, 2, none⟩ (.string t280)) = w64 at n0_ n1_ n2_ n3_ n4_ n5_ n6_ ⊢
          have BK239 := n0_
          have BK247 := n1_
          have BK255 := n2_
          have BK266 := n3_
          have BK274 := n4_
          have BK282 := n5_
          have HB := n6_
          clear n0_ n1_ n2_ n3_ n4_ n5_ n6_
          replace BK239 := Aside0.mk (blk_drew BK239.out)
          replace BK247 := Aside0.mk (blk_drew BK247.out)
          replace BK255 := Aside0.mk (blk_drew BK255.out)
          replace BK266 := Aside0.mk (blk_drew BK266.out)
          replace BK274 := Aside0.mk (blk_drew BK274.out)
          replace BK282 := Aside0.mk (blk_drew BK282.out)
          replace HB := Aside0.mk (below_drew1 HB.out)
          refine start_ (n := 39) (S := fun w' => w'.cell? ⟨gb247, 0, none⟩ = some (.int .i64 t243) ∧ w'.cell? ⟨gb247, 1, none⟩ = some (.int .i64 t244) ∧ w'.cell? ⟨gb247, 2, none⟩ = some (.string t245) ∧ w'.cell? ⟨gb266, 0, none⟩ = some (.int .i64 t262) ∧ w'.cell? ⟨gb266, 1, none⟩ = some (.int .i64 t263) ∧ w'.cell? ⟨gb266, 2, none⟩ = some (.string t264) ∧ w'.cell? ⟨gb274, 0, none⟩ = some (.int .i64 t270) ∧ w'.cell? ⟨gb274, 1, none⟩ = some (.int .i64 t271) ∧ w'.cell? ⟨gb274, 2, none⟩ = some (.string t272) ∧ w'.cell? ⟨gb282, 0, none⟩ = some (.int .i64 t278) ∧ w'.cell? ⟨gb282, 1, none⟩ = some (.int .i64 t279) ∧ w'.cell? ⟨gb282, 2, none⟩ = some (.string t280)) (ds := []) #[false, false, false, false, false, false, false, false, false, false, false, false, false, false, false, false, false, false, false, false, false, false, false, false, false, false, false, false, false, false, false, false, false, false, false, false, false, false, false] (by kernel_rfl) rfl rfl ⟨bc BK247 0, bc BK247 1, bc BK247 2, bc BK266 0, bc BK266 1, bc BK266 2, bc BK274 0, bc BK274 1, bc BK274 2, bc BK282 0, bc BK282 1, bc BK282 2⟩ (fun hHeld => ?_); refine with_tabW alumlaw19_sanity.tab7 alumlaw19_sanity.bits7 (fun HT_ HW_ => ?_)
          generalize w64.drew = w65 at BK239 BK247 BK255 BK266 BK274 BK282 HB hHeld ⊢
          refine pureA 1 47 #[false, true, false, false, false, false, false, false, false, false, false, false, false, false, false, false, false, false, false, false, false, false, false, false, false, false, false, false, false, false, false, false, false, false, false, false, false, false, false] HT_ ?_
          refine takeA 0 46 #[true, true, false, false, false, false, false, false, false, false, false, false, false, false, false, false, false, false, false, false, false, false, false, false, false, false, false, false, false, false, false, false, false, false, false, false, false, false, false] HT_ HW_ hHeld ?_
          refine pureA 2 48 #[true, true, true, false, false, false, false, false, false, false, false, false, false, false, false, false, false, false, false, false, false, false, false, false, false, false, false, false, false, false, false, false, false, false, false, false, false, false, false] HT_ ?_
          refine pureA 3 49 #[true, true, true, true, false, false, false, false, false, false, false, false, false, false, false, false, false, false, false, false, false, false, false, false, false, false, false, false, false, false, false, false, false, false, false, false, false, false, false] HT_ ?_
          refine pureA 4 50 #[true, true, true, true, true, false, false, false, false, false, false, false, false, false, false, false, false, false, false, false, false, false, false, false, false, false, false, false, false, false, false, false, false, false, false, false, false, false, false] HT_ ?_
          refine pureA 5 51 #[true, true, true, true, true, true, false, false, false, false, false, false, false, false, false, false, false, false, false, false, false, false, false, false, false, false, false, false, false, false, false, false, false, false, false, false, false, false, false] HT_ ?_
          refine pureA 6 52 #[true, true, true, true, true, true, true, false, false, false, false, false, false, false, false, false, false, false, false, false, false, false, false, false, false, false, false, false, false, false, false, false, false, false, false, false, false, false, false] HT_ ?_
          refine pureA 7 53 #[true, true, true, true, true, true, true, true, false, false, false, false, false, false, false, false, false, false, false, false, false, false, false, false, false, false, false, false, false, false, false, false, false, false, false, false, false, false, false] HT_ ?_
          refine pureA 8 54 #[true, true, true, true, true, true, true, true, true, false, false, false, false, false, false, false, false, false, false, false, false, false, false, false, false, false, false, false, false, false, false, false, false, false, false, false, false, false, false] HT_ ?_
          refine pureA 9 55 #[true, true, true, true, true, true, true, true, true, true, false, false, false, false, false, false, false, false, false, false, false, false, false, false, false, false, false, false, false, false, false, false, false, false, false, false, false, false, false] HT_ ?_
          refine pureA 10 56 #[true, true, true, true, true, true, true, true, true, true, true, false, false, false, false, false, false, false, false, false, false, false, false, false, false, false, false, false, false, false, false, false, false, false, false, false, false, false, false] HT_ ?_
          refine pureA 11 57 #[true, true, true, true, true, true, true, true, true, true, true, true, false, false, false, false, false, false, false, false, false, false, false, false, false, false, false, false, false, false, false, false, false, false, false, false, false, false, false] HT_ ?_
          refine takeA 12 58 #[true, true, true, true, true, true, true, true, true, true, true, true, true, false, false, false, false, false, false, false, false, false, false, false, false, false, false, false, false, false, false, false, false, false, false, false, false, false, false] HT_ HW_ hHeld ?_
          refine one_ (i := 13) (N := some 59) #[true, true, true, true, true, true, true, true, true, true, true, true, true, true, false, false, false, false, false, false, false, false, false, false, false, false, false, false, false, false, false, false, false, false, false, false, false, false, false] rfl rfl (one_of HT_.out (by kernel_rfl)) (by decide) (fun K hK => ?_)
          refine goes_ Tryd.func15 (by kernel_rfl) rfl #[.bool true] (by rfl) rfl rfl (by (try simp only [List.map_toArray, List.map_cons, List.map_nil]); first | done | rfl | (simp only [List.length_drop, List.length_take]; rfl)) ?_
          with_reducible refine (alumref19_Bool.calls true t283 t284 t285 _ A57.out).mono ?_
          rintro e w66 ⟨rfl, hb⟩
          refine ⟨_, rfl, ?_⟩
          replace BK239 := blkB BK239 hb
          replace BK247 := blkB BK247 hb
          replace BK255 := blkB BK255 hb
          replace BK266 := blkB BK266 hb
          replace BK274 := blkB BK274 hb
          replace BK282 := blkB BK282 hb
          replace HB := stepB HB hb
          (try clear hb)
          (try clear hb2)
          (try clear hk)
          (try clear hi)
          refine hK.out _ _ ⟨bc BK247 0, bc BK247 1, bc BK247 2, bc BK266 0, bc BK266 1, bc BK266 2, bc BK274 0, bc BK274 1, bc BK274 2, bc BK282 0, bc BK282 1, bc BK282 2⟩ (fun hHeld => ?_)
          clear hK K
          refine normA 59 ?_
          refine pureA 14 60 #[true, true, true, true, true, true, true, true, true, true, true, true, true, true, true, false, false, false, false, false, false, false, false, false, false, false, false, false, false, false, false, false, false, false, false, false, false, false, false] HT_ ?_
          refine pureA 15 61 #[true, true, true, true, true, true, true, true, true, true, true, true, true, true, true, true, false, false, false, false, false, false, false, false, false, false, false, false, false, false, false, false, false, false, false, false, false, false, false] HT_ ?_
          refine pureA 16 62 #[true, true, true, true, true, true, true, true, true, true, true, true, true, true, true, true, true, false, false, false, false, false, false, false, false, false, false, false, false, false, false, false, false, false, false, false, false, false, false] HT_ ?_
          refine pureA 17 63 #[true, true, true, true, true, true, true, true, true, true, true, true, true, true, true, true, true, true, false, false, false, false, false, false, false, false, false, false, false, false, false, false, false, false, false, false, false, false, false] HT_ ?_
          refine pureA 18 64 #[true, true, true, true, true, true, true, true, true, true, true, true, true, true, true, true, true, true, true, false, false, false, false, false, false, false, false, false, false, false, false, false, false, false, false, false, false, false, false] HT_ ?_
          refine pureA 19 65 #[true, true, true, true, true, true, true, true, true, true, true, true, true, true, true, true, true, true, true, true, false, false, false, false, false, false, false, false, false, false, false, false, false, false, false, false, false, false, false] HT_ ?_
          refine pureA 20 66 #[true, true, true, true, true, true, true, true, true, true, true, true, true, true, true, true, true, true, true, true, true, false, false, false, false, false, false, false, false, false, false, false, false, false, false, false, false, false, false] HT_ ?_
          refine takeA 21 67 #[true, true, true, true, true, true, true, true, true, true, true, true, true, true, true, true, true, true, true, true, true, true, false, false, false, false, false, false, false, false, false, false, false, false, false, false, false, false, false] HT_ HW_ hHeld ?_
          refine one_ (i := 22) (N := some 68) #[true, true, true, true, true, true, true, true, true, true, true, true, true, true, true, true, true, true, true, true, true, true, true, false, false, false, false, false, false, false, false, false, false, false, false, false, false, false, false] rfl rfl (one_of HT_.out (by kernel_rfl)) (by decide) (fun K hK => ?_)
          refine goes_ Tryd.func15 (by kernel_rfl) rfl #[.bool false] (by rfl) rfl rfl (by (try simp only [List.map_toArray, List.map_cons, List.map_nil]); first | done | rfl | (simp only [List.length_drop, List.length_take]; rfl)) ?_
          with_reducible refine (alumref19_Bool.calls false t286 t287 t288 _ A60.out).mono ?_
          rintro e w67 ⟨rfl, hb⟩
          refine ⟨_, rfl, ?_⟩
          replace BK239 := blkB BK239 hb
          replace BK247 := blkB BK247 hb
          replace BK255 := blkB BK255 hb
          replace BK266 := blkB BK266 hb
          replace BK274 := blkB BK274 hb
          replace BK282 := blkB BK282 hb
          replace HB := stepB HB hb
          (try clear hb)
          (try clear hb2)
          (try clear hk)
          (try clear hi)
          refine hK.out _ _ ⟨bc BK247 0, bc BK247 1, bc BK247 2, bc BK266 0, bc BK266 1, bc BK266 2, bc BK274 0, bc BK274 1, bc BK274 2, bc BK282 0, bc BK282 1, bc BK282 2⟩ (fun hHeld => ?_)
          clear hK K
          refine normA 68 ?_
          refine pureA 23 69 #[true, true, true, true, true, true, true, true, true, true, true, true, true, true, true, true, true, true, true, true, true, true, true, true, false, false, false, false, false, false, false, false, false, false, false, false, false, false, false] HT_ ?_
          refine pureA 24 70 #[true, true, true, true, true, true, true, true, true, true, true, true, true, true, true, true, true, true, true, true, true, true, true, true, true, false, false, false, false, false, false, false, false, false, false, false, false, false, false] HT_ ?_
          refine pureA 25 71 #[true, true, true, true, true, true, true, true, true, true, true, true, true, true, true, true, true, true, true, true, true, true, true, true, true, true, false, false, false, false, false, false, false, false, false, false, false, false, false] HT_ ?_
          refine pureA 26 72 #[true, true, true, true, true, true, true, true, true, true, true, true, true, true, true, true, true, true, true, true, true, true, true, true, true, true, true, false, false, false, false, false, false, false, false, false, false, false, false] HT_ ?_
          refine pureA 27 73 #[true, true, true, true, true, true, true, true, true, true, true, true, true, true, true, true, true, true, true, true, true, true, true, true, true, true, true, true, false, false, false, false, false, false, false, false, false, false, false] HT_ ?_
          refine pureA 28 74 #[true, true, true, true, true, true, true, true, true, true, true, true, true, true, true, true, true, true, true, true, true, true, true, true, true, true, true, true, true, false, false, false, false, false, false, false, false, false, false] HT_ ?_
          refine pureA 29 75 #[true, true, true, true, true, true, true, true, true, true, true, true, true, true, true, true, true, true, true, true, true, true, true, true, true, true, true, true, true, true, false, false, false, false, false, false, false, false, false] HT_ ?_
          refine pureA 31 77 #[true, true, true, true, true, true, true, true, true, true, true, true, true, true, true, true, true, true, true, true, true, true, true, true, true, true, true, true, true, true, false, true, false, false, false, false, false, false, false] HT_ ?_
          refine takeA 30 76 #[true, true, true, true, true, true, true, true, true, true, true, true, true, true, true, true, true, true, true, true, true, true, true, true, true, true, true, true, true, true, true, true, false, false, false, false, false, false, false] HT_ HW_ hHeld ?_
          refine pureA 32 78 #[true, true, true, true, true, true, true, true, true, true, true, true, true, true, true, true, true, true, true, true, true, true, true, true, true, true, true, true, true, true, true, true, true, false, false, false, false, false, false] HT_ ?_
          refine pureA 33 79 #[true, true, true, true, true, true, true, true, true, true, true, true, true, true, true, true, true, true, true, true, true, true, true, true, true, true, true, true, true, true, true, true, true, true, false, false, false, false, false] HT_ ?_
          refine pureA 34 80 #[true, true, true, true, true, true, true, true, true, true, true, true, true, true, true, true, true, true, true, true, true, true, true, true, true, true, true, true, true, true, true, true, true, true, true, false, false, false, false] HT_ ?_
          refine pureA 35 81 #[true, true, true, true, true, true, true, true, true, true, true, true, true, true, true, true, true, true, true, true, true, true, true, true, true, true, true, true, true, true, true, true, true, true, true, true, false, false, false] HT_ ?_
          refine pureA 36 82 #[true, true, true, true, true, true, true, true, true, true, true, true, true, true, true, true, true, true, true, true, true, true, true, true, true, true, true, true, true, true, true, true, true, true, true, true, true, false, false] HT_ ?_
          refine pureA 37 83 #[true, true, true, true, true, true, true, true, true, true, true, true, true, true, true, true, true, true, true, true, true, true, true, true, true, true, true, true, true, true, true, true, true, true, true, true, true, true, false] HT_ ?_
          refine pureA 38 12 #[true, true, true, true, true, true, true, true, true, true, true, true, true, true, true, true, true, true, true, true, true, true, true, true, true, true, true, true, true, true, true, true, true, true, true, true, true, true, true] HT_ ?_
          refine done_ (done_of HT_.out (by kernel_rfl)) ?_
          try go_wp2
          go_meet
          case rel => exact ⟨_, ((t281 == 0)), (by first | rfl | (simp; done) | (simp [*]; done)), H', ⟨by first | omega | exact Nat.le_refl _⟩, ⟨by (with_reducible repeat (first | refine blk_drewN ?_ _ | refine blk_drew ?_ | refine blk_alloc ?_ _)); exact BK239.out⟩, ⟨by (with_reducible repeat (first | refine blk_drewN ?_ _ | refine blk_drew ?_ | refine blk_alloc ?_ _)); exact BK247.out⟩, ⟨by (with_reducible repeat (first | refine blk_drewN ?_ _ | refine blk_drew ?_ | refine blk_alloc ?_ _)); exact BK255.out⟩, ⟨by (with_reducible repeat (first | refine blk_drewN ?_ _ | refine blk_drew ?_ | refine blk_alloc ?_ _)); exact BK266.out⟩, ⟨by (with_reducible repeat (first | refine blk_drewN ?_ _ | refine blk_drew ?_ | refine blk_alloc ?_ _)); exact BK274.out⟩, ⟨by (with_reducible repeat (first | refine blk_drewN ?_ _ | refine blk_drew ?_ | refine blk_alloc ?_ _)); exact BK282.out⟩, ⟨by repeat (first | (with_reducible first | exact HB.out | apply below_alloc | apply pw_below_drewN | apply below_drew1 | refine below_set ?_ GE239.out | refine below_set ?_ GE247.out | refine below_set ?_ GE255.out | refine below_set ?_ GE266.out | refine below_set ?_ GE274.out | refine below_set ?_ GE282.out) | exact HB.out)⟩⟩
         ·rw [if_neg c63] at H
          exact absurd H (by simp)
        ·rw [if_neg c62] at H
         exact absurd H (by simp)
       ·rw [if_neg c61] at H
        exact absurd H (by simp)
      ·rw [if_neg c59] at H
       exact absurd H (by simp)
     ·rw [if_neg c58] at H
      exact absurd H (by simp)
    ·rw [if_neg c56] at H
     exact absurd H (by simp)
   ·rw [if_neg c55] at H
    exact absurd H (by simp)
  ·rw [if_neg c54] at H
   exact absurd H (by simp)
 case rest =>
  clear HC12
  try clear c1
  try clear c2
  try clear p2
  try clear c3
  try clear c4
  try clear c5
  try clear c6
  try clear c14
  try clear c15
  try clear c22
  try clear c24
  try clear c33
  try clear c34
  try clear c35
  try clear c40
  try clear c41
  try clear c42
  try clear c43
  try clear c48
  try clear c49
  try clear c50
  try clear c51
  try clear c52
  try clear c54
  try clear c54b0
  try clear c54b1
  try clear c54b2
  try clear c55
  try clear c55b0
  try clear c55b1
  try clear c56
  try clear c56b0
  try clear c56b1
  try clear c58
  try clear c58b0
  try clear c58b1
  try clear c58b2
  try clear c59
  try clear c59b0
  try clear c59b1
  try clear c61
  try clear c61b0
  try clear c61b1
  try clear c61b2
  try clear c62
  try clear c62b0
  try clear c62b1
  try clear c63
  try clear c63b0
  try clear c63b1
  try clear c63b2
  try clear hcz36_0
  try clear hcz36_1
  try clear hcz36_2
  try clear hcz44_0
  try clear hcz44_1
  try clear hcz44_2
  try clear hcz53_0
  try clear hcz53_1
  try clear hcz53_2
  try clear hfz36_0
  try clear hfz36_1
  try clear hfz36_2
  try clear hfz44_0
  try clear hfz44_1
  try clear hfz44_2
  try clear hfz53_0
  try clear hfz53_1
  try clear hfz53_2
  obtain ⟨kq, x12_11, rfl, HA, HJ11, BK239, BK247, BK255, BK266, BK274, BK282, HB⟩ := hcut
  cases kq with
  | zero => exact absurd HA.out (by simp [alumlaw19_sanity.j0])
  | succ kj11 =>
   have H := HA.out
   clear HA
   simp only [alumlaw19_sanity.j0] at H
   replace H := Option.bind_eq_some_iff.mp H
   obtain ⟨⟨t289, t290, t291⟩, A680, H⟩ := H
   replace H : ((value_Key.f kj11 (([(⟨t289, t290, t291⟩ : S23), (⟨2, 0, (⟨#[97, 98, 99, 100]⟩ : ByteArray)⟩ : S23)] : List (S23))) 9).bind fun t295 => ((alumref19_SameInts.f kj11 t295 (([1, 0, 2, 418262508548, 0] : List Int))).bind fun t301 => (if t301 = true then ((alumlaw19_num.f (-5)).bind fun bt302 => ((value_Compare.f kj11 0 0 (⟨#[]⟩ : ByteArray) bt302.1 bt302.2.1 bt302.2.2).bind fun t305 => (if t305 = (-1) then ((value_Compare.f kj11 2 0 (⟨#[98]⟩ : ByteArray) 2 0 (⟨#[97, 98]⟩ : ByteArray)).bind fun t306 => (alumlaw19_sanity.j1 kj11 x12_11 (t306 == 1))) else (none)))) else (none)))) = some r := H
   have A68 := Aside0.mk A680
   clear A680
   obtain ⟨y292, hy292⟩ : ∃ y_ : List (S23), y_ = (([(⟨t289, t290, t291⟩ : S23), (⟨2, 0, (⟨#[97, 98, 99, 100]⟩ : ByteArray)⟩ : S23)] : List (S23))) := ⟨_, rfl⟩
   replace H : ((value_Key.f kj11 y292 9).bind fun t295 => ((alumref19_SameInts.f kj11 t295 (([1, 0, 2, 418262508548, 0] : List Int))).bind fun t301 => (if t301 = true then ((alumlaw19_num.f (-5)).bind fun bt302 => ((value_Compare.f kj11 0 0 (⟨#[]⟩ : ByteArray) bt302.1 bt302.2.1 bt302.2.2).bind fun t305 => (if t305 = (-1) then ((value_Compare.f kj11 2 0 (⟨#[98]⟩ : ByteArray) 2 0 (⟨#[97, 98]⟩ : ByteArray)).bind fun t306 => (alumlaw19_sanity.j1 kj11 x12_11 (t306 == 1))) else (none)))) else (none)))) = some r := by first | (rw [hy292]; with_reducible exact H) | (have H2_ := (Option.bind_some _ _).symm.trans H; rw [hy292]; with_reducible exact H2_) | (have H2_ := (Option.bind_some _ _).symm.trans H; with_reducible exact H2_) | with_reducible exact H | (rw [hy292]; exact H) | exact H
   have Ny292 := Aside0.mk hy292
   clear hy292
   replace H := Option.bind_eq_some_iff.mp H
   obtain ⟨t295, A690, H⟩ := H
   replace H : ((alumref19_SameInts.f kj11 t295 (([1, 0, 2, 418262508548, 0] : List Int))).bind fun t301 => (if t301 = true then ((alumlaw19_num.f (-5)).bind fun bt302 => ((value_Compare.f kj11 0 0 (⟨#[]⟩ : ByteArray) bt302.1 bt302.2.1 bt302.2.2).bind fun t305 => (if t305 = (-1) then ((value_Compare.f kj11 2 0 (⟨#[98]⟩ : ByteArray) 2 0 (⟨#[97, 98]⟩ : ByteArray)).bind fun t306 => (alumlaw19_sanity.j1 kj11 x12_11 (t306 == 1))) else (none)))) else (none))) = some r := H
   have A69 := Aside0.mk A690
   clear A690
   have HC70 := Aside0.mk H
   clear H
   try go_wp2
   replace BK239 := Aside0.mk (blk_drew BK239.out)
   replace BK247 := Aside0.mk (blk_drew BK247.out)
   replace BK255 := Aside0.mk (blk_drew BK255.out)
   replace BK266 := Aside0.mk (blk_drew BK266.out)
   replace BK274 := Aside0.mk (blk_drew BK274.out)
   replace BK282 := Aside0.mk (blk_drew BK282.out)
   replace HB := Aside0.mk (below_drew1 HB.out)
   refine start_ (n := 5) (S := fun w' => w'.cell? ⟨gb239, 0, none⟩ = some (.int .i64 2) ∧ w'.cell? ⟨gb239, 1, none⟩ = some (.int .i64 0) ∧ w'.cell? ⟨gb239, 2, none⟩ = some (.string (⟨#[97, 98, 99, 100]⟩ : ByteArray))) (ds := []) #[false, false, false, false, false] (by kernel_rfl) rfl rfl ⟨bc BK239 0, bc BK239 1, bc BK239 2⟩ (fun hHeld => ?_)
   generalize wc.drew = w71 at BK239 BK247 BK255 BK266 BK274 BK282 HB hHeld ⊢
   refine take_ (i := 1) (N := some 85) (v := ?_) (a' := ?_) #[false, true, false, false, false] rfl rfl (by kernel_rfl) (fun _ _ _ h => h) (Or.inl ⟨by rfl, ?_⟩) hHeld ?_ ?_
   rotate_left
   ·rintro w' ⟨s0, s1, s2⟩
    go_simp
    with_reducible rfl
   rotate_left
   ·simp only [Act.put, List.setIfInBounds_toArray, List.set_cons_zero, List.set_cons_succ, i64_w, i32_w]
    rfl
   refine one_ (i := 0) (N := some 84) #[true, true, false, false, false] rfl rfl (by kernel_rfl) (by decide) (fun K hK => ?_)
   refine goes_ Tryd.func42 (by kernel_rfl) rfl #[.int .i64 (-549755813888)] (by rfl) rfl rfl (by (try simp only [List.map_toArray, List.map_cons, List.map_nil]); first | done | rfl | (simp only [List.length_drop, List.length_take]; rfl)) ?_
   with_reducible refine (alumlaw19_num.calls (-549755813888) t289 t290 t291 _ A68.out).mono ?_
   rintro e w72 ⟨rfl, hb⟩
   refine ⟨_, rfl, ?_⟩
   replace BK239 := blkB BK239 hb
   replace BK247 := blkB BK247 hb
   replace BK255 := blkB BK255 hb
   replace BK266 := blkB BK266 hb
   replace BK274 := blkB BK274 hb
   replace BK282 := blkB BK282 hb
   replace HB := stepB HB hb
   (try clear hb)
   (try clear hb2)
   (try clear hk)
   (try clear hi)
   refine hK.out _ _ ⟨bc BK239 0, bc BK239 1, bc BK239 2⟩ (fun hHeld => ?_)
   clear hK K
   refine normA 84 ?_
   refine one_ (i := 2) (N := some 86) #[true, true, true, false, false] rfl rfl (by kernel_rfl) (by decide) (fun K hK => ?_)
   refine Kd.R_lit_step k23 _ 23 ?hg (N := 86) ?hd (xs := ([(⟨t289, t290, t291⟩ : S23), (⟨2, 0, (⟨#[97, 98, 99, 100]⟩ : ByteArray)⟩ : S23)] : List (S23))) (inner := [.int .i64 t289, .int .i64 t290, .string t291, .int .i64 2, .int .i64 0, .string (⟨#[97, 98, 99, 100]⟩ : ByteArray)]) (ok := fun _ => True) (okp := fun _ => True) ?hr ?hp (fun _ hk => hk) trivial (Below.refl _ _) (Nat.le_refl _) (by simp) ?_; (case hd => rfl); (case hg => rfl); (case hr => first | (go_simp; done) | (go_simp; rfl)); (case hp => exact (Reps.c3 (show Kd.M k23 _ _ _ (⟨t289, t290, t291⟩ : S23) [.int .i64 t289, .int .i64 t290, .string t291] from (k23_mkM _ _ _ (⟨t289, t290, t291⟩ : S23) )) (Reps.c3 (show Kd.M k23 _ _ _ (⟨2, 0, (⟨#[97, 98, 99, 100]⟩ : ByteArray)⟩ : S23) [.int .i64 2, .int .i64 0, .string (⟨#[97, 98, 99, 100]⟩ : ByteArray)] from (k23_mkM _ _ _ (⟨2, 0, (⟨#[97, 98, 99, 100]⟩ : ByteArray)⟩ : S23) )) (Reps.none _ _))))
   intro v293 w73 ho74 hb hg_ hnew_
   clear hg_ hnew_
   (first | rw [← Ny292.out] at ho74 | (simp only [Int.reduceToNat] at ho74; rw [← Ny292.out] at ho74))
   have HO294 := Aside0.mk (Kd.R_lower (Kd.R_newB (Kd.R_newB (Kd.R_newB (Kd.R_newB (Kd.R_newB (Kd.R_newB ho74 (g := gb239) (o := .cells #[.int .i64 2, .int .i64 0, .string (⟨#[97, 98, 99, 100]⟩ : ByteArray)] 23 (0, 0)) (by (with_reducible repeat (first | refine blk_drewN ?_ _ | refine blk_drew ?_ | refine blk_alloc ?_ _)); exact BK239.out)) (g := gb247) (o := .cells #[.int .i64 t243, .int .i64 t244, .string t245] 23 (0, 0)) (by (with_reducible repeat (first | refine blk_drewN ?_ _ | refine blk_drew ?_ | refine blk_alloc ?_ _)); exact BK247.out)) (g := gb255) (o := .cells #[.int .i64 t251, .int .i64 t252, .string t253] 23 (0, 0)) (by (with_reducible repeat (first | refine blk_drewN ?_ _ | refine blk_drew ?_ | refine blk_alloc ?_ _)); exact BK255.out)) (g := gb266) (o := .cells #[.int .i64 t262, .int .i64 t263, .string t264] 23 (0, 0)) (by (with_reducible repeat (first | refine blk_drewN ?_ _ | refine blk_drew ?_ | refine blk_alloc ?_ _)); exact BK266.out)) (g := gb274) (o := .cells #[.int .i64 t270, .int .i64 t271, .string t272] 23 (0, 0)) (by (with_reducible repeat (first | refine blk_drewN ?_ _ | refine blk_drew ?_ | refine blk_alloc ?_ _)); exact BK274.out)) (g := gb282) (o := .cells #[.int .i64 t278, .int .i64 t279, .string t280] 23 (0, 0)) (by (with_reducible repeat (first | refine blk_drewN ?_ _ | refine blk_drew ?_ | refine blk_alloc ?_ _)); exact BK282.out)) (below_size (by repeat (first | (with_reducible first | exact HB.out | apply below_alloc | apply pw_below_drewN | apply below_drew1 | refine below_set ?_ GE239.out | refine below_set ?_ GE247.out | refine below_set ?_ GE255.out | refine below_set ?_ GE266.out | refine below_set ?_ GE274.out | refine below_set ?_ GE282.out) | exact HB.out))))
   replace BK239 := blkB BK239 hb
   replace BK247 := blkB BK247 hb
   replace BK255 := blkB BK255 hb
   replace BK266 := blkB BK266 hb
   replace BK274 := blkB BK274 hb
   replace BK282 := blkB BK282 hb
   replace HB := stepB HB hb
   clear hb ho74
   obtain ⟨Ao75, co75, eo75⟩ := Kd.R_slice HO294.out
   (first | subst eo75 | (injection eo75 with f1_ f2_ f3_; have f4_ := f1_.symm; have f5_ := f3_.symm; clear f1_ f2_ f3_; subst f4_; subst f5_))
   refine hK.out _ _ ⟨bc BK239 0, bc BK239 1, bc BK239 2⟩ (fun hHeld => ?_)
   clear hK K
   refine normA 86 ?_
   refine one_ (i := 3) (N := some 87) #[true, true, true, true, false] rfl rfl (by kernel_rfl) (by decide) (fun K hK => ?_)
   refine goes_ Tryd.func35 (by kernel_rfl) rfl #[.slice Ao75 y292.length co75, .int .i64 9] (by rfl) rfl rfl (by (try simp only [List.map_toArray, List.map_cons, List.map_nil]); first | done | rfl | (simp only [List.length_drop, List.length_take]; rfl)) ?_
   with_reducible refine (value_Key.calls kj11 _ _ y292 9 t295 _ ?side1 ?side2 A69.out).mono ?_
   (case side1 => repeat (first | exact (Kd.R_reads' HO294.out).2.2 | (with_reducible refine Kd.C_alloc ?_ _) | (with_reducible refine Kd.C_drewN ?_ _) | (with_reducible refine Kd.C_drew ?_)))
   (case side2 => exact (Kd.R_reads' HO294.out).2.1)
   rintro e w76 ⟨v296, rfl, ho0, hb⟩
   refine ⟨_, rfl, ?_⟩
   have HO297 := Aside0.mk (Kd.R_lower ho0 (below_size (by repeat (first | (with_reducible first | exact HB.out | apply below_alloc | apply pw_below_drewN | apply below_drew1 | refine below_set ?_ GE239.out | refine below_set ?_ GE247.out | refine below_set ?_ GE255.out | refine below_set ?_ GE266.out | refine below_set ?_ GE274.out | refine below_set ?_ GE282.out) | exact HB.out))))
   replace HO294 := Aside0.mk (Kd.R_below (by (with_reducible repeat (first | apply Kd.R_alloc | apply Kd.R_drewN | apply Kd.R_drew)); exact HO294.out) hb)
   replace BK239 := blkB BK239 hb
   replace BK247 := blkB BK247 hb
   replace BK255 := blkB BK255 hb
   replace BK266 := blkB BK266 hb
   replace BK274 := blkB BK274 hb
   replace BK282 := blkB BK282 hb
   replace HB := stepB HB hb
   (try clear hb)
   (try clear hb2)
   (try clear hk)
   (try clear hi)
   (try clear ho0)
   refine hK.out _ _ ⟨bc BK239 0, bc BK239 1, bc BK239 2⟩ (fun hHeld => ?_)
   clear hK K
   refine normA 87 ?_
   refine pure_ (i := 4) (N := some 13) (v := ?_) (a' := ?_) #[true, true, true, true, true] rfl rfl (by kernel_rfl) (fun _ _ _ h => h) (Or.inl ⟨by rfl, ?_⟩) ?_ ?_
   rotate_left
   ·intro w'
    go_simp
    with_reducible rfl
   rotate_left
   ·simp only [Act.put, List.setIfInBounds_toArray, List.set_cons_zero, List.set_cons_succ, i64_w, i32_w]
    rfl
   refine done_ (by kernel_rfl) ?_
   go_upto_region 9 with (fail)
   go_cut [14] (fun v14 wc => ∃ (kq : Nat) (x14_69 : Bool), v14 = .bool x14_69 ∧ Aside0 (alumlaw19_sanity.j1 kq x12_11 x14_69 = some r) ∧ Aside0 (kq ≤ kj11) ∧ Aside0 (wc.heap[gb239]? = some (.cells #[.int .i64 2, .int .i64 0, .string (⟨#[97, 98, 99, 100]⟩ : ByteArray)] 23 (0, 0))) ∧ Aside0 (wc.heap[gb247]? = some (.cells #[.int .i64 t243, .int .i64 t244, .string t245] 23 (0, 0))) ∧ Aside0 (wc.heap[gb255]? = some (.cells #[.int .i64 t251, .int .i64 t252, .string t253] 23 (0, 0))) ∧ Aside0 (wc.heap[gb266]? = some (.cells #[.int .i64 t262, .int .i64 t263, .string t264] 23 (0, 0))) ∧ Aside0 (wc.heap[gb274]? = some (.cells #[.int .i64 t270, .int .i64 t271, .string t272] 23 (0, 0))) ∧ Aside0 (wc.heap[gb282]? = some (.cells #[.int .i64 t278, .int .i64 t279, .string t280] 23 (0, 0))) ∧ Aside0 (Below w.heap.size w wc))
   case first =>
    have H := HC70.out
    clear HC70
    obtain ⟨y298, hy298⟩ : ∃ y_ : List Int, y_ = (([1, 0, 2, 418262508548, 0] : List Int)) := ⟨_, rfl⟩
    replace H : ((alumref19_SameInts.f kj11 t295 y298).bind fun t301 => (if t301 = true then ((alumlaw19_num.f (-5)).bind fun bt302 => ((value_Compare.f kj11 0 0 (⟨#[]⟩ : ByteArray) bt302.1 bt302.2.1 bt302.2.2).bind fun t305 => (if t305 = (-1) then ((value_Compare.f kj11 2 0 (⟨#[98]⟩ : ByteArray) 2 0 (⟨#[97, 98]⟩ : ByteArray)).bind fun t306 => (alumlaw19_sanity.j1 kj11 x12_11 (t306 == 1))) else (none)))) else (none))) = some r := by first | (rw [hy298]; with_reducible exact H) | (have H2_ := (Option.bind_some _ _).symm.trans H; rw [hy298]; with_reducible exact H2_) | (have H2_ := (Option.bind_some _ _).symm.trans H; with_reducible exact H2_) | with_reducible exact H | (rw [hy298]; exact H) | exact H
    have Ny298 := Aside0.mk hy298
    clear hy298
    replace H := Option.bind_eq_some_iff.mp H
    obtain ⟨t301, A770, H⟩ := H
    replace H : (if t301 = true then ((alumlaw19_num.f (-5)).bind fun bt302 => ((value_Compare.f kj11 0 0 (⟨#[]⟩ : ByteArray) bt302.1 bt302.2.1 bt302.2.2).bind fun t305 => (if t305 = (-1) then ((value_Compare.f kj11 2 0 (⟨#[98]⟩ : ByteArray) 2 0 (⟨#[97, 98]⟩ : ByteArray)).bind fun t306 => (alumlaw19_sanity.j1 kj11 x12_11 (t306 == 1))) else (none)))) else (none)) = some r := H
    have A77 := Aside0.mk A770
    clear A770
    by_cases c78 : t301 = true
    ·subst c78
     have H1 : ((alumlaw19_num.f (-5)).bind fun bt302 => ((value_Compare.f kj11 0 0 (⟨#[]⟩ : ByteArray) bt302.1 bt302.2.1 bt302.2.2).bind fun t305 => (if t305 = (-1) then ((value_Compare.f kj11 2 0 (⟨#[98]⟩ : ByteArray) 2 0 (⟨#[97, 98]⟩ : ByteArray)).bind fun t306 => (alumlaw19_sanity.j1 kj11 x12_11 (t306 == 1))) else (none)))) = some r := by rw [if_pos rfl] at H; exact H
     clear H
     have H := H1
     clear H1
     replace H := Option.bind_eq_some_iff.mp H
     obtain ⟨⟨t302, t303, t304⟩, A790, H⟩ := H
     replace H : ((value_Compare.f kj11 0 0 (⟨#[]⟩ : ByteArray) t302 t303 t304).bind fun t305 => (if t305 = (-1) then ((value_Compare.f kj11 2 0 (⟨#[98]⟩ : ByteArray) 2 0 (⟨#[97, 98]⟩ : ByteArray)).bind fun t306 => (alumlaw19_sanity.j1 kj11 x12_11 (t306 == 1))) else (none))) = some r := H
     have A79 := Aside0.mk A790
     clear A790
     replace H := Option.bind_eq_some_iff.mp H
     obtain ⟨t305, A800, H⟩ := H
     replace H : (if t305 = (-1) then ((value_Compare.f kj11 2 0 (⟨#[98]⟩ : ByteArray) 2 0 (⟨#[97, 98]⟩ : ByteArray)).bind fun t306 => (alumlaw19_sanity.j1 kj11 x12_11 (t306 == 1))) else (none)) = some r := H
     have A80 := Aside0.mk A800
     clear A800
     by_cases c81 : t305 = (-1)
     ·rw [if_pos c81] at H
      have c81b0 : (t305 == (-1)) = true := beq_iff_eq.mpr c81
      have c81b1 : (t305 != (-1)) = false := bne_eq_false_iff_eq.mpr c81
      clear c81
      (first | rw [c81b0] | (simp only [i64_w, i32_w]; rw [c81b0]) | skip)
      replace H := Option.bind_eq_some_iff.mp H
      obtain ⟨t306, A820, H⟩ := H
      replace H : (alumlaw19_sanity.j1 kj11 x12_11 (t306 == 1)) = some r := H
      have A82 := Aside0.mk A820
      clear A820
      have H' := Aside0.mk H
      clear H
      go_wp2_with (first | ((with_reducible refine gate_dst (N := 89) rfl ?_); refine Kd.R_lit (Kd.int .i64) _ 3 ?hg (N := 89) ?hd (xs := ([1, 0, 2, 418262508548, 0] : List Int)) (inner := [.int .i64 1, .int .i64 0, .int .i64 2, .int .i64 418262508548, .int .i64 0]) (ok := fun _ => True) (okp := fun _ => True) ?hr ?hp (fun _ hk => hk) trivial (Below.refl _ _) (Nat.le_refl _) (by simp) ?_; (case hd => rfl); (case hg => rfl); (case hr => first | (go_simp; done) | (go_simp; rfl)); (case hp => exact (Reps.one (show Kd.M (Kd.int .i64) _ _ _ 1 [.int .i64 1] from rfl) (Reps.one (show Kd.M (Kd.int .i64) _ _ _ 0 [.int .i64 0] from rfl) (Reps.one (show Kd.M (Kd.int .i64) _ _ _ 2 [.int .i64 2] from rfl) (Reps.one (show Kd.M (Kd.int .i64) _ _ _ 418262508548 [.int .i64 418262508548] from rfl) (Reps.one (show Kd.M (Kd.int .i64) _ _ _ 0 [.int .i64 0] from rfl) (Reps.none _ _))))))); intro v299 w83 ho84 hb hg_ hnew_; clear hg_ hnew_; (first | rw [← Ny298.out] at ho84 | (simp only [Int.reduceToNat] at ho84; rw [← Ny298.out] at ho84)); have HO300 := Aside0.mk (Kd.R_lower (Kd.R_new' ho84 (Kd.R_lt (by (with_reducible repeat (first | apply Kd.R_alloc | apply Kd.R_drewN | apply Kd.R_drew)); exact HO297.out))) (below_size (by repeat (first | (with_reducible first | exact HB.out | apply below_alloc | apply pw_below_drewN | apply below_drew1 | refine below_set ?_ GE239.out | refine below_set ?_ GE247.out | refine below_set ?_ GE255.out | refine below_set ?_ GE266.out | refine below_set ?_ GE274.out | refine below_set ?_ GE282.out) | exact HB.out)))); replace HO294 := Aside0.mk (Kd.R_below (by (with_reducible repeat (first | apply Kd.R_alloc | apply Kd.R_drewN | apply Kd.R_drew)); exact HO294.out) hb); replace HO297 := Aside0.mk (Kd.R_elder' (by (with_reducible repeat (first | apply Kd.R_alloc | apply Kd.R_drewN | apply Kd.R_drew)); exact HO297.out) (Kd.R_base ho84) hb); replace BK239 := blkB BK239 hb; replace BK247 := blkB BK247 hb; replace BK255 := blkB BK255 hb; replace BK266 := blkB BK266 hb; replace BK274 := blkB BK274 hb; replace BK282 := blkB BK282 hb; replace HB := stepB HB hb; clear hb ho84; obtain ⟨Ao85, co85, eo85⟩ := Kd.R_slice HO297.out; subst eo85; obtain ⟨Ao86, co86, eo86⟩ := Kd.R_slice HO300.out; subst eo86) | ((with_reducible refine gate_callee (f := 34) rfl ?_); refine goesL_ (some 90) rfl rfl Tryd.func34 (by kernel_rfl) rfl #[.slice Ao85 t295.length co85, .slice Ao86 y298.length co86] rfl (by (try simp only [List.map_toArray, List.map_cons, List.map_nil]); first | done | rfl | (simp only [List.length_drop, List.length_take]; rfl)) ?_; (with_reducible refine (alumref19_SameInts.calls kj11 _ _ t295 _ _ y298 true _ ?side1 ?side2 ?side3 ?side4 A77.out).mono ?_); (case side1 => repeat (first | exact (Kd.R_reads' HO297.out).2.2 | (with_reducible refine Kd.C_alloc ?_ _) | (with_reducible refine Kd.C_drewN ?_ _) | (with_reducible refine Kd.C_drew ?_))); (case side2 => exact (Kd.R_reads' HO297.out).2.1); (case side3 => repeat (first | exact (Kd.R_reads' HO300.out).2.2 | (with_reducible refine Kd.C_alloc ?_ _) | (with_reducible refine Kd.C_drewN ?_ _) | (with_reducible refine Kd.C_drew ?_))); (case side4 => exact (Kd.R_reads' HO300.out).2.1); rintro e w' ⟨rfl, ⟨nd, rfl⟩⟩; refine ⟨_, rfl, ?_⟩) | (go_at_call 42; (with_reducible refine (alumlaw19_num.calls (-5) t302 t303 t304 _ A79.out).mono ?_); rintro e w87 ⟨rfl, hb⟩; replace HO294 := Aside0.mk (Kd.R_below (by (with_reducible repeat (first | apply Kd.R_alloc | apply Kd.R_drewN | apply Kd.R_drew)); exact HO294.out) hb); replace HO297 := Aside0.mk (Kd.R_below (by (with_reducible repeat (first | apply Kd.R_alloc | apply Kd.R_drewN | apply Kd.R_drew)); exact HO297.out) hb); replace HO300 := Aside0.mk (Kd.R_below (by (with_reducible repeat (first | apply Kd.R_alloc | apply Kd.R_drewN | apply Kd.R_drew)); exact HO300.out) hb); replace BK239 := blkB BK239 hb; replace BK247 := blkB BK247 hb; replace BK255 := blkB BK255 hb; replace BK266 := blkB BK266 hb; replace BK274 := blkB BK274 hb; replace BK282 := blkB BK282 hb; replace HB := stepB HB hb; (try clear hb); (try clear hb2); (try clear hk); (try clear hi)) | (go_at_call 13; (with_reducible refine (value_Compare.calls kj11 0 0 (⟨#[]⟩ : ByteArray) t302 t303 t304 t305 _ A80.out).mono ?_); rintro e w88 ⟨rfl, hb⟩; replace HO294 := Aside0.mk (Kd.R_below (by (with_reducible repeat (first | apply Kd.R_alloc | apply Kd.R_drewN | apply Kd.R_drew)); exact HO294.out) hb); replace HO297 := Aside0.mk (Kd.R_below (by (with_reducible repeat (first | apply Kd.R_alloc | apply Kd.R_drewN | apply Kd.R_drew)); exact HO297.out) hb); replace HO300 := Aside0.mk (Kd.R_below (by (with_reducible repeat (first | apply Kd.R_alloc | apply Kd.R_drewN | apply Kd.R_drew)); exact HO300.out) hb); replace BK239 := blkB BK239 hb; replace BK247 := blkB BK247 hb; replace BK255 := blkB BK255 hb; replace BK266 := blkB BK266 hb; replace BK274 := blkB BK274 hb; replace BK282 := blkB BK282 hb; replace HB := stepB HB hb; (try clear hb); (try clear hb2); (try clear hk); (try clear hi)) | (go_at_call 13; (with_reducible refine (value_Compare.calls kj11 2 0 (⟨#[98]⟩ : ByteArray) 2 0 (⟨#[97, 98]⟩ : ByteArray) t306 _ A82.out).mono ?_); rintro e w89 ⟨rfl, hb⟩; replace HO294 := Aside0.mk (Kd.R_below (by (with_reducible repeat (first | apply Kd.R_alloc | apply Kd.R_drewN | apply Kd.R_drew)); exact HO294.out) hb); replace HO297 := Aside0.mk (Kd.R_below (by (with_reducible repeat (first | apply Kd.R_alloc | apply Kd.R_drewN | apply Kd.R_drew)); exact HO297.out) hb); replace HO300 := Aside0.mk (Kd.R_below (by (with_reducible repeat (first | apply Kd.R_alloc | apply Kd.R_drewN | apply Kd.R_drew)); exact HO300.out) hb); replace BK239 := blkB BK239 hb; replace BK247 := blkB BK247 hb; replace BK255 := blkB BK255 hb; replace BK266 := blkB BK266 hb; replace BK274 := blkB BK274 hb; replace BK282 := blkB BK282 hb; replace HB := stepB HB hb; (try clear hb); (try clear hb2); (try clear hk); (try clear hi)))
      go_meet
      case rel => exact ⟨_, ((t306 == 1)), (by first | rfl | (simp; done) | (simp [*]; done)), H', ⟨by have := HJ11.out; first | omega | exact Nat.le_refl _⟩, ⟨by (with_reducible repeat (first | refine blk_drewN ?_ _ | refine blk_drew ?_ | refine blk_alloc ?_ _)); exact BK239.out⟩, ⟨by (with_reducible repeat (first | refine blk_drewN ?_ _ | refine blk_drew ?_ | refine blk_alloc ?_ _)); exact BK247.out⟩, ⟨by (with_reducible repeat (first | refine blk_drewN ?_ _ | refine blk_drew ?_ | refine blk_alloc ?_ _)); exact BK255.out⟩, ⟨by (with_reducible repeat (first | refine blk_drewN ?_ _ | refine blk_drew ?_ | refine blk_alloc ?_ _)); exact BK266.out⟩, ⟨by (with_reducible repeat (first | refine blk_drewN ?_ _ | refine blk_drew ?_ | refine blk_alloc ?_ _)); exact BK274.out⟩, ⟨by (with_reducible repeat (first | refine blk_drewN ?_ _ | refine blk_drew ?_ | refine blk_alloc ?_ _)); exact BK282.out⟩, ⟨by repeat (first | (with_reducible first | exact HB.out | apply below_alloc | apply pw_below_drewN | apply below_drew1 | refine below_set ?_ GE239.out | refine below_set ?_ GE247.out | refine below_set ?_ GE255.out | refine below_set ?_ GE266.out | refine below_set ?_ GE274.out | refine below_set ?_ GE282.out) | exact HB.out)⟩⟩
     ·rw [if_neg c81] at H
      exact absurd H (by simp)
    ·replace c78 := Bool.eq_false_iff.mpr c78
     subst c78
     have H1 : (none) = some r := by rw [if_neg (show ¬ (false = true) by decide)] at H; exact H
     clear H
     have H := H1
     clear H1
     exact absurd H (by simp)
   case rest =>
    clear HC70
    try clear c1
    try clear c2
    try clear p2
    try clear c3
    try clear c4
    try clear c5
    try clear c6
    try clear c7
    try clear c8
    try clear c14
    try clear c15
    try clear c22
    try clear c24
    try clear c33
    try clear c34
    try clear c35
    try clear c40
    try clear c41
    try clear c42
    try clear c43
    try clear c48
    try clear c49
    try clear c50
    try clear c51
    try clear c52
    try clear c54
    try clear c54b0
    try clear c54b1
    try clear c54b2
    try clear c55
    try clear c55b0
    try clear c55b1
    try clear c56
    try clear c56b0
    try clear c56b1
    try clear c58
    try clear c58b0
    try clear c58b1
    try clear c58b2
    try clear c59
    try clear c59b0
    try clear c59b1
    try clear c61
    try clear c61b0
    try clear c61b1
    try clear c61b2
    try clear c62
    try clear c62b0
    try clear c62b1
    try clear c63
    try clear c63b0
    try clear c63b1
    try clear c63b2
    try clear c78
    try clear c81
    try clear c81b0
    try clear c81b1
    try clear hcz36_0
    try clear hcz36_1
    try clear hcz36_2
    try clear hcz44_0
    try clear hcz44_1
    try clear hcz44_2
    try clear hcz53_0
    try clear hcz53_1
    try clear hcz53_2
    try clear hfz36_0
    try clear hfz36_1
    try clear hfz36_2
    try clear hfz44_0
    try clear hfz44_1
    try clear hfz44_2
    try clear hfz53_0
    try clear hfz53_1
    try clear hfz53_2
    try clear p2
    obtain ⟨kq, x14_69, rfl, HA, HJ69, BK239, BK247, BK255, BK266, BK274, BK282, HB⟩ := hcut
    cases kq with
    | zero => exact absurd HA.out (by simp [alumlaw19_sanity.j1])
    | succ kj69 =>
     have H := HA.out
     clear HA
     simp only [alumlaw19_sanity.j1] at H
     by_cases c90 : x12_11 = true
     ·subst c90
      have H1 : (if x14_69 = true then ((value_Print.f kj69 2 0 (⟨#[97, 39, 10]⟩ : ByteArray)).bind fun t307 => (if t307.toList = ([39, 97, 92, 50, 55, 92, 48, 97, 39] : List UInt8) then ((alumlaw19_num.f 549755813887).bind fun bt308 => ((value_Right.f bt308.1 bt308.2.1 bt308.2.2).bind fun t311 => (if t311 = true then ((alumlaw19_num.f 549755813888).bind fun bt312 => ((value_Right.f bt312.1 bt312.2.1 bt312.2.2).bind fun t315 => (some (!t315)))) else (none)))) else (none))) else (none)) = some r := by rw [if_pos rfl] at H; exact H
      clear H
      have H := H1
      clear H1
      by_cases c91 : x14_69 = true
      ·subst c91
       have H1 : ((value_Print.f kj69 2 0 (⟨#[97, 39, 10]⟩ : ByteArray)).bind fun t307 => (if t307.toList = ([39, 97, 92, 50, 55, 92, 48, 97, 39] : List UInt8) then ((alumlaw19_num.f 549755813887).bind fun bt308 => ((value_Right.f bt308.1 bt308.2.1 bt308.2.2).bind fun t311 => (if t311 = true then ((alumlaw19_num.f 549755813888).bind fun bt312 => ((value_Right.f bt312.1 bt312.2.1 bt312.2.2).bind fun t315 => (some (!t315)))) else (none)))) else (none))) = some r := by rw [if_pos rfl] at H; exact H
       clear H
       have H := H1
       clear H1
       replace H := Option.bind_eq_some_iff.mp H
       obtain ⟨t307, A920, H⟩ := H
       replace H : (if t307.toList = ([39, 97, 92, 50, 55, 92, 48, 97, 39] : List UInt8) then ((alumlaw19_num.f 549755813887).bind fun bt308 => ((value_Right.f bt308.1 bt308.2.1 bt308.2.2).bind fun t311 => (if t311 = true then ((alumlaw19_num.f 549755813888).bind fun bt312 => ((value_Right.f bt312.1 bt312.2.1 bt312.2.2).bind fun t315 => (some (!t315)))) else (none)))) else (none)) = some r := H
       have A92 := Aside0.mk A920
       clear A920
       by_cases c93 : t307.toList = ([39, 97, 92, 50, 55, 92, 48, 97, 39] : List UInt8)
       ·rw [if_pos c93] at H
        have c93b0 : (t307.toList == ([39, 97, 92, 50, 55, 92, 48, 97, 39] : List UInt8)) = true := beq_iff_eq.mpr c93
        have c93b1 : (t307.toList != ([39, 97, 92, 50, 55, 92, 48, 97, 39] : List UInt8)) = false := bne_eq_false_iff_eq.mpr c93
        clear c93
        replace H := Option.bind_eq_some_iff.mp H
        obtain ⟨⟨t308, t309, t310⟩, A940, H⟩ := H
        replace H : ((value_Right.f t308 t309 t310).bind fun t311 => (if t311 = true then ((alumlaw19_num.f 549755813888).bind fun bt312 => ((value_Right.f bt312.1 bt312.2.1 bt312.2.2).bind fun t315 => (some (!t315)))) else (none))) = some r := H
        have A94 := Aside0.mk A940
        clear A940
        replace H := Option.bind_eq_some_iff.mp H
        obtain ⟨t311, A950, H⟩ := H
        replace H : (if t311 = true then ((alumlaw19_num.f 549755813888).bind fun bt312 => ((value_Right.f bt312.1 bt312.2.1 bt312.2.2).bind fun t315 => (some (!t315)))) else (none)) = some r := H
        have A95 := Aside0.mk A950
        clear A950
        by_cases c96 : t311 = true
        ·subst c96
         have H1 : ((alumlaw19_num.f 549755813888).bind fun bt312 => ((value_Right.f bt312.1 bt312.2.1 bt312.2.2).bind fun t315 => (some (!t315)))) = some r := by rw [if_pos rfl] at H; exact H
         clear H
         have H := H1
         clear H1
         replace H := Option.bind_eq_some_iff.mp H
         obtain ⟨⟨t312, t313, t314⟩, A970, H⟩ := H
         replace H : ((value_Right.f t312 t313 t314).bind fun t315 => (some (!t315))) = some r := H
         have A97 := Aside0.mk A970
         clear A970
         replace H := Option.bind_eq_some_iff.mp H
         obtain ⟨t315, A980, H⟩ := H
         replace H : (some (!t315)) = some r := H
         have A98 := Aside0.mk A980
         clear A980
         obtain rfl := Option.some.inj H
         go_wp2_with (first | (go_at_call 29; (with_reducible refine (value_Print.calls kj69 2 0 (⟨#[97, 39, 10]⟩ : ByteArray) t307 _ A92.out).mono ?_); rintro e w99 ⟨rfl, hb⟩; replace BK239 := blkB BK239 hb; replace BK247 := blkB BK247 hb; replace BK255 := blkB BK255 hb; replace BK266 := blkB BK266 hb; replace BK274 := blkB BK274 hb; replace BK282 := blkB BK282 hb; replace HB := stepB HB hb; (try clear hb); (try clear hb2); (try clear hk); (try clear hi)) | (go_at_call 42; (with_reducible refine (alumlaw19_num.calls 549755813887 t308 t309 t310 _ A94.out).mono ?_); rintro e w100 ⟨rfl, hb⟩; replace BK239 := blkB BK239 hb; replace BK247 := blkB BK247 hb; replace BK255 := blkB BK255 hb; replace BK266 := blkB BK266 hb; replace BK274 := blkB BK274 hb; replace BK282 := blkB BK282 hb; replace HB := stepB HB hb; (try clear hb); (try clear hb2); (try clear hk); (try clear hi)) | (go_at_call 19; (with_reducible refine (value_Right.calls t308 t309 t310 true _ A95.out).mono ?_); rintro e w101 ⟨rfl, hb⟩; replace BK239 := blkB BK239 hb; replace BK247 := blkB BK247 hb; replace BK255 := blkB BK255 hb; replace BK266 := blkB BK266 hb; replace BK274 := blkB BK274 hb; replace BK282 := blkB BK282 hb; replace HB := stepB HB hb; (try clear hb); (try clear hb2); (try clear hk); (try clear hi)) | (go_at_call 42; (with_reducible refine (alumlaw19_num.calls 549755813888 t312 t313 t314 _ A97.out).mono ?_); rintro e w102 ⟨rfl, hb⟩; replace BK239 := blkB BK239 hb; replace BK247 := blkB BK247 hb; replace BK255 := blkB BK255 hb; replace BK266 := blkB BK266 hb; replace BK274 := blkB BK274 hb; replace BK282 := blkB BK282 hb; replace HB := stepB HB hb; (try clear hb); (try clear hb2); (try clear hk); (try clear hi)) | (go_at_call 19; (with_reducible refine (value_Right.calls t312 t313 t314 t315 _ A98.out).mono ?_); rintro e w103 ⟨rfl, hb⟩; replace BK239 := blkB BK239 hb; replace BK247 := blkB BK247 hb; replace BK255 := blkB BK255 hb; replace BK266 := blkB BK266 hb; replace BK274 := blkB BK274 hb; replace BK282 := blkB BK282 hb; replace HB := stepB HB hb; (try clear hb); (try clear hb2); (try clear hk); (try clear hi)))
         go_ret
         exact ⟨by first | rfl | (simp [errW_none, errW_some] <;> rfl) | (simp [*, errW_none, errW_some] <;> rfl), by repeat (first | (with_reducible first | exact HB.out | apply below_alloc | apply pw_below_drewN | apply below_drew1 | refine below_set ?_ GE239.out | refine below_set ?_ GE247.out | refine below_set ?_ GE255.out | refine below_set ?_ GE266.out | refine below_set ?_ GE274.out | refine below_set ?_ GE282.out) | exact HB.out)⟩
        ·replace c96 := Bool.eq_false_iff.mpr c96
         subst c96
         have H1 : (none) = some r := by rw [if_neg (show ¬ (false = true) by decide)] at H; exact H
         clear H
         have H := H1
         clear H1
         exact absurd H (by simp)
       ·rw [if_neg c93] at H
        exact absurd H (by simp)
      ·replace c91 := Bool.eq_false_iff.mpr c91
       subst c91
       have H1 : (none) = some r := by rw [if_neg (show ¬ (false = true) by decide)] at H; exact H
       clear H
       have H := H1
       clear H1
       exact absurd H (by simp)
     ·replace c90 := Bool.eq_false_iff.mpr c90
      subst c90
      have H1 : (none) = some r := by rw [if_neg (show ¬ (false = true) by decide)] at H; exact H
      clear H
      have H := H1
      clear H1
      exact absurd H (by simp)
end Go.Proofs.YtmhnfdgegejlkaaDoor.P
end

section
namespace Go.Proofs.YtmhnfdgegejlkaaDoor.P
open Go.RowKit Go.Proofs.YtmhnfdgegejlkaaDoorW.PrintWords Go.Proofs.YtmhnfdgegejlkaaDoorW.PrintLast Go.Proofs.YtmhnfdgegejlkaaDoorW.PrintMore
attribute [local go_sem] max2_int min2_int max_two min_two max_three min_three max_four min_four
set_option linter.unusedVariables false
set_option linter.unusedSimpArgs false
def alumref19_count.f : Nat → Int → Option (ByteArray)
 | 0, _ => none
 | k + 1, a0 => (some (([(wrap64 (48 - (Int.tmod a0 10))) % 256] : List Int) : List Int)).bind fun y567 => (if a0 > (-10) then (some (strOfNums y567)) else ((alumref19_count.f k (wrap64 (Int.tdiv a0 10))).bind fun t570 => (if t570.size + (strOfNums y567).size ≤ 9223372036854775807 then (some (t570 ++ (strOfNums y567))) else (none))))
set_option maxHeartbeats 8000000 in
set_option maxRecDepth 100000 in
theorem alumref19_count.calls (k : Nat) : ∀ (a0 : Int) (r : ByteArray) (w : World) (h : alumref19_count.f k a0 = some r),
  Calls Tryd.prog 75 #[.int .i64 a0] w fun e w' => e = .returned (.string r) ∧ Below w.heap.size w w' := by
 induction k using Nat.strongRecOn with
 | _ k ih =>
 intro a0 r w h
 cases k with
 | zero => exact absurd h (by simp [alumref19_count.f])
 | succ k =>
 simp only [alumref19_count.f] at h
 have HB := Aside0.mk (Below.refl w.heap.size w)
 have H : ((some (([(wrap64 (48 - (Int.tmod a0 10))) % 256] : List Int) : List Int)).bind fun y567 => (if a0 > (-10) then (some (strOfNums y567)) else ((alumref19_count.f k (wrap64 (Int.tdiv a0 10))).bind fun t570 => (if t570.size + (strOfNums y567).size ≤ 9223372036854775807 then (some (t570 ++ (strOfNums y567))) else (none))))) = some r := h
 clear h
 obtain ⟨y567, hy567⟩ : ∃ y_ : List Int, y_ = (([(wrap64 (48 - (Int.tmod a0 10))) % 256] : List Int)) := ⟨_, rfl⟩
 replace H : (if a0 > (-10) then (some (strOfNums y567)) else ((alumref19_count.f k (wrap64 (Int.tdiv a0 10))).bind fun t570 => (if t570.size + (strOfNums y567).size ≤ 9223372036854775807 then (some (t570 ++ (strOfNums y567))) else (none)))) = some r := by first | (rw [hy567]; with_reducible exact H) | (have H2_ := (Option.bind_some _ _).symm.trans H; rw [hy567]; with_reducible exact H2_) | (have H2_ := (Option.bind_some _ _).symm.trans H; with_reducible exact H2_) | with_reducible exact H | (rw [hy567]; exact H) | exact H
 have Ny567 := Aside0.mk hy567
 clear hy567
 by_cases c2 : a0 > (-10)
 ·rw [if_pos c2] at H
  have c2b0 : decide ((-10) < a0) = true := decide_eq_true c2
  clear c2
  obtain rfl := Option.some.inj H
  go_enter Tryd.func75, Tryd.ntmps75
  go_wp2_with (first | ((with_reducible refine gate_dst (N := 8) rfl ?_); refine Kd.R_lit (Kd.int .u8) _ 5 ?hg (N := 8) ?hd (xs := ([(wrap64 (48 - (Int.tmod a0 10))) % 256] : List Int)) (inner := [.int .u8 ((wrap64 (48 - (Int.tmod a0 10))) % 256)]) (ok := fun _ => True) (okp := fun _ => True) ?hr ?hp (fun _ hk => hk) trivial (Below.refl _ _) (Nat.le_refl _) (by simp) ?_; (case hd => rfl); (case hg => rfl); (case hr => first | (go_simp; done) | (go_simp; rfl)); (case hp => exact (Reps.one (show Kd.M (Kd.int .u8) _ _ _ ((wrap64 (48 - (Int.tmod a0 10))) % 256) [.int .u8 ((wrap64 (48 - (Int.tmod a0 10))) % 256)] from rfl) (Reps.none _ _))); intro v568 w3 ho4 hb hg_ hnew_; clear hg_ hnew_; (first | rw [← Ny567.out] at ho4 | (simp only [Int.reduceToNat] at ho4; rw [← Ny567.out] at ho4)); have HO569 := Aside0.mk (Kd.R_lower ho4 (below_size (by repeat (first | (with_reducible first | exact HB.out | apply below_alloc | apply pw_below_drewN | apply below_drew1) | exact HB.out)))); replace HB := stepB HB hb; clear hb ho4; have hcv5 := own_string (P := Tryd.prog) Tryd.underlying63 Tryd.underlying5 Tryd.underlying9 (Kd.own_of_R HO569.out)))
  go_ret
  exact ⟨by first | rfl | (simp [errW_none, errW_some] <;> rfl) | (simp [*, errW_none, errW_some] <;> rfl), by repeat (first | (with_reducible first | exact HB.out | apply below_alloc | apply pw_below_drewN | apply below_drew1) | exact HB.out)⟩
 ·rw [if_neg c2] at H
  have c2b0 : decide ((-10) < a0) = false := decide_eq_false c2
  clear c2
  replace H := Option.bind_eq_some_iff.mp H
  obtain ⟨t570, A60, H⟩ := H
  replace H : (if t570.size + (strOfNums y567).size ≤ 9223372036854775807 then (some (t570 ++ (strOfNums y567))) else (none)) = some r := H
  have A6 := Aside0.mk A60
  clear A60
  by_cases c7 : t570.size + (strOfNums y567).size ≤ 9223372036854775807
  ·rw [if_pos c7] at H
   have c7b0 := eq_true c7
   have c7b1 : decide (t570.size + (strOfNums y567).size ≤ 9223372036854775807) = true := decide_eq_true c7
   try have c7b2 : (9223372036854775807 < t570.size + (strOfNums y567).size) = False := eq_false (Nat.not_lt.2 c7)
   obtain rfl := Option.some.inj H
   go_enter Tryd.func75, Tryd.ntmps75
   go_wp2_with (first | ((with_reducible refine gate_dst (N := 8) rfl ?_); refine Kd.R_lit (Kd.int .u8) _ 5 ?hg (N := 8) ?hd (xs := ([(wrap64 (48 - (Int.tmod a0 10))) % 256] : List Int)) (inner := [.int .u8 ((wrap64 (48 - (Int.tmod a0 10))) % 256)]) (ok := fun _ => True) (okp := fun _ => True) ?hr ?hp (fun _ hk => hk) trivial (Below.refl _ _) (Nat.le_refl _) (by simp) ?_; (case hd => rfl); (case hg => rfl); (case hr => first | (go_simp; done) | (go_simp; rfl)); (case hp => exact (Reps.one (show Kd.M (Kd.int .u8) _ _ _ ((wrap64 (48 - (Int.tmod a0 10))) % 256) [.int .u8 ((wrap64 (48 - (Int.tmod a0 10))) % 256)] from rfl) (Reps.none _ _))); intro v568 w8 ho9 hb hg_ hnew_; clear hg_ hnew_; (first | rw [← Ny567.out] at ho9 | (simp only [Int.reduceToNat] at ho9; rw [← Ny567.out] at ho9)); have HO569 := Aside0.mk (Kd.R_lower ho9 (below_size (by repeat (first | (with_reducible first | exact HB.out | apply below_alloc | apply pw_below_drewN | apply below_drew1) | exact HB.out)))); replace HB := stepB HB hb; clear hb ho9; have hcv10 := own_string (P := Tryd.prog) Tryd.underlying63 Tryd.underlying5 Tryd.underlying9 (Kd.own_of_R HO569.out)) | ((with_reducible refine gate_callee (f := 75) rfl ?_); refine goesL_ (some 15) rfl rfl Tryd.func75 (by kernel_rfl) rfl #[.int .i64 (wrap64 (Int.tdiv a0 10))] rfl (by (try simp only [List.map_toArray, List.map_cons, List.map_nil]); first | done | rfl | (simp only [List.length_drop, List.length_take]; rfl)) ?_; (with_reducible refine (ih k (by omega) (wrap64 (Int.tdiv a0 10)) t570 _ A6.out).mono ?_); rintro e w11 ⟨rfl, hb⟩; refine ⟨_, rfl, ?_⟩; replace HO569 := Aside0.mk (Kd.R_below (by (with_reducible repeat (first | apply Kd.R_alloc | apply Kd.R_drewN | apply Kd.R_drew)); exact HO569.out) hb); replace HB := stepB HB hb; (try clear hb); (try clear hb2); (try clear hk); (try clear hi)))
   go_ret
   exact ⟨by first | rfl | (simp [errW_none, errW_some] <;> rfl) | (simp [*, errW_none, errW_some] <;> rfl), by repeat (first | (with_reducible first | exact HB.out | apply below_alloc | apply pw_below_drewN | apply below_drew1) | exact HB.out)⟩
  ·rw [if_neg c7] at H
   exact absurd H (by simp)
end Go.Proofs.YtmhnfdgegejlkaaDoor.P
end

section
namespace Go.Proofs.YtmhnfdgegejlkaaDoor.P
open Go.RowKit Go.Proofs.YtmhnfdgegejlkaaDoorW.PrintWords Go.Proofs.YtmhnfdgegejlkaaDoorW.PrintLast Go.Proofs.YtmhnfdgegejlkaaDoorW.PrintMore
attribute [local go_sem] max2_int min2_int max_two min_two max_three min_three max_four min_four
set_option linter.unusedVariables false
set_option linter.unusedSimpArgs false
def alumref19_Digits.f (k : Nat) (a0 : Int) : Option (ByteArray) := if a0 < 0 then ((alumref19_count.f k a0).bind fun t571 => (if 1 + t571.size ≤ 9223372036854775807 then (some ((⟨#[45]⟩ : ByteArray) ++ t571)) else (none))) else ((alumref19_count.f k (wrap64 (-a0))).bind fun t572 => (some t572))
set_option maxHeartbeats 8000000 in
set_option maxRecDepth 100000 in
theorem alumref19_Digits.calls (k : Nat) (a0 : Int) (r : ByteArray) (w : World) (h : alumref19_Digits.f k a0 = some r) :
  Calls Tryd.prog 56 #[.int .i64 a0] w fun e w' => e = .returned (.string r) ∧ Below w.heap.size w w' := by
 have HB := Aside0.mk (Below.refl w.heap.size w)
 have H : (if a0 < 0 then ((alumref19_count.f k a0).bind fun t571 => (if 1 + t571.size ≤ 9223372036854775807 then (some ((⟨#[45]⟩ : ByteArray) ++ t571)) else (none))) else ((alumref19_count.f k (wrap64 (-a0))).bind fun t572 => (some t572))) = some r := h
 clear h
 by_cases c2 : a0 < 0
 ·rw [if_pos c2] at H
  have c2b0 : decide (a0 < 0) = true := decide_eq_true c2
  clear c2
  replace H := Option.bind_eq_some_iff.mp H
  obtain ⟨t571, A30, H⟩ := H
  replace H : (if 1 + t571.size ≤ 9223372036854775807 then (some ((⟨#[45]⟩ : ByteArray) ++ t571)) else (none)) = some r := H
  have A3 := Aside0.mk A30
  clear A30
  by_cases c4 : 1 + t571.size ≤ 9223372036854775807
  ·rw [if_pos c4] at H
   have c4b0 := eq_true c4
   have c4b1 : decide (1 + t571.size ≤ 9223372036854775807) = true := decide_eq_true c4
   try have c4b2 : (9223372036854775807 < 1 + t571.size) = False := eq_false (Nat.not_lt.2 c4)
   obtain rfl := Option.some.inj H
   go_enter Tryd.func56, Tryd.ntmps56
   go_wp2_with (first | ((with_reducible refine gate_callee (f := 75) rfl ?_); refine goesL_ (some 6) rfl rfl Tryd.func75 (by kernel_rfl) rfl #[.int .i64 a0] rfl (by (try simp only [List.map_toArray, List.map_cons, List.map_nil]); first | done | rfl | (simp only [List.length_drop, List.length_take]; rfl)) ?_; (with_reducible refine (alumref19_count.calls k a0 t571 _ A3.out).mono ?_); rintro e w5 ⟨rfl, hb⟩; refine ⟨_, rfl, ?_⟩; replace HB := stepB HB hb; (try clear hb); (try clear hb2); (try clear hk); (try clear hi)))
   go_ret
   exact ⟨by first | rfl | (simp [errW_none, errW_some] <;> rfl) | (simp [*, errW_none, errW_some] <;> rfl), by repeat (first | (with_reducible first | exact HB.out | apply below_alloc | apply pw_below_drewN | apply below_drew1) | exact HB.out)⟩
  ·rw [if_neg c4] at H
   exact absurd H (by simp)
 ·rw [if_neg c2] at H
  have c2b0 : decide (a0 < 0) = false := decide_eq_false c2
  clear c2
  replace H := Option.bind_eq_some_iff.mp H
  obtain ⟨t572, A60, H⟩ := H
  replace H : (some t572) = some r := H
  have A6 := Aside0.mk A60
  clear A60
  obtain rfl := Option.some.inj H
  go_enter Tryd.func56, Tryd.ntmps56
  go_wp2_with (first | ((with_reducible refine gate_callee (f := 75) rfl ?_); refine goesL_ (some 10) rfl rfl Tryd.func75 (by kernel_rfl) rfl #[.int .i64 (wrap64 (-a0))] rfl (by (try simp only [List.map_toArray, List.map_cons, List.map_nil]); first | done | rfl | (simp only [List.length_drop, List.length_take]; rfl)) ?_; (with_reducible refine (alumref19_count.calls k (wrap64 (-a0)) t572 _ A6.out).mono ?_); rintro e w7 ⟨rfl, hb⟩; refine ⟨_, rfl, ?_⟩; replace HB := stepB HB hb; (try clear hb); (try clear hb2); (try clear hk); (try clear hi)))
  go_ret
  exact ⟨by first | rfl | (simp [errW_none, errW_some] <;> rfl) | (simp [*, errW_none, errW_some] <;> rfl), by repeat (first | (with_reducible first | exact HB.out | apply below_alloc | apply pw_below_drewN | apply below_drew1) | exact HB.out)⟩
end Go.Proofs.YtmhnfdgegejlkaaDoor.P
end

section
namespace Go.Proofs.YtmhnfdgegejlkaaDoor.P
open Go.RowKit Go.Proofs.YtmhnfdgegejlkaaDoorW.PrintWords Go.Proofs.YtmhnfdgegejlkaaDoorW.PrintLast Go.Proofs.YtmhnfdgegejlkaaDoorW.PrintMore
attribute [local go_sem] max2_int min2_int max_two min_two max_three min_three max_four min_four
set_option linter.unusedVariables false
set_option linter.unusedSimpArgs false
def alumref19_hex.f (a0 : Int) : Option (Int) := if a0 < 10 then (some ((wrap64 (48 + a0)) % 256)) else (some ((wrap64 (87 + a0)) % 256))
set_option maxHeartbeats 8000000 in
set_option maxRecDepth 100000 in
theorem alumref19_hex.calls (a0 : Int) (r : Int) (w : World) (h : alumref19_hex.f a0 = some r) :
  Calls Tryd.prog 57 #[.int .i64 a0] w fun e w' => e = .returned (.int .u8 r) ∧ Drawn0 w w' := by
 have H : (if a0 < 10 then (some ((wrap64 (48 + a0)) % 256)) else (some ((wrap64 (87 + a0)) % 256))) = some r := h
 clear h
 by_cases c2 : a0 < 10
 ·rw [if_pos c2] at H
  have c2b0 : decide (a0 < 10) = true := decide_eq_true c2
  clear c2
  obtain rfl := Option.some.inj H
  go_enter Tryd.func57, Tryd.ntmps57
  go_wp2
  go_ret
  exact ⟨by first | rfl | (simp; done) | (simp [*]; done), by repeat (first | exact Drawn0.refl _ | apply Drawn0.step)⟩
 ·rw [if_neg c2] at H
  have c2b0 : decide (a0 < 10) = false := decide_eq_false c2
  clear c2
  obtain rfl := Option.some.inj H
  go_enter Tryd.func57, Tryd.ntmps57
  go_wp2
  go_ret
  exact ⟨by first | rfl | (simp; done) | (simp [*]; done), by repeat (first | exact Drawn0.refl _ | apply Drawn0.step)⟩
end Go.Proofs.YtmhnfdgegejlkaaDoor.P
end

section
namespace Go.Proofs.YtmhnfdgegejlkaaDoor.P
open Go.RowKit Go.Proofs.YtmhnfdgegejlkaaDoorW.PrintWords Go.Proofs.YtmhnfdgegejlkaaDoorW.PrintLast Go.Proofs.YtmhnfdgegejlkaaDoorW.PrintMore
attribute [local go_sem] max2_int min2_int max_two min_two max_three min_three max_four min_four
set_option linter.unusedVariables false
set_option linter.unusedSimpArgs false
mutual
def alumref19_Print.l0 : Nat → List Int → Int → Int → Int → ByteArray → Option (ByteArray)
 | 0, _, _, _, _, _ => none
 | k + 1, x3, x4, x574000, x574001, x574002 => if x4 < (x574002.size : Int) then (if 0 ≤ x4 then (if (bt x574002 x4) < 32 then (alumref19_Print.j1 k x3 x4 (bt x574002 x4) true x574000 x574001 x574002) else (if (bt x574002 x4) > 126 then (alumref19_Print.j1 k x3 x4 (bt x574002 x4) true x574000 x574001 x574002) else (if (bt x574002 x4) = 39 then (alumref19_Print.j1 k x3 x4 (bt x574002 x4) true x574000 x574001 x574002) else (alumref19_Print.j1 k x3 x4 (bt x574002 x4) ((bt x574002 x4) == 92) x574000 x574001 x574002)))) else (none)) else (if x3.length < 140737488355328 then (some (strOfNums (x3 ++ [39]))) else (none))
def alumref19_Print.j1 : Nat → List Int → Int → Int → Bool → Int → Int → ByteArray → Option (ByteArray)
 | 0, _, _, _, _, _, _, _ => none
 | k + 1, x3, x4, x5, x45, x574000, x574001, x574002 => if x45 = true then ((alumref19_hex.f (wrap64 (Int.tdiv (wrap64 (x5)) 16))).bind fun t581 => ((alumref19_hex.f (Int.tmod (wrap64 (x5)) 16)).bind fun t582 => ((some (([92, t581, t582] : List Int) : List Int)).bind fun y583 => (if x3.length + y583.length < 140737488355328 then (alumref19_Print.l0 k (x3 ++ y583) (wrap64 (x4 + 1)) x574000 x574001 x574002) else (none))))) else (if x3.length < 140737488355328 then (alumref19_Print.l0 k (x3 ++ [x5]) (wrap64 (x4 + 1)) x574000 x574001 x574002) else (none))
end
def alumref19_Print.f (k : Nat) (a0_0 : Int) (a0_1 : Int) (a0_2 : ByteArray) : Option (ByteArray) := if a0_0 = 1 then ((alumref19_Digits.f k a0_1).bind fun t574 => (some t574)) else (if a0_0 = 3 then (if a0_1 = 1 then (some (⟨#[116, 114, 117, 101]⟩ : ByteArray)) else (some (⟨#[102, 97, 108, 115, 101]⟩ : ByteArray))) else (if a0_0 = 2 then (alumref19_Print.l0 k (([39] : List Int)) 0 a0_0 a0_1 a0_2) else (some (⟨#[110, 117, 108, 108]⟩ : ByteArray))))
set_option maxHeartbeats 8000000 in
set_option maxRecDepth 100000 in
theorem alumref19_Print.calls (k : Nat) (a0_0 : Int) (a0_1 : Int) (a0_2 : ByteArray) (r : ByteArray) (w : World) (h : alumref19_Print.f k a0_0 a0_1 a0_2 = some r) :
  Calls Tryd.prog 30 #[.agg #[.int .i64 a0_0, .int .i64 a0_1, .string a0_2]] w fun e w' => e = .returned (.string r) ∧ Below w.heap.size w w' := by
 have hu23 := Tryd.underlying23
 have HB := Aside0.mk (Below.refl w.heap.size w)
 have H : (if a0_0 = 1 then ((alumref19_Digits.f k a0_1).bind fun t574 => (some t574)) else (if a0_0 = 3 then (if a0_1 = 1 then (some (⟨#[116, 114, 117, 101]⟩ : ByteArray)) else (some (⟨#[102, 97, 108, 115, 101]⟩ : ByteArray))) else (if a0_0 = 2 then (alumref19_Print.l0 k (([39] : List Int)) 0 a0_0 a0_1 a0_2) else (some (⟨#[110, 117, 108, 108]⟩ : ByteArray))))) = some r := h
 clear h
 by_cases c2 : a0_0 = 1
 ·rw [if_pos c2] at H
  have c2b0 : (a0_0 == 1) = true := beq_iff_eq.mpr c2
  have c2b1 : (a0_0 != 1) = false := bne_eq_false_iff_eq.mpr c2
  clear c2
  replace H := Option.bind_eq_some_iff.mp H
  obtain ⟨t574, A30, H⟩ := H
  replace H : (some t574) = some r := H
  have A3 := Aside0.mk A30
  clear A30
  obtain rfl := Option.some.inj H
  go_enter Tryd.func30, Tryd.ntmps30
  go_wp2_with (first | ((with_reducible refine gate_dst (N := 1) rfl ?_); refine box_event ?hg (N := 1) ?hd (cs := #[.int .i64 a0_0, .int .i64 a0_1, .string a0_2]) (t := 23) ?hr ?_; (case hd => rfl); (case hg => rfl); (case hr => first | (go_simp; done) | (go_simp; rfl)); intro gb573 hg w4 hbox hb; have BK573 := Aside0.mk (hbox); have GW573 := (sizeB HB hg : Aside0 (w.heap.size ≤ gb573)); have GE573 := (sizeB HB hg : Aside0 (w.heap.size ≤ gb573)); replace HB := stepB HB hb; clear hb hbox hg; have hcz5_0 : w4.cell? ⟨gb573, 0, none⟩ = some (.int .i64 a0_0) := bc BK573 0; have hcz5_1 : w4.cell? ⟨gb573, 1, none⟩ = some (.int .i64 a0_1) := bc BK573 1; have hcz5_2 : w4.cell? ⟨gb573, 2, none⟩ = some (.string a0_2) := bc BK573 2; have hfz5_0 := blk_frozen BK573.out 0; have hfz5_1 := blk_frozen BK573.out 1; have hfz5_2 := blk_frozen BK573.out 2) | ((with_reducible refine gate_callee (f := 56) rfl ?_); refine goesL_ (some 12) rfl rfl Tryd.func56 (by kernel_rfl) rfl #[.int .i64 a0_1] rfl (by (try simp only [List.map_toArray, List.map_cons, List.map_nil]); first | done | rfl | (simp only [List.length_drop, List.length_take]; rfl)) ?_; (with_reducible refine (alumref19_Digits.calls k a0_1 t574 _ A3.out).mono ?_); rintro e w6 ⟨rfl, hb⟩; refine ⟨_, rfl, ?_⟩; replace BK573 := blkB BK573 hb; replace HB := stepB HB hb; (try clear hb); (try clear hb2); (try clear hk); (try clear hi)))
  go_ret
  exact ⟨by first | rfl | (simp [errW_none, errW_some] <;> rfl) | (simp [*, errW_none, errW_some] <;> rfl), by repeat (first | (with_reducible first | exact HB.out | apply below_alloc | apply pw_below_drewN | apply below_drew1 | refine below_set ?_ GE573.out) | exact HB.out)⟩
 ·rw [if_neg c2] at H
  have c2b0 : (a0_0 == 1) = false := beq_eq_false_iff_ne.mpr c2
  have c2b1 : (a0_0 != 1) = true := bne_iff_ne.mpr c2
  by_cases c7 : a0_0 = 3
  ·rw [if_pos c7] at H
   have c7b0 : (a0_0 == 3) = true := beq_iff_eq.mpr c7
   have c7b1 : (a0_0 != 3) = false := bne_eq_false_iff_eq.mpr c7
   clear c7
   by_cases c8 : a0_1 = 1
   ·rw [if_pos c8] at H
    have c8b0 : (a0_1 == 1) = true := beq_iff_eq.mpr c8
    have c8b1 : (a0_1 != 1) = false := bne_eq_false_iff_eq.mpr c8
    clear c8
    obtain rfl := Option.some.inj H
    go_enter Tryd.func30, Tryd.ntmps30
    go_wp2_with (first | ((with_reducible refine gate_dst (N := 1) rfl ?_); refine box_event ?hg (N := 1) ?hd (cs := #[.int .i64 a0_0, .int .i64 a0_1, .string a0_2]) (t := 23) ?hr ?_; (case hd => rfl); (case hg => rfl); (case hr => first | (go_simp; done) | (go_simp; rfl)); intro gb573 hg w9 hbox hb; have BK573 := Aside0.mk (hbox); have GW573 := (sizeB HB hg : Aside0 (w.heap.size ≤ gb573)); have GE573 := (sizeB HB hg : Aside0 (w.heap.size ≤ gb573)); replace HB := stepB HB hb; clear hb hbox hg; have hcz10_0 : w9.cell? ⟨gb573, 0, none⟩ = some (.int .i64 a0_0) := bc BK573 0; have hcz10_1 : w9.cell? ⟨gb573, 1, none⟩ = some (.int .i64 a0_1) := bc BK573 1; have hcz10_2 : w9.cell? ⟨gb573, 2, none⟩ = some (.string a0_2) := bc BK573 2; have hfz10_0 := blk_frozen BK573.out 0; have hfz10_1 := blk_frozen BK573.out 1; have hfz10_2 := blk_frozen BK573.out 2))
    go_ret
    exact ⟨by first | rfl | (simp [errW_none, errW_some] <;> rfl) | (simp [*, errW_none, errW_some] <;> rfl), by repeat (first | (with_reducible first | exact HB.out | apply below_alloc | apply pw_below_drewN | apply below_drew1 | refine below_set ?_ GE573.out) | exact HB.out)⟩
   ·rw [if_neg c8] at H
    have c8b0 : (a0_1 == 1) = false := beq_eq_false_iff_ne.mpr c8
    have c8b1 : (a0_1 != 1) = true := bne_iff_ne.mpr c8
    obtain rfl := Option.some.inj H
    go_enter Tryd.func30, Tryd.ntmps30
    go_wp2_with (first | ((with_reducible refine gate_dst (N := 1) rfl ?_); refine box_event ?hg (N := 1) ?hd (cs := #[.int .i64 a0_0, .int .i64 a0_1, .string a0_2]) (t := 23) ?hr ?_; (case hd => rfl); (case hg => rfl); (case hr => first | (go_simp; done) | (go_simp; rfl)); intro gb573 hg w11 hbox hb; have BK573 := Aside0.mk (hbox); have GW573 := (sizeB HB hg : Aside0 (w.heap.size ≤ gb573)); have GE573 := (sizeB HB hg : Aside0 (w.heap.size ≤ gb573)); replace HB := stepB HB hb; clear hb hbox hg; have hcz12_0 : w11.cell? ⟨gb573, 0, none⟩ = some (.int .i64 a0_0) := bc BK573 0; have hcz12_1 : w11.cell? ⟨gb573, 1, none⟩ = some (.int .i64 a0_1) := bc BK573 1; have hcz12_2 : w11.cell? ⟨gb573, 2, none⟩ = some (.string a0_2) := bc BK573 2; have hfz12_0 := blk_frozen BK573.out 0; have hfz12_1 := blk_frozen BK573.out 1; have hfz12_2 := blk_frozen BK573.out 2))
    go_ret
    exact ⟨by first | rfl | (simp [errW_none, errW_some] <;> rfl) | (simp [*, errW_none, errW_some] <;> rfl), by repeat (first | (with_reducible first | exact HB.out | apply below_alloc | apply pw_below_drewN | apply below_drew1 | refine below_set ?_ GE573.out) | exact HB.out)⟩
  ·rw [if_neg c7] at H
   have c7b0 : (a0_0 == 3) = false := beq_eq_false_iff_ne.mpr c7
   have c7b1 : (a0_0 != 3) = true := bne_iff_ne.mpr c7
   by_cases c13 : a0_0 = 2
   ·rw [if_pos c13] at H
    have c13b0 : (a0_0 == 2) = true := beq_iff_eq.mpr c13
    have c13b1 : (a0_0 != 2) = false := bne_eq_false_iff_eq.mpr c13
    clear c13
    obtain ⟨y575, hy575⟩ : ∃ y_ : List Int, y_ = (([39] : List Int)) := ⟨_, rfl⟩
    replace H : (alumref19_Print.l0 k y575 0 a0_0 a0_1 a0_2) = some r := by first | (rw [hy575]; with_reducible exact H) | (have H2_ := (Option.bind_some _ _).symm.trans H; rw [hy575]; with_reducible exact H2_) | (have H2_ := (Option.bind_some _ _).symm.trans H; with_reducible exact H2_) | with_reducible exact H | (rw [hy575]; exact H) | exact H
    have Ny575 := Aside0.mk hy575
    clear hy575
    have H' := Aside0.mk H
    clear H
    go_enter Tryd.func30, Tryd.ntmps30
    go_wp2_with (first | ((with_reducible refine gate_dst (N := 1) rfl ?_); refine box_event ?hg (N := 1) ?hd (cs := #[.int .i64 a0_0, .int .i64 a0_1, .string a0_2]) (t := 23) ?hr ?_; (case hd => rfl); (case hg => rfl); (case hr => first | (go_simp; done) | (go_simp; rfl)); intro gb573 hg w14 hbox hb; have BK573 := Aside0.mk (hbox); have GW573 := (sizeB HB hg : Aside0 (w.heap.size ≤ gb573)); have GE573 := (sizeB HB hg : Aside0 (w.heap.size ≤ gb573)); replace HB := stepB HB hb; clear hb hbox hg; have hcz15_0 : w14.cell? ⟨gb573, 0, none⟩ = some (.int .i64 a0_0) := bc BK573 0; have hcz15_1 : w14.cell? ⟨gb573, 1, none⟩ = some (.int .i64 a0_1) := bc BK573 1; have hcz15_2 : w14.cell? ⟨gb573, 2, none⟩ = some (.string a0_2) := bc BK573 2; have hfz15_0 := blk_frozen BK573.out 0; have hfz15_1 := blk_frozen BK573.out 1; have hfz15_2 := blk_frozen BK573.out 2) | ((with_reducible refine gate_dst (N := 20) rfl ?_); refine Kd.R_lit (Kd.int .u8) _ 5 ?hg (N := 20) ?hd (xs := ([39] : List Int)) (inner := [.int .u8 39]) (ok := fun _ => True) (okp := fun _ => True) ?hr ?hp (fun _ hk => hk) trivial (Below.refl _ _) (Nat.le_refl _) (by simp) ?_; (case hd => rfl); (case hg => rfl); (case hr => first | (go_simp; done) | (go_simp; rfl)); (case hp => exact (Reps.one (show Kd.M (Kd.int .u8) _ _ _ 39 [.int .u8 39] from rfl) (Reps.none _ _))); intro v576 w16 ho17 hb hg_ hnew_; clear hg_ hnew_; (first | rw [← Ny575.out] at ho17 | (simp only [Int.reduceToNat] at ho17; rw [← Ny575.out] at ho17)); have HO577 := Aside0.mk (Kd.R_lower ho17 (below_size (by repeat (first | (with_reducible first | exact HB.out | apply below_alloc | apply pw_below_drewN | apply below_drew1 | refine below_set ?_ GE573.out) | exact HB.out)))); replace BK573 := blkB BK573 hb; replace HB := stepB HB hb; clear hb ho17))
    go_loopg [3, 4] k (fun kq v3 v4 w' => ∃ (x3_1 : List Int) (x4_1 : Int), v4 = .int .i64 x4_1 ∧ Aside0 (alumref19_Print.l0 kq x3_1 x4_1 a0_0 a0_1 a0_2 = some r) ∧ Aside0 (kq ≤ k) ∧ Aside0 (Kd.R (Kd.int .u8) 5 w' w.heap.size (fun _ => True) v3 x3_1) ∧ Aside0 (w'.heap[gb573]? = some (.cells #[.int .i64 a0_0, .int .i64 a0_1, .string a0_2] 23 (0, 0))) ∧ Aside0 (Below w.heap.size w w'))
    case atStart => exact ⟨(y575), (0), (by first | rfl | (simp; done) | (simp [*]; done)), H', ⟨Nat.le_refl _⟩, ⟨by (with_reducible repeat (first | apply Kd.R_alloc | apply Kd.R_drewN | apply Kd.R_drew)); exact HO577.out⟩, ⟨by (with_reducible repeat (first | refine blk_drewN ?_ _ | refine blk_drew ?_ | refine blk_alloc ?_ _)); exact BK573.out⟩, ⟨by repeat (first | (with_reducible first | exact HB.out | apply below_alloc | apply pw_below_drewN | apply below_drew1 | refine below_set ?_ GE573.out) | exact HB.out)⟩⟩
    case round =>
     clear H'
     try clear c1
     try clear c2
     try clear c2b0
     try clear c2b1
     try clear p2
     try clear c3
     try clear c5
     try clear c7
     try clear c7b0
     try clear c7b1
     try clear c8
     try clear c8b0
     try clear c8b1
     try clear c13
     try clear c13b0
     try clear c13b1
     try clear hcz10_0
     try clear hcz10_1
     try clear hcz10_2
     try clear hcz12_0
     try clear hcz12_1
     try clear hcz12_2
     try clear hcz15_0
     try clear hcz15_1
     try clear hcz15_2
     try clear hcz5_0
     try clear hcz5_1
     try clear hcz5_2
     try clear hfz10_0
     try clear hfz10_1
     try clear hfz10_2
     try clear hfz12_0
     try clear hfz12_1
     try clear hfz12_2
     try clear hfz15_0
     try clear hfz15_1
     try clear hfz15_2
     try clear hfz5_0
     try clear hfz5_1
     try clear hfz5_2
     obtain ⟨x3_1, x4_1, rfl, HA, HK1, HO_3, BK573, HB⟩ := hrel
     cases gk with
     | zero => exact absurd HA.out (by simp [alumref19_Print.l0])
     | succ k1 =>
      have H := HA.out
      clear HA
      simp only [alumref19_Print.l0] at H
      by_cases c18 : x4_1 < (a0_2.size : Int)
      ·rw [if_pos c18] at H
       have c18b0 : decide (x4_1 < (a0_2.size : Int)) = true := decide_eq_true c18
       clear c18
       by_cases c19 : 0 ≤ x4_1
       ·rw [if_pos c19] at H
        have c19b0 : decide (0 ≤ x4_1) = true := decide_eq_true c19
        clear c19
        have HC21 := Aside0.mk H
        clear H
        have hcz22_0 : wr.cell? ⟨gb573, 0, none⟩ = some (.int .i64 a0_0) := bc BK573 0
        have hcz22_1 : wr.cell? ⟨gb573, 1, none⟩ = some (.int .i64 a0_1) := bc BK573 1
        have hcz22_2 : wr.cell? ⟨gb573, 2, none⟩ = some (.string a0_2) := bc BK573 2
        have hfz22_0 := blk_frozen BK573.out 0
        have hfz22_1 := blk_frozen BK573.out 1
        have hfz22_2 := blk_frozen BK573.out 2
        have p20 : 0 ≤ (x4_1 : Int) := of_decide_eq_true (by first | (with_reducible assumption) | assumption)
        have q20 : x4_1 < (a0_2.size : Int) := of_decide_eq_true (by first | (with_reducible assumption) | assumption)
        have hx20 := bt_at a0_2 x4_1
        replace p20 := eq_true p20
        replace q20 := eq_true q20
        go_upto_region 14 with (fail)
        go_cut [45] (fun v45 wc => ∃ (kq : Nat) (x45_20 : Bool), v45 = .bool x45_20 ∧ Aside0 (alumref19_Print.j1 kq x3_1 x4_1 (bt a0_2 x4_1) x45_20 a0_0 a0_1 a0_2 = some r) ∧ Aside0 (kq ≤ k1) ∧ Aside0 (Kd.R (Kd.int .u8) 5 wc w.heap.size (fun _ => True) u3 x3_1) ∧ Aside0 (wc.heap[gb573]? = some (.cells #[.int .i64 a0_0, .int .i64 a0_1, .string a0_2] 23 (0, 0))) ∧ Aside0 (Below w.heap.size w wc))
        case first =>
         have H := HC21.out
         clear HC21
         by_cases c23 : (bt a0_2 x4_1) < 32
         ·rw [if_pos c23] at H
          have c23b0 : decide ((bt a0_2 x4_1) < 32) = true := decide_eq_true c23
          clear c23
          (first | rw [c23b0] | (simp only [i64_w, i32_w]; rw [c23b0]) | skip)
          have H' := Aside0.mk H
          clear H
          go_wp2
          go_meet
          case rel => exact ⟨_, (true), (by first | rfl | (simp; done) | (simp [*]; done)), H', ⟨by have := HK1.out; first | omega | exact Nat.le_refl _⟩, ⟨by (with_reducible repeat (first | apply Kd.R_alloc | apply Kd.R_drewN | apply Kd.R_drew)); exact HO_3.out⟩, ⟨by (with_reducible repeat (first | refine blk_drewN ?_ _ | refine blk_drew ?_ | refine blk_alloc ?_ _)); exact BK573.out⟩, ⟨by repeat (first | (with_reducible first | exact HB.out | apply below_alloc | apply pw_below_drewN | apply below_drew1 | refine below_set ?_ GE573.out) | exact HB.out)⟩⟩
         ·rw [if_neg c23] at H
          have c23b0 : decide ((bt a0_2 x4_1) < 32) = false := decide_eq_false c23
          clear c23
          (first | rw [c23b0] | (simp only [i64_w, i32_w]; rw [c23b0]) | skip)
          by_cases c24 : (bt a0_2 x4_1) > 126
          ·rw [if_pos c24] at H
           have c24b0 : decide (126 < (bt a0_2 x4_1)) = true := decide_eq_true c24
           clear c24
           have H' := Aside0.mk H
           clear H
           go_wp2
           go_meet
           case rel => exact ⟨_, (true), (by first | rfl | (simp; done) | (simp [*]; done)), H', ⟨by have := HK1.out; first | omega | exact Nat.le_refl _⟩, ⟨by (with_reducible repeat (first | apply Kd.R_alloc | apply Kd.R_drewN | apply Kd.R_drew)); exact HO_3.out⟩, ⟨by (with_reducible repeat (first | refine blk_drewN ?_ _ | refine blk_drew ?_ | refine blk_alloc ?_ _)); exact BK573.out⟩, ⟨by repeat (first | (with_reducible first | exact HB.out | apply below_alloc | apply pw_below_drewN | apply below_drew1 | refine below_set ?_ GE573.out) | exact HB.out)⟩⟩
          ·rw [if_neg c24] at H
           have c24b0 : decide (126 < (bt a0_2 x4_1)) = false := decide_eq_false c24
           clear c24
           by_cases c25 : (bt a0_2 x4_1) = 39
           ·rw [if_pos c25] at H
            have c25b0 : ((bt a0_2 x4_1) == 39) = true := beq_iff_eq.mpr c25
            have c25b1 : ((bt a0_2 x4_1) != 39) = false := bne_eq_false_iff_eq.mpr c25
            clear c25
            have H' := Aside0.mk H
            clear H
            go_wp2
            go_meet
            case rel => exact ⟨_, (true), (by first | rfl | (simp; done) | (simp [*]; done)), H', ⟨by have := HK1.out; first | omega | exact Nat.le_refl _⟩, ⟨by (with_reducible repeat (first | apply Kd.R_alloc | apply Kd.R_drewN | apply Kd.R_drew)); exact HO_3.out⟩, ⟨by (with_reducible repeat (first | refine blk_drewN ?_ _ | refine blk_drew ?_ | refine blk_alloc ?_ _)); exact BK573.out⟩, ⟨by repeat (first | (with_reducible first | exact HB.out | apply below_alloc | apply pw_below_drewN | apply below_drew1 | refine below_set ?_ GE573.out) | exact HB.out)⟩⟩
           ·rw [if_neg c25] at H
            have c25b0 : ((bt a0_2 x4_1) == 39) = false := beq_eq_false_iff_ne.mpr c25
            have c25b1 : ((bt a0_2 x4_1) != 39) = true := bne_iff_ne.mpr c25
            have H' := Aside0.mk H
            clear H
            go_wp2
            go_meet
            case rel => exact ⟨_, (((bt a0_2 x4_1) == 92)), (by first | rfl | (simp; done) | (simp [*]; done)), H', ⟨by have := HK1.out; first | omega | exact Nat.le_refl _⟩, ⟨by (with_reducible repeat (first | apply Kd.R_alloc | apply Kd.R_drewN | apply Kd.R_drew)); exact HO_3.out⟩, ⟨by (with_reducible repeat (first | refine blk_drewN ?_ _ | refine blk_drew ?_ | refine blk_alloc ?_ _)); exact BK573.out⟩, ⟨by repeat (first | (with_reducible first | exact HB.out | apply below_alloc | apply pw_below_drewN | apply below_drew1 | refine below_set ?_ GE573.out) | exact HB.out)⟩⟩
        case rest =>
         clear HC21
         try clear c1
         try clear c2
         try clear c2b0
         try clear c2b1
         try clear p2
         try clear q2
         try clear hx2
         try clear c3
         try clear c5
         try clear c7
         try clear c7b0
         try clear c7b1
         try clear c8
         try clear c8b0
         try clear c8b1
         try clear c13
         try clear c13b0
         try clear c13b1
         try clear c18
         try clear c18b0
         try clear c19
         try clear c19b0
         try clear p20
         try clear q20
         try clear hx20
         try clear c23
         try clear c23b0
         try clear c24
         try clear c24b0
         try clear c25
         try clear c25b0
         try clear c25b1
         try clear hcz10_0
         try clear hcz10_1
         try clear hcz10_2
         try clear hcz12_0
         try clear hcz12_1
         try clear hcz12_2
         try clear hcz15_0
         try clear hcz15_1
         try clear hcz15_2
         try clear hcz22_0
         try clear hcz22_1
         try clear hcz22_2
         try clear hcz5_0
         try clear hcz5_1
         try clear hcz5_2
         try clear hfz10_0
         try clear hfz10_1
         try clear hfz10_2
         try clear hfz12_0
         try clear hfz12_1
         try clear hfz12_2
         try clear hfz15_0
         try clear hfz15_1
         try clear hfz15_2
         try clear hfz22_0
         try clear hfz22_1
         try clear hfz22_2
         try clear hfz5_0
         try clear hfz5_1
         try clear hfz5_2
         try clear p2
         try clear p20
         try clear q20
         obtain ⟨kq, x45_20, rfl, HA, HJ20, HO_3, BK573, HB⟩ := hcut
         cases kq with
         | zero => exact absurd HA.out (by simp [alumref19_Print.j1])
         | succ kj20 =>
          have H := HA.out
          clear HA
          simp only [alumref19_Print.j1] at H
          by_cases c26 : x45_20 = true
          ·subst c26
           have H1 : ((alumref19_hex.f (wrap64 (Int.tdiv (wrap64 ((bt a0_2 x4_1))) 16))).bind fun t581 => ((alumref19_hex.f (Int.tmod (wrap64 ((bt a0_2 x4_1))) 16)).bind fun t582 => ((some (([92, t581, t582] : List Int) : List Int)).bind fun y583 => (if x3_1.length + y583.length < 140737488355328 then (alumref19_Print.l0 kj20 (x3_1 ++ y583) (wrap64 (x4_1 + 1)) a0_0 a0_1 a0_2) else (none))))) = some r := by rw [if_pos rfl] at H; exact H
           clear H
           have H := H1
           clear H1
           replace H := Option.bind_eq_some_iff.mp H
           obtain ⟨t581, A270, H⟩ := H
           replace H : ((alumref19_hex.f (Int.tmod (wrap64 ((bt a0_2 x4_1))) 16)).bind fun t582 => ((some (([92, t581, t582] : List Int) : List Int)).bind fun y583 => (if x3_1.length + y583.length < 140737488355328 then (alumref19_Print.l0 kj20 (x3_1 ++ y583) (wrap64 (x4_1 + 1)) a0_0 a0_1 a0_2) else (none)))) = some r := H
           have A27 := Aside0.mk A270
           clear A270
           replace H := Option.bind_eq_some_iff.mp H
           obtain ⟨t582, A280, H⟩ := H
           replace H : ((some (([92, t581, t582] : List Int) : List Int)).bind fun y583 => (if x3_1.length + y583.length < 140737488355328 then (alumref19_Print.l0 kj20 (x3_1 ++ y583) (wrap64 (x4_1 + 1)) a0_0 a0_1 a0_2) else (none))) = some r := H
           have A28 := Aside0.mk A280
           clear A280
           obtain ⟨y583, hy583⟩ : ∃ y_ : List Int, y_ = (([92, t581, t582] : List Int)) := ⟨_, rfl⟩
           replace H : (if x3_1.length + y583.length < 140737488355328 then (alumref19_Print.l0 kj20 (x3_1 ++ y583) (wrap64 (x4_1 + 1)) a0_0 a0_1 a0_2) else (none)) = some r := by first | (rw [hy583]; with_reducible exact H) | (have H2_ := (Option.bind_some _ _).symm.trans H; rw [hy583]; with_reducible exact H2_) | (have H2_ := (Option.bind_some _ _).symm.trans H; with_reducible exact H2_) | with_reducible exact H | (rw [hy583]; exact H) | exact H
           have Ny583 := Aside0.mk hy583
           clear hy583
           by_cases c29 : x3_1.length + y583.length < 140737488355328
           ·rw [if_pos c29] at H
            have LMc29 := Aside0.mk c29
            clear c29
            obtain ⟨y586, hy586⟩ : ∃ y_ : List Int, y_ = (x3_1 ++ y583) := ⟨_, rfl⟩
            replace H : (alumref19_Print.l0 kj20 y586 (wrap64 (x4_1 + 1)) a0_0 a0_1 a0_2) = some r := by first | (rw [hy586]; with_reducible exact H) | (have H2_ := (Option.bind_some _ _).symm.trans H; rw [hy586]; with_reducible exact H2_) | (have H2_ := (Option.bind_some _ _).symm.trans H; with_reducible exact H2_) | with_reducible exact H | (rw [hy586]; exact H) | exact H
            have Ny586 := Aside0.mk hy586
            clear hy586
            have H' := Aside0.mk H
            clear H
            go_wp2_with (first | ((with_reducible refine gate_callee (f := 57) rfl ?_); refine goesL_ (some 50) rfl rfl Tryd.func57 (by kernel_rfl) rfl #[.int .i64 (wrap64 (Int.tdiv (wrap64 ((bt a0_2 x4_1))) 16))] rfl (by (try simp only [List.map_toArray, List.map_cons, List.map_nil]); first | done | rfl | (simp only [List.length_drop, List.length_take]; rfl)) ?_; (with_reducible refine (alumref19_hex.calls (wrap64 (Int.tdiv (wrap64 ((bt a0_2 x4_1))) 16)) t581 _ A27.out).mono ?_); rintro e w' ⟨rfl, ⟨nd, rfl⟩⟩; refine ⟨_, rfl, ?_⟩) | ((with_reducible refine gate_callee (f := 57) rfl ?_); refine goesL_ (some 54) rfl rfl Tryd.func57 (by kernel_rfl) rfl #[.int .i64 (Int.tmod (wrap64 ((bt a0_2 x4_1))) 16)] rfl (by (try simp only [List.map_toArray, List.map_cons, List.map_nil]); first | done | rfl | (simp only [List.length_drop, List.length_take]; rfl)) ?_; (with_reducible refine (alumref19_hex.calls (Int.tmod (wrap64 ((bt a0_2 x4_1))) 16) t582 _ A28.out).mono ?_); rintro e w' ⟨rfl, ⟨nd, rfl⟩⟩; refine ⟨_, rfl, ?_⟩) | ((with_reducible refine gate_dst (N := 55) rfl ?_); refine Kd.R_lit (Kd.int .u8) _ 5 ?hg (N := 55) ?hd (xs := ([92, t581, t582] : List Int)) (inner := [.int .u8 92, .int .u8 t581, .int .u8 t582]) (ok := fun _ => True) (okp := fun _ => True) ?hr ?hp (fun _ hk => hk) trivial (Below.refl _ _) (Nat.le_refl _) (by simp) ?_; (case hd => rfl); (case hg => rfl); (case hr => first | (go_simp; done) | (go_simp; rfl)); (case hp => exact (Reps.one (show Kd.M (Kd.int .u8) _ _ _ 92 [.int .u8 92] from rfl) (Reps.one (show Kd.M (Kd.int .u8) _ _ _ t581 [.int .u8 t581] from rfl) (Reps.one (show Kd.M (Kd.int .u8) _ _ _ t582 [.int .u8 t582] from rfl) (Reps.none _ _))))); intro v584 w30 ho31 hb hg_ hnew_; clear hg_ hnew_; (first | rw [← Ny583.out] at ho31 | (simp only [Int.reduceToNat] at ho31; rw [← Ny583.out] at ho31)); have HO585 := Aside0.mk (Kd.R_lower (Kd.R_new' ho31 (Kd.R_lt (by (with_reducible repeat (first | apply Kd.R_alloc | apply Kd.R_drewN | apply Kd.R_drew)); exact HO_3.out))) (below_size (by repeat (first | (with_reducible first | exact HB.out | apply below_alloc | apply pw_below_drewN | apply below_drew1 | refine below_set ?_ GE573.out) | exact HB.out)))); replace HO_3 := Aside0.mk (Kd.R_elder' (by (with_reducible repeat (first | apply Kd.R_alloc | apply Kd.R_drewN | apply Kd.R_drew)); exact HO_3.out) (Kd.R_base ho31) hb); replace BK573 := blkB BK573 hb; replace HB := stepB HB hb; clear hb ho31; obtain ⟨Ao33, co33, eo33⟩ := Kd.R_slice HO585.out; subst eo33) | ((with_reducible refine gate_builtin (b := .append) (xs := #[.tmp 46, .tmp 55]) rfl ?_); at_builtin; refine Kd.R_append_rows (Kd.int .u8) (w0 := w) w.heap.size rfl (.tmp 46) (.tmp 55) 63 5 (.int .u8 0) 1 rfl Tryd.underlying63 info5 rfl (by decide) (by omega) u3 x3_1 y583 _ _ _ (fun k_ => some k_ ≠ (.slice Ao33 y583.length co33 : Value).ownBlock) (fun _ => False) rfl rfl ?aO ?aR (fun _ _ h => h) (fun _ h => h.elim) ?aF ?aB ?aS ?aL ?_; (case aR => repeat (first | exact (Kd.R_reads' HO585.out).2.2 | (with_reducible refine Kd.C_alloc ?_ _) | (with_reducible refine Kd.C_drewN ?_ _) | (with_reducible refine Kd.C_drew ?_))); (case aB => exact (by repeat (first | (with_reducible first | exact HB.out | apply below_alloc | apply pw_below_drewN | apply below_drew1 | refine below_set ?_ GE573.out) | exact HB.out))); (case aF => exact (fun k_ hk => Kd.fresh' (Kd.R_lt (by (with_reducible repeat (first | apply Kd.R_alloc | apply Kd.R_drewN | apply Kd.R_drew)); exact HO585.out)) k_ hk)); (case aO => exact (by (with_reducible repeat (first | apply Kd.R_alloc | apply Kd.R_drewN | apply Kd.R_drew)); exact Kd.R_mono HO_3.out (fun _ hk => hk.2))); (case aS => exact (below_size (by repeat (first | (with_reducible first | exact HB.out | apply below_alloc | apply pw_below_drewN | apply below_drew1 | refine below_set ?_ GE573.out) | exact HB.out)))); (case aL => have := LMc29.out; omega); intro v587 w32 ho hb hg hat; rw [← Ny586.out] at ho; have HO588 := Aside0.mk (ho); replace BK573 := Aside0.mk (blk_grown (g := gb573) (o := .cells #[.int .i64 a0_0, .int .i64 a0_1, .string a0_2] 23 (0, 0)) (by (with_reducible repeat (first | refine blk_drewN ?_ _ | refine blk_drew ?_ | refine blk_alloc ?_ _)); exact BK573.out) hg (Kd.R_ne HO_3.out BK573.out (by decide))); replace HO585 := Aside0.mk (Kd.R_after (ok := (fun _ => True)) (by (with_reducible repeat (first | apply Kd.R_alloc | apply Kd.R_drewN | apply Kd.R_drew)); exact HO585.out) hg hat); replace HB := Aside0.mk (hb); clear HO_3; clear ho hb hg hat))
            go_roundg kj20
            case measure => have := HK1.out; have := HJ20.out; omega
            case rel => exact ⟨(y586), (wrap64 (x4_1 + 1)), (by first | rfl | (simp; done) | (simp [*]; done)), H', ⟨by have := HK1.out; have := HJ20.out; omega⟩, ⟨by (with_reducible repeat (first | apply Kd.R_alloc | apply Kd.R_drewN | apply Kd.R_drew)); exact Kd.R_mono HO588.out (fun _ hk => trivial)⟩, ⟨by (with_reducible repeat (first | refine blk_drewN ?_ _ | refine blk_drew ?_ | refine blk_alloc ?_ _)); exact BK573.out⟩, ⟨by repeat (first | (with_reducible first | exact HB.out | apply below_alloc | apply pw_below_drewN | apply below_drew1 | refine below_set ?_ GE573.out) | exact HB.out)⟩⟩
           ·rw [if_neg c29] at H
            exact absurd H (by simp)
          ·replace c26 := Bool.eq_false_iff.mpr c26
           subst c26
           have H1 : (if x3_1.length < 140737488355328 then (alumref19_Print.l0 kj20 (x3_1 ++ [(bt a0_2 x4_1)]) (wrap64 (x4_1 + 1)) a0_0 a0_1 a0_2) else (none)) = some r := by rw [if_neg (show ¬ (false = true) by decide)] at H; exact H
           clear H
           have H := H1
           clear H1
           by_cases c34 : x3_1.length < 140737488355328
           ·rw [if_pos c34] at H
            have LMc34 := Aside0.mk c34
            clear c34
            obtain ⟨y589, hy589⟩ : ∃ y_ : List Int, y_ = (x3_1 ++ [(bt a0_2 x4_1)]) := ⟨_, rfl⟩
            replace H : (alumref19_Print.l0 kj20 y589 (wrap64 (x4_1 + 1)) a0_0 a0_1 a0_2) = some r := by first | (rw [hy589]; with_reducible exact H) | (have H2_ := (Option.bind_some _ _).symm.trans H; rw [hy589]; with_reducible exact H2_) | (have H2_ := (Option.bind_some _ _).symm.trans H; with_reducible exact H2_) | with_reducible exact H | (rw [hy589]; exact H) | exact H
            have Ny589 := Aside0.mk hy589
            clear hy589
            have H' := Aside0.mk H
            clear H
            go_wp2_with (first | ((with_reducible refine gate_builtin (b := .append) (xs := #[.tmp 57, .tmp 59]) rfl ?_); at_builtin; refine Kd.R_append (Kd.int .u8) (w0 := w) w.heap.size rfl (.tmp 57) (.tmp 59) 63 5 (.int .u8 0) 1 rfl Tryd.underlying63 info5 rfl (by decide) (by omega) u3 x3_1 (bt a0_2 x4_1) [.int .u8 (bt a0_2 x4_1)] (fun _ => True) (fun _ => False) rfl rfl ?aP (fun _ hk => hk.elim) ?aF ?aO ?aB ?aS ?aL ?_; (case aP => exact rfl); (case aB => exact (by repeat (first | (with_reducible first | exact HB.out | apply below_alloc | apply pw_below_drewN | apply below_drew1 | refine below_set ?_ GE573.out) | exact HB.out))); (case aF => exact (fun _ _ => trivial)); (case aO => exact (by (with_reducible repeat (first | apply Kd.R_alloc | apply Kd.R_drewN | apply Kd.R_drew)); exact HO_3.out)); (case aS => exact (below_size (by repeat (first | (with_reducible first | exact HB.out | apply below_alloc | apply pw_below_drewN | apply below_drew1 | refine below_set ?_ GE573.out) | exact HB.out)))); (case aL => have := LMc34.out; omega); intro v590 w35 ho hb hg hat; rw [← Ny589.out] at ho; have HO591 := Aside0.mk (ho); replace BK573 := Aside0.mk (blk_grown (g := gb573) (o := .cells #[.int .i64 a0_0, .int .i64 a0_1, .string a0_2] 23 (0, 0)) (by (with_reducible repeat (first | refine blk_drewN ?_ _ | refine blk_drew ?_ | refine blk_alloc ?_ _)); exact BK573.out) hg (Kd.R_ne HO_3.out BK573.out (by decide))); replace HB := Aside0.mk (hb); clear HO_3; clear ho hb hg hat))
            go_roundg kj20
            case measure => have := HK1.out; have := HJ20.out; omega
            case rel => exact ⟨(y589), (wrap64 (x4_1 + 1)), (by first | rfl | (simp; done) | (simp [*]; done)), H', ⟨by have := HK1.out; have := HJ20.out; omega⟩, ⟨by (with_reducible repeat (first | apply Kd.R_alloc | apply Kd.R_drewN | apply Kd.R_drew)); exact HO591.out⟩, ⟨by (with_reducible repeat (first | refine blk_drewN ?_ _ | refine blk_drew ?_ | refine blk_alloc ?_ _)); exact BK573.out⟩, ⟨by repeat (first | (with_reducible first | exact HB.out | apply below_alloc | apply pw_below_drewN | apply below_drew1 | refine below_set ?_ GE573.out) | exact HB.out)⟩⟩
           ·rw [if_neg c34] at H
            exact absurd H (by simp)
       ·rw [if_neg c19] at H
        exact absurd H (by simp)
      ·rw [if_neg c18] at H
       have c18b0 : decide (x4_1 < (a0_2.size : Int)) = false := decide_eq_false c18
       clear c18
       by_cases c36 : x3_1.length < 140737488355328
       ·rw [if_pos c36] at H
        have LMc36 := Aside0.mk c36
        clear c36
        obtain ⟨y578, hy578⟩ : ∃ y_ : List Int, y_ = (x3_1 ++ [39]) := ⟨_, rfl⟩
        replace H : (some (strOfNums y578)) = some r := by first | (rw [hy578]; with_reducible exact H) | (have H2_ := (Option.bind_some _ _).symm.trans H; rw [hy578]; with_reducible exact H2_) | (have H2_ := (Option.bind_some _ _).symm.trans H; with_reducible exact H2_) | with_reducible exact H | (rw [hy578]; exact H) | exact H
        have Ny578 := Aside0.mk hy578
        clear hy578
        obtain rfl := Option.some.inj H
        have hcz37_0 : wr.cell? ⟨gb573, 0, none⟩ = some (.int .i64 a0_0) := bc BK573 0
        have hcz37_1 : wr.cell? ⟨gb573, 1, none⟩ = some (.int .i64 a0_1) := bc BK573 1
        have hcz37_2 : wr.cell? ⟨gb573, 2, none⟩ = some (.string a0_2) := bc BK573 2
        have hfz37_0 := blk_frozen BK573.out 0
        have hfz37_1 := blk_frozen BK573.out 1
        have hfz37_2 := blk_frozen BK573.out 2
        go_wp2_with (first | ((with_reducible refine gate_builtin (b := .append) (xs := #[.tmp 61, .tmp 62]) rfl ?_); at_builtin; refine Kd.R_append (Kd.int .u8) (w0 := w) w.heap.size rfl (.tmp 61) (.tmp 62) 63 5 (.int .u8 0) 1 rfl Tryd.underlying63 info5 rfl (by decide) (by omega) u3 x3_1 39 [.int .u8 39] (fun _ => True) (fun _ => False) rfl rfl ?aP (fun _ hk => hk.elim) ?aF ?aO ?aB ?aS ?aL ?_; (case aP => exact rfl); (case aB => exact (by repeat (first | (with_reducible first | exact HB.out | apply below_alloc | apply pw_below_drewN | apply below_drew1 | refine below_set ?_ GE573.out) | exact HB.out))); (case aF => exact (fun _ _ => trivial)); (case aO => exact (by (with_reducible repeat (first | apply Kd.R_alloc | apply Kd.R_drewN | apply Kd.R_drew)); exact HO_3.out)); (case aS => exact (below_size (by repeat (first | (with_reducible first | exact HB.out | apply below_alloc | apply pw_below_drewN | apply below_drew1 | refine below_set ?_ GE573.out) | exact HB.out)))); (case aL => have := LMc36.out; omega); intro v579 w38 ho hb hg hat; rw [← Ny578.out] at ho; have HO580 := Aside0.mk (ho); replace BK573 := Aside0.mk (blk_grown (g := gb573) (o := .cells #[.int .i64 a0_0, .int .i64 a0_1, .string a0_2] 23 (0, 0)) (by (with_reducible repeat (first | refine blk_drewN ?_ _ | refine blk_drew ?_ | refine blk_alloc ?_ _)); exact BK573.out) hg (Kd.R_ne HO_3.out BK573.out (by decide))); replace HB := Aside0.mk (hb); clear HO_3; clear ho hb hg hat; have hcv39 := own_string (P := Tryd.prog) Tryd.underlying63 Tryd.underlying5 Tryd.underlying9 (Kd.own_of_R HO580.out)))
        go_ret
        exact ⟨by first | rfl | (simp [errW_none, errW_some] <;> rfl) | (simp [*, errW_none, errW_some] <;> rfl), by repeat (first | (with_reducible first | exact HB.out | apply below_alloc | apply pw_below_drewN | apply below_drew1 | refine below_set ?_ GE573.out) | exact HB.out)⟩
       ·rw [if_neg c36] at H
        exact absurd H (by simp)
   ·rw [if_neg c13] at H
    have c13b0 : (a0_0 == 2) = false := beq_eq_false_iff_ne.mpr c13
    have c13b1 : (a0_0 != 2) = true := bne_iff_ne.mpr c13
    obtain rfl := Option.some.inj H
    go_enter Tryd.func30, Tryd.ntmps30
    go_wp2_with (first | ((with_reducible refine gate_dst (N := 1) rfl ?_); refine box_event ?hg (N := 1) ?hd (cs := #[.int .i64 a0_0, .int .i64 a0_1, .string a0_2]) (t := 23) ?hr ?_; (case hd => rfl); (case hg => rfl); (case hr => first | (go_simp; done) | (go_simp; rfl)); intro gb573 hg w40 hbox hb; have BK573 := Aside0.mk (hbox); have GW573 := (sizeB HB hg : Aside0 (w.heap.size ≤ gb573)); have GE573 := (sizeB HB hg : Aside0 (w.heap.size ≤ gb573)); replace HB := stepB HB hb; clear hb hbox hg; have hcz41_0 : w40.cell? ⟨gb573, 0, none⟩ = some (.int .i64 a0_0) := bc BK573 0; have hcz41_1 : w40.cell? ⟨gb573, 1, none⟩ = some (.int .i64 a0_1) := bc BK573 1; have hcz41_2 : w40.cell? ⟨gb573, 2, none⟩ = some (.string a0_2) := bc BK573 2; have hfz41_0 := blk_frozen BK573.out 0; have hfz41_1 := blk_frozen BK573.out 1; have hfz41_2 := blk_frozen BK573.out 2))
    go_ret
    exact ⟨by first | rfl | (simp [errW_none, errW_some] <;> rfl) | (simp [*, errW_none, errW_some] <;> rfl), by repeat (first | (with_reducible first | exact HB.out | apply below_alloc | apply pw_below_drewN | apply below_drew1 | refine below_set ?_ GE573.out) | exact HB.out)⟩
end Go.Proofs.YtmhnfdgegejlkaaDoor.P
end

section
namespace Go.Proofs.YtmhnfdgegejlkaaDoor.P
open Go.RowKit Go.Proofs.YtmhnfdgegejlkaaDoorW.PrintWords Go.Proofs.YtmhnfdgegejlkaaDoorW.PrintLast Go.Proofs.YtmhnfdgegejlkaaDoorW.PrintMore
attribute [local go_sem] max2_int min2_int max_two min_two max_three min_three max_four min_four
set_option linter.unusedVariables false
set_option linter.unusedSimpArgs false
def alumref19_Right.f (a0_0 : Int) (a0_1 : Int) (a0_2 : ByteArray) : Option (Bool) := if a0_0 = 0 then (if a0_1 = 0 then (some (a0_2.toList == ([] : List UInt8))) else (some false)) else (if a0_0 = 1 then (if a0_1 ≥ (-549755813888) then (if a0_1 ≤ 549755813887 then (some (a0_2.toList == ([] : List UInt8))) else (some false)) else (some false)) else (if a0_0 = 2 then (if a0_1 = 0 then (some (decide ((a0_2.size : Int) ≤ 40))) else (some false)) else (if a0_0 = 3 then (if a0_1 = 0 then (some (a0_2.toList == ([] : List UInt8))) else (if a0_1 = 1 then (some (a0_2.toList == ([] : List UInt8))) else (some false))) else (some false))))
set_option maxHeartbeats 8000000 in
set_option maxRecDepth 100000 in
theorem alumref19_Right.calls (a0_0 : Int) (a0_1 : Int) (a0_2 : ByteArray) (r : Bool) (w : World) (h : alumref19_Right.f a0_0 a0_1 a0_2 = some r) :
  Calls Tryd.prog 11 #[.agg #[.int .i64 a0_0, .int .i64 a0_1, .string a0_2]] w fun e w' => e = .returned (.bool r) ∧ Below w.heap.size w w' := by
 have hu23 := Tryd.underlying23
 have HB := Aside0.mk (Below.refl w.heap.size w)
 have H : (if a0_0 = 0 then (if a0_1 = 0 then (some (a0_2.toList == ([] : List UInt8))) else (some false)) else (if a0_0 = 1 then (if a0_1 ≥ (-549755813888) then (if a0_1 ≤ 549755813887 then (some (a0_2.toList == ([] : List UInt8))) else (some false)) else (some false)) else (if a0_0 = 2 then (if a0_1 = 0 then (some (decide ((a0_2.size : Int) ≤ 40))) else (some false)) else (if a0_0 = 3 then (if a0_1 = 0 then (some (a0_2.toList == ([] : List UInt8))) else (if a0_1 = 1 then (some (a0_2.toList == ([] : List UInt8))) else (some false))) else (some false))))) = some r := h
 clear h
 by_cases c2 : a0_0 = 0
 ·rw [if_pos c2] at H
  have c2b0 : (a0_0 == 0) = true := beq_iff_eq.mpr c2
  have c2b1 : (a0_0 != 0) = false := bne_eq_false_iff_eq.mpr c2
  clear c2
  by_cases c3 : a0_1 = 0
  ·rw [if_pos c3] at H
   have c3b0 : (a0_1 == 0) = true := beq_iff_eq.mpr c3
   have c3b1 : (a0_1 != 0) = false := bne_eq_false_iff_eq.mpr c3
   clear c3
   obtain rfl := Option.some.inj H
   go_enter Tryd.func11, Tryd.ntmps11
   go_wp2_with (first | ((with_reducible refine gate_dst (N := 1) rfl ?_); (try (refine gate_guard (by rfl) ?_; dsimp only)); refine box_event ?hg (N := 1) ?hd (cs := #[.int .i64 a0_0, .int .i64 a0_1, .string a0_2]) (t := 23) ?hr ?_; (case hd => rfl); (case hg => rfl); (case hr => first | (go_simp; done) | (go_simp; rfl)); intro gb101 hg w4 hbox hb; have BK101 := Aside0.mk (hbox); have GW101 := (sizeB HB hg : Aside0 (w.heap.size ≤ gb101)); have GE101 := (sizeB HB hg : Aside0 (w.heap.size ≤ gb101)); replace HB := stepB HB hb; clear hb hbox hg; have hcz5_0 : w4.cell? ⟨gb101, 0, none⟩ = some (.int .i64 a0_0) := bc BK101 0; have hcz5_1 : w4.cell? ⟨gb101, 1, none⟩ = some (.int .i64 a0_1) := bc BK101 1; have hcz5_2 : w4.cell? ⟨gb101, 2, none⟩ = some (.string a0_2) := bc BK101 2; have hfz5_0 := blk_frozen BK101.out 0; have hfz5_1 := blk_frozen BK101.out 1; have hfz5_2 := blk_frozen BK101.out 2))
   go_ret
   exact ⟨by first | rfl | (simp [errW_none, errW_some] <;> rfl) | (simp [*, errW_none, errW_some] <;> rfl), by repeat (first | (with_reducible first | exact HB.out | apply below_alloc | apply pw_below_drewN | apply below_drew1 | refine below_set ?_ GE101.out) | exact HB.out)⟩
  ·rw [if_neg c3] at H
   have c3b0 : (a0_1 == 0) = false := beq_eq_false_iff_ne.mpr c3
   have c3b1 : (a0_1 != 0) = true := bne_iff_ne.mpr c3
   obtain rfl := Option.some.inj H
   go_enter Tryd.func11, Tryd.ntmps11
   go_wp2_with (first | ((with_reducible refine gate_dst (N := 1) rfl ?_); (try (refine gate_guard (by rfl) ?_; dsimp only)); refine box_event ?hg (N := 1) ?hd (cs := #[.int .i64 a0_0, .int .i64 a0_1, .string a0_2]) (t := 23) ?hr ?_; (case hd => rfl); (case hg => rfl); (case hr => first | (go_simp; done) | (go_simp; rfl)); intro gb101 hg w6 hbox hb; have BK101 := Aside0.mk (hbox); have GW101 := (sizeB HB hg : Aside0 (w.heap.size ≤ gb101)); have GE101 := (sizeB HB hg : Aside0 (w.heap.size ≤ gb101)); replace HB := stepB HB hb; clear hb hbox hg; have hcz7_0 : w6.cell? ⟨gb101, 0, none⟩ = some (.int .i64 a0_0) := bc BK101 0; have hcz7_1 : w6.cell? ⟨gb101, 1, none⟩ = some (.int .i64 a0_1) := bc BK101 1; have hcz7_2 : w6.cell? ⟨gb101, 2, none⟩ = some (.string a0_2) := bc BK101 2; have hfz7_0 := blk_frozen BK101.out 0; have hfz7_1 := blk_frozen BK101.out 1; have hfz7_2 := blk_frozen BK101.out 2))
   go_ret
   exact ⟨by first | rfl | (simp [errW_none, errW_some] <;> rfl) | (simp [*, errW_none, errW_some] <;> rfl), by repeat (first | (with_reducible first | exact HB.out | apply below_alloc | apply pw_below_drewN | apply below_drew1 | refine below_set ?_ GE101.out) | exact HB.out)⟩
 ·rw [if_neg c2] at H
  have c2b0 : (a0_0 == 0) = false := beq_eq_false_iff_ne.mpr c2
  have c2b1 : (a0_0 != 0) = true := bne_iff_ne.mpr c2
  by_cases c8 : a0_0 = 1
  ·rw [if_pos c8] at H
   have c8b0 : (a0_0 == 1) = true := beq_iff_eq.mpr c8
   have c8b1 : (a0_0 != 1) = false := bne_eq_false_iff_eq.mpr c8
   clear c8
   by_cases c9 : a0_1 ≥ (-549755813888)
   ·rw [if_pos c9] at H
    have c9b0 : decide ((-549755813888) ≤ a0_1) = true := decide_eq_true c9
    clear c9
    by_cases c10 : a0_1 ≤ 549755813887
    ·rw [if_pos c10] at H
     have c10b0 : decide (a0_1 ≤ 549755813887) = true := decide_eq_true c10
     clear c10
     obtain rfl := Option.some.inj H
     go_enter Tryd.func11, Tryd.ntmps11
     go_wp2_with (first | ((with_reducible refine gate_dst (N := 1) rfl ?_); (try (refine gate_guard (by rfl) ?_; dsimp only)); refine box_event ?hg (N := 1) ?hd (cs := #[.int .i64 a0_0, .int .i64 a0_1, .string a0_2]) (t := 23) ?hr ?_; (case hd => rfl); (case hg => rfl); (case hr => first | (go_simp; done) | (go_simp; rfl)); intro gb101 hg w11 hbox hb; have BK101 := Aside0.mk (hbox); have GW101 := (sizeB HB hg : Aside0 (w.heap.size ≤ gb101)); have GE101 := (sizeB HB hg : Aside0 (w.heap.size ≤ gb101)); replace HB := stepB HB hb; clear hb hbox hg; have hcz12_0 : w11.cell? ⟨gb101, 0, none⟩ = some (.int .i64 a0_0) := bc BK101 0; have hcz12_1 : w11.cell? ⟨gb101, 1, none⟩ = some (.int .i64 a0_1) := bc BK101 1; have hcz12_2 : w11.cell? ⟨gb101, 2, none⟩ = some (.string a0_2) := bc BK101 2; have hfz12_0 := blk_frozen BK101.out 0; have hfz12_1 := blk_frozen BK101.out 1; have hfz12_2 := blk_frozen BK101.out 2))
     go_ret
     exact ⟨by first | rfl | (simp [errW_none, errW_some] <;> rfl) | (simp [*, errW_none, errW_some] <;> rfl), by repeat (first | (with_reducible first | exact HB.out | apply below_alloc | apply pw_below_drewN | apply below_drew1 | refine below_set ?_ GE101.out) | exact HB.out)⟩
    ·rw [if_neg c10] at H
     have c10b0 : decide (a0_1 ≤ 549755813887) = false := decide_eq_false c10
     clear c10
     obtain rfl := Option.some.inj H
     go_enter Tryd.func11, Tryd.ntmps11
     go_wp2_with (first | ((with_reducible refine gate_dst (N := 1) rfl ?_); (try (refine gate_guard (by rfl) ?_; dsimp only)); refine box_event ?hg (N := 1) ?hd (cs := #[.int .i64 a0_0, .int .i64 a0_1, .string a0_2]) (t := 23) ?hr ?_; (case hd => rfl); (case hg => rfl); (case hr => first | (go_simp; done) | (go_simp; rfl)); intro gb101 hg w13 hbox hb; have BK101 := Aside0.mk (hbox); have GW101 := (sizeB HB hg : Aside0 (w.heap.size ≤ gb101)); have GE101 := (sizeB HB hg : Aside0 (w.heap.size ≤ gb101)); replace HB := stepB HB hb; clear hb hbox hg; have hcz14_0 : w13.cell? ⟨gb101, 0, none⟩ = some (.int .i64 a0_0) := bc BK101 0; have hcz14_1 : w13.cell? ⟨gb101, 1, none⟩ = some (.int .i64 a0_1) := bc BK101 1; have hcz14_2 : w13.cell? ⟨gb101, 2, none⟩ = some (.string a0_2) := bc BK101 2; have hfz14_0 := blk_frozen BK101.out 0; have hfz14_1 := blk_frozen BK101.out 1; have hfz14_2 := blk_frozen BK101.out 2))
     go_ret
     exact ⟨by first | rfl | (simp [errW_none, errW_some] <;> rfl) | (simp [*, errW_none, errW_some] <;> rfl), by repeat (first | (with_reducible first | exact HB.out | apply below_alloc | apply pw_below_drewN | apply below_drew1 | refine below_set ?_ GE101.out) | exact HB.out)⟩
   ·rw [if_neg c9] at H
    have c9b0 : decide ((-549755813888) ≤ a0_1) = false := decide_eq_false c9
    clear c9
    obtain rfl := Option.some.inj H
    go_enter Tryd.func11, Tryd.ntmps11
    go_wp2_with (first | ((with_reducible refine gate_dst (N := 1) rfl ?_); (try (refine gate_guard (by rfl) ?_; dsimp only)); refine box_event ?hg (N := 1) ?hd (cs := #[.int .i64 a0_0, .int .i64 a0_1, .string a0_2]) (t := 23) ?hr ?_; (case hd => rfl); (case hg => rfl); (case hr => first | (go_simp; done) | (go_simp; rfl)); intro gb101 hg w15 hbox hb; have BK101 := Aside0.mk (hbox); have GW101 := (sizeB HB hg : Aside0 (w.heap.size ≤ gb101)); have GE101 := (sizeB HB hg : Aside0 (w.heap.size ≤ gb101)); replace HB := stepB HB hb; clear hb hbox hg; have hcz16_0 : w15.cell? ⟨gb101, 0, none⟩ = some (.int .i64 a0_0) := bc BK101 0; have hcz16_1 : w15.cell? ⟨gb101, 1, none⟩ = some (.int .i64 a0_1) := bc BK101 1; have hcz16_2 : w15.cell? ⟨gb101, 2, none⟩ = some (.string a0_2) := bc BK101 2; have hfz16_0 := blk_frozen BK101.out 0; have hfz16_1 := blk_frozen BK101.out 1; have hfz16_2 := blk_frozen BK101.out 2))
    go_ret
    exact ⟨by first | rfl | (simp [errW_none, errW_some] <;> rfl) | (simp [*, errW_none, errW_some] <;> rfl), by repeat (first | (with_reducible first | exact HB.out | apply below_alloc | apply pw_below_drewN | apply below_drew1 | refine below_set ?_ GE101.out) | exact HB.out)⟩
  ·rw [if_neg c8] at H
   have c8b0 : (a0_0 == 1) = false := beq_eq_false_iff_ne.mpr c8
   have c8b1 : (a0_0 != 1) = true := bne_iff_ne.mpr c8
   by_cases c17 : a0_0 = 2
   ·rw [if_pos c17] at H
    have c17b0 : (a0_0 == 2) = true := beq_iff_eq.mpr c17
    have c17b1 : (a0_0 != 2) = false := bne_eq_false_iff_eq.mpr c17
    clear c17
    by_cases c18 : a0_1 = 0
    ·rw [if_pos c18] at H
     have c18b0 : (a0_1 == 0) = true := beq_iff_eq.mpr c18
     have c18b1 : (a0_1 != 0) = false := bne_eq_false_iff_eq.mpr c18
     clear c18
     obtain rfl := Option.some.inj H
     go_enter Tryd.func11, Tryd.ntmps11
     go_wp2_with (first | ((with_reducible refine gate_dst (N := 1) rfl ?_); (try (refine gate_guard (by rfl) ?_; dsimp only)); refine box_event ?hg (N := 1) ?hd (cs := #[.int .i64 a0_0, .int .i64 a0_1, .string a0_2]) (t := 23) ?hr ?_; (case hd => rfl); (case hg => rfl); (case hr => first | (go_simp; done) | (go_simp; rfl)); intro gb101 hg w19 hbox hb; have BK101 := Aside0.mk (hbox); have GW101 := (sizeB HB hg : Aside0 (w.heap.size ≤ gb101)); have GE101 := (sizeB HB hg : Aside0 (w.heap.size ≤ gb101)); replace HB := stepB HB hb; clear hb hbox hg; have hcz20_0 : w19.cell? ⟨gb101, 0, none⟩ = some (.int .i64 a0_0) := bc BK101 0; have hcz20_1 : w19.cell? ⟨gb101, 1, none⟩ = some (.int .i64 a0_1) := bc BK101 1; have hcz20_2 : w19.cell? ⟨gb101, 2, none⟩ = some (.string a0_2) := bc BK101 2; have hfz20_0 := blk_frozen BK101.out 0; have hfz20_1 := blk_frozen BK101.out 1; have hfz20_2 := blk_frozen BK101.out 2))
     go_ret
     exact ⟨by first | rfl | (simp [errW_none, errW_some] <;> rfl) | (simp [*, errW_none, errW_some] <;> rfl), by repeat (first | (with_reducible first | exact HB.out | apply below_alloc | apply pw_below_drewN | apply below_drew1 | refine below_set ?_ GE101.out) | exact HB.out)⟩
    ·rw [if_neg c18] at H
     have c18b0 : (a0_1 == 0) = false := beq_eq_false_iff_ne.mpr c18
     have c18b1 : (a0_1 != 0) = true := bne_iff_ne.mpr c18
     obtain rfl := Option.some.inj H
     go_enter Tryd.func11, Tryd.ntmps11
     go_wp2_with (first | ((with_reducible refine gate_dst (N := 1) rfl ?_); (try (refine gate_guard (by rfl) ?_; dsimp only)); refine box_event ?hg (N := 1) ?hd (cs := #[.int .i64 a0_0, .int .i64 a0_1, .string a0_2]) (t := 23) ?hr ?_; (case hd => rfl); (case hg => rfl); (case hr => first | (go_simp; done) | (go_simp; rfl)); intro gb101 hg w21 hbox hb; have BK101 := Aside0.mk (hbox); have GW101 := (sizeB HB hg : Aside0 (w.heap.size ≤ gb101)); have GE101 := (sizeB HB hg : Aside0 (w.heap.size ≤ gb101)); replace HB := stepB HB hb; clear hb hbox hg; have hcz22_0 : w21.cell? ⟨gb101, 0, none⟩ = some (.int .i64 a0_0) := bc BK101 0; have hcz22_1 : w21.cell? ⟨gb101, 1, none⟩ = some (.int .i64 a0_1) := bc BK101 1; have hcz22_2 : w21.cell? ⟨gb101, 2, none⟩ = some (.string a0_2) := bc BK101 2; have hfz22_0 := blk_frozen BK101.out 0; have hfz22_1 := blk_frozen BK101.out 1; have hfz22_2 := blk_frozen BK101.out 2))
     go_ret
     exact ⟨by first | rfl | (simp [errW_none, errW_some] <;> rfl) | (simp [*, errW_none, errW_some] <;> rfl), by repeat (first | (with_reducible first | exact HB.out | apply below_alloc | apply pw_below_drewN | apply below_drew1 | refine below_set ?_ GE101.out) | exact HB.out)⟩
   ·rw [if_neg c17] at H
    have c17b0 : (a0_0 == 2) = false := beq_eq_false_iff_ne.mpr c17
    have c17b1 : (a0_0 != 2) = true := bne_iff_ne.mpr c17
    by_cases c23 : a0_0 = 3
    ·rw [if_pos c23] at H
     have c23b0 : (a0_0 == 3) = true := beq_iff_eq.mpr c23
     have c23b1 : (a0_0 != 3) = false := bne_eq_false_iff_eq.mpr c23
     clear c23
     by_cases c24 : a0_1 = 0
     ·rw [if_pos c24] at H
      have c24b0 : (a0_1 == 0) = true := beq_iff_eq.mpr c24
      have c24b1 : (a0_1 != 0) = false := bne_eq_false_iff_eq.mpr c24
      clear c24
      obtain rfl := Option.some.inj H
      go_enter Tryd.func11, Tryd.ntmps11
      go_wp2_with (first | ((with_reducible refine gate_dst (N := 1) rfl ?_); (try (refine gate_guard (by rfl) ?_; dsimp only)); refine box_event ?hg (N := 1) ?hd (cs := #[.int .i64 a0_0, .int .i64 a0_1, .string a0_2]) (t := 23) ?hr ?_; (case hd => rfl); (case hg => rfl); (case hr => first | (go_simp; done) | (go_simp; rfl)); intro gb101 hg w25 hbox hb; have BK101 := Aside0.mk (hbox); have GW101 := (sizeB HB hg : Aside0 (w.heap.size ≤ gb101)); have GE101 := (sizeB HB hg : Aside0 (w.heap.size ≤ gb101)); replace HB := stepB HB hb; clear hb hbox hg; have hcz26_0 : w25.cell? ⟨gb101, 0, none⟩ = some (.int .i64 a0_0) := bc BK101 0; have hcz26_1 : w25.cell? ⟨gb101, 1, none⟩ = some (.int .i64 a0_1) := bc BK101 1; have hcz26_2 : w25.cell? ⟨gb101, 2, none⟩ = some (.string a0_2) := bc BK101 2; have hfz26_0 := blk_frozen BK101.out 0; have hfz26_1 := blk_frozen BK101.out 1; have hfz26_2 := blk_frozen BK101.out 2))
      go_ret
      exact ⟨by first | rfl | (simp [errW_none, errW_some] <;> rfl) | (simp [*, errW_none, errW_some] <;> rfl), by repeat (first | (with_reducible first | exact HB.out | apply below_alloc | apply pw_below_drewN | apply below_drew1 | refine below_set ?_ GE101.out) | exact HB.out)⟩
     ·rw [if_neg c24] at H
      have c24b0 : (a0_1 == 0) = false := beq_eq_false_iff_ne.mpr c24
      have c24b1 : (a0_1 != 0) = true := bne_iff_ne.mpr c24
      by_cases c27 : a0_1 = 1
      ·rw [if_pos c27] at H
       have c27b0 : (a0_1 == 1) = true := beq_iff_eq.mpr c27
       have c27b1 : (a0_1 != 1) = false := bne_eq_false_iff_eq.mpr c27
       clear c27
       obtain rfl := Option.some.inj H
       go_enter Tryd.func11, Tryd.ntmps11
       go_wp2_with (first | ((with_reducible refine gate_dst (N := 1) rfl ?_); (try (refine gate_guard (by rfl) ?_; dsimp only)); refine box_event ?hg (N := 1) ?hd (cs := #[.int .i64 a0_0, .int .i64 a0_1, .string a0_2]) (t := 23) ?hr ?_; (case hd => rfl); (case hg => rfl); (case hr => first | (go_simp; done) | (go_simp; rfl)); intro gb101 hg w28 hbox hb; have BK101 := Aside0.mk (hbox); have GW101 := (sizeB HB hg : Aside0 (w.heap.size ≤ gb101)); have GE101 := (sizeB HB hg : Aside0 (w.heap.size ≤ gb101)); replace HB := stepB HB hb; clear hb hbox hg; have hcz29_0 : w28.cell? ⟨gb101, 0, none⟩ = some (.int .i64 a0_0) := bc BK101 0; have hcz29_1 : w28.cell? ⟨gb101, 1, none⟩ = some (.int .i64 a0_1) := bc BK101 1; have hcz29_2 : w28.cell? ⟨gb101, 2, none⟩ = some (.string a0_2) := bc BK101 2; have hfz29_0 := blk_frozen BK101.out 0; have hfz29_1 := blk_frozen BK101.out 1; have hfz29_2 := blk_frozen BK101.out 2))
       go_ret
       exact ⟨by first | rfl | (simp [errW_none, errW_some] <;> rfl) | (simp [*, errW_none, errW_some] <;> rfl), by repeat (first | (with_reducible first | exact HB.out | apply below_alloc | apply pw_below_drewN | apply below_drew1 | refine below_set ?_ GE101.out) | exact HB.out)⟩
      ·rw [if_neg c27] at H
       have c27b0 : (a0_1 == 1) = false := beq_eq_false_iff_ne.mpr c27
       have c27b1 : (a0_1 != 1) = true := bne_iff_ne.mpr c27
       obtain rfl := Option.some.inj H
       go_enter Tryd.func11, Tryd.ntmps11
       go_wp2_with (first | ((with_reducible refine gate_dst (N := 1) rfl ?_); (try (refine gate_guard (by rfl) ?_; dsimp only)); refine box_event ?hg (N := 1) ?hd (cs := #[.int .i64 a0_0, .int .i64 a0_1, .string a0_2]) (t := 23) ?hr ?_; (case hd => rfl); (case hg => rfl); (case hr => first | (go_simp; done) | (go_simp; rfl)); intro gb101 hg w30 hbox hb; have BK101 := Aside0.mk (hbox); have GW101 := (sizeB HB hg : Aside0 (w.heap.size ≤ gb101)); have GE101 := (sizeB HB hg : Aside0 (w.heap.size ≤ gb101)); replace HB := stepB HB hb; clear hb hbox hg; have hcz31_0 : w30.cell? ⟨gb101, 0, none⟩ = some (.int .i64 a0_0) := bc BK101 0; have hcz31_1 : w30.cell? ⟨gb101, 1, none⟩ = some (.int .i64 a0_1) := bc BK101 1; have hcz31_2 : w30.cell? ⟨gb101, 2, none⟩ = some (.string a0_2) := bc BK101 2; have hfz31_0 := blk_frozen BK101.out 0; have hfz31_1 := blk_frozen BK101.out 1; have hfz31_2 := blk_frozen BK101.out 2))
       go_ret
       exact ⟨by first | rfl | (simp [errW_none, errW_some] <;> rfl) | (simp [*, errW_none, errW_some] <;> rfl), by repeat (first | (with_reducible first | exact HB.out | apply below_alloc | apply pw_below_drewN | apply below_drew1 | refine below_set ?_ GE101.out) | exact HB.out)⟩
    ·rw [if_neg c23] at H
     have c23b0 : (a0_0 == 3) = false := beq_eq_false_iff_ne.mpr c23
     have c23b1 : (a0_0 != 3) = true := bne_iff_ne.mpr c23
     obtain rfl := Option.some.inj H
     go_enter Tryd.func11, Tryd.ntmps11
     go_wp2_with (first | ((with_reducible refine gate_dst (N := 1) rfl ?_); (try (refine gate_guard (by rfl) ?_; dsimp only)); refine box_event ?hg (N := 1) ?hd (cs := #[.int .i64 a0_0, .int .i64 a0_1, .string a0_2]) (t := 23) ?hr ?_; (case hd => rfl); (case hg => rfl); (case hr => first | (go_simp; done) | (go_simp; rfl)); intro gb101 hg w32 hbox hb; have BK101 := Aside0.mk (hbox); have GW101 := (sizeB HB hg : Aside0 (w.heap.size ≤ gb101)); have GE101 := (sizeB HB hg : Aside0 (w.heap.size ≤ gb101)); replace HB := stepB HB hb; clear hb hbox hg; have hcz33_0 : w32.cell? ⟨gb101, 0, none⟩ = some (.int .i64 a0_0) := bc BK101 0; have hcz33_1 : w32.cell? ⟨gb101, 1, none⟩ = some (.int .i64 a0_1) := bc BK101 1; have hcz33_2 : w32.cell? ⟨gb101, 2, none⟩ = some (.string a0_2) := bc BK101 2; have hfz33_0 := blk_frozen BK101.out 0; have hfz33_1 := blk_frozen BK101.out 1; have hfz33_2 := blk_frozen BK101.out 2))
     go_ret
     exact ⟨by first | rfl | (simp [errW_none, errW_some] <;> rfl) | (simp [*, errW_none, errW_some] <;> rfl), by repeat (first | (with_reducible first | exact HB.out | apply below_alloc | apply pw_below_drewN | apply below_drew1 | refine below_set ?_ GE101.out) | exact HB.out)⟩
end Go.Proofs.YtmhnfdgegejlkaaDoor.P
end

section
namespace Go.Proofs.YtmhnfdgegejlkaaDoor.P
open Go.RowKit Go.Proofs.YtmhnfdgegejlkaaDoorW.PrintWords Go.Proofs.YtmhnfdgegejlkaaDoorW.PrintLast Go.Proofs.YtmhnfdgegejlkaaDoorW.PrintMore
attribute [local go_sem] max2_int min2_int max_two min_two max_three min_three max_four min_four
set_option linter.unusedVariables false
set_option linter.unusedSimpArgs false
def alumref19_digit.j0 : Nat → Int → Bool → Option (Int)
 | 0, _, _ => none
 | k + 1, x0, x8 => if x8 = true then (some ((x0 - 48) % 256)) else (if x0 ≥ 97 then (if x0 ≤ 102 then (some (((x0 - 97) % 256) + 10)) else (some (-1))) else (some (-1)))
def alumref19_digit.f (k : Nat) (a0 : Int) : Option (Int) := if a0 ≥ 48 then (alumref19_digit.j0 k a0 (decide (a0 ≤ 57))) else (alumref19_digit.j0 k a0 false)
set_option maxHeartbeats 8000000 in
set_option maxRecDepth 100000 in
theorem alumref19_digit.calls (k : Nat) (a0 : Int) (r : Int) (w : World) (h : alumref19_digit.f k a0 = some r) :
  Calls Tryd.prog 66 #[.int .u8 a0] w fun e w' => e = .returned (.int .i64 r) ∧ Drawn0 w w' := by
 have H : (if a0 ≥ 48 then (alumref19_digit.j0 k a0 (decide (a0 ≤ 57))) else (alumref19_digit.j0 k a0 false)) = some r := h
 clear h
 have HC2 := Aside0.mk H
 clear H
 go_enter Tryd.func66, Tryd.ntmps66
 go_upto_region 1 with (fail)
 go_cut [8] (fun v8 wc => ∃ (kq : Nat) (x8_1 : Bool), v8 = .bool x8_1 ∧ Aside0 (alumref19_digit.j0 kq a0 x8_1 = some r) ∧ Aside0 (kq ≤ k) ∧ Drawn0 w wc)
 case first =>
  have H := HC2.out
  clear HC2
  by_cases c3 : a0 ≥ 48
  ·rw [if_pos c3] at H
   have c3b0 : decide (48 ≤ a0) = true := decide_eq_true c3
   clear c3
   (first | rw [c3b0] | (simp only [i64_w, i32_w]; rw [c3b0]) | skip)
   have H' := Aside0.mk H
   clear H
   go_wp2
   go_meet
   case rel => exact ⟨_, (decide (a0 ≤ 57)), (by first | rfl | (simp; done) | (simp [*]; done)), H', ⟨by first | omega | exact Nat.le_refl _⟩, by repeat (first | exact Drawn0.refl _ | apply Drawn0.step)⟩
  ·rw [if_neg c3] at H
   have c3b0 : decide (48 ≤ a0) = false := decide_eq_false c3
   clear c3
   (first | rw [c3b0] | (simp only [i64_w, i32_w]; rw [c3b0]) | skip)
   have H' := Aside0.mk H
   clear H
   go_wp2
   go_meet
   case rel => exact ⟨_, (false), (by first | rfl | (simp; done) | (simp [*]; done)), H', ⟨by first | omega | exact Nat.le_refl _⟩, by repeat (first | exact Drawn0.refl _ | apply Drawn0.step)⟩
 case rest =>
  clear HC2
  try clear p2
  try clear c3
  try clear c3b0
  obtain ⟨kq, x8_1, rfl, HA, HJ1, ⟨mc1, rfl⟩⟩ := hcut
  cases kq with
  | zero => exact absurd HA.out (by simp [alumref19_digit.j0])
  | succ kj1 =>
   have H := HA.out
   clear HA
   simp only [alumref19_digit.j0] at H
   by_cases c4 : x8_1 = true
   ·subst c4
    have H1 : (some ((a0 - 48) % 256)) = some r := by rw [if_pos rfl] at H; exact H
    clear H
    have H := H1
    clear H1
    obtain rfl := Option.some.inj H
    go_wp2
    go_ret
    exact ⟨by first | rfl | (simp; done) | (simp [*]; done), by repeat (first | exact Drawn0.refl _ | apply Drawn0.step)⟩
   ·replace c4 := Bool.eq_false_iff.mpr c4
    subst c4
    have H1 : (if a0 ≥ 97 then (if a0 ≤ 102 then (some (((a0 - 97) % 256) + 10)) else (some (-1))) else (some (-1))) = some r := by rw [if_neg (show ¬ (false = true) by decide)] at H; exact H
    clear H
    have H := H1
    clear H1
    by_cases c5 : a0 ≥ 97
    ·rw [if_pos c5] at H
     have c5b0 : decide (97 ≤ a0) = true := decide_eq_true c5
     clear c5
     by_cases c6 : a0 ≤ 102
     ·rw [if_pos c6] at H
      have c6b0 : decide (a0 ≤ 102) = true := decide_eq_true c6
      clear c6
      obtain rfl := Option.some.inj H
      go_wp2
      go_ret
      exact ⟨by first | rfl | (simp; done) | (simp [*]; done), by repeat (first | exact Drawn0.refl _ | apply Drawn0.step)⟩
     ·rw [if_neg c6] at H
      have c6b0 : decide (a0 ≤ 102) = false := decide_eq_false c6
      clear c6
      obtain rfl := Option.some.inj H
      go_wp2
      go_ret
      exact ⟨by first | rfl | (simp; done) | (simp [*]; done), by repeat (first | exact Drawn0.refl _ | apply Drawn0.step)⟩
    ·rw [if_neg c5] at H
     have c5b0 : decide (97 ≤ a0) = false := decide_eq_false c5
     clear c5
     obtain rfl := Option.some.inj H
     go_wp2
     go_ret
     exact ⟨by first | rfl | (simp; done) | (simp [*]; done), by repeat (first | exact Drawn0.refl _ | apply Drawn0.step)⟩
end Go.Proofs.YtmhnfdgegejlkaaDoor.P
end
