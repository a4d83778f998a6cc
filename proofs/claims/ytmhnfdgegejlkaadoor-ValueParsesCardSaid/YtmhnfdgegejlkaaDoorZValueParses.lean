/- For every string of at most 200 bytes, Parse returns what the specification returns, and what is parsed prints as it stood. -/
import Derived.Test.YtmhnfdgegejlkaaDoorBValueParses0
import Derived.Test.YtmhnfdgegejlkaaDoorBValueParses2
import Derived.Test.YtmhnfdgegejlkaaDoorBValueParses1
import Derived.Test.YtmhnfdgegejlkaaDoorWWordsq
import Derived.WalkKit
import Derived.ProofKit
import Derived.SizedLaws
import Derived.DataReads
import Derived.OpenShut
import Derived.ShutString
import Derived.ChangeOld
import Derived.Below
import Derived.LaidMore
import Derived.Stop.Joined
import Derived.Lay
import Derived.MakeChecks
import Derived.Lib.Bytealg
import Derived.Laws.BitsLemmas
import Derived.Lib.ItoaNum
import Derived.Lib.LazyBuf
import Derived.KernelRfl
import Derived.Lib.AtoiAllCases
import Derived.Test.YtmhnfdgegejlkaaDoorRows
import Derived.Test.YtmhnfdgegejlkaaDoorCards
import Derived.Test.YtmhnfdgegejlkaaDoorTie
import Derived.SevenTiedAt
section
namespace Go.Proofs.YtmhnfdgegejlkaaDoor.P
open Go.RowKit Go.Proofs.YtmhnfdgegejlkaaDoorW.PrintWords Go.Proofs.YtmhnfdgegejlkaaDoorW.PrintLast Go.Proofs.YtmhnfdgegejlkaaDoorW.PrintMore
attribute [local go_sem] max2_int min2_int max_two min_two max_three min_three max_four min_four
set_option linter.unusedVariables false
set_option linter.unusedSimpArgs false
mutual
def alumref19_Parse.j6 : Nat → ByteArray → Int → Int → ByteArray → Option (Int × Int × ByteArray × Bool)
 | 0, _, _, _, _ => none
 | k + 1, x0, x836000, x836001, x836002 => (alumref19_Right.f x836000 x836001 x836002).bind fun t847 => (if t847 = true then ((alumref19_Print.f k x836000 x836001 x836002).bind fun t848 => (if t848.toList = x0.toList then (some (x836000, x836001, x836002, true)) else (some (0, 0, (⟨#[]⟩ : ByteArray), false)))) else (some (0, 0, (⟨#[]⟩ : ByteArray), false)))
def alumref19_Parse.j0 : Nat → ByteArray → Bool → Int → Int → ByteArray → Option (Int × Int × ByteArray × Bool)
 | 0, _, _, _, _, _ => none
 | k + 1, x0, x10, x836000, x836001, x836002 => if x10 = true then ((alumref19_Bool.f (x0.toList == ([116, 114, 117, 101] : List UInt8))).bind fun bt836 => (alumref19_Parse.j6 k x0 bt836.1 bt836.2.1 bt836.2.2)) else (if (x0.size : Int) > 0 then (if 0 < (x0.size : Int) then (alumref19_Parse.j1 k x0 ((bt x0 0) == 39) x836000 x836001 x836002) else (none)) else (alumref19_Parse.j1 k x0 false x836000 x836001 x836002))
def alumref19_Parse.j1 : Nat → ByteArray → Bool → Int → Int → ByteArray → Option (Int × Int × ByteArray × Bool)
 | 0, _, _, _, _, _ => none
 | k + 1, x0, x20, x836000, x836001, x836002 => if x20 = true then (alumref19_Parse.l0 k x0 ([] : List Int) 1 2 x836001 x836002) else (if x0.toList = ([110, 117, 108, 108] : List UInt8) then (alumref19_Parse.j6 k x0 x836000 x836001 x836002) else (alumref19_Parse.l1 k x0 0 1 x836001 x836002))
def alumref19_Parse.l0 : Nat → ByteArray → List Int → Int → Int → Int → ByteArray → Option (Int × Int × ByteArray × Bool)
 | 0, _, _, _, _, _, _ => none
 | k + 1, x0, x5, x6, x836000, x836001, x836002 => if x6 < (wrap64 ((x0.size : Int) - 1)) then (if 0 ≤ x6 then (if x6 < (x0.size : Int) then (if (bt x0 x6) = 92 then (alumref19_Parse.j3 k x0 x5 x6 (bt x0 x6) (decide ((wrap64 (x6 + 2)) < (x0.size : Int))) x836000 x836001 x836002) else (alumref19_Parse.j3 k x0 x5 x6 (bt x0 x6) false x836000 x836001 x836002)) else (none)) else (none)) else (alumref19_Parse.j6 k x0 x836000 x836001 (strOfNums x5))
def alumref19_Parse.j3 : Nat → ByteArray → List Int → Int → Int → Bool → Int → Int → ByteArray → Option (Int × Int × ByteArray × Bool)
 | 0, _, _, _, _, _, _, _, _ => none
 | k + 1, x0, x5, x6, x7, x48, x836000, x836001, x836002 => if x48 = true then (if 0 ≤ (wrap64 (x6 + 1)) then (if (wrap64 (x6 + 1)) < (x0.size : Int) then ((alumref19_digit.f k (bt x0 (wrap64 (x6 + 1)))).bind fun t839 => (if 0 ≤ (wrap64 (x6 + 2)) then (if (wrap64 (x6 + 2)) < (x0.size : Int) then ((alumref19_digit.f k (bt x0 (wrap64 (x6 + 2)))).bind fun t840 => (if x5.length < 140737488355328 then (alumref19_Parse.l0 k x0 (x5 ++ [(wrap64 ((wrap64 ((mx 0 t839) * 16)) + (mx 0 t840))) % 256]) (wrap64 ((wrap64 (x6 + 2)) + 1)) x836000 x836001 x836002) else (none))) else (none)) else (none))) else (none)) else (none)) else (if x5.length < 140737488355328 then (alumref19_Parse.l0 k x0 (x5 ++ [x7]) (wrap64 (x6 + 1)) x836000 x836001 x836002) else (none))
def alumref19_Parse.l1 : Nat → ByteArray → Int → Int → Int → ByteArray → Option (Int × Int × ByteArray × Bool)
 | 0, _, _, _, _, _ => none
 | k + 1, x0, x8, x836000, x836001, x836002 => if x8 < (x0.size : Int) then (alumref19_Parse.j5 k x0 x8 (decide (x8 < 14)) x836000 x836001 x836002) else (alumref19_Parse.j5 k x0 x8 false x836000 x836001 x836002)
def alumref19_Parse.j5 : Nat → ByteArray → Int → Bool → Int → Int → ByteArray → Option (Int × Int × ByteArray × Bool)
 | 0, _, _, _, _, _, _ => none
 | k + 1, x0, x8, x84, x836000, x836001, x836002 => if x84 = true then (if 0 ≤ x8 then (if x8 < (x0.size : Int) then (if (bt x0 x8) = 45 then (alumref19_Parse.l1 k x0 (wrap64 (x8 + 1)) x836000 x836001 x836002) else (alumref19_Parse.l1 k x0 (wrap64 (x8 + 1)) x836000 (wrap64 ((wrap64 ((wrap64 (x836001 * 10)) + (wrap64 (bt x0 x8)))) - 48)) x836002)) else (none)) else (none)) else (if (x0.size : Int) > 0 then (if 0 < (x0.size : Int) then (if (bt x0 0) = 45 then (alumref19_Parse.j6 k x0 x836000 (wrap64 (-x836001)) x836002) else (alumref19_Parse.j6 k x0 x836000 x836001 x836002)) else (none)) else (alumref19_Parse.j6 k x0 x836000 x836001 x836002))
end
def alumref19_Parse.f (k : Nat) (a0 : ByteArray) : Option (Int × Int × ByteArray × Bool) := if a0.toList = ([116, 114, 117, 101] : List UInt8) then (alumref19_Parse.j0 k a0 true 0 0 (⟨#[]⟩ : ByteArray)) else (alumref19_Parse.j0 k a0 (a0.toList == ([102, 97, 108, 115, 101] : List UInt8)) 0 0 (⟨#[]⟩ : ByteArray))
def alumref19_Parse.T12 : Bool × List (List Nat × List Nat) := (true, [([], []), ([], []), ([1], [1]), ([0, 2], [0, 2]), ([3], [3]), ([4], [4]), ([5], [5]), ([], []), ([], []), ([8], [8]), ([7, 9], [7, 9]), ([10, 4], [10]), ([11], [11]), ([6, 12], [6, 12]), ([13], [13]), ([14, 11, 0, 1, 2, 3, 4, 5, 6, 7, 8, 9, 10, 11, 12, 13, 14], [14])])
def alumref19_Parse.B12 : List Nat := [0, 0, 2, 7, 15, 31, 63, 0, 0, 256, 896, 1951, 3999, 8191, 16383, 32767]
theorem alumref19_Parse.tab12 : rtab .any (opsOf Tryd.f41 12) = alumref19_Parse.T12 := by kernel_rfl
theorem alumref19_Parse.bits12 : waitsOk alumref19_Parse.T12.2 alumref19_Parse.B12 = true := by kernel_rfl
def alumref19_Parse.T22 : Bool × List (List Nat × List Nat) := (true, [([], []), ([0], [0]), ([1], [1]), ([], []), ([], []), ([3, 4], [3, 4]), ([5], [5]), ([2, 6], [2, 6]), ([7], [7]), ([0, 1, 2, 3, 4, 5, 6, 7, 8], []), ([9, 8, 0, 1, 2, 3, 4, 5, 6, 7, 8], [8, 9])])
def alumref19_Parse.B22 : List Nat := [0, 1, 3, 0, 0, 24, 56, 127, 255, 511, 1023]
theorem alumref19_Parse.tab22 : rtab .any (opsOf Tryd.f41 22) = alumref19_Parse.T22 := by kernel_rfl
theorem alumref19_Parse.bits22 : waitsOk alumref19_Parse.T22.2 alumref19_Parse.B22 = true := by kernel_rfl
set_option maxHeartbeats 8000000 in
set_option maxRecDepth 100000 in
theorem alumref19_Parse.calls (k : Nat) (a0 : ByteArray) (r1 : Int) (r2 : Int) (r3 : ByteArray) (r4 : Bool) (w : World) (h : alumref19_Parse.f k a0 = some (r1, r2, r3, r4)) :
  Calls Tryd.prog 41 #[.string a0] w fun e w' => e = .returned (.tuple #[.agg #[.int .i64 r1, .int .i64 r2, .string r3], .bool r4]) ∧ Below w.heap.size w w' := by
 have hu23 := Tryd.underlying23
 have HB := Aside0.mk (Below.refl w.heap.size w)
 have H : (if a0.toList = ([116, 114, 117, 101] : List UInt8) then (alumref19_Parse.j0 k a0 true 0 0 (⟨#[]⟩ : ByteArray)) else (alumref19_Parse.j0 k a0 (a0.toList == ([102, 97, 108, 115, 101] : List UInt8)) 0 0 (⟨#[]⟩ : ByteArray))) = some (r1, r2, r3, r4) := h
 clear h
 have HC2 := Aside0.mk H
 clear H
 go_enter Tryd.func41, Tryd.ntmps41
 go_upto_block 0 with (first | ((with_reducible refine gate_dst (N := 2) rfl ?_); (try (refine gate_guard (by rfl) ?_; dsimp only)); refine box_event ?hg (N := 2) ?hd (cs := #[.int .i64 0, .int .i64 0, .string (⟨#[]⟩ : ByteArray)]) (t := 23) ?hr ?_; (case hd => rfl); (case hg => rfl); (case hr => first | (go_simp; done) | (go_simp; rfl)); intro gb834 hg w3 hbox hb; have BK834 := Aside0.mk (hbox); have GW834 := (sizeB HB hg : Aside0 (w.heap.size ≤ gb834)); have GE834 := (sizeB HB hg : Aside0 (w.heap.size ≤ gb834)); replace HB := stepB HB hb; clear hb hbox hg) | ((with_reducible refine gate_dst (N := 4) rfl ?_); (try (refine gate_guard (by rfl) ?_; dsimp only)); refine box_event ?hg (N := 4) ?hd (cs := #[.int .i64 0, .int .i64 0, .string (⟨#[]⟩ : ByteArray)]) (t := 23) ?hr ?_; (case hd => rfl); (case hg => rfl); (case hr => first | (go_simp; done) | (go_simp; rfl)); intro gb835 hg w4 hbox hb; have BK835 := Aside0.mk (hbox); have GW835 := (sizeB HB hg : Aside0 (w.heap.size ≤ gb835)); have GE835 := (sizeB HB hg : Aside0 (w.heap.size ≤ gb835)); have NB834_835 := neB BK834 hg; have NB835_834 := neC BK834 hg; replace BK834 := blkB BK834 hb; replace HB := stepB HB hb; clear hb hbox hg; have hnb5 := NB835_834.out; have hnc5 := NB834_835.out; have hcz6_0 : w4.cell? ⟨gb835, 0, none⟩ = some (.int .i64 0) := bc BK835 0; have hcz6_1 : w4.cell? ⟨gb835, 1, none⟩ = some (.int .i64 0) := bc BK835 1; have hcz6_2 : w4.cell? ⟨gb835, 2, none⟩ = some (.string (⟨#[]⟩ : ByteArray)) := bc BK835 2; have hfz6_0 := blk_frozen BK835.out 0; have hfz6_1 := blk_frozen BK835.out 1; have hfz6_2 := blk_frozen BK835.out 2))
 (try simp only [Act.put, List.setIfInBounds_toArray, List.set_cons_zero, List.set_cons_succ])
 go_cut [] (fun wc => ∃ (kq : Nat) (x836000_1 : Int) (x836001_1 : Int) (x836002_1 : ByteArray), Aside0 (alumref19_Parse.j6 kq a0 x836000_1 x836001_1 x836002_1 = some (r1, r2, r3, r4)) ∧ Aside0 (kq ≤ k) ∧ Aside0 (wc.heap[gb834]? = some (.cells #[.int .i64 0, .int .i64 0, .string (⟨#[]⟩ : ByteArray)] 23 (0, 0))) ∧ Aside0 (wc.heap[gb835]? = some (.cells #[.int .i64 x836000_1, .int .i64 x836001_1, .string x836002_1] 23 (0, 0))) ∧ Aside0 (Below w.heap.size w wc))
 case first =>
  have H := HC2.out
  clear HC2
  have HC7 := Aside0.mk H
  clear H
  go_upto_region 2 with (fail)
  go_cut [10] (fun v10 wc => ∃ (kq : Nat) (x10_6 : Bool), v10 = .bool x10_6 ∧ Aside0 (alumref19_Parse.j0 kq a0 x10_6 0 0 (⟨#[]⟩ : ByteArray) = some (r1, r2, r3, r4)) ∧ Aside0 (kq ≤ k) ∧ Aside0 (wc.heap[gb834]? = some (.cells #[.int .i64 0, .int .i64 0, .string (⟨#[]⟩ : ByteArray)] 23 (0, 0))) ∧ Aside0 (wc.heap[gb835]? = some (.cells #[.int .i64 0, .int .i64 0, .string (⟨#[]⟩ : ByteArray)] 23 (0, 0))) ∧ Aside0 (Below w.heap.size w wc))
  case first =>
   have H := HC7.out
   clear HC7
   by_cases c8 : a0.toList = ([116, 114, 117, 101] : List UInt8)
   ·rw [if_pos c8] at H
    have c8b0 : (a0.toList == ([116, 114, 117, 101] : List UInt8)) = true := beq_iff_eq.mpr c8
    have c8b1 : (a0.toList != ([116, 114, 117, 101] : List UInt8)) = false := bne_eq_false_iff_eq.mpr c8
    clear c8
    (first | rw [c8b0] | (simp only [i64_w, i32_w]; rw [c8b0]) | skip)
    have H' := Aside0.mk H
    clear H
    go_wp2
    go_meet
    case rel => exact ⟨_, (true), (by first | rfl | (simp; done) | (simp [*]; done)), H', ⟨by first | omega | exact Nat.le_refl _⟩, ⟨by (with_reducible repeat (first | refine blk_drewN ?_ _ | refine blk_drew ?_ | refine blk_alloc ?_ _)); refine blk_far ?_ NB834_835.out _; (with_reducible repeat (first | refine blk_drewN ?_ _ | refine blk_drew ?_ | refine blk_alloc ?_ _)); refine blk_far ?_ NB834_835.out _; (with_reducible repeat (first | refine blk_drewN ?_ _ | refine blk_drew ?_ | refine blk_alloc ?_ _)); refine blk_far ?_ NB834_835.out _; (with_reducible repeat (first | refine blk_drewN ?_ _ | refine blk_drew ?_ | refine blk_alloc ?_ _)); exact BK834.out⟩, ⟨by (with_reducible repeat (first | refine blk_drewN ?_ _ | refine blk_drew ?_ | refine blk_alloc ?_ _)); refine blk_put (cs := #[.int .i64 0, .int .i64 0, .string (⟨#[]⟩ : ByteArray)]) ?_ 2 _ rfl; (with_reducible repeat (first | refine blk_drewN ?_ _ | refine blk_drew ?_ | refine blk_alloc ?_ _)); refine blk_put (cs := #[.int .i64 0, .int .i64 0, .string (⟨#[]⟩ : ByteArray)]) ?_ 1 _ rfl; (with_reducible repeat (first | refine blk_drewN ?_ _ | refine blk_drew ?_ | refine blk_alloc ?_ _)); refine blk_put (cs := #[.int .i64 0, .int .i64 0, .string (⟨#[]⟩ : ByteArray)]) ?_ 0 _ rfl; (with_reducible repeat (first | refine blk_drewN ?_ _ | refine blk_drew ?_ | refine blk_alloc ?_ _)); exact BK835.out⟩, ⟨by repeat (first | (with_reducible first | exact HB.out | apply below_alloc | apply pw_below_drewN | apply below_drew1 | refine below_set ?_ GE834.out | refine below_set ?_ GE835.out) | exact HB.out)⟩⟩
   ·rw [if_neg c8] at H
    have c8b0 : (a0.toList == ([116, 114, 117, 101] : List UInt8)) = false := beq_eq_false_iff_ne.mpr c8
    have c8b1 : (a0.toList != ([116, 114, 117, 101] : List UInt8)) = true := bne_iff_ne.mpr c8
    (first | rw [c8b0] | (simp only [i64_w, i32_w]; rw [c8b0]) | skip)
    have H' := Aside0.mk H
    clear H
    go_wp2
    go_meet
    case rel => exact ⟨_, ((a0.toList == ([102, 97, 108, 115, 101] : List UInt8))), (by first | rfl | (simp; done) | (simp [*]; done)), H', ⟨by first | omega | exact Nat.le_refl _⟩, ⟨by (with_reducible repeat (first | refine blk_drewN ?_ _ | refine blk_drew ?_ | refine blk_alloc ?_ _)); refine blk_far ?_ NB834_835.out _; (with_reducible repeat (first | refine blk_drewN ?_ _ | refine blk_drew ?_ | refine blk_alloc ?_ _)); refine blk_far ?_ NB834_835.out _; (with_reducible repeat (first | refine blk_drewN ?_ _ | refine blk_drew ?_ | refine blk_alloc ?_ _)); refine blk_far ?_ NB834_835.out _; (with_reducible repeat (first | refine blk_drewN ?_ _ | refine blk_drew ?_ | refine blk_alloc ?_ _)); exact BK834.out⟩, ⟨by (with_reducible repeat (first | refine blk_drewN ?_ _ | refine blk_drew ?_ | refine blk_alloc ?_ _)); refine blk_put (cs := #[.int .i64 0, .int .i64 0, .string (⟨#[]⟩ : ByteArray)]) ?_ 2 _ rfl; (with_reducible repeat (first | refine blk_drewN ?_ _ | refine blk_drew ?_ | refine blk_alloc ?_ _)); refine blk_put (cs := #[.int .i64 0, .int .i64 0, .string (⟨#[]⟩ : ByteArray)]) ?_ 1 _ rfl; (with_reducible repeat (first | refine blk_drewN ?_ _ | refine blk_drew ?_ | refine blk_alloc ?_ _)); refine blk_put (cs := #[.int .i64 0, .int .i64 0, .string (⟨#[]⟩ : ByteArray)]) ?_ 0 _ rfl; (with_reducible repeat (first | refine blk_drewN ?_ _ | refine blk_drew ?_ | refine blk_alloc ?_ _)); exact BK835.out⟩, ⟨by repeat (first | (with_reducible first | exact HB.out | apply below_alloc | apply pw_below_drewN | apply below_drew1 | refine below_set ?_ GE834.out | refine below_set ?_ GE835.out) | exact HB.out)⟩⟩
  case rest =>
   clear HC7
   try clear p2
   try clear c4
   try clear c5
   try clear c8
   try clear c8b0
   try clear c8b1
   try clear hcz6_0
   try clear hcz6_1
   try clear hcz6_2
   try clear hfz6_0
   try clear hfz6_1
   try clear hfz6_2
   obtain ⟨kq, x10_6, rfl, HA, HJ6, BK834, BK835, HB⟩ := hcut
   cases kq with
   | zero => exact absurd HA.out (by simp [alumref19_Parse.j0])
   | succ kj6 =>
    have H := HA.out
    clear HA
    simp only [alumref19_Parse.j0] at H
    by_cases c9 : x10_6 = true
    ·subst c9
     have H1 : ((alumref19_Bool.f (a0.toList == ([116, 114, 117, 101] : List UInt8))).bind fun bt836 => (alumref19_Parse.j6 kj6 a0 bt836.1 bt836.2.1 bt836.2.2)) = some (r1, r2, r3, r4) := by rw [if_pos rfl] at H; exact H
     clear H
     have H := H1
     clear H1
     replace H := Option.bind_eq_some_iff.mp H
     obtain ⟨⟨t836, t837, t838⟩, A100, H⟩ := H
     replace H : (alumref19_Parse.j6 kj6 a0 t836 t837 t838) = some (r1, r2, r3, r4) := H
     have A10 := Aside0.mk A100
     clear A100
     have H' := Aside0.mk H
     clear H
     go_wp2_with (first | ((with_reducible refine gate_callee (f := 15) rfl ?_); refine goesL_ (some 19) rfl rfl Tryd.func15 (by kernel_rfl) rfl #[.bool (a0.toList == ([116, 114, 117, 101] : List UInt8))] rfl (by (try simp only [List.map_toArray, List.map_cons, List.map_nil]); first | done | rfl | (simp only [List.length_drop, List.length_take]; rfl)) ?_; (with_reducible refine (alumref19_Bool.calls (a0.toList == ([116, 114, 117, 101] : List UInt8)) t836 t837 t838 _ A10.out).mono ?_); rintro e w11 ⟨rfl, hb⟩; refine ⟨_, rfl, ?_⟩; replace BK834 := blkB BK834 hb; replace BK835 := blkB BK835 hb; replace HB := stepB HB hb; (try clear hb); (try clear hb2); (try clear hk); (try clear hi); have hnb12 := NB835_834.out; have hnc12 := NB834_835.out; have hcz13_0 : w11.cell? ⟨gb835, 0, none⟩ = some (.int .i64 0) := bc BK835 0; have hcz13_1 : w11.cell? ⟨gb835, 1, none⟩ = some (.int .i64 0) := bc BK835 1; have hcz13_2 : w11.cell? ⟨gb835, 2, none⟩ = some (.string (⟨#[]⟩ : ByteArray)) := bc BK835 2; have hfz13_0 := blk_frozen BK835.out 0; have hfz13_1 := blk_frozen BK835.out 1; have hfz13_2 := blk_frozen BK835.out 2))
     go_meet
     case rel => exact ⟨_, (t836), (t837), (t838), H', ⟨by have := HJ6.out; first | omega | exact Nat.le_refl _⟩, ⟨by (with_reducible repeat (first | refine blk_drewN ?_ _ | refine blk_drew ?_ | refine blk_alloc ?_ _)); refine blk_far ?_ NB834_835.out _; (with_reducible repeat (first | refine blk_drewN ?_ _ | refine blk_drew ?_ | refine blk_alloc ?_ _)); refine blk_far ?_ NB834_835.out _; (with_reducible repeat (first | refine blk_drewN ?_ _ | refine blk_drew ?_ | refine blk_alloc ?_ _)); refine blk_far ?_ NB834_835.out _; (with_reducible repeat (first | refine blk_drewN ?_ _ | refine blk_drew ?_ | refine blk_alloc ?_ _)); exact BK834.out⟩, ⟨by (with_reducible repeat (first | refine blk_drewN ?_ _ | refine blk_drew ?_ | refine blk_alloc ?_ _)); refine blk_put (cs := #[.int .i64 t836, .int .i64 t837, .string (⟨#[]⟩ : ByteArray)]) ?_ 2 _ rfl; (with_reducible repeat (first | refine blk_drewN ?_ _ | refine blk_drew ?_ | refine blk_alloc ?_ _)); refine blk_put (cs := #[.int .i64 t836, .int .i64 0, .string (⟨#[]⟩ : ByteArray)]) ?_ 1 _ rfl; (with_reducible repeat (first | refine blk_drewN ?_ _ | refine blk_drew ?_ | refine blk_alloc ?_ _)); refine blk_put (cs := #[.int .i64 0, .int .i64 0, .string (⟨#[]⟩ : ByteArray)]) ?_ 0 _ rfl; (with_reducible repeat (first | refine blk_drewN ?_ _ | refine blk_drew ?_ | refine blk_alloc ?_ _)); exact BK835.out⟩, ⟨by repeat (first | (with_reducible first | exact HB.out | apply below_alloc | apply pw_below_drewN | apply below_drew1 | refine below_set ?_ GE834.out | refine below_set ?_ GE835.out) | exact HB.out)⟩⟩
    ·replace c9 := Bool.eq_false_iff.mpr c9
     subst c9
     have H1 : (if (a0.size : Int) > 0 then (if 0 < (a0.size : Int) then (alumref19_Parse.j1 kj6 a0 ((bt a0 0) == 39) 0 0 (⟨#[]⟩ : ByteArray)) else (none)) else (alumref19_Parse.j1 kj6 a0 false 0 0 (⟨#[]⟩ : ByteArray))) = some (r1, r2, r3, r4) := by rw [if_neg (show ¬ (false = true) by decide)] at H; exact H
     clear H
     have H := H1
     clear H1
     have HC14 := Aside0.mk H
     clear H
     go_upto_region 4 with (fail)
     go_cut [20] (fun v20 wc => ∃ (kq : Nat) (x20_13 : Bool), v20 = .bool x20_13 ∧ Aside0 (alumref19_Parse.j1 kq a0 x20_13 0 0 (⟨#[]⟩ : ByteArray) = some (r1, r2, r3, r4)) ∧ Aside0 (kq ≤ kj6) ∧ Aside0 (wc.heap[gb834]? = some (.cells #[.int .i64 0, .int .i64 0, .string (⟨#[]⟩ : ByteArray)] 23 (0, 0))) ∧ Aside0 (wc.heap[gb835]? = some (.cells #[.int .i64 0, .int .i64 0, .string (⟨#[]⟩ : ByteArray)] 23 (0, 0))) ∧ Aside0 (Below w.heap.size w wc))
     case first =>
      have H := HC14.out
      clear HC14
      by_cases c15 : (a0.size : Int) > 0
      ·rw [if_pos c15] at H
       have c15b0 : decide (0 < (a0.size : Int)) = true := decide_eq_true c15
       have c15b1 : decide (0 < a0.size) = true := decide_eq_true (by omega)
       clear c15
       (first | rw [c15b0] | (simp only [i64_w, i32_w]; rw [c15b0]) | skip)
       by_cases c16 : 0 < (a0.size : Int)
       ·rw [if_pos c16] at H
        have c16b0 : decide (0 < (a0.size : Int)) = true := decide_eq_true c16
        have c16b1 : decide (0 < a0.size) = true := decide_eq_true (by omega)
        clear c16
        have H' := Aside0.mk H
        clear H
        have p17 : 0 ≤ (0 : Int) := (by omega)
        have q17 : 0 < a0.size := (by have : (0 : Int) < (a0.size : Int) := of_decide_eq_true (by first | (with_reducible assumption) | assumption); omega)
        have hx17 : ∀ h : 0 < a0.size, ((a0[0]'h).toNat : Int) = bt a0 0 := bt_at a0 0
        clear p17
        have qi17 : (0 < (a0.size : Int)) = True := eq_true (of_decide_eq_true (by first | (with_reducible assumption) | assumption))
        replace q17 := eq_true q17
        go_wp2
        go_meet
        case rel => exact ⟨_, (((bt a0 0) == 39)), (by first | rfl | (simp; done) | (simp [*]; done)), H', ⟨by have := HJ6.out; first | omega | exact Nat.le_refl _⟩, ⟨by (with_reducible repeat (first | refine blk_drewN ?_ _ | refine blk_drew ?_ | refine blk_alloc ?_ _)); exact BK834.out⟩, ⟨by (with_reducible repeat (first | refine blk_drewN ?_ _ | refine blk_drew ?_ | refine blk_alloc ?_ _)); exact BK835.out⟩, ⟨by repeat (first | (with_reducible first | exact HB.out | apply below_alloc | apply pw_below_drewN | apply below_drew1 | refine below_set ?_ GE834.out | refine below_set ?_ GE835.out) | exact HB.out)⟩⟩
       ·rw [if_neg c16] at H
        exact absurd H (by simp)
      ·rw [if_neg c15] at H
       have c15b0 : decide (0 < (a0.size : Int)) = false := decide_eq_false c15
       have c15b1 : decide (0 < a0.size) = false := decide_eq_false (by omega)
       clear c15
       (first | rw [c15b0] | (simp only [i64_w, i32_w]; rw [c15b0]) | skip)
       have H' := Aside0.mk H
       clear H
       go_wp2
       go_meet
       case rel => exact ⟨_, (false), (by first | rfl | (simp; done) | (simp [*]; done)), H', ⟨by have := HJ6.out; first | omega | exact Nat.le_refl _⟩, ⟨by (with_reducible repeat (first | refine blk_drewN ?_ _ | refine blk_drew ?_ | refine blk_alloc ?_ _)); exact BK834.out⟩, ⟨by (with_reducible repeat (first | refine blk_drewN ?_ _ | refine blk_drew ?_ | refine blk_alloc ?_ _)); exact BK835.out⟩, ⟨by repeat (first | (with_reducible first | exact HB.out | apply below_alloc | apply pw_below_drewN | apply below_drew1 | refine below_set ?_ GE834.out | refine below_set ?_ GE835.out) | exact HB.out)⟩⟩
     case rest =>
      clear HC14
      try clear c1
      try clear p1
      try clear q1
      try clear hx1
      try clear qi1
      try clear p2
      try clear c4
      try clear c5
      try clear c8
      try clear c8b0
      try clear c8b1
      try clear c9
      try clear c12
      try clear c15
      try clear c15b0
      try clear c15b1
      try clear c16
      try clear c16b0
      try clear c16b1
      try clear p17
      try clear q17
      try clear hx17
      try clear qi17
      try clear hcz13_0
      try clear hcz13_1
      try clear hcz13_2
      try clear hcz6_0
      try clear hcz6_1
      try clear hcz6_2
      try clear hfz13_0
      try clear hfz13_1
      try clear hfz13_2
      try clear hfz6_0
      try clear hfz6_1
      try clear hfz6_2
      try clear p17
      try clear p2
      try clear q17
      obtain ⟨kq, x20_13, rfl, HA, HJ13, BK834, BK835, HB⟩ := hcut
      cases kq with
      | zero => exact absurd HA.out (by simp [alumref19_Parse.j1])
      | succ kj13 =>
       have H := HA.out
       clear HA
       simp only [alumref19_Parse.j1] at H
       by_cases c18 : x20_13 = true
       ·subst c18
        have H1 : (alumref19_Parse.l0 kj13 a0 ([] : List Int) 1 2 0 (⟨#[]⟩ : ByteArray)) = some (r1, r2, r3, r4) := by rw [if_pos rfl] at H; exact H
        clear H
        have H := H1
        clear H1
        have H' := Aside0.mk H
        clear H
        have hnb19 := NB835_834.out
        have hnc19 := NB834_835.out
        have hcz20_0 : wc.cell? ⟨gb835, 0, none⟩ = some (.int .i64 0) := bc BK835 0
        have hcz20_1 : wc.cell? ⟨gb835, 1, none⟩ = some (.int .i64 0) := bc BK835 1
        have hcz20_2 : wc.cell? ⟨gb835, 2, none⟩ = some (.string (⟨#[]⟩ : ByteArray)) := bc BK835 2
        have hfz20_0 := blk_frozen BK835.out 0
        have hfz20_1 := blk_frozen BK835.out 1
        have hfz20_2 := blk_frozen BK835.out 2
        go_wp2
        go_loopg [5, 6] kj13 (fun kq v5 v6 w' => ∃ (x5_3 : List Int) (x6_3 : Int), v6 = .int .i64 x6_3 ∧ Aside0 (alumref19_Parse.l0 kq a0 x5_3 x6_3 2 0 (⟨#[]⟩ : ByteArray) = some (r1, r2, r3, r4)) ∧ Aside0 (kq ≤ kj13) ∧ Aside0 (Kd.R (Kd.int .u8) 5 w' w.heap.size (fun _ => True) v5 x5_3) ∧ Aside0 (w'.heap[gb834]? = some (.cells #[.int .i64 0, .int .i64 0, .string (⟨#[]⟩ : ByteArray)] 23 (0, 0))) ∧ Aside0 (w'.heap[gb835]? = some (.cells #[.int .i64 2, .int .i64 0, .string (⟨#[]⟩ : ByteArray)] 23 (0, 0))) ∧ Aside0 (Below w.heap.size w w'))
        case atStart => exact ⟨(([] : List Int)), (1), (by first | rfl | (simp; done) | (simp [*]; done)), H', ⟨Nat.le_refl _⟩, ⟨by first | exact Kd.R_nil _ _ _ _ _ | exact Kd.N_nil _ _ _ _ _ | exact Kd.V_nil _ _ _ _ _ | exact Kd.Q_nil _ _ _ _ _ | exact Kd.S_nil _ _ _ _ _⟩, ⟨by (with_reducible repeat (first | refine blk_drewN ?_ _ | refine blk_drew ?_ | refine blk_alloc ?_ _)); refine blk_far ?_ NB834_835.out _; (with_reducible repeat (first | refine blk_drewN ?_ _ | refine blk_drew ?_ | refine blk_alloc ?_ _)); exact BK834.out⟩, ⟨by (with_reducible repeat (first | refine blk_drewN ?_ _ | refine blk_drew ?_ | refine blk_alloc ?_ _)); refine blk_put (cs := #[.int .i64 0, .int .i64 0, .string (⟨#[]⟩ : ByteArray)]) ?_ 0 _ rfl; (with_reducible repeat (first | refine blk_drewN ?_ _ | refine blk_drew ?_ | refine blk_alloc ?_ _)); exact BK835.out⟩, ⟨by repeat (first | (with_reducible first | exact HB.out | apply below_alloc | apply pw_below_drewN | apply below_drew1 | refine below_set ?_ GE834.out | refine below_set ?_ GE835.out) | exact HB.out)⟩⟩
        case round =>
         clear H'
         try clear c1
         try clear p1
         try clear q1
         try clear hx1
         try clear qi1
         try clear p2
         try clear c4
         try clear c5
         try clear c8
         try clear c8b0
         try clear c8b1
         try clear c9
         try clear c12
         try clear c15
         try clear c15b0
         try clear c15b1
         try clear c16
         try clear c16b0
         try clear c16b1
         try clear p17
         try clear q17
         try clear hx17
         try clear qi17
         try clear c18
         try clear c19
         try clear hcz13_0
         try clear hcz13_1
         try clear hcz13_2
         try clear hcz20_0
         try clear hcz20_1
         try clear hcz20_2
         try clear hcz6_0
         try clear hcz6_1
         try clear hcz6_2
         try clear hfz13_0
         try clear hfz13_1
         try clear hfz13_2
         try clear hfz20_0
         try clear hfz20_1
         try clear hfz20_2
         try clear hfz6_0
         try clear hfz6_1
         try clear hfz6_2
         try clear p1
         try clear p17
         try clear p2
         try clear q1
         try clear q17
         obtain ⟨x5_3, x6_3, rfl, HA, HK3, HO_5, BK834, BK835, HB⟩ := hrel
         cases gk with
         | zero => exact absurd HA.out (by simp [alumref19_Parse.l0])
         | succ k3 =>
          have H := HA.out
          clear HA
          simp only [alumref19_Parse.l0] at H
          by_cases c21 : x6_3 < (wrap64 ((a0.size : Int) - 1))
          ·rw [if_pos c21] at H
           have c21b0 : decide (x6_3 < (wrap64 ((a0.size : Int) - 1))) = true := decide_eq_true c21
           clear c21
           by_cases c22 : 0 ≤ x6_3
           ·rw [if_pos c22] at H
            have c22b0 : decide (0 ≤ x6_3) = true := decide_eq_true c22
            clear c22
            by_cases c23 : x6_3 < (a0.size : Int)
            ·rw [if_pos c23] at H
             have c23b0 : decide (x6_3 < (a0.size : Int)) = true := decide_eq_true c23
             clear c23
             have HC25 := Aside0.mk H
             clear H
             have p24 : 0 ≤ (x6_3 : Int) := of_decide_eq_true (by first | (with_reducible assumption) | assumption)
             have q24 : x6_3 < (a0.size : Int) := of_decide_eq_true (by first | (with_reducible assumption) | assumption)
             have hx24 := bt_at a0 x6_3
             replace p24 := eq_true p24
             replace q24 := eq_true q24
             go_upto_region 11 with (fail)
             go_cut [48] (fun v48 wc => ∃ (kq : Nat) (x48_24 : Bool), v48 = .bool x48_24 ∧ Aside0 (alumref19_Parse.j3 kq a0 x5_3 x6_3 (bt a0 x6_3) x48_24 2 0 (⟨#[]⟩ : ByteArray) = some (r1, r2, r3, r4)) ∧ Aside0 (kq ≤ k3) ∧ Aside0 (Kd.R (Kd.int .u8) 5 wc w.heap.size (fun _ => True) u5 x5_3) ∧ Aside0 (wc.heap[gb834]? = some (.cells #[.int .i64 0, .int .i64 0, .string (⟨#[]⟩ : ByteArray)] 23 (0, 0))) ∧ Aside0 (wc.heap[gb835]? = some (.cells #[.int .i64 2, .int .i64 0, .string (⟨#[]⟩ : ByteArray)] 23 (0, 0))) ∧ Aside0 (Below w.heap.size w wc))
             case first =>
              have H := HC25.out
              clear HC25
              by_cases c26 : (bt a0 x6_3) = 92
              ·rw [if_pos c26] at H
               have c26b0 : ((bt a0 x6_3) == 92) = true := beq_iff_eq.mpr c26
               have c26b1 : ((bt a0 x6_3) != 92) = false := bne_eq_false_iff_eq.mpr c26
               clear c26
               (first | rw [c26b0] | (simp only [i64_w, i32_w]; rw [c26b0]) | skip)
               have H' := Aside0.mk H
               clear H
               go_wp2
               go_meet
               case rel => exact ⟨_, (decide ((wrap64 (x6_3 + 2)) < (a0.size : Int))), (by first | rfl | (simp; done) | (simp [*]; done)), H', ⟨by have := HJ6.out; have := HJ13.out; have := HK3.out; first | omega | exact Nat.le_refl _⟩, ⟨by (with_reducible repeat (first | apply Kd.R_alloc | apply Kd.R_drewN | apply Kd.R_drew)); exact HO_5.out⟩, ⟨by (with_reducible repeat (first | refine blk_drewN ?_ _ | refine blk_drew ?_ | refine blk_alloc ?_ _)); exact BK834.out⟩, ⟨by (with_reducible repeat (first | refine blk_drewN ?_ _ | refine blk_drew ?_ | refine blk_alloc ?_ _)); exact BK835.out⟩, ⟨by repeat (first | (with_reducible first | exact HB.out | apply below_alloc | apply pw_below_drewN | apply below_drew1 | refine below_set ?_ GE834.out | refine below_set ?_ GE835.out) | exact HB.out)⟩⟩
              ·rw [if_neg c26] at H
               have c26b0 : ((bt a0 x6_3) == 92) = false := beq_eq_false_iff_ne.mpr c26
               have c26b1 : ((bt a0 x6_3) != 92) = true := bne_iff_ne.mpr c26
               (first | rw [c26b0] | (simp only [i64_w, i32_w]; rw [c26b0]) | skip)
               have H' := Aside0.mk H
               clear H
               go_wp2
               go_meet
               case rel => exact ⟨_, (false), (by first | rfl | (simp; done) | (simp [*]; done)), H', ⟨by have := HJ6.out; have := HJ13.out; have := HK3.out; first | omega | exact Nat.le_refl _⟩, ⟨by (with_reducible repeat (first | apply Kd.R_alloc | apply Kd.R_drewN | apply Kd.R_drew)); exact HO_5.out⟩, ⟨by (with_reducible repeat (first | refine blk_drewN ?_ _ | refine blk_drew ?_ | refine blk_alloc ?_ _)); exact BK834.out⟩, ⟨by (with_reducible repeat (first | refine blk_drewN ?_ _ | refine blk_drew ?_ | refine blk_alloc ?_ _)); exact BK835.out⟩, ⟨by repeat (first | (with_reducible first | exact HB.out | apply below_alloc | apply pw_below_drewN | apply below_drew1 | refine below_set ?_ GE834.out | refine below_set ?_ GE835.out) | exact HB.out)⟩⟩
             case rest =>
              clear HC25
              try clear c1
              try clear p1
              try clear q1
              try clear hx1
              try clear qi1
              try clear c2
              try clear p2
              try clear q2
              try clear hx2
              try clear c4
              try clear c5
              try clear p6
              try clear c8
              try clear c8b0
              try clear c8b1
              try clear c9
              try clear c12
              try clear c15
              try clear c15b0
              try clear c15b1
              try clear c16
              try clear c16b0
              try clear c16b1
              try clear p17
              try clear q17
              try clear hx17
              try clear qi17
              try clear c18
              try clear c19
              try clear c21
              try clear c21b0
              try clear c22
              try clear c22b0
              try clear c23
              try clear c23b0
              try clear p24
              try clear q24
              try clear hx24
              try clear c26
              try clear c26b0
              try clear c26b1
              try clear hcz13_0
              try clear hcz13_1
              try clear hcz13_2
              try clear hcz20_0
              try clear hcz20_1
              try clear hcz20_2
              try clear hcz6_0
              try clear hcz6_1
              try clear hcz6_2
              try clear hfz13_0
              try clear hfz13_1
              try clear hfz13_2
              try clear hfz20_0
              try clear hfz20_1
              try clear hfz20_2
              try clear hfz6_0
              try clear hfz6_1
              try clear hfz6_2
              try clear p1
              try clear p17
              try clear p2
              try clear p24
              try clear q1
              try clear q17
              try clear q24
              obtain ⟨kq, x48_24, rfl, HA, HJ24, HO_5, BK834, BK835, HB⟩ := hcut
              cases kq with
              | zero => exact absurd HA.out (by simp [alumref19_Parse.j3])
              | succ kj24 =>
               have H := HA.out
               clear HA
               simp only [alumref19_Parse.j3] at H
               by_cases c27 : x48_24 = true
               ·subst c27
                have H1 : (if 0 ≤ (wrap64 (x6_3 + 1)) then (if (wrap64 (x6_3 + 1)) < (a0.size : Int) then ((alumref19_digit.f kj24 (bt a0 (wrap64 (x6_3 + 1)))).bind fun t839 => (if 0 ≤ (wrap64 (x6_3 + 2)) then (if (wrap64 (x6_3 + 2)) < (a0.size : Int) then ((alumref19_digit.f kj24 (bt a0 (wrap64 (x6_3 + 2)))).bind fun t840 => (if x5_3.length < 140737488355328 then (alumref19_Parse.l0 kj24 a0 (x5_3 ++ [(wrap64 ((wrap64 ((mx 0 t839) * 16)) + (mx 0 t840))) % 256]) (wrap64 ((wrap64 (x6_3 + 2)) + 1)) 2 0 (⟨#[]⟩ : ByteArray)) else (none))) else (none)) else (none))) else (none)) else (none)) = some (r1, r2, r3, r4) := by rw [if_pos rfl] at H; exact H
                clear H
                have H := H1
                clear H1
                obtain ⟨ji28, hji28⟩ : ∃ j_ : Int, (wrap64 (x6_3 + 1)) = j_ := ⟨_, rfl⟩
                replace H : (if 0 ≤ (ji28) then (if (ji28) < (a0.size : Int) then ((alumref19_digit.f kj24 (bt a0 (ji28))).bind fun t839 => (if 0 ≤ (wrap64 (x6_3 + 2)) then (if (wrap64 (x6_3 + 2)) < (a0.size : Int) then ((alumref19_digit.f kj24 (bt a0 (wrap64 (x6_3 + 2)))).bind fun t840 => (if x5_3.length < 140737488355328 then (alumref19_Parse.l0 kj24 a0 (x5_3 ++ [(wrap64 ((wrap64 ((mx 0 t839) * 16)) + (mx 0 t840))) % 256]) (wrap64 ((wrap64 (x6_3 + 2)) + 1)) 2 0 (⟨#[]⟩ : ByteArray)) else (none))) else (none)) else (none))) else (none)) else (none)) = some (r1, r2, r3, r4) := by first | (rw [hji28] at H; exact H) | (simp only [hji28] at H ⊢; exact H)
                have hji28w : (IntKind.i64.wrap (x6_3 + 1)) = ji28 := (i64_w _).trans hji28
                by_cases c29 : 0 ≤ (ji28)
                ·rw [if_pos c29] at H
                 have c29b0 : decide (0 ≤ (ji28)) = true := decide_eq_true c29
                 clear c29
                 by_cases c30 : (ji28) < (a0.size : Int)
                 ·rw [if_pos c30] at H
                  have c30b0 : decide ((ji28) < (a0.size : Int)) = true := decide_eq_true c30
                  clear c30
                  replace H := Option.bind_eq_some_iff.mp H
                  obtain ⟨t839, A320, H⟩ := H
                  replace H : (if 0 ≤ (wrap64 (x6_3 + 2)) then (if (wrap64 (x6_3 + 2)) < (a0.size : Int) then ((alumref19_digit.f kj24 (bt a0 (wrap64 (x6_3 + 2)))).bind fun t840 => (if x5_3.length < 140737488355328 then (alumref19_Parse.l0 kj24 a0 (x5_3 ++ [(wrap64 ((wrap64 ((mx 0 t839) * 16)) + (mx 0 t840))) % 256]) (wrap64 ((wrap64 (x6_3 + 2)) + 1)) 2 0 (⟨#[]⟩ : ByteArray)) else (none))) else (none)) else (none)) = some (r1, r2, r3, r4) := H
                  have A32 := Aside0.mk A320
                  clear A320
                  obtain ⟨ji33, hji33⟩ : ∃ j_ : Int, (mx 0 t839) = j_ := ⟨_, rfl⟩
                  replace H : (if 0 ≤ (wrap64 (x6_3 + 2)) then (if (wrap64 (x6_3 + 2)) < (a0.size : Int) then ((alumref19_digit.f kj24 (bt a0 (wrap64 (x6_3 + 2)))).bind fun t840 => (if x5_3.length < 140737488355328 then (alumref19_Parse.l0 kj24 a0 (x5_3 ++ [(wrap64 ((wrap64 ((ji33) * 16)) + (mx 0 t840))) % 256]) (wrap64 ((wrap64 (x6_3 + 2)) + 1)) 2 0 (⟨#[]⟩ : ByteArray)) else (none))) else (none)) else (none)) = some (r1, r2, r3, r4) := by first | (rw [hji33] at H; exact H) | (simp only [hji33] at H ⊢; exact H)
                  (try rw [hji33] at A32)
                  (try (have hji33l : 0 ≤ ji33 := by (rw [← hji33]; unfold mx; (repeat' split) <;> omega)))
                  (try (have hji33m : 0 ≤ ji33 := by omega))
                  have hji33_ : (if 0 < t839 then t839 else 0) = ji33 := hji33
                  obtain ⟨ji34, hji34⟩ : ∃ j_ : Int, (wrap64 (x6_3 + 2)) = j_ := ⟨_, rfl⟩
                  replace H : (if 0 ≤ (ji34) then (if (ji34) < (a0.size : Int) then ((alumref19_digit.f kj24 (bt a0 (ji34))).bind fun t840 => (if x5_3.length < 140737488355328 then (alumref19_Parse.l0 kj24 a0 (x5_3 ++ [(wrap64 ((wrap64 ((ji33) * 16)) + (mx 0 t840))) % 256]) (wrap64 ((ji34) + 1)) 2 0 (⟨#[]⟩ : ByteArray)) else (none))) else (none)) else (none)) = some (r1, r2, r3, r4) := by first | (rw [hji34] at H; exact H) | (simp only [hji34] at H ⊢; exact H)
                  (try rw [hji34] at A32)
                  have hji34w : (IntKind.i64.wrap (x6_3 + 2)) = ji34 := (i64_w _).trans hji34
                  by_cases c35 : 0 ≤ (ji34)
                  ·rw [if_pos c35] at H
                   have c35b0 : decide (0 ≤ (ji34)) = true := decide_eq_true c35
                   clear c35
                   by_cases c36 : (ji34) < (a0.size : Int)
                   ·rw [if_pos c36] at H
                    have c36b0 : decide ((ji34) < (a0.size : Int)) = true := decide_eq_true c36
                    clear c36
                    replace H := Option.bind_eq_some_iff.mp H
                    obtain ⟨t840, A380, H⟩ := H
                    replace H : (if x5_3.length < 140737488355328 then (alumref19_Parse.l0 kj24 a0 (x5_3 ++ [(wrap64 ((wrap64 ((ji33) * 16)) + (mx 0 t840))) % 256]) (wrap64 ((ji34) + 1)) 2 0 (⟨#[]⟩ : ByteArray)) else (none)) = some (r1, r2, r3, r4) := H
                    have A38 := Aside0.mk A380
                    clear A380
                    obtain ⟨ji39, hji39⟩ : ∃ j_ : Int, (mx 0 t840) = j_ := ⟨_, rfl⟩
                    replace H : (if x5_3.length < 140737488355328 then (alumref19_Parse.l0 kj24 a0 (x5_3 ++ [(wrap64 ((wrap64 ((ji33) * 16)) + (ji39))) % 256]) (wrap64 ((ji34) + 1)) 2 0 (⟨#[]⟩ : ByteArray)) else (none)) = some (r1, r2, r3, r4) := by first | (rw [hji39] at H; exact H) | (simp only [hji39] at H ⊢; exact H)
                    (try rw [hji39] at A32)
                    (try rw [hji39] at A38)
                    (try (have hji39l : 0 ≤ ji39 := by (rw [← hji39]; unfold mx; (repeat' split) <;> omega)))
                    (try (have hji39m : 0 ≤ ji39 := by omega))
                    have hji39_ : (if 0 < t840 then t840 else 0) = ji39 := hji39
                    by_cases c40 : x5_3.length < 140737488355328
                    ·rw [if_pos c40] at H
                     have LMc40 := Aside0.mk c40
                     clear c40
                     obtain ⟨y841, hy841⟩ : ∃ y_ : List Int, y_ = (x5_3 ++ [(wrap64 ((wrap64 ((ji33) * 16)) + (ji39))) % 256]) := ⟨_, rfl⟩
                     replace H : (alumref19_Parse.l0 kj24 a0 y841 (wrap64 ((ji34) + 1)) 2 0 (⟨#[]⟩ : ByteArray)) = some (r1, r2, r3, r4) := by first | (rw [hy841]; with_reducible exact H) | (have H2_ := (Option.bind_some _ _).symm.trans H; rw [hy841]; with_reducible exact H2_) | (have H2_ := (Option.bind_some _ _).symm.trans H; with_reducible exact H2_) | with_reducible exact H | (rw [hy841]; exact H) | exact H
                     have Ny841 := Aside0.mk hy841
                     clear hy841
                     have H' := Aside0.mk H
                     clear H
                     try go_wp2
                     replace HO_5 := Aside0.mk (Kd.R_drew HO_5.out)
                     replace BK834 := Aside0.mk (blk_drew BK834.out)
                     replace BK835 := Aside0.mk (blk_drew BK835.out)
                     replace HB := Aside0.mk (below_drew1 HB.out)
                     have p31 : 0 ≤ ((ji28) : Int) := of_decide_eq_true (by first | (with_reducible assumption) | assumption)
                     have q31 : (ji28) < (a0.size : Int) := of_decide_eq_true (by first | (with_reducible assumption) | assumption)
                     have hx31 := bt_at a0 (ji28)
                     replace p31 := eq_true p31
                     replace q31 := eq_true q31
                     have p37 : 0 ≤ ((ji34) : Int) := of_decide_eq_true (by first | (with_reducible assumption) | assumption)
                     have q37 : (ji34) < (a0.size : Int) := of_decide_eq_true (by first | (with_reducible assumption) | assumption)
                     have hx37 := bt_at a0 (ji34)
                     replace p37 := eq_true p37
                     replace q37 := eq_true q37
                     refine start_ (n := 16) (S := fun w' => True) (ds := []) #[false, false, false, false, false, false, false, false, false, false, false, false, false, false, false, false] (by kernel_rfl) rfl rfl trivial (fun hHeld => ?_); refine with_tabW alumref19_Parse.tab12 alumref19_Parse.bits12 (fun HT_ HW_ => ?_)
                     generalize wc.drew = w41 at HO_5 BK834 BK835 HB hHeld ⊢
                     refine pureA 0 49 #[true, false, false, false, false, false, false, false, false, false, false, false, false, false, false, false] HT_ ?_
                     refine pureA 1 50 #[true, true, false, false, false, false, false, false, false, false, false, false, false, false, false, false] HT_ ?_
                     refine pureA 2 51 #[true, true, true, false, false, false, false, false, false, false, false, false, false, false, false, false] HT_ ?_
                     refine pureA 7 56 #[true, true, true, false, false, false, false, true, false, false, false, false, false, false, false, false] HT_ ?_
                     refine pureA 8 57 #[true, true, true, false, false, false, false, true, true, false, false, false, false, false, false, false] HT_ ?_
                     refine pureA 9 58 #[true, true, true, false, false, false, false, true, true, true, false, false, false, false, false, false] HT_ ?_
                     refine take_ (i := 3) (N := some 52) (v := ?_) (a' := ?_) #[true, true, true, true, false, false, false, true, true, true, false, false, false, false, false, false] rfl rfl (take_ofW HT_.out HW_.out (by kernel_rfl)) (fun _ _ _ h => h) (Or.inl ⟨by rfl, ?_⟩) hHeld ?_ ?_
                     rotate_left
                     ·intro w' _
                      go_simp
                      with_reducible rfl
                     rotate_left
                     ·simp only [Act.put, List.setIfInBounds_toArray, List.set_cons_zero, List.set_cons_succ, i64_w, i32_w]
                      rfl
                     refine take_ (i := 10) (N := some 59) (v := ?_) (a' := ?_) #[true, true, true, true, false, false, false, true, true, true, true, false, false, false, false, false] rfl rfl (take_ofW HT_.out HW_.out (by kernel_rfl)) (fun _ _ _ h => h) (Or.inl ⟨by rfl, ?_⟩) hHeld ?_ ?_
                     rotate_left
                     ·intro w' _
                      go_simp
                      with_reducible rfl
                     rotate_left
                     ·simp only [Act.put, List.setIfInBounds_toArray, List.set_cons_zero, List.set_cons_succ, i64_w, i32_w]
                      rfl
                     refine one_ (i := 4) (N := some 53) #[true, true, true, true, true, false, false, true, true, true, true, false, false, false, false, false] rfl rfl (one_of HT_.out (by kernel_rfl)) (by decide) (fun K hK => ?_)
                     refine goes_ Tryd.func66 (by kernel_rfl) rfl #[.int .u8 (bt a0 (ji28))] (by rfl) rfl rfl (by (try simp only [List.map_toArray, List.map_cons, List.map_nil]); first | done | (simp only [hji28]; rfl) | rfl | (simp only [List.length_drop, List.length_take]; rfl)) ?_
                     with_reducible refine (alumref19_digit.calls kj24 (bt a0 (ji28)) t839 _ A32.out).mono ?_
                     rintro e w' ⟨rfl, ⟨nd, rfl⟩⟩
                     refine ⟨_, rfl, ?_⟩
                     refine hK.out _ _ trivial (fun hHeld => ?_)
                     clear hK K
                     refine normA 53 ?_
                     refine pureA 5 54 #[true, true, true, true, true, true, false, true, true, true, true, false, false, false, false, false] HT_ ?_
                     refine pureA 6 55 #[true, true, true, true, true, true, true, true, true, true, true, false, false, false, false, false] HT_ ?_
                     refine one_ (i := 11) (N := some 60) #[true, true, true, true, true, true, true, true, true, true, true, true, false, false, false, false] rfl rfl (one_of HT_.out (by kernel_rfl)) (by decide) (fun K hK => ?_)
                     refine goes_ Tryd.func66 (by kernel_rfl) rfl #[.int .u8 (bt a0 (ji34))] (by rfl) rfl rfl (by (try simp only [List.map_toArray, List.map_cons, List.map_nil]); first | done | (simp only [hji34]; rfl) | rfl | (simp only [List.length_drop, List.length_take]; rfl)) ?_
                     with_reducible refine (alumref19_digit.calls kj24 (bt a0 (ji34)) t840 _ A38.out).mono ?_
                     rintro e w' ⟨rfl, ⟨nd, rfl⟩⟩
                     refine ⟨_, rfl, ?_⟩
                     refine hK.out _ _ trivial (fun hHeld => ?_)
                     clear hK K
                     refine normA 60 ?_
                     refine pureA 12 61 #[true, true, true, true, true, true, true, true, true, true, true, true, true, false, false, false] HT_ ?_
                     refine pureA 13 62 #[true, true, true, true, true, true, true, true, true, true, true, true, true, true, false, false] HT_ ?_
                     refine pureA 14 63 #[true, true, true, true, true, true, true, true, true, true, true, true, true, true, true, false] HT_ ?_
                     refine pureA 15 7 #[true, true, true, true, true, true, true, true, true, true, true, true, true, true, true, true] HT_ ?_
                     refine done_ (done_of HT_.out (by kernel_rfl)) ?_
                     try go_wp2_with (first | ((with_reducible refine gate_builtin (b := .append) (xs := #[.tmp 66, .tmp 68]) rfl ?_); (try (refine gate_guard (by rfl) ?_; dsimp only)); at_builtin; refine Kd.R_append (Kd.int .u8) (w0 := w) w.heap.size rfl (.tmp 66) (.tmp 68) 63 5 (.int .u8 0) 1 rfl Tryd.underlying63 info5 rfl (by decide) (by omega) u5 x5_3 ((wrap64 ((wrap64 ((ji33) * 16)) + (ji39))) % 256) [.int .u8 ((wrap64 ((wrap64 ((ji33) * 16)) + (ji39))) % 256)] (fun _ => True) (fun _ => False) rfl rfl ?aP (fun _ hk => hk.elim) ?aF ?aO ?aB ?aS ?aL ?_; (case aP => exact rfl); (case aB => exact (by repeat (first | (with_reducible first | exact HB.out | apply below_alloc | apply pw_below_drewN | apply below_drew1 | refine below_set ?_ GE834.out | refine below_set ?_ GE835.out) | exact HB.out))); (case aF => exact (fun _ _ => trivial)); (case aO => exact (by (with_reducible repeat (first | apply Kd.R_alloc | apply Kd.R_drewN | apply Kd.R_drew)); exact HO_5.out)); (case aS => exact (below_size (by repeat (first | (with_reducible first | exact HB.out | apply below_alloc | apply pw_below_drewN | apply below_drew1 | refine below_set ?_ GE834.out | refine below_set ?_ GE835.out) | exact HB.out)))); (case aL => have := LMc40.out; omega); intro v842 w42 ho hb hg hat; rw [← Ny841.out] at ho; have HO843 := Aside0.mk (ho); replace BK834 := Aside0.mk (blk_grown (g := gb834) (o := .cells #[.int .i64 0, .int .i64 0, .string (⟨#[]⟩ : ByteArray)] 23 (0, 0)) (by (with_reducible repeat (first | refine blk_drewN ?_ _ | refine blk_drew ?_ | refine blk_alloc ?_ _)); exact BK834.out) hg (Kd.R_ne HO_5.out BK834.out (by decide))); replace BK835 := Aside0.mk (blk_grown (g := gb835) (o := .cells #[.int .i64 2, .int .i64 0, .string (⟨#[]⟩ : ByteArray)] 23 (0, 0)) (by (with_reducible repeat (first | refine blk_drewN ?_ _ | refine blk_drew ?_ | refine blk_alloc ?_ _)); exact BK835.out) hg (Kd.R_ne HO_5.out BK835.out (by decide))); replace HB := Aside0.mk (hb); clear HO_5; clear ho hb hg hat))
                     go_roundg kj24
                     case measure => have := HJ6.out; have := HJ13.out; have := HK3.out; have := HJ24.out; omega
                     case rel => exact ⟨(y841), (wrap64 ((ji34) + 1)), (by first | rfl | (simp; done) | (simp only [← hji34] <;> (first | rfl | simp)) | (simp [*]; done)), H', ⟨by have := HJ6.out; have := HJ13.out; have := HK3.out; have := HJ24.out; omega⟩, ⟨by (with_reducible repeat (first | apply Kd.R_alloc | apply Kd.R_drewN | apply Kd.R_drew)); exact HO843.out⟩, ⟨by (with_reducible repeat (first | refine blk_drewN ?_ _ | refine blk_drew ?_ | refine blk_alloc ?_ _)); exact BK834.out⟩, ⟨by (with_reducible repeat (first | refine blk_drewN ?_ _ | refine blk_drew ?_ | refine blk_alloc ?_ _)); exact BK835.out⟩, ⟨by repeat (first | (with_reducible first | exact HB.out | apply below_alloc | apply pw_below_drewN | apply below_drew1 | refine below_set ?_ GE834.out | refine below_set ?_ GE835.out) | exact HB.out)⟩⟩
                    ·rw [if_neg c40] at H
                     exact absurd H (by simp)
                   ·rw [if_neg c36] at H
                    exact absurd H (by simp)
                  ·rw [if_neg c35] at H
                   exact absurd H (by simp)
                 ·rw [if_neg c30] at H
                  exact absurd H (by simp)
                ·rw [if_neg c29] at H
                 exact absurd H (by simp)
               ·replace c27 := Bool.eq_false_iff.mpr c27
                subst c27
                have H1 : (if x5_3.length < 140737488355328 then (alumref19_Parse.l0 kj24 a0 (x5_3 ++ [(bt a0 x6_3)]) (wrap64 (x6_3 + 1)) 2 0 (⟨#[]⟩ : ByteArray)) else (none)) = some (r1, r2, r3, r4) := by rw [if_neg (show ¬ (false = true) by decide)] at H; exact H
                clear H
                have H := H1
                clear H1
                by_cases c43 : x5_3.length < 140737488355328
                ·rw [if_pos c43] at H
                 have LMc43 := Aside0.mk c43
                 clear c43
                 obtain ⟨y844, hy844⟩ : ∃ y_ : List Int, y_ = (x5_3 ++ [(bt a0 x6_3)]) := ⟨_, rfl⟩
                 replace H : (alumref19_Parse.l0 kj24 a0 y844 (wrap64 (x6_3 + 1)) 2 0 (⟨#[]⟩ : ByteArray)) = some (r1, r2, r3, r4) := by first | (rw [hy844]; with_reducible exact H) | (have H2_ := (Option.bind_some _ _).symm.trans H; rw [hy844]; with_reducible exact H2_) | (have H2_ := (Option.bind_some _ _).symm.trans H; with_reducible exact H2_) | with_reducible exact H | (rw [hy844]; exact H) | exact H
                 have Ny844 := Aside0.mk hy844
                 clear hy844
                 have H' := Aside0.mk H
                 clear H
                 go_wp2_with (first | ((with_reducible refine gate_builtin (b := .append) (xs := #[.tmp 66, .tmp 68]) rfl ?_); (try (refine gate_guard (by rfl) ?_; dsimp only)); at_builtin; refine Kd.R_append (Kd.int .u8) (w0 := w) w.heap.size rfl (.tmp 66) (.tmp 68) 63 5 (.int .u8 0) 1 rfl Tryd.underlying63 info5 rfl (by decide) (by omega) u5 x5_3 (bt a0 x6_3) [.int .u8 (bt a0 x6_3)] (fun _ => True) (fun _ => False) rfl rfl ?aP (fun _ hk => hk.elim) ?aF ?aO ?aB ?aS ?aL ?_; (case aP => exact rfl); (case aB => exact (by repeat (first | (with_reducible first | exact HB.out | apply below_alloc | apply pw_below_drewN | apply below_drew1 | refine below_set ?_ GE834.out | refine below_set ?_ GE835.out) | exact HB.out))); (case aF => exact (fun _ _ => trivial)); (case aO => exact (by (with_reducible repeat (first | apply Kd.R_alloc | apply Kd.R_drewN | apply Kd.R_drew)); exact HO_5.out)); (case aS => exact (below_size (by repeat (first | (with_reducible first | exact HB.out | apply below_alloc | apply pw_below_drewN | apply below_drew1 | refine below_set ?_ GE834.out | refine below_set ?_ GE835.out) | exact HB.out)))); (case aL => have := LMc43.out; omega); intro v845 w44 ho hb hg hat; rw [← Ny844.out] at ho; have HO846 := Aside0.mk (ho); replace BK834 := Aside0.mk (blk_grown (g := gb834) (o := .cells #[.int .i64 0, .int .i64 0, .string (⟨#[]⟩ : ByteArray)] 23 (0, 0)) (by (with_reducible repeat (first | refine blk_drewN ?_ _ | refine blk_drew ?_ | refine blk_alloc ?_ _)); exact BK834.out) hg (Kd.R_ne HO_5.out BK834.out (by decide))); replace BK835 := Aside0.mk (blk_grown (g := gb835) (o := .cells #[.int .i64 2, .int .i64 0, .string (⟨#[]⟩ : ByteArray)] 23 (0, 0)) (by (with_reducible repeat (first | refine blk_drewN ?_ _ | refine blk_drew ?_ | refine blk_alloc ?_ _)); exact BK835.out) hg (Kd.R_ne HO_5.out BK835.out (by decide))); replace HB := Aside0.mk (hb); clear HO_5; clear ho hb hg hat))
                 go_roundg kj24
                 case measure => have := HJ6.out; have := HJ13.out; have := HK3.out; have := HJ24.out; omega
                 case rel => exact ⟨(y844), (wrap64 (x6_3 + 1)), (by first | rfl | (simp; done) | (simp [*]; done)), H', ⟨by have := HJ6.out; have := HJ13.out; have := HK3.out; have := HJ24.out; omega⟩, ⟨by (with_reducible repeat (first | apply Kd.R_alloc | apply Kd.R_drewN | apply Kd.R_drew)); exact HO846.out⟩, ⟨by (with_reducible repeat (first | refine blk_drewN ?_ _ | refine blk_drew ?_ | refine blk_alloc ?_ _)); exact BK834.out⟩, ⟨by (with_reducible repeat (first | refine blk_drewN ?_ _ | refine blk_drew ?_ | refine blk_alloc ?_ _)); exact BK835.out⟩, ⟨by repeat (first | (with_reducible first | exact HB.out | apply below_alloc | apply pw_below_drewN | apply below_drew1 | refine below_set ?_ GE834.out | refine below_set ?_ GE835.out) | exact HB.out)⟩⟩
                ·rw [if_neg c43] at H
                 exact absurd H (by simp)
            ·rw [if_neg c23] at H
             exact absurd H (by simp)
           ·rw [if_neg c22] at H
            exact absurd H (by simp)
          ·rw [if_neg c21] at H
           have c21b0 : decide (x6_3 < (wrap64 ((a0.size : Int) - 1))) = false := decide_eq_false c21
           clear c21
           have H' := Aside0.mk H
           clear H
           have hcv45 := own_string (P := Tryd.prog) Tryd.underlying63 Tryd.underlying5 Tryd.underlying9 (Kd.own_of_R HO_5.out)
           have hnb46 := NB835_834.out
           have hnc46 := NB834_835.out
           have hcz47_0 : wr.cell? ⟨gb835, 0, none⟩ = some (.int .i64 2) := bc BK835 0
           have hcz47_1 : wr.cell? ⟨gb835, 1, none⟩ = some (.int .i64 0) := bc BK835 1
           have hcz47_2 : wr.cell? ⟨gb835, 2, none⟩ = some (.string (⟨#[]⟩ : ByteArray)) := bc BK835 2
           have hfz47_0 := blk_frozen BK835.out 0
           have hfz47_1 := blk_frozen BK835.out 1
           have hfz47_2 := blk_frozen BK835.out 2
           go_wp2
           go_meet
           case rel => exact ⟨_, (2), (0), (strOfNums x5_3), H', ⟨by have := HJ6.out; have := HJ13.out; have := HK3.out; first | omega | exact Nat.le_refl _⟩, ⟨by (with_reducible repeat (first | refine blk_drewN ?_ _ | refine blk_drew ?_ | refine blk_alloc ?_ _)); refine blk_far ?_ NB834_835.out _; (with_reducible repeat (first | refine blk_drewN ?_ _ | refine blk_drew ?_ | refine blk_alloc ?_ _)); exact BK834.out⟩, ⟨by (with_reducible repeat (first | refine blk_drewN ?_ _ | refine blk_drew ?_ | refine blk_alloc ?_ _)); refine blk_put (cs := #[.int .i64 2, .int .i64 0, .string (⟨#[]⟩ : ByteArray)]) ?_ 2 _ rfl; (with_reducible repeat (first | refine blk_drewN ?_ _ | refine blk_drew ?_ | refine blk_alloc ?_ _)); exact BK835.out⟩, ⟨by repeat (first | (with_reducible first | exact HB.out | apply below_alloc | apply pw_below_drewN | apply below_drew1 | refine below_set ?_ GE834.out | refine below_set ?_ GE835.out) | exact HB.out)⟩⟩
       ·replace c18 := Bool.eq_false_iff.mpr c18
        subst c18
        have H1 : (if a0.toList = ([110, 117, 108, 108] : List UInt8) then (alumref19_Parse.j6 kj13 a0 0 0 (⟨#[]⟩ : ByteArray)) else (alumref19_Parse.l1 kj13 a0 0 1 0 (⟨#[]⟩ : ByteArray))) = some (r1, r2, r3, r4) := by rw [if_neg (show ¬ (false = true) by decide)] at H; exact H
        clear H
        have H := H1
        clear H1
        by_cases c48 : a0.toList = ([110, 117, 108, 108] : List UInt8)
        ·rw [if_pos c48] at H
         have c48b0 : (a0.toList == ([110, 117, 108, 108] : List UInt8)) = true := beq_iff_eq.mpr c48
         have c48b1 : (a0.toList != ([110, 117, 108, 108] : List UInt8)) = false := bne_eq_false_iff_eq.mpr c48
         clear c48
         have H' := Aside0.mk H
         clear H
         go_wp2
         go_meet
         case rel => exact ⟨_, (0), (0), ((⟨#[]⟩ : ByteArray)), H', ⟨by have := HJ6.out; have := HJ13.out; first | omega | exact Nat.le_refl _⟩, ⟨by (with_reducible repeat (first | refine blk_drewN ?_ _ | refine blk_drew ?_ | refine blk_alloc ?_ _)); exact BK834.out⟩, ⟨by (with_reducible repeat (first | refine blk_drewN ?_ _ | refine blk_drew ?_ | refine blk_alloc ?_ _)); exact BK835.out⟩, ⟨by repeat (first | (with_reducible first | exact HB.out | apply below_alloc | apply pw_below_drewN | apply below_drew1 | refine below_set ?_ GE834.out | refine below_set ?_ GE835.out) | exact HB.out)⟩⟩
        ·rw [if_neg c48] at H
         have c48b0 : (a0.toList == ([110, 117, 108, 108] : List UInt8)) = false := beq_eq_false_iff_ne.mpr c48
         have c48b1 : (a0.toList != ([110, 117, 108, 108] : List UInt8)) = true := bne_iff_ne.mpr c48
         have H' := Aside0.mk H
         clear H
         have hnb49 := NB835_834.out
         have hnc49 := NB834_835.out
         have hcz50_0 : wc.cell? ⟨gb835, 0, none⟩ = some (.int .i64 0) := bc BK835 0
         have hcz50_1 : wc.cell? ⟨gb835, 1, none⟩ = some (.int .i64 0) := bc BK835 1
         have hcz50_2 : wc.cell? ⟨gb835, 2, none⟩ = some (.string (⟨#[]⟩ : ByteArray)) := bc BK835 2
         have hfz50_0 := blk_frozen BK835.out 0
         have hfz50_1 := blk_frozen BK835.out 1
         have hfz50_2 := blk_frozen BK835.out 2
         go_wp2
         go_loopg [8] kj13 (fun kq v8 w' => ∃ (x8_3 : Int) (x836001_3 : Int), v8 = .int .i64 x8_3 ∧ Aside0 (alumref19_Parse.l1 kq a0 x8_3 1 x836001_3 (⟨#[]⟩ : ByteArray) = some (r1, r2, r3, r4)) ∧ Aside0 (kq ≤ kj13) ∧ Aside0 (w'.heap[gb834]? = some (.cells #[.int .i64 0, .int .i64 0, .string (⟨#[]⟩ : ByteArray)] 23 (0, 0))) ∧ Aside0 (w'.heap[gb835]? = some (.cells #[.int .i64 1, .int .i64 x836001_3, .string (⟨#[]⟩ : ByteArray)] 23 (0, 0))) ∧ Aside0 (Below w.heap.size w w'))
         case atStart => exact ⟨(0), (0), (by first | rfl | (simp; done) | (simp [*]; done)), H', ⟨Nat.le_refl _⟩, ⟨by (with_reducible repeat (first | refine blk_drewN ?_ _ | refine blk_drew ?_ | refine blk_alloc ?_ _)); refine blk_far ?_ NB834_835.out _; (with_reducible repeat (first | refine blk_drewN ?_ _ | refine blk_drew ?_ | refine blk_alloc ?_ _)); exact BK834.out⟩, ⟨by (with_reducible repeat (first | refine blk_drewN ?_ _ | refine blk_drew ?_ | refine blk_alloc ?_ _)); refine blk_put (cs := #[.int .i64 0, .int .i64 0, .string (⟨#[]⟩ : ByteArray)]) ?_ 0 _ rfl; (with_reducible repeat (first | refine blk_drewN ?_ _ | refine blk_drew ?_ | refine blk_alloc ?_ _)); exact BK835.out⟩, ⟨by repeat (first | (with_reducible first | exact HB.out | apply below_alloc | apply pw_below_drewN | apply below_drew1 | refine below_set ?_ GE834.out | refine below_set ?_ GE835.out) | exact HB.out)⟩⟩
         case round =>
          clear H'
          try clear c1
          try clear p1
          try clear q1
          try clear hx1
          try clear qi1
          try clear c2
          try clear p2
          try clear q2
          try clear hx2
          try clear c3
          try clear p3
          try clear q3
          try clear hx3
          try clear c4
          try clear hcv4
          try clear c5
          try clear c6
          try clear p6
          try clear c8
          try clear c8b0
          try clear c8b1
          try clear c9
          try clear c12
          try clear c15
          try clear c15b0
          try clear c15b1
          try clear c16
          try clear c16b0
          try clear c16b1
          try clear p17
          try clear q17
          try clear hx17
          try clear qi17
          try clear c18
          try clear c19
          try clear c21
          try clear c21b0
          try clear c22
          try clear c22b0
          try clear c23
          try clear c23b0
          try clear p24
          try clear q24
          try clear hx24
          try clear c26
          try clear c26b0
          try clear c26b1
          try clear c27
          try clear c29
          try clear c29b0
          try clear c30
          try clear c30b0
          try clear p31
          try clear q31
          try clear hx31
          try clear c35
          try clear c35b0
          try clear c36
          try clear c36b0
          try clear p37
          try clear q37
          try clear hx37
          try clear c40
          try clear c43
          try clear hcv45
          try clear c46
          try clear c48
          try clear c48b0
          try clear c48b1
          try clear c49
          try clear hcz13_0
          try clear hcz13_1
          try clear hcz13_2
          try clear hcz20_0
          try clear hcz20_1
          try clear hcz20_2
          try clear hcz47_0
          try clear hcz47_1
          try clear hcz47_2
          try clear hcz50_0
          try clear hcz50_1
          try clear hcz50_2
          try clear hcz6_0
          try clear hcz6_1
          try clear hcz6_2
          try clear hfz13_0
          try clear hfz13_1
          try clear hfz13_2
          try clear hfz20_0
          try clear hfz20_1
          try clear hfz20_2
          try clear hfz47_0
          try clear hfz47_1
          try clear hfz47_2
          try clear hfz50_0
          try clear hfz50_1
          try clear hfz50_2
          try clear hfz6_0
          try clear hfz6_1
          try clear hfz6_2
          try clear p1
          try clear p17
          try clear p2
          try clear p24
          try clear p31
          try clear p37
          try clear p6
          try clear q1
          try clear q17
          try clear q2
          try clear q24
          try clear q31
          try clear q37
          obtain ⟨x8_3, x836001_3, rfl, HA, HK3, BK834, BK835, HB⟩ := hrel
          cases gk with
          | zero => exact absurd HA.out (by simp [alumref19_Parse.l1])
          | succ k3 =>
           have H := HA.out
           clear HA
           simp only [alumref19_Parse.l1] at H
           have HC51 := Aside0.mk H
           clear H
           go_upto_region 19 with (fail)
           go_cut [84] (fun v84 wc => ∃ (kq : Nat) (x84_50 : Bool), v84 = .bool x84_50 ∧ Aside0 (alumref19_Parse.j5 kq a0 x8_3 x84_50 1 x836001_3 (⟨#[]⟩ : ByteArray) = some (r1, r2, r3, r4)) ∧ Aside0 (kq ≤ k3) ∧ Aside0 (wc.heap[gb834]? = some (.cells #[.int .i64 0, .int .i64 0, .string (⟨#[]⟩ : ByteArray)] 23 (0, 0))) ∧ Aside0 (wc.heap[gb835]? = some (.cells #[.int .i64 1, .int .i64 x836001_3, .string (⟨#[]⟩ : ByteArray)] 23 (0, 0))) ∧ Aside0 (Below w.heap.size w wc))
           case first =>
            have H := HC51.out
            clear HC51
            by_cases c52 : x8_3 < (a0.size : Int)
            ·rw [if_pos c52] at H
             have c52b0 : decide (x8_3 < (a0.size : Int)) = true := decide_eq_true c52
             clear c52
             (first | rw [c52b0] | (simp only [i64_w, i32_w]; rw [c52b0]) | skip)
             have H' := Aside0.mk H
             clear H
             go_wp2
             go_meet
             case rel => exact ⟨_, (decide (x8_3 < 14)), (by first | rfl | (simp; done) | (simp [*]; done)), H', ⟨by have := HJ6.out; have := HJ13.out; have := HK3.out; first | omega | exact Nat.le_refl _⟩, ⟨by (with_reducible repeat (first | refine blk_drewN ?_ _ | refine blk_drew ?_ | refine blk_alloc ?_ _)); exact BK834.out⟩, ⟨by (with_reducible repeat (first | refine blk_drewN ?_ _ | refine blk_drew ?_ | refine blk_alloc ?_ _)); exact BK835.out⟩, ⟨by repeat (first | (with_reducible first | exact HB.out | apply below_alloc | apply pw_below_drewN | apply below_drew1 | refine below_set ?_ GE834.out | refine below_set ?_ GE835.out) | exact HB.out)⟩⟩
            ·rw [if_neg c52] at H
             have c52b0 : decide (x8_3 < (a0.size : Int)) = false := decide_eq_false c52
             clear c52
             (first | rw [c52b0] | (simp only [i64_w, i32_w]; rw [c52b0]) | skip)
             have H' := Aside0.mk H
             clear H
             go_wp2
             go_meet
             case rel => exact ⟨_, (false), (by first | rfl | (simp; done) | (simp [*]; done)), H', ⟨by have := HJ6.out; have := HJ13.out; have := HK3.out; first | omega | exact Nat.le_refl _⟩, ⟨by (with_reducible repeat (first | refine blk_drewN ?_ _ | refine blk_drew ?_ | refine blk_alloc ?_ _)); exact BK834.out⟩, ⟨by (with_reducible repeat (first | refine blk_drewN ?_ _ | refine blk_drew ?_ | refine blk_alloc ?_ _)); exact BK835.out⟩, ⟨by repeat (first | (with_reducible first | exact HB.out | apply below_alloc | apply pw_below_drewN | apply below_drew1 | refine below_set ?_ GE834.out | refine below_set ?_ GE835.out) | exact HB.out)⟩⟩
           case rest =>
            clear HC51
            try clear c1
            try clear p1
            try clear q1
            try clear hx1
            try clear qi1
            try clear c2
            try clear p2
            try clear q2
            try clear hx2
            try clear c3
            try clear p3
            try clear q3
            try clear hx3
            try clear c4
            try clear hcv4
            try clear c5
            try clear c6
            try clear p6
            try clear c8
            try clear c8b0
            try clear c8b1
            try clear c9
            try clear c12
            try clear c15
            try clear c15b0
            try clear c15b1
            try clear c16
            try clear c16b0
            try clear c16b1
            try clear p17
            try clear q17
            try clear hx17
            try clear qi17
            try clear c18
            try clear c19
            try clear c21
            try clear c21b0
            try clear c22
            try clear c22b0
            try clear c23
            try clear c23b0
            try clear p24
            try clear q24
            try clear hx24
            try clear c26
            try clear c26b0
            try clear c26b1
            try clear c27
            try clear c29
            try clear c29b0
            try clear c30
            try clear c30b0
            try clear p31
            try clear q31
            try clear hx31
            try clear c35
            try clear c35b0
            try clear c36
            try clear c36b0
            try clear p37
            try clear q37
            try clear hx37
            try clear c40
            try clear c43
            try clear hcv45
            try clear c46
            try clear c48
            try clear c48b0
            try clear c48b1
            try clear c49
            try clear c52
            try clear c52b0
            try clear hcz13_0
            try clear hcz13_1
            try clear hcz13_2
            try clear hcz20_0
            try clear hcz20_1
            try clear hcz20_2
            try clear hcz47_0
            try clear hcz47_1
            try clear hcz47_2
            try clear hcz50_0
            try clear hcz50_1
            try clear hcz50_2
            try clear hcz6_0
            try clear hcz6_1
            try clear hcz6_2
            try clear hfz13_0
            try clear hfz13_1
            try clear hfz13_2
            try clear hfz20_0
            try clear hfz20_1
            try clear hfz20_2
            try clear hfz47_0
            try clear hfz47_1
            try clear hfz47_2
            try clear hfz50_0
            try clear hfz50_1
            try clear hfz50_2
            try clear hfz6_0
            try clear hfz6_1
            try clear hfz6_2
            try clear p1
            try clear p17
            try clear p2
            try clear p24
            try clear p3
            try clear p31
            try clear p37
            try clear p6
            try clear q1
            try clear q17
            try clear q2
            try clear q24
            try clear q3
            try clear q31
            try clear q37
            obtain ⟨kq, x84_50, rfl, HA, HJ50, BK834, BK835, HB⟩ := hcut
            cases kq with
            | zero => exact absurd HA.out (by simp [alumref19_Parse.j5])
            | succ kj50 =>
             have H := HA.out
             clear HA
             simp only [alumref19_Parse.j5] at H
             by_cases c53 : x84_50 = true
             ·subst c53
              have H1 : (if 0 ≤ x8_3 then (if x8_3 < (a0.size : Int) then (if (bt a0 x8_3) = 45 then (alumref19_Parse.l1 kj50 a0 (wrap64 (x8_3 + 1)) 1 x836001_3 (⟨#[]⟩ : ByteArray)) else (alumref19_Parse.l1 kj50 a0 (wrap64 (x8_3 + 1)) 1 (wrap64 ((wrap64 ((wrap64 (x836001_3 * 10)) + (wrap64 (bt a0 x8_3)))) - 48)) (⟨#[]⟩ : ByteArray))) else (none)) else (none)) = some (r1, r2, r3, r4) := by rw [if_pos rfl] at H; exact H
              clear H
              have H := H1
              clear H1
              by_cases c54 : 0 ≤ x8_3
              ·rw [if_pos c54] at H
               have c54b0 : decide (0 ≤ x8_3) = true := decide_eq_true c54
               clear c54
               by_cases c55 : x8_3 < (a0.size : Int)
               ·rw [if_pos c55] at H
                have c55b0 : decide (x8_3 < (a0.size : Int)) = true := decide_eq_true c55
                clear c55
                by_cases c57 : (bt a0 x8_3) = 45
                ·rw [if_pos c57] at H
                 have c57b0 : ((bt a0 x8_3) == 45) = true := beq_iff_eq.mpr c57
                 have c57b1 : ((bt a0 x8_3) != 45) = false := bne_eq_false_iff_eq.mpr c57
                 clear c57
                 have H' := Aside0.mk H
                 clear H
                 have p56 : 0 ≤ (x8_3 : Int) := of_decide_eq_true (by first | (with_reducible assumption) | assumption)
                 have q56 : x8_3 < (a0.size : Int) := of_decide_eq_true (by first | (with_reducible assumption) | assumption)
                 have hx56 := bt_at a0 x8_3
                 replace p56 := eq_true p56
                 replace q56 := eq_true q56
                 go_wp2
                 go_roundg kj50
                 case measure => have := HJ6.out; have := HJ13.out; have := HK3.out; have := HJ50.out; omega
                 case rel => exact ⟨(wrap64 (x8_3 + 1)), (x836001_3), (by first | rfl | (simp; done) | (simp [*]; done)), H', ⟨by have := HJ6.out; have := HJ13.out; have := HK3.out; have := HJ50.out; omega⟩, ⟨by (with_reducible repeat (first | refine blk_drewN ?_ _ | refine blk_drew ?_ | refine blk_alloc ?_ _)); exact BK834.out⟩, ⟨by (with_reducible repeat (first | refine blk_drewN ?_ _ | refine blk_drew ?_ | refine blk_alloc ?_ _)); exact BK835.out⟩, ⟨by repeat (first | (with_reducible first | exact HB.out | apply below_alloc | apply pw_below_drewN | apply below_drew1 | refine below_set ?_ GE834.out | refine below_set ?_ GE835.out) | exact HB.out)⟩⟩
                ·rw [if_neg c57] at H
                 have c57b0 : ((bt a0 x8_3) == 45) = false := beq_eq_false_iff_ne.mpr c57
                 have c57b1 : ((bt a0 x8_3) != 45) = true := bne_iff_ne.mpr c57
                 have H' := Aside0.mk H
                 clear H
                 have p56 : 0 ≤ (x8_3 : Int) := of_decide_eq_true (by first | (with_reducible assumption) | assumption)
                 have q56 : x8_3 < (a0.size : Int) := of_decide_eq_true (by first | (with_reducible assumption) | assumption)
                 have hx56 := bt_at a0 x8_3
                 replace p56 := eq_true p56
                 replace q56 := eq_true q56
                 try go_wp2
                 replace BK834 := Aside0.mk (blk_drew BK834.out)
                 replace BK835 := Aside0.mk (blk_drew BK835.out)
                 replace HB := Aside0.mk (below_drew1 HB.out)
                 have p58 : 0 ≤ (x8_3 : Int) := of_decide_eq_true (by first | (with_reducible assumption) | assumption)
                 have q58 : x8_3 < (a0.size : Int) := of_decide_eq_true (by first | (with_reducible assumption) | assumption)
                 have hx58 := bt_at a0 x8_3
                 replace p58 := eq_true p58
                 replace q58 := eq_true q58
                 refine start_ (n := 11) (S := fun w' => w'.cell? ⟨gb835, 0, none⟩ = some (.int .i64 1) ∧ w'.cell? ⟨gb835, 1, none⟩ = some (.int .i64 x836001_3) ∧ w'.cell? ⟨gb835, 2, none⟩ = some (.string (⟨#[]⟩ : ByteArray))) (ds := [10]) #[false, false, false, false, false, false, false, false, false, false, false] (by kernel_rfl) rfl rfl ⟨bc BK835 0, bc BK835 1, bc BK835 2⟩ (fun hHeld => ?_); refine with_tabW alumref19_Parse.tab22 alumref19_Parse.bits22 (fun HT_ HW_ => ?_)
                 generalize wc.drew = w59 at BK834 BK835 HB hHeld ⊢
                 refine pureA 0 91 #[true, false, false, false, false, false, false, false, false, false, false] HT_ ?_
                 refine pureA 3 94 #[true, false, false, true, false, false, false, false, false, false, false] HT_ ?_
                 refine pureA 4 95 #[true, false, false, true, true, false, false, false, false, false, false] HT_ ?_
                 refine takeA 1 92 #[true, true, false, true, true, false, false, false, false, false, false] HT_ HW_ hHeld ?_
                 refine pureA 2 93 #[true, true, true, true, true, false, false, false, false, false, false] HT_ ?_
                 refine takeA 5 96 #[true, true, true, true, true, true, false, false, false, false, false] HT_ HW_ hHeld ?_
                 refine pureA 6 97 #[true, true, true, true, true, true, true, false, false, false, false] HT_ ?_
                 refine pureA 7 98 #[true, true, true, true, true, true, true, true, false, false, false] HT_ ?_
                 refine pureA 8 99 #[true, true, true, true, true, true, true, true, true, false, false] HT_ ?_
                 refine pureA 9 100 #[true, true, true, true, true, true, true, true, true, true, false] HT_ ?_
                 refine last_ (i := 10) (N := none) #[true, true, true, true, true, true, true, true, true, true, true] rfl rfl (one_of HT_.out (by kernel_rfl)) (by decide) (fun K hK => ?_)
                 have hs60 : w59.cell? ⟨gb835, 1, none⟩ = some (.int .i64 x836001_3) := bc BK835 1
                 have hfs60 := blk_frozen BK835.out 1
                 have hns60_0 := NB834_835.out
                 have hms60_0 := NB835_834.out
                 refine skip_ (w1 := ?_) (by rfl) rfl ?_ ?_
                 rotate_left
                 ·go_simp
                  rfl
                 refine hK.out _ _ ?_
                 clear hK K
                 refine done_ (done_of HT_.out (by kernel_rfl)) ?_
                 try go_wp2
                 go_roundg kj50
                 case measure => have := HJ6.out; have := HJ13.out; have := HK3.out; have := HJ50.out; omega
                 case rel => exact ⟨(wrap64 (x8_3 + 1)), (wrap64 ((wrap64 ((wrap64 (x836001_3 * 10)) + (wrap64 (bt a0 x8_3)))) - 48)), (by first | rfl | (simp; done) | (simp [*]; done)), H', ⟨by have := HJ6.out; have := HJ13.out; have := HK3.out; have := HJ50.out; omega⟩, ⟨by (with_reducible repeat (first | refine blk_drewN ?_ _ | refine blk_drew ?_ | refine blk_alloc ?_ _)); refine blk_far ?_ NB834_835.out _; (with_reducible repeat (first | refine blk_drewN ?_ _ | refine blk_drew ?_ | refine blk_alloc ?_ _)); exact BK834.out⟩, ⟨by (with_reducible repeat (first | refine blk_drewN ?_ _ | refine blk_drew ?_ | refine blk_alloc ?_ _)); refine blk_put (cs := #[.int .i64 1, .int .i64 x836001_3, .string (⟨#[]⟩ : ByteArray)]) ?_ 1 _ rfl; (with_reducible repeat (first | refine blk_drewN ?_ _ | refine blk_drew ?_ | refine blk_alloc ?_ _)); exact BK835.out⟩, ⟨by repeat (first | (with_reducible first | exact HB.out | apply below_alloc | apply pw_below_drewN | apply below_drew1 | refine below_set ?_ GE834.out | refine below_set ?_ GE835.out) | exact HB.out)⟩⟩
               ·rw [if_neg c55] at H
                exact absurd H (by simp)
              ·rw [if_neg c54] at H
               exact absurd H (by simp)
             ·replace c53 := Bool.eq_false_iff.mpr c53
              subst c53
              have H1 : (if (a0.size : Int) > 0 then (if 0 < (a0.size : Int) then (if (bt a0 0) = 45 then (alumref19_Parse.j6 kj50 a0 1 (wrap64 (-x836001_3)) (⟨#[]⟩ : ByteArray)) else (alumref19_Parse.j6 kj50 a0 1 x836001_3 (⟨#[]⟩ : ByteArray))) else (none)) else (alumref19_Parse.j6 kj50 a0 1 x836001_3 (⟨#[]⟩ : ByteArray))) = some (r1, r2, r3, r4) := by rw [if_neg (show ¬ (false = true) by decide)] at H; exact H
              clear H
              have H := H1
              clear H1
              by_cases c61 : (a0.size : Int) > 0
              ·rw [if_pos c61] at H
               have c61b0 : decide (0 < (a0.size : Int)) = true := decide_eq_true c61
               have c61b1 : decide (0 < a0.size) = true := decide_eq_true (by omega)
               clear c61
               by_cases c62 : 0 < (a0.size : Int)
               ·rw [if_pos c62] at H
                have c62b0 : decide (0 < (a0.size : Int)) = true := decide_eq_true c62
                have c62b1 : decide (0 < a0.size) = true := decide_eq_true (by omega)
                clear c62
                by_cases c64 : (bt a0 0) = 45
                ·rw [if_pos c64] at H
                 have c64b0 : ((bt a0 0) == 45) = true := beq_iff_eq.mpr c64
                 have c64b1 : ((bt a0 0) != 45) = false := bne_eq_false_iff_eq.mpr c64
                 clear c64
                 have H' := Aside0.mk H
                 clear H
                 have p63 : 0 ≤ (0 : Int) := (by omega)
                 have q63 : 0 < a0.size := (by have : (0 : Int) < (a0.size : Int) := of_decide_eq_true (by first | (with_reducible assumption) | assumption); omega)
                 have hx63 : ∀ h : 0 < a0.size, ((a0[0]'h).toNat : Int) = bt a0 0 := bt_at a0 0
                 clear p63
                 have qi63 : (0 < (a0.size : Int)) = True := eq_true (of_decide_eq_true (by first | (with_reducible assumption) | assumption))
                 replace q63 := eq_true q63
                 have hnb65 := NB835_834.out
                 have hnc65 := NB834_835.out
                 have hcz66_0 : wc.cell? ⟨gb835, 0, none⟩ = some (.int .i64 1) := bc BK835 0
                 have hcz66_1 : wc.cell? ⟨gb835, 1, none⟩ = some (.int .i64 x836001_3) := bc BK835 1
                 have hcz66_2 : wc.cell? ⟨gb835, 2, none⟩ = some (.string (⟨#[]⟩ : ByteArray)) := bc BK835 2
                 have hfz66_0 := blk_frozen BK835.out 0
                 have hfz66_1 := blk_frozen BK835.out 1
                 have hfz66_2 := blk_frozen BK835.out 2
                 go_wp2
                 go_meet
                 case rel => exact ⟨_, (1), (wrap64 (-x836001_3)), ((⟨#[]⟩ : ByteArray)), H', ⟨by have := HJ6.out; have := HJ13.out; have := HK3.out; have := HJ50.out; first | omega | exact Nat.le_refl _⟩, ⟨by (with_reducible repeat (first | refine blk_drewN ?_ _ | refine blk_drew ?_ | refine blk_alloc ?_ _)); refine blk_far ?_ NB834_835.out _; (with_reducible repeat (first | refine blk_drewN ?_ _ | refine blk_drew ?_ | refine blk_alloc ?_ _)); exact BK834.out⟩, ⟨by (with_reducible repeat (first | refine blk_drewN ?_ _ | refine blk_drew ?_ | refine blk_alloc ?_ _)); refine blk_put (cs := #[.int .i64 1, .int .i64 x836001_3, .string (⟨#[]⟩ : ByteArray)]) ?_ 1 _ rfl; (with_reducible repeat (first | refine blk_drewN ?_ _ | refine blk_drew ?_ | refine blk_alloc ?_ _)); exact BK835.out⟩, ⟨by repeat (first | (with_reducible first | exact HB.out | apply below_alloc | apply pw_below_drewN | apply below_drew1 | refine below_set ?_ GE834.out | refine below_set ?_ GE835.out) | exact HB.out)⟩⟩
                ·rw [if_neg c64] at H
                 have c64b0 : ((bt a0 0) == 45) = false := beq_eq_false_iff_ne.mpr c64
                 have c64b1 : ((bt a0 0) != 45) = true := bne_iff_ne.mpr c64
                 have H' := Aside0.mk H
                 clear H
                 have p63 : 0 ≤ (0 : Int) := (by omega)
                 have q63 : 0 < a0.size := (by have : (0 : Int) < (a0.size : Int) := of_decide_eq_true (by first | (with_reducible assumption) | assumption); omega)
                 have hx63 : ∀ h : 0 < a0.size, ((a0[0]'h).toNat : Int) = bt a0 0 := bt_at a0 0
                 clear p63
                 have qi63 : (0 < (a0.size : Int)) = True := eq_true (of_decide_eq_true (by first | (with_reducible assumption) | assumption))
                 replace q63 := eq_true q63
                 go_wp2
                 go_meet
                 case rel => exact ⟨_, (1), (x836001_3), ((⟨#[]⟩ : ByteArray)), H', ⟨by have := HJ6.out; have := HJ13.out; have := HK3.out; have := HJ50.out; first | omega | exact Nat.le_refl _⟩, ⟨by (with_reducible repeat (first | refine blk_drewN ?_ _ | refine blk_drew ?_ | refine blk_alloc ?_ _)); exact BK834.out⟩, ⟨by (with_reducible repeat (first | refine blk_drewN ?_ _ | refine blk_drew ?_ | refine blk_alloc ?_ _)); exact BK835.out⟩, ⟨by repeat (first | (with_reducible first | exact HB.out | apply below_alloc | apply pw_below_drewN | apply below_drew1 | refine below_set ?_ GE834.out | refine below_set ?_ GE835.out) | exact HB.out)⟩⟩
               ·rw [if_neg c62] at H
                exact absurd H (by simp)
              ·rw [if_neg c61] at H
               have c61b0 : decide (0 < (a0.size : Int)) = false := decide_eq_false c61
               have c61b1 : decide (0 < a0.size) = false := decide_eq_false (by omega)
               clear c61
               have H' := Aside0.mk H
               clear H
               go_wp2
               go_meet
               case rel => exact ⟨_, (1), (x836001_3), ((⟨#[]⟩ : ByteArray)), H', ⟨by have := HJ6.out; have := HJ13.out; have := HK3.out; have := HJ50.out; first | omega | exact Nat.le_refl _⟩, ⟨by (with_reducible repeat (first | refine blk_drewN ?_ _ | refine blk_drew ?_ | refine blk_alloc ?_ _)); exact BK834.out⟩, ⟨by (with_reducible repeat (first | refine blk_drewN ?_ _ | refine blk_drew ?_ | refine blk_alloc ?_ _)); exact BK835.out⟩, ⟨by repeat (first | (with_reducible first | exact HB.out | apply below_alloc | apply pw_below_drewN | apply below_drew1 | refine below_set ?_ GE834.out | refine below_set ?_ GE835.out) | exact HB.out)⟩⟩
 case rest =>
  clear HC2
  try clear c1
  try clear p1
  try clear q1
  try clear hx1
  try clear qi1
  try clear c2
  try clear p2
  try clear q2
  try clear hx2
  try clear c3
  try clear p3
  try clear q3
  try clear hx3
  try clear c4
  try clear hcv4
  try clear c5
  try clear p5
  try clear q5
  try clear hx5
  try clear c6
  try clear p6
  try clear q6
  try clear hx6
  try clear qi6
  try clear c8
  try clear c8b0
  try clear c8b1
  try clear c9
  try clear c12
  try clear c15
  try clear c15b0
  try clear c15b1
  try clear c16
  try clear c16b0
  try clear c16b1
  try clear p17
  try clear q17
  try clear hx17
  try clear qi17
  try clear c18
  try clear c19
  try clear c21
  try clear c21b0
  try clear c22
  try clear c22b0
  try clear c23
  try clear c23b0
  try clear p24
  try clear q24
  try clear hx24
  try clear c26
  try clear c26b0
  try clear c26b1
  try clear c27
  try clear c29
  try clear c29b0
  try clear c30
  try clear c30b0
  try clear p31
  try clear q31
  try clear hx31
  try clear c35
  try clear c35b0
  try clear c36
  try clear c36b0
  try clear p37
  try clear q37
  try clear hx37
  try clear c40
  try clear c43
  try clear hcv45
  try clear c46
  try clear c48
  try clear c48b0
  try clear c48b1
  try clear c49
  try clear c52
  try clear c52b0
  try clear c53
  try clear c54
  try clear c54b0
  try clear c55
  try clear c55b0
  try clear p56
  try clear q56
  try clear hx56
  try clear c57
  try clear c57b0
  try clear c57b1
  try clear p58
  try clear q58
  try clear hx58
  try clear c61
  try clear c61b0
  try clear c61b1
  try clear c62
  try clear c62b0
  try clear c62b1
  try clear p63
  try clear q63
  try clear hx63
  try clear qi63
  try clear c64
  try clear c64b0
  try clear c64b1
  try clear p64
  try clear c65
  try clear hcz13_0
  try clear hcz13_1
  try clear hcz13_2
  try clear hcz20_0
  try clear hcz20_1
  try clear hcz20_2
  try clear hcz47_0
  try clear hcz47_1
  try clear hcz47_2
  try clear hcz50_0
  try clear hcz50_1
  try clear hcz50_2
  try clear hcz66_0
  try clear hcz66_1
  try clear hcz66_2
  try clear hcz6_0
  try clear hcz6_1
  try clear hcz6_2
  try clear hfz13_0
  try clear hfz13_1
  try clear hfz13_2
  try clear hfz20_0
  try clear hfz20_1
  try clear hfz20_2
  try clear hfz47_0
  try clear hfz47_1
  try clear hfz47_2
  try clear hfz50_0
  try clear hfz50_1
  try clear hfz50_2
  try clear hfz66_0
  try clear hfz66_1
  try clear hfz66_2
  try clear hfz6_0
  try clear hfz6_1
  try clear hfz6_2
  try clear p1
  try clear p17
  try clear p2
  try clear p24
  try clear p3
  try clear p31
  try clear p37
  try clear p56
  try clear p58
  try clear p6
  try clear p63
  try clear q1
  try clear q17
  try clear q2
  try clear q24
  try clear q3
  try clear q31
  try clear q37
  try clear q56
  try clear q58
  try clear q63
  obtain ⟨kq, x836000_1, x836001_1, x836002_1, HA, HJ1, BK834, BK835, HB⟩ := hcut
  cases kq with
  | zero => exact absurd HA.out (by simp [alumref19_Parse.j6])
  | succ kj1 =>
   have H := HA.out
   clear HA
   simp only [alumref19_Parse.j6] at H
   replace H := Option.bind_eq_some_iff.mp H
   obtain ⟨t847, A670, H⟩ := H
   replace H : (if t847 = true then ((alumref19_Print.f kj1 x836000_1 x836001_1 x836002_1).bind fun t848 => (if t848.toList = a0.toList then (some (x836000_1, x836001_1, x836002_1, true)) else (some (0, 0, (⟨#[]⟩ : ByteArray), false)))) else (some (0, 0, (⟨#[]⟩ : ByteArray), false))) = some (r1, r2, r3, r4) := H
   have A67 := Aside0.mk A670
   clear A670
   by_cases c68 : t847 = true
   ·subst c68
    have H1 : ((alumref19_Print.f kj1 x836000_1 x836001_1 x836002_1).bind fun t848 => (if t848.toList = a0.toList then (some (x836000_1, x836001_1, x836002_1, true)) else (some (0, 0, (⟨#[]⟩ : ByteArray), false)))) = some (r1, r2, r3, r4) := by rw [if_pos rfl] at H; exact H
    clear H
    have H := H1
    clear H1
    replace H := Option.bind_eq_some_iff.mp H
    obtain ⟨t848, A690, H⟩ := H
    replace H : (if t848.toList = a0.toList then (some (x836000_1, x836001_1, x836002_1, true)) else (some (0, 0, (⟨#[]⟩ : ByteArray), false))) = some (r1, r2, r3, r4) := H
    have A69 := Aside0.mk A690
    clear A690
    by_cases c70 : t848.toList = a0.toList
    ·rw [if_pos c70] at H
     have c70b0 : (t848.toList == a0.toList) = true := beq_iff_eq.mpr c70
     have c70b1 : (t848.toList != a0.toList) = false := bne_eq_false_iff_eq.mpr c70
     clear c70
     simp only [Option.some.injEq, Prod.mk.injEq] at H
     obtain ⟨rfl, rfl, rfl, rfl⟩ := H
     have hnb71 := NB835_834.out
     have hnc71 := NB834_835.out
     have hcz72_0 : wc.cell? ⟨gb835, 0, none⟩ = some (.int .i64 x836000_1) := bc BK835 0
     have hcz72_1 : wc.cell? ⟨gb835, 1, none⟩ = some (.int .i64 x836001_1) := bc BK835 1
     have hcz72_2 : wc.cell? ⟨gb835, 2, none⟩ = some (.string x836002_1) := bc BK835 2
     have hfz72_0 := blk_frozen BK835.out 0
     have hfz72_1 := blk_frozen BK835.out 1
     have hfz72_2 := blk_frozen BK835.out 2
     go_wp2_with (first | ((with_reducible refine gate_callee (f := 11) rfl ?_); refine goesL_ (some 114) rfl rfl Tryd.func11 (by kernel_rfl) rfl #[.agg #[.int .i64 x836000_1, .int .i64 x836001_1, .string x836002_1]] rfl (by (try simp only [List.map_toArray, List.map_cons, List.map_nil]); first | done | rfl | (simp only [List.length_drop, List.length_take]; rfl)) ?_; (with_reducible refine (alumref19_Right.calls x836000_1 x836001_1 x836002_1 true _ A67.out).mono ?_); rintro e w73 ⟨rfl, hb⟩; refine ⟨_, rfl, ?_⟩; replace BK834 := blkB BK834 hb; replace BK835 := blkB BK835 hb; replace HB := stepB HB hb; (try clear hb); (try clear hb2); (try clear hk); (try clear hi); have hcz74_0 : w73.cell? ⟨gb835, 0, none⟩ = some (.int .i64 x836000_1) := bc BK835 0; have hcz74_1 : w73.cell? ⟨gb835, 1, none⟩ = some (.int .i64 x836001_1) := bc BK835 1; have hcz74_2 : w73.cell? ⟨gb835, 2, none⟩ = some (.string x836002_1) := bc BK835 2; have hfz74_0 := blk_frozen BK835.out 0; have hfz74_1 := blk_frozen BK835.out 1; have hfz74_2 := blk_frozen BK835.out 2) | (go_at_call 30; (with_reducible refine (alumref19_Print.calls kj1 x836000_1 x836001_1 x836002_1 t848 _ A69.out).mono ?_); rintro e w75 ⟨rfl, hb⟩; replace BK834 := blkB BK834 hb; replace BK835 := blkB BK835 hb; replace HB := stepB HB hb; (try clear hb); (try clear hb2); (try clear hk); (try clear hi); have hcz76_0 : w75.cell? ⟨gb835, 0, none⟩ = some (.int .i64 x836000_1) := bc BK835 0; have hcz76_1 : w75.cell? ⟨gb835, 1, none⟩ = some (.int .i64 x836001_1) := bc BK835 1; have hcz76_2 : w75.cell? ⟨gb835, 2, none⟩ = some (.string x836002_1) := bc BK835 2; have hfz76_0 := blk_frozen BK835.out 0; have hfz76_1 := blk_frozen BK835.out 1; have hfz76_2 := blk_frozen BK835.out 2; have hcz77_0 : w75.cell? ⟨gb834, 0, none⟩ = some (.int .i64 0) := bc BK834 0; have hcz77_1 : w75.cell? ⟨gb834, 1, none⟩ = some (.int .i64 0) := bc BK834 1; have hcz77_2 : w75.cell? ⟨gb834, 2, none⟩ = some (.string (⟨#[]⟩ : ByteArray)) := bc BK834 2; have hfz77_0 := blk_frozen BK834.out 0; have hfz77_1 := blk_frozen BK834.out 1; have hfz77_2 := blk_frozen BK834.out 2))
     refine bodyPost_ret (results_ct rfl _ _ gb834 23 #[.int .i64 x836000_1, .int .i64 x836001_1, .string x836002_1] (0, 0) _ rfl (by (with_reducible repeat (first | refine blk_drewN ?_ _ | refine blk_drew ?_ | refine blk_alloc ?_ _)); refine blk_put (cs := #[.int .i64 x836000_1, .int .i64 x836001_1, .string (⟨#[]⟩ : ByteArray)]) ?_ 2 _ rfl; (with_reducible repeat (first | refine blk_drewN ?_ _ | refine blk_drew ?_ | refine blk_alloc ?_ _)); refine blk_put (cs := #[.int .i64 x836000_1, .int .i64 0, .string (⟨#[]⟩ : ByteArray)]) ?_ 1 _ rfl; (with_reducible repeat (first | refine blk_drewN ?_ _ | refine blk_drew ?_ | refine blk_alloc ?_ _)); refine blk_put (cs := #[.int .i64 0, .int .i64 0, .string (⟨#[]⟩ : ByteArray)]) ?_ 0 _ rfl; (with_reducible repeat (first | refine blk_drewN ?_ _ | refine blk_drew ?_ | refine blk_alloc ?_ _)); exact BK834.out) Tryd.underlying23 rfl (by kernel_rfl)) rfl ?_
     exact ⟨by first | rfl | (simp [errW_none, errW_some] <;> rfl) | (simp [*, errW_none, errW_some] <;> rfl), by repeat (first | (with_reducible first | exact HB.out | apply below_alloc | apply pw_below_drewN | apply below_drew1 | refine below_set ?_ GE834.out | refine below_set ?_ GE835.out) | exact HB.out)⟩
    ·rw [if_neg c70] at H
     have c70b0 : (t848.toList == a0.toList) = false := beq_eq_false_iff_ne.mpr c70
     have c70b1 : (t848.toList != a0.toList) = true := bne_iff_ne.mpr c70
     simp only [Option.some.injEq, Prod.mk.injEq] at H
     obtain ⟨rfl, rfl, rfl, rfl⟩ := H
     have hnb78 := NB835_834.out
     have hnc78 := NB834_835.out
     have hcz79_0 : wc.cell? ⟨gb835, 0, none⟩ = some (.int .i64 x836000_1) := bc BK835 0
     have hcz79_1 : wc.cell? ⟨gb835, 1, none⟩ = some (.int .i64 x836001_1) := bc BK835 1
     have hcz79_2 : wc.cell? ⟨gb835, 2, none⟩ = some (.string x836002_1) := bc BK835 2
     have hfz79_0 := blk_frozen BK835.out 0
     have hfz79_1 := blk_frozen BK835.out 1
     have hfz79_2 := blk_frozen BK835.out 2
     go_wp2_with (first | ((with_reducible refine gate_callee (f := 11) rfl ?_); refine goesL_ (some 114) rfl rfl Tryd.func11 (by kernel_rfl) rfl #[.agg #[.int .i64 x836000_1, .int .i64 x836001_1, .string x836002_1]] rfl (by (try simp only [List.map_toArray, List.map_cons, List.map_nil]); first | done | rfl | (simp only [List.length_drop, List.length_take]; rfl)) ?_; (with_reducible refine (alumref19_Right.calls x836000_1 x836001_1 x836002_1 true _ A67.out).mono ?_); rintro e w80 ⟨rfl, hb⟩; refine ⟨_, rfl, ?_⟩; replace BK834 := blkB BK834 hb; replace BK835 := blkB BK835 hb; replace HB := stepB HB hb; (try clear hb); (try clear hb2); (try clear hk); (try clear hi); have hcz81_0 : w80.cell? ⟨gb835, 0, none⟩ = some (.int .i64 x836000_1) := bc BK835 0; have hcz81_1 : w80.cell? ⟨gb835, 1, none⟩ = some (.int .i64 x836001_1) := bc BK835 1; have hcz81_2 : w80.cell? ⟨gb835, 2, none⟩ = some (.string x836002_1) := bc BK835 2; have hfz81_0 := blk_frozen BK835.out 0; have hfz81_1 := blk_frozen BK835.out 1; have hfz81_2 := blk_frozen BK835.out 2) | (go_at_call 30; (with_reducible refine (alumref19_Print.calls kj1 x836000_1 x836001_1 x836002_1 t848 _ A69.out).mono ?_); rintro e w82 ⟨rfl, hb⟩; replace BK834 := blkB BK834 hb; replace BK835 := blkB BK835 hb; replace HB := stepB HB hb; (try clear hb); (try clear hb2); (try clear hk); (try clear hi); have hcz83_0 : w82.cell? ⟨gb834, 0, none⟩ = some (.int .i64 0) := bc BK834 0; have hcz83_1 : w82.cell? ⟨gb834, 1, none⟩ = some (.int .i64 0) := bc BK834 1; have hcz83_2 : w82.cell? ⟨gb834, 2, none⟩ = some (.string (⟨#[]⟩ : ByteArray)) := bc BK834 2; have hfz83_0 := blk_frozen BK834.out 0; have hfz83_1 := blk_frozen BK834.out 1; have hfz83_2 := blk_frozen BK834.out 2))
     refine bodyPost_ret (results_ct rfl _ _ gb834 23 #[.int .i64 0, .int .i64 0, .string (⟨#[]⟩ : ByteArray)] (0, 0) _ rfl (by (with_reducible repeat (first | refine blk_drewN ?_ _ | refine blk_drew ?_ | refine blk_alloc ?_ _)); refine blk_put (cs := #[.int .i64 0, .int .i64 0, .string (⟨#[]⟩ : ByteArray)]) ?_ 2 _ rfl; (with_reducible repeat (first | refine blk_drewN ?_ _ | refine blk_drew ?_ | refine blk_alloc ?_ _)); refine blk_put (cs := #[.int .i64 0, .int .i64 0, .string (⟨#[]⟩ : ByteArray)]) ?_ 1 _ rfl; (with_reducible repeat (first | refine blk_drewN ?_ _ | refine blk_drew ?_ | refine blk_alloc ?_ _)); refine blk_put (cs := #[.int .i64 0, .int .i64 0, .string (⟨#[]⟩ : ByteArray)]) ?_ 0 _ rfl; (with_reducible repeat (first | refine blk_drewN ?_ _ | refine blk_drew ?_ | refine blk_alloc ?_ _)); exact BK834.out) Tryd.underlying23 rfl (by kernel_rfl)) rfl ?_
     exact ⟨by first | rfl | (simp [errW_none, errW_some] <;> rfl) | (simp [*, errW_none, errW_some] <;> rfl), by repeat (first | (with_reducible first | exact HB.out | apply below_alloc | apply pw_below_drewN | apply below_drew1 | refine below_set ?_ GE834.out | refine below_set ?_ GE835.out) | exact HB.out)⟩
   ·replace c68 := Bool.eq_false_iff.mpr c68
    subst c68
    have H1 : (some (0, 0, (⟨#[]⟩ : ByteArray), false)) = some (r1, r2, r3, r4) := by rw [if_neg (show ¬ (false = true) by decide)] at H; exact H
    clear H
    have H := H1
    clear H1
    simp only [Option.some.injEq, Prod.mk.injEq] at H
    obtain ⟨rfl, rfl, rfl, rfl⟩ := H
    have hnb84 := NB835_834.out
    have hnc84 := NB834_835.out
    have hcz85_0 : wc.cell? ⟨gb835, 0, none⟩ = some (.int .i64 x836000_1) := bc BK835 0
    have hcz85_1 : wc.cell? ⟨gb835, 1, none⟩ = some (.int .i64 x836001_1) := bc BK835 1
    have hcz85_2 : wc.cell? ⟨gb835, 2, none⟩ = some (.string x836002_1) := bc BK835 2
    have hfz85_0 := blk_frozen BK835.out 0
    have hfz85_1 := blk_frozen BK835.out 1
    have hfz85_2 := blk_frozen BK835.out 2
    go_wp2_with (first | ((with_reducible refine gate_callee (f := 11) rfl ?_); refine goesL_ (some 114) rfl rfl Tryd.func11 (by kernel_rfl) rfl #[.agg #[.int .i64 x836000_1, .int .i64 x836001_1, .string x836002_1]] rfl (by (try simp only [List.map_toArray, List.map_cons, List.map_nil]); first | done | rfl | (simp only [List.length_drop, List.length_take]; rfl)) ?_; (with_reducible refine (alumref19_Right.calls x836000_1 x836001_1 x836002_1 false _ A67.out).mono ?_); rintro e w86 ⟨rfl, hb⟩; refine ⟨_, rfl, ?_⟩; replace BK834 := blkB BK834 hb; replace BK835 := blkB BK835 hb; replace HB := stepB HB hb; (try clear hb); (try clear hb2); (try clear hk); (try clear hi); have hcz87_0 : w86.cell? ⟨gb834, 0, none⟩ = some (.int .i64 0) := bc BK834 0; have hcz87_1 : w86.cell? ⟨gb834, 1, none⟩ = some (.int .i64 0) := bc BK834 1; have hcz87_2 : w86.cell? ⟨gb834, 2, none⟩ = some (.string (⟨#[]⟩ : ByteArray)) := bc BK834 2; have hfz87_0 := blk_frozen BK834.out 0; have hfz87_1 := blk_frozen BK834.out 1; have hfz87_2 := blk_frozen BK834.out 2))
    refine bodyPost_ret (results_ct rfl _ _ gb834 23 #[.int .i64 0, .int .i64 0, .string (⟨#[]⟩ : ByteArray)] (0, 0) _ rfl (by (with_reducible repeat (first | refine blk_drewN ?_ _ | refine blk_drew ?_ | refine blk_alloc ?_ _)); refine blk_put (cs := #[.int .i64 0, .int .i64 0, .string (⟨#[]⟩ : ByteArray)]) ?_ 2 _ rfl; (with_reducible repeat (first | refine blk_drewN ?_ _ | refine blk_drew ?_ | refine blk_alloc ?_ _)); refine blk_put (cs := #[.int .i64 0, .int .i64 0, .string (⟨#[]⟩ : ByteArray)]) ?_ 1 _ rfl; (with_reducible repeat (first | refine blk_drewN ?_ _ | refine blk_drew ?_ | refine blk_alloc ?_ _)); refine blk_put (cs := #[.int .i64 0, .int .i64 0, .string (⟨#[]⟩ : ByteArray)]) ?_ 0 _ rfl; (with_reducible repeat (first | refine blk_drewN ?_ _ | refine blk_drew ?_ | refine blk_alloc ?_ _)); exact BK834.out) Tryd.underlying23 rfl (by kernel_rfl)) rfl ?_
    exact ⟨by first | rfl | (simp [errW_none, errW_some] <;> rfl) | (simp [*, errW_none, errW_some] <;> rfl), by repeat (first | (with_reducible first | exact HB.out | apply below_alloc | apply pw_below_drewN | apply below_drew1 | refine below_set ?_ GE834.out | refine below_set ?_ GE835.out) | exact HB.out)⟩
end Go.Proofs.YtmhnfdgegejlkaaDoor.P
end

section
namespace Go.Proofs.YtmhnfdgegejlkaaDoor.P
open Go.RowKit Go.Proofs.YtmhnfdgegejlkaaDoorW.PrintWords Go.Proofs.YtmhnfdgegejlkaaDoorW.PrintLast Go.Proofs.YtmhnfdgegejlkaaDoorW.PrintMore
attribute [local go_sem] max2_int min2_int max_two min_two max_three min_three max_four min_four
set_option linter.unusedVariables false
set_option linter.unusedSimpArgs false
def value_PrintT.l0 : Nat → List Int → Int → Int → Int → Int → ByteArray → Option (ByteArray)
 | 0, _, _, _, _, _, _ => none
 | k + 1, x3, x24, x25, x220000, x220001, x220002 => if x25 < x24 then (if 0 ≤ x25 then (if x25 < (x220002.size : Int) then ((value_plain.f (bt x220002 x25)).bind fun t225 => (if t225 = true then (if x3.length < 140737488355328 then (value_PrintT.l0 k (x3 ++ [bt x220002 x25]) x24 (wrap64 (x25 + 1)) x220000 x220001 x220002) else (none)) else (if 0 ≤ ((bt x220002 x25) / 16) then (if ((bt x220002 x25) / 16) < 16 then (if 0 ≤ (Go.bits .and .u8 (bt x220002 x25) 15) then (if (Go.bits .and .u8 (bt x220002 x25) 15) < 16 then ((some (([92, bt (⟨#[48, 49, 50, 51, 52, 53, 54, 55, 56, 57, 97, 98, 99, 100, 101, 102]⟩ : ByteArray) ((bt x220002 x25) / 16), bt (⟨#[48, 49, 50, 51, 52, 53, 54, 55, 56, 57, 97, 98, 99, 100, 101, 102]⟩ : ByteArray) (Go.bits .and .u8 (bt x220002 x25) 15)] : List Int) : List Int)).bind fun y229 => (if x3.length + y229.length < 140737488355328 then (value_PrintT.l0 k (x3 ++ y229) x24 (wrap64 (x25 + 1)) x220000 x220001 x220002) else (none))) else (none)) else (none)) else (none)) else (none)))) else (none)) else (none)) else (if x3.length < 140737488355328 then (some (strOfNums (x3 ++ [39]))) else (none))
def value_PrintT.f (k : Nat) (a0_0 : Int) (a0_1 : Int) (a0_2 : ByteArray) : Option (ByteArray) := if a0_0 = 1 then ((strconv_ItoaT.f a0_1).bind fun t220 => (some t220)) else (if a0_0 = 3 then ((strconv_FormatBool.f (a0_1 == 1)).bind fun t221 => (some t221)) else (if a0_0 = 0 then (some (⟨#[110, 117, 108, 108]⟩ : ByteArray)) else (value_PrintT.l0 k (([39] : List Int)) (a0_2.size : Int) 0 a0_0 a0_1 a0_2)))
def value_PrintT.T15 : Bool × List (List Nat × List Nat) := (true, [([], []), ([], []), ([1], [1]), ([2], [2]), ([], []), ([4], [4]), ([5], [5]), ([3, 6], [3, 6]), ([0, 7], [0, 7]), ([8, 8, 0, 1, 2, 3, 4, 5, 6, 7, 8], [0, 8])])
def value_PrintT.B15 : List Nat := [0, 0, 2, 6, 0, 16, 48, 126, 255, 511]
theorem value_PrintT.tab15 : rtab .any (opsOf Tryd.f29 15) = value_PrintT.T15 := by kernel_rfl
theorem value_PrintT.bits15 : waitsOk value_PrintT.T15.2 value_PrintT.B15 = true := by kernel_rfl
set_option maxHeartbeats 8000000 in
set_option maxRecDepth 100000 in
theorem value_PrintT.calls (k : Nat) (a0_0 : Int) (a0_1 : Int) (a0_2 : ByteArray) (r : ByteArray) (w : World) (htab : TabW w) (h : value_PrintT.f k a0_0 a0_1 a0_2 = some r) :
  Calls Tryd.prog 29 #[.agg #[.int .i64 a0_0, .int .i64 a0_1, .string a0_2]] w fun e w' => e = .returned (.string r) ∧ Below w.heap.size w w' := by
 have hu23 := Tryd.underlying23
 have HB := Aside0.mk (Below.refl w.heap.size w)
 have HTAB := Aside0.mk htab
 clear htab
 have H : (if a0_0 = 1 then ((strconv_ItoaT.f a0_1).bind fun t220 => (some t220)) else (if a0_0 = 3 then ((strconv_FormatBool.f (a0_1 == 1)).bind fun t221 => (some t221)) else (if a0_0 = 0 then (some (⟨#[110, 117, 108, 108]⟩ : ByteArray)) else (value_PrintT.l0 k (([39] : List Int)) (a0_2.size : Int) 0 a0_0 a0_1 a0_2)))) = some r := h
 clear h
 by_cases c2 : a0_0 = 1
 ·rw [if_pos c2] at H
  have c2b0 : (a0_0 == 1) = true := beq_iff_eq.mpr c2
  have c2b1 : (a0_0 != 1) = false := bne_eq_false_iff_eq.mpr c2
  clear c2
  replace H := Option.bind_eq_some_iff.mp H
  obtain ⟨t220, A30, H⟩ := H
  replace H : (some t220) = some r := H
  have A3 := Aside0.mk A30
  clear A30
  obtain rfl := Option.some.inj H
  go_enter Tryd.func29, Tryd.ntmps29
  go_wp2_with (first | ((with_reducible refine gate_dst (N := 1) rfl ?_); refine box_event ?hg (N := 1) ?hd (cs := #[.int .i64 a0_0, .int .i64 a0_1, .string a0_2]) (t := 23) ?hr ?_; (case hd => rfl); (case hg => rfl); (case hr => first | (go_simp; done) | (go_simp; rfl)); intro gb219 hg w4 hbox hb; have BK219 := Aside0.mk (hbox); have GW219 := (sizeB HB hg : Aside0 (w.heap.size ≤ gb219)); have GE219 := (sizeB HB hg : Aside0 (w.heap.size ≤ gb219)); replace HB := stepB HB hb; clear hb hbox hg; have hcz5_0 : w4.cell? ⟨gb219, 0, none⟩ = some (.int .i64 a0_0) := bc BK219 0; have hcz5_1 : w4.cell? ⟨gb219, 1, none⟩ = some (.int .i64 a0_1) := bc BK219 1; have hcz5_2 : w4.cell? ⟨gb219, 2, none⟩ = some (.string a0_2) := bc BK219 2; have hfz5_0 := blk_frozen BK219.out 0; have hfz5_1 := blk_frozen BK219.out 1; have hfz5_2 := blk_frozen BK219.out 2) | ((with_reducible refine gate_callee (f := 53) rfl ?_); refine goesL_ (some 12) rfl rfl Tryd.func53 (by kernel_rfl) rfl #[.int .i64 a0_1] rfl (by (try simp only [List.map_toArray, List.map_cons, List.map_nil]); first | done | rfl | (simp only [List.length_drop, List.length_take]; rfl)) ?_; (with_reducible refine (strconv_ItoaT.calls (htab := tab_below HTAB.out (by repeat (first | (with_reducible first | exact HB.out | apply below_alloc | apply pw_below_drewN | apply below_drew1 | refine below_set ?_ GE219.out) | exact HB.out))) a0_1 t220 _ A3.out).mono ?_); rintro e w6 ⟨rfl, hb⟩; refine ⟨_, rfl, ?_⟩; replace BK219 := blkB BK219 hb; replace HB := stepB HB hb; (try clear hb); (try clear hb2); (try clear hk); (try clear hi)))
  go_ret
  exact ⟨by first | rfl | (simp [errW_none, errW_some] <;> rfl) | (simp [*, errW_none, errW_some] <;> rfl), by repeat (first | (with_reducible first | exact HB.out | apply below_alloc | apply pw_below_drewN | apply below_drew1 | refine below_set ?_ GE219.out) | exact HB.out)⟩
 ·rw [if_neg c2] at H
  have c2b0 : (a0_0 == 1) = false := beq_eq_false_iff_ne.mpr c2
  have c2b1 : (a0_0 != 1) = true := bne_iff_ne.mpr c2
  by_cases c7 : a0_0 = 3
  ·rw [if_pos c7] at H
   have c7b0 : (a0_0 == 3) = true := beq_iff_eq.mpr c7
   have c7b1 : (a0_0 != 3) = false := bne_eq_false_iff_eq.mpr c7
   clear c7
   replace H := Option.bind_eq_some_iff.mp H
   obtain ⟨t221, A80, H⟩ := H
   replace H : (some t221) = some r := H
   have A8 := Aside0.mk A80
   clear A80
   obtain rfl := Option.some.inj H
   go_enter Tryd.func29, Tryd.ntmps29
   go_wp2_with (first | ((with_reducible refine gate_dst (N := 1) rfl ?_); refine box_event ?hg (N := 1) ?hd (cs := #[.int .i64 a0_0, .int .i64 a0_1, .string a0_2]) (t := 23) ?hr ?_; (case hd => rfl); (case hg => rfl); (case hr => first | (go_simp; done) | (go_simp; rfl)); intro gb219 hg w9 hbox hb; have BK219 := Aside0.mk (hbox); have GW219 := (sizeB HB hg : Aside0 (w.heap.size ≤ gb219)); have GE219 := (sizeB HB hg : Aside0 (w.heap.size ≤ gb219)); replace HB := stepB HB hb; clear hb hbox hg; have hcz10_0 : w9.cell? ⟨gb219, 0, none⟩ = some (.int .i64 a0_0) := bc BK219 0; have hcz10_1 : w9.cell? ⟨gb219, 1, none⟩ = some (.int .i64 a0_1) := bc BK219 1; have hcz10_2 : w9.cell? ⟨gb219, 2, none⟩ = some (.string a0_2) := bc BK219 2; have hfz10_0 := blk_frozen BK219.out 0; have hfz10_1 := blk_frozen BK219.out 1; have hfz10_2 := blk_frozen BK219.out 2) | ((with_reducible refine gate_callee (f := 54) rfl ?_); refine goesL_ (some 18) rfl rfl Tryd.func54 (by kernel_rfl) rfl #[.bool (a0_1 == 1)] rfl (by (try simp only [List.map_toArray, List.map_cons, List.map_nil]); first | done | rfl | (simp only [List.length_drop, List.length_take]; rfl)) ?_; (with_reducible refine (strconv_FormatBool.calls (a0_1 == 1) t221 _ A8.out).mono ?_); rintro e w' ⟨rfl, ⟨nd, rfl⟩⟩; refine ⟨_, rfl, ?_⟩))
   go_ret
   exact ⟨by first | rfl | (simp [errW_none, errW_some] <;> rfl) | (simp [*, errW_none, errW_some] <;> rfl), by repeat (first | (with_reducible first | exact HB.out | apply below_alloc | apply pw_below_drewN | apply below_drew1 | refine below_set ?_ GE219.out) | exact HB.out)⟩
  ·rw [if_neg c7] at H
   have c7b0 : (a0_0 == 3) = false := beq_eq_false_iff_ne.mpr c7
   have c7b1 : (a0_0 != 3) = true := bne_iff_ne.mpr c7
   by_cases c11 : a0_0 = 0
   ·rw [if_pos c11] at H
    have c11b0 : (a0_0 == 0) = true := beq_iff_eq.mpr c11
    have c11b1 : (a0_0 != 0) = false := bne_eq_false_iff_eq.mpr c11
    clear c11
    obtain rfl := Option.some.inj H
    go_enter Tryd.func29, Tryd.ntmps29
    go_wp2_with (first | ((with_reducible refine gate_dst (N := 1) rfl ?_); refine box_event ?hg (N := 1) ?hd (cs := #[.int .i64 a0_0, .int .i64 a0_1, .string a0_2]) (t := 23) ?hr ?_; (case hd => rfl); (case hg => rfl); (case hr => first | (go_simp; done) | (go_simp; rfl)); intro gb219 hg w12 hbox hb; have BK219 := Aside0.mk (hbox); have GW219 := (sizeB HB hg : Aside0 (w.heap.size ≤ gb219)); have GE219 := (sizeB HB hg : Aside0 (w.heap.size ≤ gb219)); replace HB := stepB HB hb; clear hb hbox hg; have hcz13_0 : w12.cell? ⟨gb219, 0, none⟩ = some (.int .i64 a0_0) := bc BK219 0; have hcz13_1 : w12.cell? ⟨gb219, 1, none⟩ = some (.int .i64 a0_1) := bc BK219 1; have hcz13_2 : w12.cell? ⟨gb219, 2, none⟩ = some (.string a0_2) := bc BK219 2; have hfz13_0 := blk_frozen BK219.out 0; have hfz13_1 := blk_frozen BK219.out 1; have hfz13_2 := blk_frozen BK219.out 2))
    go_ret
    exact ⟨by first | rfl | (simp [errW_none, errW_some] <;> rfl) | (simp [*, errW_none, errW_some] <;> rfl), by repeat (first | (with_reducible first | exact HB.out | apply below_alloc | apply pw_below_drewN | apply below_drew1 | refine below_set ?_ GE219.out) | exact HB.out)⟩
   ·rw [if_neg c11] at H
    have c11b0 : (a0_0 == 0) = false := beq_eq_false_iff_ne.mpr c11
    have c11b1 : (a0_0 != 0) = true := bne_iff_ne.mpr c11
    obtain ⟨y222, hy222⟩ : ∃ y_ : List Int, y_ = (([39] : List Int)) := ⟨_, rfl⟩
    replace H : (value_PrintT.l0 k y222 (a0_2.size : Int) 0 a0_0 a0_1 a0_2) = some r := by first | (rw [hy222]; with_reducible exact H) | (have H2_ := (Option.bind_some _ _).symm.trans H; rw [hy222]; with_reducible exact H2_) | (have H2_ := (Option.bind_some _ _).symm.trans H; with_reducible exact H2_) | with_reducible exact H | (rw [hy222]; exact H) | exact H
    have Ny222 := Aside0.mk hy222
    clear hy222
    have H' := Aside0.mk H
    clear H
    go_enter Tryd.func29, Tryd.ntmps29
    go_wp2_with (first | ((with_reducible refine gate_dst (N := 1) rfl ?_); refine box_event ?hg (N := 1) ?hd (cs := #[.int .i64 a0_0, .int .i64 a0_1, .string a0_2]) (t := 23) ?hr ?_; (case hd => rfl); (case hg => rfl); (case hr => first | (go_simp; done) | (go_simp; rfl)); intro gb219 hg w14 hbox hb; have BK219 := Aside0.mk (hbox); have GW219 := (sizeB HB hg : Aside0 (w.heap.size ≤ gb219)); have GE219 := (sizeB HB hg : Aside0 (w.heap.size ≤ gb219)); replace HB := stepB HB hb; clear hb hbox hg; have hcz15_0 : w14.cell? ⟨gb219, 0, none⟩ = some (.int .i64 a0_0) := bc BK219 0; have hcz15_1 : w14.cell? ⟨gb219, 1, none⟩ = some (.int .i64 a0_1) := bc BK219 1; have hcz15_2 : w14.cell? ⟨gb219, 2, none⟩ = some (.string a0_2) := bc BK219 2; have hfz15_0 := blk_frozen BK219.out 0; have hfz15_1 := blk_frozen BK219.out 1; have hfz15_2 := blk_frozen BK219.out 2) | ((with_reducible refine gate_dst (N := 21) rfl ?_); refine Kd.R_lit (Kd.int .u8) _ 5 ?hg (N := 21) ?hd (xs := ([39] : List Int)) (inner := [.int .u8 39]) (ok := fun _ => True) (okp := fun _ => True) ?hr ?hp (fun _ hk => hk) trivial (Below.refl _ _) (Nat.le_refl _) (by simp) ?_; (case hd => rfl); (case hg => rfl); (case hr => first | (go_simp; done) | (go_simp; rfl)); (case hp => exact (Reps.one (show Kd.M (Kd.int .u8) _ _ _ 39 [.int .u8 39] from rfl) (Reps.none _ _))); intro v223 w16 ho17 hb hg_ hnew_; clear hg_ hnew_; (first | rw [← Ny222.out] at ho17 | (simp only [Int.reduceToNat] at ho17; rw [← Ny222.out] at ho17)); have HO224 := Aside0.mk (Kd.R_lower ho17 (below_size (by repeat (first | (with_reducible first | exact HB.out | apply below_alloc | apply pw_below_drewN | apply below_drew1 | refine below_set ?_ GE219.out) | exact HB.out)))); replace BK219 := blkB BK219 hb; replace HB := stepB HB hb; clear hb ho17; have hcz18_0 : w16.cell? ⟨gb219, 0, none⟩ = some (.int .i64 a0_0) := bc BK219 0; have hcz18_1 : w16.cell? ⟨gb219, 1, none⟩ = some (.int .i64 a0_1) := bc BK219 1; have hcz18_2 : w16.cell? ⟨gb219, 2, none⟩ = some (.string a0_2) := bc BK219 2; have hfz18_0 := blk_frozen BK219.out 0; have hfz18_1 := blk_frozen BK219.out 1; have hfz18_2 := blk_frozen BK219.out 2))
    go_loopg [3, 25] k (fun kq v3 v25 w' => ∃ (x3_1 : List Int) (x25_1 : Int), v25 = .int .i64 x25_1 ∧ Aside0 (value_PrintT.l0 kq x3_1 (a0_2.size : Int) x25_1 a0_0 a0_1 a0_2 = some r) ∧ Aside0 (kq ≤ k) ∧ Aside0 (Kd.R (Kd.int .u8) 5 w' w.heap.size (fun _ => True) v3 x3_1) ∧ Aside0 (w'.heap[gb219]? = some (.cells #[.int .i64 a0_0, .int .i64 a0_1, .string a0_2] 23 (0, 0))) ∧ Aside0 (Below w.heap.size w w'))
    case atStart => exact ⟨(y222), (0), (by first | rfl | (simp; done) | (simp [*]; done)), H', ⟨Nat.le_refl _⟩, ⟨by (with_reducible repeat (first | apply Kd.R_alloc | apply Kd.R_drewN | apply Kd.R_drew)); exact HO224.out⟩, ⟨by (with_reducible repeat (first | refine blk_drewN ?_ _ | refine blk_drew ?_ | refine blk_alloc ?_ _)); exact BK219.out⟩, ⟨by repeat (first | (with_reducible first | exact HB.out | apply below_alloc | apply pw_below_drewN | apply below_drew1 | refine below_set ?_ GE219.out) | exact HB.out)⟩⟩
    case round =>
     clear H'
     try clear c1
     try clear c2
     try clear c2b0
     try clear c2b1
     try clear p2
     try clear c5
     try clear c7
     try clear c7b0
     try clear c7b1
     try clear c11
     try clear c11b0
     try clear c11b1
     try clear hcz10_0
     try clear hcz10_1
     try clear hcz10_2
     try clear hcz13_0
     try clear hcz13_1
     try clear hcz13_2
     try clear hcz15_0
     try clear hcz15_1
     try clear hcz15_2
     try clear hcz18_0
     try clear hcz18_1
     try clear hcz18_2
     try clear hcz5_0
     try clear hcz5_1
     try clear hcz5_2
     try clear hfz10_0
     try clear hfz10_1
     try clear hfz10_2
     try clear hfz13_0
     try clear hfz13_1
     try clear hfz13_2
     try clear hfz15_0
     try clear hfz15_1
     try clear hfz15_2
     try clear hfz18_0
     try clear hfz18_1
     try clear hfz18_2
     try clear hfz5_0
     try clear hfz5_1
     try clear hfz5_2
     obtain ⟨x3_1, x25_1, rfl, HA, HK1, HO_3, BK219, HB⟩ := hrel
     cases gk with
     | zero => exact absurd HA.out (by simp [value_PrintT.l0])
     | succ k1 =>
      have H := HA.out
      clear HA
      simp only [value_PrintT.l0] at H
      by_cases c19 : x25_1 < (a0_2.size : Int)
      ·rw [if_pos c19] at H
       have c19b0 : decide (x25_1 < (a0_2.size : Int)) = true := decide_eq_true c19
       clear c19
       by_cases c20 : 0 ≤ x25_1
       ·rw [if_pos c20] at H
        have c20b0 : decide (0 ≤ x25_1) = true := decide_eq_true c20
        clear c20
        by_cases c21 : x25_1 < (a0_2.size : Int)
        ·rw [if_pos c21] at H
         have c21b0 : decide (x25_1 < (a0_2.size : Int)) = true := decide_eq_true c21
         clear c21
         replace H := Option.bind_eq_some_iff.mp H
         obtain ⟨t225, A230, H⟩ := H
         replace H : (if t225 = true then (if x3_1.length < 140737488355328 then (value_PrintT.l0 k1 (x3_1 ++ [bt a0_2 x25_1]) (a0_2.size : Int) (wrap64 (x25_1 + 1)) a0_0 a0_1 a0_2) else (none)) else (if 0 ≤ ((bt a0_2 x25_1) / 16) then (if ((bt a0_2 x25_1) / 16) < 16 then (if 0 ≤ (Go.bits .and .u8 (bt a0_2 x25_1) 15) then (if (Go.bits .and .u8 (bt a0_2 x25_1) 15) < 16 then ((some (([92, bt (⟨#[48, 49, 50, 51, 52, 53, 54, 55, 56, 57, 97, 98, 99, 100, 101, 102]⟩ : ByteArray) ((bt a0_2 x25_1) / 16), bt (⟨#[48, 49, 50, 51, 52, 53, 54, 55, 56, 57, 97, 98, 99, 100, 101, 102]⟩ : ByteArray) (Go.bits .and .u8 (bt a0_2 x25_1) 15)] : List Int) : List Int)).bind fun y229 => (if x3_1.length + y229.length < 140737488355328 then (value_PrintT.l0 k1 (x3_1 ++ y229) (a0_2.size : Int) (wrap64 (x25_1 + 1)) a0_0 a0_1 a0_2) else (none))) else (none)) else (none)) else (none)) else (none))) = some r := H
         have A23 := Aside0.mk A230
         clear A230
         by_cases c24 : t225 = true
         ·subst c24
          have H1 : (if x3_1.length < 140737488355328 then (value_PrintT.l0 k1 (x3_1 ++ [bt a0_2 x25_1]) (a0_2.size : Int) (wrap64 (x25_1 + 1)) a0_0 a0_1 a0_2) else (none)) = some r := by rw [if_pos rfl] at H; exact H
          clear H
          have H := H1
          clear H1
          by_cases c25 : x3_1.length < 140737488355328
          ·rw [if_pos c25] at H
           have LMc25 := Aside0.mk c25
           clear c25
           obtain ⟨y226, hy226⟩ : ∃ y_ : List Int, y_ = (x3_1 ++ [bt a0_2 x25_1]) := ⟨_, rfl⟩
           replace H : (value_PrintT.l0 k1 y226 (a0_2.size : Int) (wrap64 (x25_1 + 1)) a0_0 a0_1 a0_2) = some r := by first | (rw [hy226]; with_reducible exact H) | (have H2_ := (Option.bind_some _ _).symm.trans H; rw [hy226]; with_reducible exact H2_) | (have H2_ := (Option.bind_some _ _).symm.trans H; with_reducible exact H2_) | with_reducible exact H | (rw [hy226]; exact H) | exact H
           have Ny226 := Aside0.mk hy226
           clear hy226
           have H' := Aside0.mk H
           clear H
           have hcz26_0 : wr.cell? ⟨gb219, 0, none⟩ = some (.int .i64 a0_0) := bc BK219 0
           have hcz26_1 : wr.cell? ⟨gb219, 1, none⟩ = some (.int .i64 a0_1) := bc BK219 1
           have hcz26_2 : wr.cell? ⟨gb219, 2, none⟩ = some (.string a0_2) := bc BK219 2
           have hfz26_0 := blk_frozen BK219.out 0
           have hfz26_1 := blk_frozen BK219.out 1
           have hfz26_2 := blk_frozen BK219.out 2
           have p22 : 0 ≤ (x25_1 : Int) := of_decide_eq_true (by first | (with_reducible assumption) | assumption)
           have q22 : x25_1 < (a0_2.size : Int) := of_decide_eq_true (by first | (with_reducible assumption) | assumption)
           have hx22 := bt_at a0_2 x25_1
           replace p22 := eq_true p22
           replace q22 := eq_true q22
           go_wp2_with (first | ((with_reducible refine gate_callee (f := 55) rfl ?_); refine goesL_ (some 33) rfl rfl Tryd.func55 (by kernel_rfl) rfl #[.int .u8 (bt a0_2 x25_1)] rfl (by (try simp only [List.map_toArray, List.map_cons, List.map_nil]); first | done | rfl | (simp only [List.length_drop, List.length_take]; rfl)) ?_; (with_reducible refine (value_plain.calls (bt a0_2 x25_1) true _ A23.out).mono ?_); rintro e w' ⟨rfl, ⟨nd, rfl⟩⟩; refine ⟨_, rfl, ?_⟩) | ((with_reducible refine gate_builtin (b := .append) (xs := #[.tmp 34, .tmp 36]) rfl ?_); at_builtin; refine Kd.R_append (Kd.int .u8) (w0 := w) w.heap.size rfl (.tmp 34) (.tmp 36) 63 5 (.int .u8 0) 1 rfl Tryd.underlying63 info5 rfl (by decide) (by omega) u3 x3_1 (bt a0_2 x25_1) [.int .u8 (bt a0_2 x25_1)] (fun _ => True) (fun _ => False) rfl rfl ?aP (fun _ hk => hk.elim) ?aF ?aO ?aB ?aS ?aL ?_; (case aP => exact rfl); (case aB => exact (by repeat (first | (with_reducible first | exact HB.out | apply below_alloc | apply pw_below_drewN | apply below_drew1 | refine below_set ?_ GE219.out) | exact HB.out))); (case aF => exact (fun _ _ => trivial)); (case aO => exact (by (with_reducible repeat (first | apply Kd.R_alloc | apply Kd.R_drewN | apply Kd.R_drew)); exact HO_3.out)); (case aS => exact (below_size (by repeat (first | (with_reducible first | exact HB.out | apply below_alloc | apply pw_below_drewN | apply below_drew1 | refine below_set ?_ GE219.out) | exact HB.out)))); (case aL => have := LMc25.out; omega); intro v227 w27 ho hb hg hat; rw [← Ny226.out] at ho; have HO228 := Aside0.mk (ho); replace BK219 := Aside0.mk (blk_grown (g := gb219) (o := .cells #[.int .i64 a0_0, .int .i64 a0_1, .string a0_2] 23 (0, 0)) (by (with_reducible repeat (first | refine blk_drewN ?_ _ | refine blk_drew ?_ | refine blk_alloc ?_ _)); exact BK219.out) hg (Kd.R_ne HO_3.out BK219.out (by decide))); replace HB := Aside0.mk (hb); clear HO_3; clear ho hb hg hat))
           go_roundg k1
           case measure => have := HK1.out; omega
           case rel => exact ⟨(y226), (wrap64 (x25_1 + 1)), (by first | rfl | (simp; done) | (simp [*]; done)), H', ⟨by have := HK1.out; omega⟩, ⟨by (with_reducible repeat (first | apply Kd.R_alloc | apply Kd.R_drewN | apply Kd.R_drew)); exact HO228.out⟩, ⟨by (with_reducible repeat (first | refine blk_drewN ?_ _ | refine blk_drew ?_ | refine blk_alloc ?_ _)); exact BK219.out⟩, ⟨by repeat (first | (with_reducible first | exact HB.out | apply below_alloc | apply pw_below_drewN | apply below_drew1 | refine below_set ?_ GE219.out) | exact HB.out)⟩⟩
          ·rw [if_neg c25] at H
           exact absurd H (by simp)
         ·replace c24 := Bool.eq_false_iff.mpr c24
          subst c24
          have H1 : (if 0 ≤ ((bt a0_2 x25_1) / 16) then (if ((bt a0_2 x25_1) / 16) < 16 then (if 0 ≤ (Go.bits .and .u8 (bt a0_2 x25_1) 15) then (if (Go.bits .and .u8 (bt a0_2 x25_1) 15) < 16 then ((some (([92, bt (⟨#[48, 49, 50, 51, 52, 53, 54, 55, 56, 57, 97, 98, 99, 100, 101, 102]⟩ : ByteArray) ((bt a0_2 x25_1) / 16), bt (⟨#[48, 49, 50, 51, 52, 53, 54, 55, 56, 57, 97, 98, 99, 100, 101, 102]⟩ : ByteArray) (Go.bits .and .u8 (bt a0_2 x25_1) 15)] : List Int) : List Int)).bind fun y229 => (if x3_1.length + y229.length < 140737488355328 then (value_PrintT.l0 k1 (x3_1 ++ y229) (a0_2.size : Int) (wrap64 (x25_1 + 1)) a0_0 a0_1 a0_2) else (none))) else (none)) else (none)) else (none)) else (none)) = some r := by rw [if_neg (show ¬ (false = true) by decide)] at H; exact H
          clear H
          have H := H1
          clear H1
          obtain ⟨ji28, hji28⟩ : ∃ j_ : Int, ((bt a0_2 x25_1) / 16) = j_ := ⟨_, rfl⟩
          replace H : (if 0 ≤ (ji28) then (if (ji28) < 16 then (if 0 ≤ (Go.bits .and .u8 (bt a0_2 x25_1) 15) then (if (Go.bits .and .u8 (bt a0_2 x25_1) 15) < 16 then ((some (([92, bt (⟨#[48, 49, 50, 51, 52, 53, 54, 55, 56, 57, 97, 98, 99, 100, 101, 102]⟩ : ByteArray) (ji28), bt (⟨#[48, 49, 50, 51, 52, 53, 54, 55, 56, 57, 97, 98, 99, 100, 101, 102]⟩ : ByteArray) (Go.bits .and .u8 (bt a0_2 x25_1) 15)] : List Int) : List Int)).bind fun y229 => (if x3_1.length + y229.length < 140737488355328 then (value_PrintT.l0 k1 (x3_1 ++ y229) (a0_2.size : Int) (wrap64 (x25_1 + 1)) a0_0 a0_1 a0_2) else (none))) else (none)) else (none)) else (none)) else (none)) = some r := by first | (rw [hji28] at H; exact H) | (simp only [hji28] at H ⊢; exact H)
          (try rw [hji28] at A23)
          by_cases c29 : 0 ≤ (ji28)
          ·rw [if_pos c29] at H
           have c29b0 : decide (0 ≤ (ji28)) = true := decide_eq_true c29
           clear c29
           by_cases c30 : (ji28) < 16
           ·rw [if_pos c30] at H
            have c30b0 : decide ((ji28) < 16) = true := decide_eq_true c30
            clear c30
            by_cases c32 : 0 ≤ (Go.bits .and .u8 (bt a0_2 x25_1) 15)
            ·rw [if_pos c32] at H
             have c32b0 : decide (0 ≤ (Go.bits .and .u8 (bt a0_2 x25_1) 15)) = true := decide_eq_true c32
             clear c32
             by_cases c33 : (Go.bits .and .u8 (bt a0_2 x25_1) 15) < 16
             ·rw [if_pos c33] at H
              have c33b0 : decide ((Go.bits .and .u8 (bt a0_2 x25_1) 15) < 16) = true := decide_eq_true c33
              clear c33
              obtain ⟨y229, hy229⟩ : ∃ y_ : List Int, y_ = (([92, bt (⟨#[48, 49, 50, 51, 52, 53, 54, 55, 56, 57, 97, 98, 99, 100, 101, 102]⟩ : ByteArray) (ji28), bt (⟨#[48, 49, 50, 51, 52, 53, 54, 55, 56, 57, 97, 98, 99, 100, 101, 102]⟩ : ByteArray) (Go.bits .and .u8 (bt a0_2 x25_1) 15)] : List Int)) := ⟨_, rfl⟩
              replace H : (if x3_1.length + y229.length < 140737488355328 then (value_PrintT.l0 k1 (x3_1 ++ y229) (a0_2.size : Int) (wrap64 (x25_1 + 1)) a0_0 a0_1 a0_2) else (none)) = some r := by first | (rw [hy229]; with_reducible exact H) | (have H2_ := (Option.bind_some _ _).symm.trans H; rw [hy229]; with_reducible exact H2_) | (have H2_ := (Option.bind_some _ _).symm.trans H; with_reducible exact H2_) | with_reducible exact H | (rw [hy229]; exact H) | exact H
              have Ny229 := Aside0.mk hy229
              clear hy229
              by_cases c35 : x3_1.length + y229.length < 140737488355328
              ·rw [if_pos c35] at H
               have LMc35 := Aside0.mk c35
               clear c35
               obtain ⟨y232, hy232⟩ : ∃ y_ : List Int, y_ = (x3_1 ++ y229) := ⟨_, rfl⟩
               replace H : (value_PrintT.l0 k1 y232 (a0_2.size : Int) (wrap64 (x25_1 + 1)) a0_0 a0_1 a0_2) = some r := by first | (rw [hy232]; with_reducible exact H) | (have H2_ := (Option.bind_some _ _).symm.trans H; rw [hy232]; with_reducible exact H2_) | (have H2_ := (Option.bind_some _ _).symm.trans H; with_reducible exact H2_) | with_reducible exact H | (rw [hy232]; exact H) | exact H
               have Ny232 := Aside0.mk hy232
               clear hy232
               have H' := Aside0.mk H
               clear H
               have hcz36_0 : wr.cell? ⟨gb219, 0, none⟩ = some (.int .i64 a0_0) := bc BK219 0
               have hcz36_1 : wr.cell? ⟨gb219, 1, none⟩ = some (.int .i64 a0_1) := bc BK219 1
               have hcz36_2 : wr.cell? ⟨gb219, 2, none⟩ = some (.string a0_2) := bc BK219 2
               have hfz36_0 := blk_frozen BK219.out 0
               have hfz36_1 := blk_frozen BK219.out 1
               have hfz36_2 := blk_frozen BK219.out 2
               have p22 : 0 ≤ (x25_1 : Int) := of_decide_eq_true (by first | (with_reducible assumption) | assumption)
               have q22 : x25_1 < (a0_2.size : Int) := of_decide_eq_true (by first | (with_reducible assumption) | assumption)
               have hx22 := bt_at a0_2 x25_1
               replace p22 := eq_true p22
               replace q22 := eq_true q22
               try go_wp2_with (first | ((with_reducible refine gate_callee (f := 55) rfl ?_); refine goesL_ (some 33) rfl rfl Tryd.func55 (by kernel_rfl) rfl #[.int .u8 (bt a0_2 x25_1)] rfl (by (try simp only [List.map_toArray, List.map_cons, List.map_nil]); first | done | rfl | (simp only [List.length_drop, List.length_take]; rfl)) ?_; (with_reducible refine (value_plain.calls (bt a0_2 x25_1) false _ A23.out).mono ?_); rintro e w' ⟨rfl, ⟨nd, rfl⟩⟩; refine ⟨_, rfl, ?_⟩))
               (try (rw [drewN_self wr]; generalize hq_ : World.drewN wr _ = wr; replace HO_3 : Aside0 (Kd.R (Kd.int .u8) 5 wr w.heap.size (fun _ => True) u3 x3_1) := ⟨by rw [← hq_]; exact (by (with_reducible repeat (first | apply Kd.R_alloc | apply Kd.R_drewN | apply Kd.R_drew)); exact HO_3.out)⟩; replace BK219 : Aside0 (wr.heap[gb219]? = some (.cells #[.int .i64 a0_0, .int .i64 a0_1, .string a0_2] 23 (0, 0))) := ⟨by rw [← hq_]; exact (by (with_reducible repeat (first | refine blk_drewN ?_ _ | refine blk_drew ?_ | refine blk_alloc ?_ _)); exact BK219.out)⟩; replace HB : Aside0 (Below w.heap.size w wr) := ⟨by rw [← hq_]; exact (by repeat (first | (with_reducible first | exact HB.out | apply below_alloc | apply pw_below_drewN | apply below_drew1 | refine below_set ?_ GE219.out) | exact HB.out))⟩; clear hq_))
               replace HO_3 := Aside0.mk (Kd.R_drew HO_3.out)
               replace BK219 := Aside0.mk (blk_drew BK219.out)
               replace HB := Aside0.mk (below_drew1 HB.out)
               have p31 : 0 ≤ ((ji28) : Int) := of_decide_eq_true (by first | (with_reducible assumption) | assumption)
               have q31 : (ji28) < (16 : Int) := of_decide_eq_true (by first | (with_reducible assumption) | assumption)
               have hx31 := bt_at (⟨#[48, 49, 50, 51, 52, 53, 54, 55, 56, 57, 97, 98, 99, 100, 101, 102]⟩ : ByteArray) (ji28)
               replace p31 := eq_true p31
               replace q31 := eq_true q31
               have p34 : 0 ≤ ((Go.bits .and .u8 (bt a0_2 x25_1) 15) : Int) := of_decide_eq_true (by first | (with_reducible assumption) | assumption)
               have q34 : (Go.bits .and .u8 (bt a0_2 x25_1) 15) < (16 : Int) := of_decide_eq_true (by first | (with_reducible assumption) | assumption)
               have hx34 := bt_at (⟨#[48, 49, 50, 51, 52, 53, 54, 55, 56, 57, 97, 98, 99, 100, 101, 102]⟩ : ByteArray) (Go.bits .and .u8 (bt a0_2 x25_1) 15)
               replace p34 := eq_true p34
               replace q34 := eq_true q34
               refine start_ (n := 10) (S := fun w' => True) (ds := []) #[false, false, false, false, false, false, false, false, false, false] (by kernel_rfl) rfl rfl trivial (fun hHeld => ?_); refine with_tabW value_PrintT.tab15 value_PrintT.bits15 (fun HT_ HW_ => ?_)
               generalize wr.drew = w37 at HO_3 BK219 HB hHeld ⊢
               refine pureA 0 38 #[true, false, false, false, false, false, false, false, false, false] HT_ ?_
               refine pureA 1 39 #[true, true, false, false, false, false, false, false, false, false] HT_ ?_
               refine pureA 2 40 #[true, true, true, false, false, false, false, false, false, false] HT_ ?_
               refine pureA 4 42 #[true, true, true, false, true, false, false, false, false, false] HT_ ?_
               refine pureA 5 43 #[true, true, true, false, true, true, false, false, false, false] HT_ ?_
               refine take_ (i := 3) (N := some 41) (v := ?_) (a' := ?_) #[true, true, true, true, true, true, false, false, false, false] rfl rfl (take_ofW HT_.out HW_.out (by kernel_rfl)) (fun _ _ _ h => h) (Or.inl ⟨by rfl, ?_⟩) hHeld ?_ ?_
               rotate_left
               ·intro w' _
                go_simp
                with_reducible rfl
               rotate_left
               ·simp only [Act.put, List.setIfInBounds_toArray, List.set_cons_zero, List.set_cons_succ, i64_w, i32_w]
                rfl
               refine take_ (i := 6) (N := some 44) (v := ?_) (a' := ?_) #[true, true, true, true, true, true, true, false, false, false] rfl rfl (take_ofW HT_.out HW_.out (by kernel_rfl)) (fun _ _ _ h => h) (Or.inl ⟨by rfl, ?_⟩) hHeld ?_ ?_
               rotate_left
               ·intro w' _
                go_simp
                with_reducible rfl
               rotate_left
               ·simp only [Act.put, List.setIfInBounds_toArray, List.set_cons_zero, List.set_cons_succ, i64_w, i32_w]
                rfl
               refine one_ (i := 7) (N := some 45) #[true, true, true, true, true, true, true, true, false, false] rfl rfl (one_of HT_.out (by kernel_rfl)) (by decide) (fun K hK => ?_)
               refine Kd.R_lit_step (Kd.int .u8) _ 5 ?hg (N := 45) ?hd (xs := ([92, bt (⟨#[48, 49, 50, 51, 52, 53, 54, 55, 56, 57, 97, 98, 99, 100, 101, 102]⟩ : ByteArray) (ji28), bt (⟨#[48, 49, 50, 51, 52, 53, 54, 55, 56, 57, 97, 98, 99, 100, 101, 102]⟩ : ByteArray) (Go.bits .and .u8 (bt a0_2 x25_1) 15)] : List Int)) (inner := [.int .u8 92, .int .u8 (bt (⟨#[48, 49, 50, 51, 52, 53, 54, 55, 56, 57, 97, 98, 99, 100, 101, 102]⟩ : ByteArray) (ji28)), .int .u8 (bt (⟨#[48, 49, 50, 51, 52, 53, 54, 55, 56, 57, 97, 98, 99, 100, 101, 102]⟩ : ByteArray) (Go.bits .and .u8 (bt a0_2 x25_1) 15))]) (ok := fun _ => True) (okp := fun _ => True) ?hr ?hp (fun _ hk => hk) trivial (Below.refl _ _) (Nat.le_refl _) (by simp) ?_; (case hd => rfl); (case hg => rfl); (case hr => first | (go_simp; done) | (go_simp; rfl)); (case hp => exact (Reps.one (show Kd.M (Kd.int .u8) _ _ _ 92 [.int .u8 92] from rfl) (Reps.one (show Kd.M (Kd.int .u8) _ _ _ (bt (⟨#[48, 49, 50, 51, 52, 53, 54, 55, 56, 57, 97, 98, 99, 100, 101, 102]⟩ : ByteArray) (ji28)) [.int .u8 (bt (⟨#[48, 49, 50, 51, 52, 53, 54, 55, 56, 57, 97, 98, 99, 100, 101, 102]⟩ : ByteArray) (ji28))] from rfl) (Reps.one (show Kd.M (Kd.int .u8) _ _ _ (bt (⟨#[48, 49, 50, 51, 52, 53, 54, 55, 56, 57, 97, 98, 99, 100, 101, 102]⟩ : ByteArray) (Go.bits .and .u8 (bt a0_2 x25_1) 15)) [.int .u8 (bt (⟨#[48, 49, 50, 51, 52, 53, 54, 55, 56, 57, 97, 98, 99, 100, 101, 102]⟩ : ByteArray) (Go.bits .and .u8 (bt a0_2 x25_1) 15))] from rfl) (Reps.none _ _)))))
               intro v230 w38 ho39 hb hg_ hnew_
               clear hg_ hnew_
               (first | rw [← Ny229.out] at ho39 | (simp only [Int.reduceToNat] at ho39; rw [← Ny229.out] at ho39))
               have HO231 := Aside0.mk (Kd.R_lower (Kd.R_new' ho39 (Kd.R_lt (by (with_reducible repeat (first | apply Kd.R_alloc | apply Kd.R_drewN | apply Kd.R_drew)); exact HO_3.out))) (below_size (by repeat (first | (with_reducible first | exact HB.out | apply below_alloc | apply pw_below_drewN | apply below_drew1 | refine below_set ?_ GE219.out) | exact HB.out))))
               replace HO_3 := Aside0.mk (Kd.R_elder' (by (with_reducible repeat (first | apply Kd.R_alloc | apply Kd.R_drewN | apply Kd.R_drew)); exact HO_3.out) (Kd.R_base ho39) hb)
               replace BK219 := blkB BK219 hb
               replace HB := stepB HB hb
               clear hb ho39
               obtain ⟨Ao41, co41, eo41⟩ := Kd.R_slice HO231.out
               (first | subst eo41 | (injection eo41 with f1_ f2_ f3_; have f4_ := f1_.symm; have f5_ := f3_.symm; clear f1_ f2_ f3_; subst f4_; subst f5_))
               refine hK.out _ _ trivial (fun hHeld => ?_)
               clear hK K
               refine normA 45 ?_
               refine one_ (i := 8) (N := some 46) #[true, true, true, true, true, true, true, true, true, false] rfl rfl (one_of HT_.out (by kernel_rfl)) (by decide) (fun K hK => ?_)
               refine Kd.R_append_rows_step (Kd.int .u8) (w0 := w) w.heap.size (by rfl) (.tmp 38) (.tmp 45) 63 5 (.int .u8 0) 1 rfl Tryd.underlying63 info5 rfl (by decide) (by omega) u3 x3_1 y229 _ _ _ (fun k_ => some k_ ≠ (.slice Ao41 y229.length co41 : Value).ownBlock) (fun _ => False) rfl rfl ?aO ?aR (fun _ _ h => h) (fun _ h => h.elim) ?aF ?aB ?aS ?aL ?_
               (case aR => repeat (first | exact (Kd.R_reads' HO231.out).2.2 | (with_reducible refine Kd.C_alloc ?_ _) | (with_reducible refine Kd.C_drewN ?_ _) | (with_reducible refine Kd.C_drew ?_)))
               (case aB => exact (by repeat (first | (with_reducible first | exact HB.out | apply below_alloc | apply pw_below_drewN | apply below_drew1 | refine below_set ?_ GE219.out) | exact HB.out)))
               (case aF => exact (fun k_ hk => Kd.fresh' (Kd.R_lt (by (with_reducible repeat (first | apply Kd.R_alloc | apply Kd.R_drewN | apply Kd.R_drew)); exact HO231.out)) k_ hk))
               (case aO => exact (by (with_reducible repeat (first | apply Kd.R_alloc | apply Kd.R_drewN | apply Kd.R_drew)); exact Kd.R_mono HO_3.out (fun _ hk => hk.2)))
               (case aS => exact (below_size (by repeat (first | (with_reducible first | exact HB.out | apply below_alloc | apply pw_below_drewN | apply below_drew1 | refine below_set ?_ GE219.out) | exact HB.out))))
               (case aL => have := LMc35.out; omega)
               intro v233 w40 ho hb hg hat
               rw [← Ny232.out] at ho
               have HO234 := Aside0.mk (ho)
               replace BK219 := Aside0.mk (blk_grown (g := gb219) (o := .cells #[.int .i64 a0_0, .int .i64 a0_1, .string a0_2] 23 (0, 0)) (by (with_reducible repeat (first | refine blk_drewN ?_ _ | refine blk_drew ?_ | refine blk_alloc ?_ _)); exact BK219.out) hg (Kd.R_ne HO_3.out BK219.out (by decide)))
               replace HO231 := Aside0.mk (Kd.R_after (ok := (fun _ => True)) (by (with_reducible repeat (first | apply Kd.R_alloc | apply Kd.R_drewN | apply Kd.R_drew)); exact HO231.out) hg hat)
               replace HB := Aside0.mk (hb)
               clear HO_3
               clear ho hb hg hat
               refine hK.out _ _ trivial (fun hHeld => ?_)
               clear hK K
               refine normA 46 ?_
               refine pureA 9 3 #[true, true, true, true, true, true, true, true, true, true] HT_ ?_
               refine done_ (done_of HT_.out (by kernel_rfl)) ?_
               try go_wp2
               go_roundg k1
               case measure => have := HK1.out; omega
               case rel => exact ⟨(y232), (wrap64 (x25_1 + 1)), (by first | rfl | (simp; done) | (simp [*]; done)), H', ⟨by have := HK1.out; omega⟩, ⟨by (with_reducible repeat (first | apply Kd.R_alloc | apply Kd.R_drewN | apply Kd.R_drew)); exact Kd.R_mono HO234.out (fun _ hk => trivial)⟩, ⟨by (with_reducible repeat (first | refine blk_drewN ?_ _ | refine blk_drew ?_ | refine blk_alloc ?_ _)); exact BK219.out⟩, ⟨by repeat (first | (with_reducible first | exact HB.out | apply below_alloc | apply pw_below_drewN | apply below_drew1 | refine below_set ?_ GE219.out) | exact HB.out)⟩⟩
              ·rw [if_neg c35] at H
               exact absurd H (by simp)
             ·rw [if_neg c33] at H
              exact absurd H (by simp)
            ·rw [if_neg c32] at H
             exact absurd H (by simp)
           ·rw [if_neg c30] at H
            exact absurd H (by simp)
          ·rw [if_neg c29] at H
           exact absurd H (by simp)
        ·rw [if_neg c21] at H
         exact absurd H (by simp)
       ·rw [if_neg c20] at H
        exact absurd H (by simp)
      ·rw [if_neg c19] at H
       have c19b0 : decide (x25_1 < (a0_2.size : Int)) = false := decide_eq_false c19
       clear c19
       by_cases c42 : x3_1.length < 140737488355328
       ·rw [if_pos c42] at H
        have LMc42 := Aside0.mk c42
        clear c42
        obtain ⟨y235, hy235⟩ : ∃ y_ : List Int, y_ = (x3_1 ++ [39]) := ⟨_, rfl⟩
        replace H : (some (strOfNums y235)) = some r := by first | (rw [hy235]; with_reducible exact H) | (have H2_ := (Option.bind_some _ _).symm.trans H; rw [hy235]; with_reducible exact H2_) | (have H2_ := (Option.bind_some _ _).symm.trans H; with_reducible exact H2_) | with_reducible exact H | (rw [hy235]; exact H) | exact H
        have Ny235 := Aside0.mk hy235
        clear hy235
        obtain rfl := Option.some.inj H
        go_wp2_with (first | ((with_reducible refine gate_builtin (b := .append) (xs := #[.tmp 48, .tmp 49]) rfl ?_); at_builtin; refine Kd.R_append (Kd.int .u8) (w0 := w) w.heap.size rfl (.tmp 48) (.tmp 49) 63 5 (.int .u8 0) 1 rfl Tryd.underlying63 info5 rfl (by decide) (by omega) u3 x3_1 39 [.int .u8 39] (fun _ => True) (fun _ => False) rfl rfl ?aP (fun _ hk => hk.elim) ?aF ?aO ?aB ?aS ?aL ?_; (case aP => exact rfl); (case aB => exact (by repeat (first | (with_reducible first | exact HB.out | apply below_alloc | apply pw_below_drewN | apply below_drew1 | refine below_set ?_ GE219.out) | exact HB.out))); (case aF => exact (fun _ _ => trivial)); (case aO => exact (by (with_reducible repeat (first | apply Kd.R_alloc | apply Kd.R_drewN | apply Kd.R_drew)); exact HO_3.out)); (case aS => exact (below_size (by repeat (first | (with_reducible first | exact HB.out | apply below_alloc | apply pw_below_drewN | apply below_drew1 | refine below_set ?_ GE219.out) | exact HB.out)))); (case aL => have := LMc42.out; omega); intro v236 w43 ho hb hg hat; rw [← Ny235.out] at ho; have HO237 := Aside0.mk (ho); replace BK219 := Aside0.mk (blk_grown (g := gb219) (o := .cells #[.int .i64 a0_0, .int .i64 a0_1, .string a0_2] 23 (0, 0)) (by (with_reducible repeat (first | refine blk_drewN ?_ _ | refine blk_drew ?_ | refine blk_alloc ?_ _)); exact BK219.out) hg (Kd.R_ne HO_3.out BK219.out (by decide))); replace HB := Aside0.mk (hb); clear HO_3; clear ho hb hg hat; have hcv44 := own_string (P := Tryd.prog) Tryd.underlying63 Tryd.underlying5 Tryd.underlying9 (Kd.own_of_R HO237.out)))
        go_ret
        exact ⟨by first | rfl | (simp [errW_none, errW_some] <;> rfl) | (simp [*, errW_none, errW_some] <;> rfl), by repeat (first | (with_reducible first | exact HB.out | apply below_alloc | apply pw_below_drewN | apply below_drew1 | refine below_set ?_ GE219.out) | exact HB.out)⟩
       ·rw [if_neg c42] at H
        exact absurd H (by simp)
end Go.Proofs.YtmhnfdgegejlkaaDoor.P
end

section
namespace Go.Proofs.YtmhnfdgegejlkaaDoor.P
open Go.RowKit Go.Proofs.YtmhnfdgegejlkaaDoorW.PrintWords Go.Proofs.YtmhnfdgegejlkaaDoorW.PrintLast Go.Proofs.YtmhnfdgegejlkaaDoorW.PrintMore
attribute [local go_sem] max2_int min2_int max_two min_two max_three min_three max_four min_four
set_option linter.unusedVariables false
set_option linter.unusedSimpArgs false
attribute [local go_sem high] eqA23
def alumlaw19_ValueParsesT.f (k : Nat) (a0 : ByteArray) : Option (Bool) := if (a0.size : Int) > 200 then ((alumlaw19_sanity.f k).bind fun t849 => (some t849)) else ((value_ParseT.f a0).bind fun bt850 => ((alumref19_Parse.f k a0).bind fun bt855 => ((alumlaw19_sanity.f k).bind fun t860 => (if t860 = true then (if (bt850.1 == bt855.1 && (bt850.2.1 == bt855.2.1 && (bt850.2.2.1.toList == bt855.2.2.1.toList))) = true then (if (bt850.2.2.2 == bt855.2.2.2) = true then (if bt850.2.2.2 = true then ((value_PrintT.f k bt850.1 bt850.2.1 bt850.2.2.1).bind fun t861 => (some (t861.toList == a0.toList))) else (some true)) else (none)) else (none)) else (none)))))
set_option maxHeartbeats 8000000 in
set_option maxRecDepth 100000 in
theorem alumlaw19_ValueParsesT.calls (k : Nat) (a0 : ByteArray) (r : Bool) (w : World) (htab : TabW w) (h : alumlaw19_ValueParsesT.f k a0 = some r) :
  Calls Tryd.prog 9 #[.string a0] w fun e w' => e = .returned (.bool r) ∧ Below w.heap.size w w' := by
 have hu23 := Tryd.underlying23
 have HB := Aside0.mk (Below.refl w.heap.size w)
 have HTAB := Aside0.mk htab
 clear htab
 have H : (if (a0.size : Int) > 200 then ((alumlaw19_sanity.f k).bind fun t849 => (some t849)) else ((value_ParseT.f a0).bind fun bt850 => ((alumref19_Parse.f k a0).bind fun bt855 => ((alumlaw19_sanity.f k).bind fun t860 => (if t860 = true then (if (bt850.1 == bt855.1 && (bt850.2.1 == bt855.2.1 && (bt850.2.2.1.toList == bt855.2.2.1.toList))) = true then (if (bt850.2.2.2 == bt855.2.2.2) = true then (if bt850.2.2.2 = true then ((value_PrintT.f k bt850.1 bt850.2.1 bt850.2.2.1).bind fun t861 => (some (t861.toList == a0.toList))) else (some true)) else (none)) else (none)) else (none)))))) = some r := h
 clear h
 by_cases c2 : (a0.size : Int) > 200
 ·rw [if_pos c2] at H
  have c2b0 : decide (200 < (a0.size : Int)) = true := decide_eq_true c2
  have c2b1 : decide (200 < a0.size) = true := decide_eq_true (by omega)
  clear c2
  replace H := Option.bind_eq_some_iff.mp H
  obtain ⟨t849, A30, H⟩ := H
  replace H : (some t849) = some r := H
  have A3 := Aside0.mk A30
  clear A30
  obtain rfl := Option.some.inj H
  go_enter Tryd.func9, Tryd.ntmps9
  go_wp2_with (first | ((with_reducible refine gate_callee (f := 12) rfl ?_); refine goesL_ (some 10) rfl rfl Tryd.func12 (by kernel_rfl) rfl #[] rfl (by (try simp only [List.map_toArray, List.map_cons, List.map_nil]); first | done | rfl | (simp only [List.length_drop, List.length_take]; rfl)) ?_; (with_reducible refine (alumlaw19_sanity.calls k  t849 _ A3.out).mono ?_); rintro e w4 ⟨rfl, hb⟩; refine ⟨_, rfl, ?_⟩; replace HB := stepB HB hb; (try clear hb); (try clear hb2); (try clear hk); (try clear hi)))
  go_ret
  exact ⟨by first | rfl | (simp [errW_none, errW_some] <;> rfl) | (simp [*, errW_none, errW_some] <;> rfl), by repeat (first | (with_reducible first | exact HB.out | apply below_alloc | apply pw_below_drewN | apply below_drew1) | exact HB.out)⟩
 ·rw [if_neg c2] at H
  have c2b0 : decide (200 < (a0.size : Int)) = false := decide_eq_false c2
  have c2b1 : decide (200 < a0.size) = false := decide_eq_false (by omega)
  clear c2
  replace H := Option.bind_eq_some_iff.mp H
  obtain ⟨⟨t850, t851, t852, t853⟩, A50, H⟩ := H
  replace H : ((alumref19_Parse.f k a0).bind fun bt855 => ((alumlaw19_sanity.f k).bind fun t860 => (if t860 = true then (if (t850 == bt855.1 && (t851 == bt855.2.1 && (t852.toList == bt855.2.2.1.toList))) = true then (if (t853 == bt855.2.2.2) = true then (if t853 = true then ((value_PrintT.f k t850 t851 t852).bind fun t861 => (some (t861.toList == a0.toList))) else (some true)) else (none)) else (none)) else (none)))) = some r := H
  have A5 := Aside0.mk A50
  clear A50
  replace H := Option.bind_eq_some_iff.mp H
  obtain ⟨⟨t855, t856, t857, t858⟩, A60, H⟩ := H
  replace H : ((alumlaw19_sanity.f k).bind fun t860 => (if t860 = true then (if (t850 == t855 && (t851 == t856 && (t852.toList == t857.toList))) = true then (if (t853 == t858) = true then (if t853 = true then ((value_PrintT.f k t850 t851 t852).bind fun t861 => (some (t861.toList == a0.toList))) else (some true)) else (none)) else (none)) else (none))) = some r := H
  have A6 := Aside0.mk A60
  clear A60
  replace H := Option.bind_eq_some_iff.mp H
  obtain ⟨t860, A70, H⟩ := H
  replace H : (if t860 = true then (if (t850 == t855 && (t851 == t856 && (t852.toList == t857.toList))) = true then (if (t853 == t858) = true then (if t853 = true then ((value_PrintT.f k t850 t851 t852).bind fun t861 => (some (t861.toList == a0.toList))) else (some true)) else (none)) else (none)) else (none)) = some r := H
  have A7 := Aside0.mk A70
  clear A70
  by_cases c8 : t860 = true
  ·subst c8
   have H1 : (if (t850 == t855 && (t851 == t856 && (t852.toList == t857.toList))) = true then (if (t853 == t858) = true then (if t853 = true then ((value_PrintT.f k t850 t851 t852).bind fun t861 => (some (t861.toList == a0.toList))) else (some true)) else (none)) else (none)) = some r := by rw [if_pos rfl] at H; exact H
   clear H
   have H := H1
   clear H1
   by_cases c9 : (t850 == t855 && (t851 == t856 && (t852.toList == t857.toList))) = true
   ·rw [if_pos c9] at H
    have c9b0 : (t850 == t855 && (t851 == t856 && (t852.toList == t857.toList))) = true := c9
    (try (have c9b1 : decide (t850 = t855 && (t851 == t856 && (t852.toList == t857.toList))) = true := by simpa using c9))
    (try (have c9b2 : (t850 == t855 && (t851 == t856 && (t852.toList == t857.toList))) = true := by simpa using c9))
    clear c9
    by_cases c10 : (t853 == t858) = true
    ·rw [if_pos c10] at H
     have c10b0 : (t853 == t858) = true := c10
     (try (have c10b1 : decide (t853 = t858) = true := by simpa using c10))
     (try (have c10b2 : (t853 == t858) = true := by simpa using c10))
     clear c10
     by_cases c11 : t853 = true
     ·subst c11
      have H1 : ((value_PrintT.f k t850 t851 t852).bind fun t861 => (some (t861.toList == a0.toList))) = some r := by rw [if_pos rfl] at H; exact H
      clear H
      have H := H1
      clear H1
      replace H := Option.bind_eq_some_iff.mp H
      obtain ⟨t861, A120, H⟩ := H
      replace H : (some (t861.toList == a0.toList)) = some r := H
      have A12 := Aside0.mk A120
      clear A120
      obtain rfl := Option.some.inj H
      go_enter Tryd.func9, Tryd.ntmps9
      go_wp2_with (first | ((with_reducible refine gate_callee (f := 40) rfl ?_); refine goesL_ (some 13) rfl rfl Tryd.func40 (by kernel_rfl) rfl #[.string a0] rfl (by (try simp only [List.map_toArray, List.map_cons, List.map_nil]); first | done | rfl | (simp only [List.length_drop, List.length_take]; rfl)) ?_; (with_reducible refine (value_ParseT.calls (htab := tab_below HTAB.out (by repeat (first | (with_reducible first | exact HB.out | apply below_alloc | apply pw_below_drewN | apply below_drew1) | exact HB.out))) a0 t850 t851 t852 true _ A5.out).mono ?_); rintro e w13 ⟨rfl, hb⟩; refine ⟨_, rfl, ?_⟩; replace HB := stepB HB hb; (try clear hb); (try clear hb2); (try clear hk); (try clear hi)) | ((with_reducible refine gate_dst (N := 3) rfl ?_); refine box_event ?hg (N := 3) ?hd (cs := #[.int .i64 0, .int .i64 0, .string (⟨#[]⟩ : ByteArray)]) (t := 23) ?hr ?_; (case hd => rfl); (case hg => rfl); (case hr => first | (go_simp; done) | (go_simp; rfl)); intro gb854 hg w14 hbox hb; have BK854 := Aside0.mk (hbox); have GW854 := (sizeB HB hg : Aside0 (w.heap.size ≤ gb854)); have GE854 := (sizeB HB hg : Aside0 (w.heap.size ≤ gb854)); replace HB := stepB HB hb; clear hb hbox hg; have hcz15_0 : w14.cell? ⟨gb854, 0, none⟩ = some (.int .i64 0) := bc BK854 0; have hcz15_1 : w14.cell? ⟨gb854, 1, none⟩ = some (.int .i64 0) := bc BK854 1; have hcz15_2 : w14.cell? ⟨gb854, 2, none⟩ = some (.string (⟨#[]⟩ : ByteArray)) := bc BK854 2; have hfz15_0 := blk_frozen BK854.out 0; have hfz15_1 := blk_frozen BK854.out 1; have hfz15_2 := blk_frozen BK854.out 2) | ((with_reducible refine gate_callee (f := 41) rfl ?_); refine goesL_ (some 18) rfl rfl Tryd.func41 (by kernel_rfl) rfl #[.string a0] rfl (by (try simp only [List.map_toArray, List.map_cons, List.map_nil]); first | done | rfl | (simp only [List.length_drop, List.length_take]; rfl)) ?_; (with_reducible refine (alumref19_Parse.calls k a0 t855 t856 t857 t858 _ A6.out).mono ?_); rintro e w16 ⟨rfl, hb⟩; refine ⟨_, rfl, ?_⟩; replace BK854 := Aside0.mk (blk_below (g := gb854) (o := .cells #[.int .i64 t850, .int .i64 t851, .string t852] 23 (0, 0)) (by (with_reducible repeat (first | refine blk_drewN ?_ _ | refine blk_drew ?_ | refine blk_alloc ?_ _)); refine blk_put (cs := #[.int .i64 t850, .int .i64 t851, .string (⟨#[]⟩ : ByteArray)]) ?_ 2 _ rfl; (with_reducible repeat (first | refine blk_drewN ?_ _ | refine blk_drew ?_ | refine blk_alloc ?_ _)); refine blk_put (cs := #[.int .i64 t850, .int .i64 0, .string (⟨#[]⟩ : ByteArray)]) ?_ 1 _ rfl; (with_reducible repeat (first | refine blk_drewN ?_ _ | refine blk_drew ?_ | refine blk_alloc ?_ _)); refine blk_put (cs := #[.int .i64 0, .int .i64 0, .string (⟨#[]⟩ : ByteArray)]) ?_ 0 _ rfl; (with_reducible repeat (first | refine blk_drewN ?_ _ | refine blk_drew ?_ | refine blk_alloc ?_ _)); exact BK854.out) hb); replace HB := stepB HB hb; (try clear hb); (try clear hb2); (try clear hk); (try clear hi)) | ((with_reducible refine gate_dst (N := 5) rfl ?_); refine box_event ?hg (N := 5) ?hd (cs := #[.int .i64 0, .int .i64 0, .string (⟨#[]⟩ : ByteArray)]) (t := 23) ?hr ?_; (case hd => rfl); (case hg => rfl); (case hr => first | (go_simp; done) | (go_simp; rfl)); intro gb859 hg w17 hbox hb; have BK859 := Aside0.mk (hbox); have GW859 := (sizeB HB hg : Aside0 (w.heap.size ≤ gb859)); have GE859 := (sizeB HB hg : Aside0 (w.heap.size ≤ gb859)); have NB854_859 := neB BK854 hg; have NB859_854 := neC BK854 hg; replace BK854 := blkB BK854 hb; replace HB := stepB HB hb; clear hb hbox hg; have hnb18 := NB859_854.out; have hnc18 := NB854_859.out; have hcz19_0 : w17.cell? ⟨gb859, 0, none⟩ = some (.int .i64 0) := bc BK859 0; have hcz19_1 : w17.cell? ⟨gb859, 1, none⟩ = some (.int .i64 0) := bc BK859 1; have hcz19_2 : w17.cell? ⟨gb859, 2, none⟩ = some (.string (⟨#[]⟩ : ByteArray)) := bc BK859 2; have hfz19_0 := blk_frozen BK859.out 0; have hfz19_1 := blk_frozen BK859.out 1; have hfz19_2 := blk_frozen BK859.out 2) | ((with_reducible refine gate_callee (f := 12) rfl ?_); refine goesL_ (some 21) rfl rfl Tryd.func12 (by kernel_rfl) rfl #[] rfl (by (try simp only [List.map_toArray, List.map_cons, List.map_nil]); first | done | rfl | (simp only [List.length_drop, List.length_take]; rfl)) ?_; (with_reducible refine (alumlaw19_sanity.calls k  true _ A7.out).mono ?_); rintro e w20 ⟨rfl, hb⟩; refine ⟨_, rfl, ?_⟩; replace BK854 := Aside0.mk (blk_below (g := gb854) (o := .cells #[.int .i64 t850, .int .i64 t851, .string t852] 23 (0, 0)) (by (with_reducible repeat (first | refine blk_drewN ?_ _ | refine blk_drew ?_ | refine blk_alloc ?_ _)); refine blk_far ?_ NB854_859.out _; (with_reducible repeat (first | refine blk_drewN ?_ _ | refine blk_drew ?_ | refine blk_alloc ?_ _)); refine blk_far ?_ NB854_859.out _; (with_reducible repeat (first | refine blk_drewN ?_ _ | refine blk_drew ?_ | refine blk_alloc ?_ _)); refine blk_far ?_ NB854_859.out _; (with_reducible repeat (first | refine blk_drewN ?_ _ | refine blk_drew ?_ | refine blk_alloc ?_ _)); exact BK854.out) hb); replace BK859 := Aside0.mk (blk_below (g := gb859) (o := .cells #[.int .i64 t855, .int .i64 t856, .string t857] 23 (0, 0)) (by (with_reducible repeat (first | refine blk_drewN ?_ _ | refine blk_drew ?_ | refine blk_alloc ?_ _)); refine blk_put (cs := #[.int .i64 t855, .int .i64 t856, .string (⟨#[]⟩ : ByteArray)]) ?_ 2 _ rfl; (with_reducible repeat (first | refine blk_drewN ?_ _ | refine blk_drew ?_ | refine blk_alloc ?_ _)); refine blk_put (cs := #[.int .i64 t855, .int .i64 0, .string (⟨#[]⟩ : ByteArray)]) ?_ 1 _ rfl; (with_reducible repeat (first | refine blk_drewN ?_ _ | refine blk_drew ?_ | refine blk_alloc ?_ _)); refine blk_put (cs := #[.int .i64 0, .int .i64 0, .string (⟨#[]⟩ : ByteArray)]) ?_ 0 _ rfl; (with_reducible repeat (first | refine blk_drewN ?_ _ | refine blk_drew ?_ | refine blk_alloc ?_ _)); exact BK859.out) hb); replace HB := stepB HB hb; (try clear hb); (try clear hb2); (try clear hk); (try clear hi); have hcz21_0 : w20.cell? ⟨gb854, 0, none⟩ = some (.int .i64 t850) := bc BK854 0; have hcz21_1 : w20.cell? ⟨gb854, 1, none⟩ = some (.int .i64 t851) := bc BK854 1; have hcz21_2 : w20.cell? ⟨gb854, 2, none⟩ = some (.string t852) := bc BK854 2; have hfz21_0 := blk_frozen BK854.out 0; have hfz21_1 := blk_frozen BK854.out 1; have hfz21_2 := blk_frozen BK854.out 2; have hcz22_0 : w20.cell? ⟨gb859, 0, none⟩ = some (.int .i64 t855) := bc BK859 0; have hcz22_1 : w20.cell? ⟨gb859, 1, none⟩ = some (.int .i64 t856) := bc BK859 1; have hcz22_2 : w20.cell? ⟨gb859, 2, none⟩ = some (.string t857) := bc BK859 2; have hfz22_0 := blk_frozen BK859.out 0; have hfz22_1 := blk_frozen BK859.out 1; have hfz22_2 := blk_frozen BK859.out 2) | (go_at_call 29; (with_reducible refine (value_PrintT.calls (htab := tab_below HTAB.out (by repeat (first | (with_reducible first | exact HB.out | apply below_alloc | apply pw_below_drewN | apply below_drew1 | refine below_set ?_ GE854.out | refine below_set ?_ GE859.out) | exact HB.out))) k t850 t851 t852 t861 _ A12.out).mono ?_); rintro e w23 ⟨rfl, hb⟩; replace BK854 := blkB BK854 hb; replace BK859 := blkB BK859 hb; replace HB := stepB HB hb; (try clear hb); (try clear hb2); (try clear hk); (try clear hi)))
      go_ret
      exact ⟨by first | rfl | (simp [errW_none, errW_some] <;> rfl) | (simp [*, errW_none, errW_some] <;> rfl), by repeat (first | (with_reducible first | exact HB.out | apply below_alloc | apply pw_below_drewN | apply below_drew1 | refine below_set ?_ GE854.out | refine below_set ?_ GE859.out) | exact HB.out)⟩
     ·replace c11 := Bool.eq_false_iff.mpr c11
      subst c11
      have H1 : (some true) = some r := by rw [if_neg (show ¬ (false = true) by decide)] at H; exact H
      clear H
      have H := H1
      clear H1
      obtain rfl := Option.some.inj H
      go_enter Tryd.func9, Tryd.ntmps9
      go_wp2_with (first | ((with_reducible refine gate_callee (f := 40) rfl ?_); refine goesL_ (some 13) rfl rfl Tryd.func40 (by kernel_rfl) rfl #[.string a0] rfl (by (try simp only [List.map_toArray, List.map_cons, List.map_nil]); first | done | rfl | (simp only [List.length_drop, List.length_take]; rfl)) ?_; (with_reducible refine (value_ParseT.calls (htab := tab_below HTAB.out (by repeat (first | (with_reducible first | exact HB.out | apply below_alloc | apply pw_below_drewN | apply below_drew1) | exact HB.out))) a0 t850 t851 t852 false _ A5.out).mono ?_); rintro e w24 ⟨rfl, hb⟩; refine ⟨_, rfl, ?_⟩; replace HB := stepB HB hb; (try clear hb); (try clear hb2); (try clear hk); (try clear hi)) | ((with_reducible refine gate_dst (N := 3) rfl ?_); refine box_event ?hg (N := 3) ?hd (cs := #[.int .i64 0, .int .i64 0, .string (⟨#[]⟩ : ByteArray)]) (t := 23) ?hr ?_; (case hd => rfl); (case hg => rfl); (case hr => first | (go_simp; done) | (go_simp; rfl)); intro gb854 hg w25 hbox hb; have BK854 := Aside0.mk (hbox); have GW854 := (sizeB HB hg : Aside0 (w.heap.size ≤ gb854)); have GE854 := (sizeB HB hg : Aside0 (w.heap.size ≤ gb854)); replace HB := stepB HB hb; clear hb hbox hg; have hcz26_0 : w25.cell? ⟨gb854, 0, none⟩ = some (.int .i64 0) := bc BK854 0; have hcz26_1 : w25.cell? ⟨gb854, 1, none⟩ = some (.int .i64 0) := bc BK854 1; have hcz26_2 : w25.cell? ⟨gb854, 2, none⟩ = some (.string (⟨#[]⟩ : ByteArray)) := bc BK854 2; have hfz26_0 := blk_frozen BK854.out 0; have hfz26_1 := blk_frozen BK854.out 1; have hfz26_2 := blk_frozen BK854.out 2) | ((with_reducible refine gate_callee (f := 41) rfl ?_); refine goesL_ (some 18) rfl rfl Tryd.func41 (by kernel_rfl) rfl #[.string a0] rfl (by (try simp only [List.map_toArray, List.map_cons, List.map_nil]); first | done | rfl | (simp only [List.length_drop, List.length_take]; rfl)) ?_; (with_reducible refine (alumref19_Parse.calls k a0 t855 t856 t857 t858 _ A6.out).mono ?_); rintro e w27 ⟨rfl, hb⟩; refine ⟨_, rfl, ?_⟩; replace BK854 := Aside0.mk (blk_below (g := gb854) (o := .cells #[.int .i64 t850, .int .i64 t851, .string t852] 23 (0, 0)) (by (with_reducible repeat (first | refine blk_drewN ?_ _ | refine blk_drew ?_ | refine blk_alloc ?_ _)); refine blk_put (cs := #[.int .i64 t850, .int .i64 t851, .string (⟨#[]⟩ : ByteArray)]) ?_ 2 _ rfl; (with_reducible repeat (first | refine blk_drewN ?_ _ | refine blk_drew ?_ | refine blk_alloc ?_ _)); refine blk_put (cs := #[.int .i64 t850, .int .i64 0, .string (⟨#[]⟩ : ByteArray)]) ?_ 1 _ rfl; (with_reducible repeat (first | refine blk_drewN ?_ _ | refine blk_drew ?_ | refine blk_alloc ?_ _)); refine blk_put (cs := #[.int .i64 0, .int .i64 0, .string (⟨#[]⟩ : ByteArray)]) ?_ 0 _ rfl; (with_reducible repeat (first | refine blk_drewN ?_ _ | refine blk_drew ?_ | refine blk_alloc ?_ _)); exact BK854.out) hb); replace HB := stepB HB hb; (try clear hb); (try clear hb2); (try clear hk); (try clear hi)) | ((with_reducible refine gate_dst (N := 5) rfl ?_); refine box_event ?hg (N := 5) ?hd (cs := #[.int .i64 0, .int .i64 0, .string (⟨#[]⟩ : ByteArray)]) (t := 23) ?hr ?_; (case hd => rfl); (case hg => rfl); (case hr => first | (go_simp; done) | (go_simp; rfl)); intro gb859 hg w28 hbox hb; have BK859 := Aside0.mk (hbox); have GW859 := (sizeB HB hg : Aside0 (w.heap.size ≤ gb859)); have GE859 := (sizeB HB hg : Aside0 (w.heap.size ≤ gb859)); have NB854_859 := neB BK854 hg; have NB859_854 := neC BK854 hg; replace BK854 := blkB BK854 hb; replace HB := stepB HB hb; clear hb hbox hg; have hnb29 := NB859_854.out; have hnc29 := NB854_859.out; have hcz30_0 : w28.cell? ⟨gb859, 0, none⟩ = some (.int .i64 0) := bc BK859 0; have hcz30_1 : w28.cell? ⟨gb859, 1, none⟩ = some (.int .i64 0) := bc BK859 1; have hcz30_2 : w28.cell? ⟨gb859, 2, none⟩ = some (.string (⟨#[]⟩ : ByteArray)) := bc BK859 2; have hfz30_0 := blk_frozen BK859.out 0; have hfz30_1 := blk_frozen BK859.out 1; have hfz30_2 := blk_frozen BK859.out 2) | ((with_reducible refine gate_callee (f := 12) rfl ?_); refine goesL_ (some 21) rfl rfl Tryd.func12 (by kernel_rfl) rfl #[] rfl (by (try simp only [List.map_toArray, List.map_cons, List.map_nil]); first | done | rfl | (simp only [List.length_drop, List.length_take]; rfl)) ?_; (with_reducible refine (alumlaw19_sanity.calls k  true _ A7.out).mono ?_); rintro e w31 ⟨rfl, hb⟩; refine ⟨_, rfl, ?_⟩; replace BK854 := Aside0.mk (blk_below (g := gb854) (o := .cells #[.int .i64 t850, .int .i64 t851, .string t852] 23 (0, 0)) (by (with_reducible repeat (first | refine blk_drewN ?_ _ | refine blk_drew ?_ | refine blk_alloc ?_ _)); refine blk_far ?_ NB854_859.out _; (with_reducible repeat (first | refine blk_drewN ?_ _ | refine blk_drew ?_ | refine blk_alloc ?_ _)); refine blk_far ?_ NB854_859.out _; (with_reducible repeat (first | refine blk_drewN ?_ _ | refine blk_drew ?_ | refine blk_alloc ?_ _)); refine blk_far ?_ NB854_859.out _; (with_reducible repeat (first | refine blk_drewN ?_ _ | refine blk_drew ?_ | refine blk_alloc ?_ _)); exact BK854.out) hb); replace BK859 := Aside0.mk (blk_below (g := gb859) (o := .cells #[.int .i64 t855, .int .i64 t856, .string t857] 23 (0, 0)) (by (with_reducible repeat (first | refine blk_drewN ?_ _ | refine blk_drew ?_ | refine blk_alloc ?_ _)); refine blk_put (cs := #[.int .i64 t855, .int .i64 t856, .string (⟨#[]⟩ : ByteArray)]) ?_ 2 _ rfl; (with_reducible repeat (first | refine blk_drewN ?_ _ | refine blk_drew ?_ | refine blk_alloc ?_ _)); refine blk_put (cs := #[.int .i64 t855, .int .i64 0, .string (⟨#[]⟩ : ByteArray)]) ?_ 1 _ rfl; (with_reducible repeat (first | refine blk_drewN ?_ _ | refine blk_drew ?_ | refine blk_alloc ?_ _)); refine blk_put (cs := #[.int .i64 0, .int .i64 0, .string (⟨#[]⟩ : ByteArray)]) ?_ 0 _ rfl; (with_reducible repeat (first | refine blk_drewN ?_ _ | refine blk_drew ?_ | refine blk_alloc ?_ _)); exact BK859.out) hb); replace HB := stepB HB hb; (try clear hb); (try clear hb2); (try clear hk); (try clear hi); have hcz32_0 : w31.cell? ⟨gb854, 0, none⟩ = some (.int .i64 t850) := bc BK854 0; have hcz32_1 : w31.cell? ⟨gb854, 1, none⟩ = some (.int .i64 t851) := bc BK854 1; have hcz32_2 : w31.cell? ⟨gb854, 2, none⟩ = some (.string t852) := bc BK854 2; have hfz32_0 := blk_frozen BK854.out 0; have hfz32_1 := blk_frozen BK854.out 1; have hfz32_2 := blk_frozen BK854.out 2; have hcz33_0 : w31.cell? ⟨gb859, 0, none⟩ = some (.int .i64 t855) := bc BK859 0; have hcz33_1 : w31.cell? ⟨gb859, 1, none⟩ = some (.int .i64 t856) := bc BK859 1; have hcz33_2 : w31.cell? ⟨gb859, 2, none⟩ = some (.string t857) := bc BK859 2; have hfz33_0 := blk_frozen BK859.out 0; have hfz33_1 := blk_frozen BK859.out 1; have hfz33_2 := blk_frozen BK859.out 2))
      go_ret
      exact ⟨by first | rfl | (simp [errW_none, errW_some] <;> rfl) | (simp [*, errW_none, errW_some] <;> rfl), by repeat (first | (with_reducible first | exact HB.out | apply below_alloc | apply pw_below_drewN | apply below_drew1 | refine below_set ?_ GE854.out | refine below_set ?_ GE859.out) | exact HB.out)⟩
    ·rw [if_neg c10] at H
     exact absurd H (by simp)
   ·rw [if_neg c9] at H
    exact absurd H (by simp)
  ·replace c8 := Bool.eq_false_iff.mpr c8
   subst c8
   have H1 : (none) = some r := by rw [if_neg (show ¬ (false = true) by decide)] at H; exact H
   clear H
   have H := H1
   clear H1
   exact absurd H (by simp)
end Go.Proofs.YtmhnfdgegejlkaaDoor.P
end

section
namespace Go.Proofs.YtmhnfdgegejlkaaDoor.P
open Go.RowKit Go.Proofs.YtmhnfdgegejlkaaDoorW.PrintWords
section
variable {H : Type} {enc : TypeId × Value → H} {P : Program} {W : World}
def Opens {α : Type} (enc : TypeId × Value → H) (P : Program) (W : World) (d : Kd α) (t : TypeId) (good : α → Prop) : Prop :=
  P.cellsOf t = d.sz ∧ ∀ (fuel : Nat) (cs : List Value) (x : DataW H) (ps : List MemPlace), DataW.trod enc P W 0 (fun _ => true) true fuel t cs = some (x, ps) → (∀ n ∈ x.weights P t, n ≤ reachBytes) → ∃ a : α, d.K W a cs ∧ good a
theorem opens_string {t : TypeId} (hu : P.underlying t = some .string) (hc : P.cellsOf t = 1) : Opens enc P W Kd.string t (fun s => s.size ≤ 140737488351232) := by
  refine ⟨hc, fun fuel cs x ps h hw => ?_⟩
  obtain ⟨s, rfl, hx, _⟩ := DataW.trod_string hu h
  obtain ⟨rfl, rfl⟩ := Prod.mk.inj hx
  refine ⟨s, rfl, ?_⟩
  have := hw s.data.toList.length (by simp [DataW.weights])
  rw [Array.length_toList] at this
  exact this
end
end Go.Proofs.YtmhnfdgegejlkaaDoor.P
end

section
namespace Go.Proofs.YtmhnfdgegejlkaaDoor.P
open Go Go.RowKit Go.Proofs.YtmhnfdgegejlkaaDoorW.PrintWords
set_option linter.unusedVariables false
theorem op9 {H : Type} (enc : TypeId × Value → H) (W : World) : Opens enc Tryd.prog W Kd.string 9 (fun s => s.size ≤ 140737488351232) := opens_string Tryd.underlying9 (by kernel_rfl)
def alumlaw19_ValueParsesT.Pure : Prop := ∀ (x0 : ByteArray), x0.size ≤ 140737488351232 → ∃ k, alumlaw19_ValueParsesT.f k x0 = some true
end Go.Proofs.YtmhnfdgegejlkaaDoor.P
end

section
namespace Go.Proofs.YtmhnfdgegejlkaaDoor.V
open Go
set_option linter.unusedSimpArgs false
set_option linter.unusedVariables false
structure TC {α : Type} (f : α → α → Int) : Prop where
  rng : ∀ a b, f a b = -1 ∨ f a b = 0 ∨ f a b = 1
  eq0 : ∀ a b, f a b = 0 ↔ a = b
  sym : ∀ a b, f b a = - f a b
  tr : ∀ a b c, f a b = -1 → f b c = -1 → f a c = -1
namespace TC
variable {α : Type} {f : α → α → Int} (h : TC f)
include h
theorem refl (a : α) : f a a = 0 := (h.eq0 a a).2 rfl
theorem le_trans {a b c : α} (h1 : f a b ≤ 0) (h2 : f b c ≤ 0) : f a c ≤ 0 := by
  have r1 := h.rng a b; have r2 := h.rng b c
  rcases r1 with r1 | r1 | r1
  · rcases r2 with r2 | r2 | r2
    · have := h.tr a b c r1 r2; omega
    · rw [h.eq0] at r2; subst r2; omega
    · omega
  · rw [h.eq0] at r1; subst r1; exact h2
  · omega
end TC
theorem bytes_ext {a b : ByteArray} (h : a.data.toList = b.data.toList) : a = b := ByteArray.ext (Array.toList_inj.1 h)
end Go.Proofs.YtmhnfdgegejlkaaDoor.V
end

section
namespace Go.Proofs.YtmhnfdgegejlkaaDoor.V
open Go Go.RowKit Go.Proofs.YtmhnfdgegejlkaaDoor.P Go.Proofs.YtmhnfdgegejlkaaDoorW.PrintWords
set_option linter.unusedSimpArgs false
set_option linter.unusedVariables false
abbrev V := S23
abbrev e0 : ByteArray := ⟨#[]⟩
theorem V_ext {a b : V} (h0 : a.f0 = b.f0) (h1 : a.f1 = b.f1) (h2 : a.f2 = b.f2) : a = b := by cases a; cases b; simp_all
instance : DecidableEq V := fun a b => decidable_of_iff (a.f0 = b.f0 ∧ a.f1 = b.f1 ∧ a.f2 = b.f2) ⟨fun h => V_ext h.1 h.2.1 h.2.2, fun h => by rw [h]; exact ⟨rfl, rfl, rfl⟩⟩
theorem wrap64_id {x : Int} (h1 : -9223372036854775808 ≤ x) (h2 : x ≤ 9223372036854775807) : wrap64 x = x := by unfold wrap64; omega
end Go.Proofs.YtmhnfdgegejlkaaDoor.V
end

section
namespace Go.Proofs.YtmhnfdgegejlkaaDoor.P
open Go.RowKit Go.Proofs.YtmhnfdgegejlkaaDoorW.PrintWords Go.Proofs.YtmhnfdgegejlkaaDoorW.PrintLast Go.Proofs.YtmhnfdgegejlkaaDoorW.PrintMore
attribute [local go_sem] max2_int min2_int max_two min_two max_three min_three max_four min_four
set_option linter.unusedVariables false
set_option linter.unusedSimpArgs false
end Go.Proofs.YtmhnfdgegejlkaaDoor.P
end

section
namespace Go.Proofs.YtmhnfdgegejlkaaDoor.P
open Go.RowKit Go.Proofs.YtmhnfdgegejlkaaDoorW.PrintWords Go.Proofs.YtmhnfdgegejlkaaDoorW.PrintLast Go.Proofs.YtmhnfdgegejlkaaDoorW.PrintMore
attribute [local go_sem] max2_int min2_int max_two min_two max_three min_three max_four min_four
set_option linter.unusedVariables false
set_option linter.unusedSimpArgs false
end Go.Proofs.YtmhnfdgegejlkaaDoor.P
end

section
namespace Go.Proofs.YtmhnfdgegejlkaaDoor.V
open Go Go.RowKit Go.Proofs.YtmhnfdgegejlkaaDoor.P Go.Proofs.YtmhnfdgegejlkaaDoorW.PrintWords
set_option linter.unusedSimpArgs false
set_option linter.unusedVariables false
theorem wrap_succ (i : Nat) (h : i < 9223372036854775807) : wrap64 ((i : Int) + 1) = ((i + 1 : Nat) : Int) := by rw [wrap64_id (by omega) (by omega)]; rfl
end Go.Proofs.YtmhnfdgegejlkaaDoor.V
end

section
namespace Go.Proofs.YtmhnfdgegejlkaaDoor.V
open Go Go.RowKit Go.Proofs.YtmhnfdgegejlkaaDoor.P Go.Proofs.YtmhnfdgegejlkaaDoorW.PrintWords
set_option linter.unusedSimpArgs false
set_option linter.unusedVariables false
def Rt (v : V) : Prop := (v.f0 = 0 ∧ v.f1 = 0 ∧ v.f2 = e0) ∨ (v.f0 = 1 ∧ -549755813888 ≤ v.f1 ∧ v.f1 ≤ 549755813887 ∧ v.f2 = e0) ∨ (v.f0 = 2 ∧ v.f1 = 0 ∧ v.f2.size ≤ 40) ∨ (v.f0 = 3 ∧ (v.f1 = 0 ∨ v.f1 = 1) ∧ v.f2 = e0)
theorem empty_beq (s : ByteArray) : (s.toList == ([] : List UInt8)) = true ↔ s = e0 := by
  rw [beq_iff_eq, ByteArray.toList_eq]
  constructor
  · intro h; exact bytes_ext h
  · rintro rfl; rfl
theorem refRight_some (v : V) : ∃ b, alumref19_Right.f v.f0 v.f1 v.f2 = some b ∧ (b = true ↔ Rt v) := by
  unfold alumref19_Right.f Rt
  by_cases h0 : v.f0 = 0
  · rw [if_pos h0]
    by_cases h1 : v.f1 = 0
    · rw [if_pos h1]; exact ⟨_, rfl, by rw [empty_beq]; simp [h0, h1]⟩
    · rw [if_neg h1]; exact ⟨_, rfl, by simp [h0, h1]⟩
  · rw [if_neg h0]
    by_cases h1 : v.f0 = 1
    · rw [if_pos h1]
      by_cases h2 : v.f1 ≥ -549755813888
      · rw [if_pos h2]
        by_cases h3 : v.f1 ≤ 549755813887
        · rw [if_pos h3]; exact ⟨_, rfl, by rw [empty_beq]; simp [h1, h3]; omega⟩
        · rw [if_neg h3]; exact ⟨_, rfl, by simp [h1, h3]⟩
      · rw [if_neg h2]; exact ⟨_, rfl, by simp [h1]; omega⟩
    · rw [if_neg h1]
      by_cases h2 : v.f0 = 2
      · rw [if_pos h2]
        by_cases h3 : v.f1 = 0
        · rw [if_pos h3]; exact ⟨_, rfl, by simp [h2, h3]; omega⟩
        · rw [if_neg h3]; exact ⟨_, rfl, by simp [h2, h3]⟩
      · rw [if_neg h2]
        by_cases h3 : v.f0 = 3
        · rw [if_pos h3]
          by_cases h4 : v.f1 = 0
          · rw [if_pos h4]; exact ⟨_, rfl, by rw [empty_beq]; simp [h3, h4]⟩
          · rw [if_neg h4]
            by_cases h5 : v.f1 = 1
            · rw [if_pos h5]; exact ⟨_, rfl, by rw [empty_beq]; simp [h3, h4, h5]⟩
            · rw [if_neg h5]; exact ⟨_, rfl, by simp [h3, h4, h5]⟩
        · rw [if_neg h3]; exact ⟨_, rfl, by simp [h0, h1, h2, h3]⟩
theorem refRight_yes {v : V} (h : Rt v) : alumref19_Right.f v.f0 v.f1 v.f2 = some true := by
  obtain ⟨b, hb, hi⟩ := refRight_some v
  rw [hb, hi.2 h]
theorem refRight_no {v : V} (h : ¬ Rt v) : alumref19_Right.f v.f0 v.f1 v.f2 = some false := by
  obtain ⟨b, hb, hi⟩ := refRight_some v
  rw [hb]
  cases b with
  | false => rfl
  | true => exact absurd (hi.1 rfl) h
end Go.Proofs.YtmhnfdgegejlkaaDoor.V
end

section
namespace Go.Proofs.YtmhnfdgegejlkaaDoor.P
open Go.RowKit Go.Proofs.YtmhnfdgegejlkaaDoorW.PrintWords Go.Proofs.YtmhnfdgegejlkaaDoorW.PrintLast Go.Proofs.YtmhnfdgegejlkaaDoorW.PrintMore
attribute [local go_sem] max2_int min2_int max_two min_two max_three min_three max_four min_four
set_option linter.unusedVariables false
set_option linter.unusedSimpArgs false
end Go.Proofs.YtmhnfdgegejlkaaDoor.P
end

section
namespace Go.Proofs.YtmhnfdgegejlkaaDoor.P
open Go.RowKit Go.Proofs.YtmhnfdgegejlkaaDoorW.PrintWords Go.Proofs.YtmhnfdgegejlkaaDoorW.PrintLast Go.Proofs.YtmhnfdgegejlkaaDoorW.PrintMore
attribute [local go_sem] max2_int min2_int max_two min_two max_three min_three max_four min_four
set_option linter.unusedVariables false
set_option linter.unusedSimpArgs false
end Go.Proofs.YtmhnfdgegejlkaaDoor.P
end

section
namespace Go.Proofs.YtmhnfdgegejlkaaDoor.P
open Go.RowKit Go.Proofs.YtmhnfdgegejlkaaDoorW.PrintWords Go.Proofs.YtmhnfdgegejlkaaDoorW.PrintLast Go.Proofs.YtmhnfdgegejlkaaDoorW.PrintMore
attribute [local go_sem] max2_int min2_int max_two min_two max_three min_three max_four min_four
set_option linter.unusedVariables false
set_option linter.unusedSimpArgs false
end Go.Proofs.YtmhnfdgegejlkaaDoor.P
end

section
namespace Go.Proofs.YtmhnfdgegejlkaaDoor.P
open Go.RowKit Go.Proofs.YtmhnfdgegejlkaaDoorW.PrintWords Go.Proofs.YtmhnfdgegejlkaaDoorW.PrintLast Go.Proofs.YtmhnfdgegejlkaaDoorW.PrintMore
attribute [local go_sem] max2_int min2_int max_two min_two max_three min_three max_four min_four
set_option linter.unusedVariables false
set_option linter.unusedSimpArgs false
end Go.Proofs.YtmhnfdgegejlkaaDoor.P
end

section
namespace Go.Proofs.YtmhnfdgegejlkaaDoor.P
open Go.RowKit Go.Proofs.YtmhnfdgegejlkaaDoorW.PrintWords Go.Proofs.YtmhnfdgegejlkaaDoorW.PrintLast Go.Proofs.YtmhnfdgegejlkaaDoorW.PrintMore
attribute [local go_sem] max2_int min2_int max_two min_two max_three min_three max_four min_four
set_option linter.unusedVariables false
set_option linter.unusedSimpArgs false
end Go.Proofs.YtmhnfdgegejlkaaDoor.P
end

section
namespace Go.Proofs.YtmhnfdgegejlkaaDoor.P
open Go.RowKit Go.Proofs.YtmhnfdgegejlkaaDoorW.PrintWords Go.Proofs.YtmhnfdgegejlkaaDoorW.PrintLast Go.Proofs.YtmhnfdgegejlkaaDoorW.PrintMore
attribute [local go_sem] max2_int min2_int max_two min_two max_three min_three max_four min_four
set_option linter.unusedVariables false
set_option linter.unusedSimpArgs false
end Go.Proofs.YtmhnfdgegejlkaaDoor.P
end

section
namespace Go.Proofs.YtmhnfdgegejlkaaDoor.P
open Go.RowKit Go.Proofs.YtmhnfdgegejlkaaDoorW.PrintWords Go.Proofs.YtmhnfdgegejlkaaDoorW.PrintLast Go.Proofs.YtmhnfdgegejlkaaDoorW.PrintMore
attribute [local go_sem] max2_int min2_int max_two min_two max_three min_three max_four min_four
set_option linter.unusedVariables false
set_option linter.unusedSimpArgs false
end Go.Proofs.YtmhnfdgegejlkaaDoor.P
end

section
namespace Go.Proofs.YtmhnfdgegejlkaaDoor.P
open Go.RowKit Go.Proofs.YtmhnfdgegejlkaaDoorW.PrintWords Go.Proofs.YtmhnfdgegejlkaaDoorW.PrintLast Go.Proofs.YtmhnfdgegejlkaaDoorW.PrintMore
attribute [local go_sem] max2_int min2_int max_two min_two max_three min_three max_four min_four
set_option linter.unusedVariables false
set_option linter.unusedSimpArgs false
end Go.Proofs.YtmhnfdgegejlkaaDoor.P
end

section
namespace Go.Proofs.YtmhnfdgegejlkaaDoor.P
open Go.RowKit Go.Proofs.YtmhnfdgegejlkaaDoorW.PrintWords Go.Proofs.YtmhnfdgegejlkaaDoorW.PrintLast Go.Proofs.YtmhnfdgegejlkaaDoorW.PrintMore
attribute [local go_sem] max2_int min2_int max_two min_two max_three min_three max_four min_four
set_option linter.unusedVariables false
set_option linter.unusedSimpArgs false
end Go.Proofs.YtmhnfdgegejlkaaDoor.P
end

section
namespace Go.Proofs.YtmhnfdgegejlkaaDoor.P
open Go.RowKit Go.Proofs.YtmhnfdgegejlkaaDoorW.PrintWords Go.Proofs.YtmhnfdgegejlkaaDoorW.PrintLast Go.Proofs.YtmhnfdgegejlkaaDoorW.PrintMore
attribute [local go_sem] max2_int min2_int max_two min_two max_three min_three max_four min_four
set_option linter.unusedVariables false
set_option linter.unusedSimpArgs false
end Go.Proofs.YtmhnfdgegejlkaaDoor.P
end

section
namespace Go.Proofs.YtmhnfdgegejlkaaDoor.V
open Go Go.RowKit Go.Proofs.YtmhnfdgegejlkaaDoor.P Go.Proofs.YtmhnfdgegejlkaaDoorW.PrintWords Go.Proofs.YtmhnfdgegejlkaaDoorW.PrintMore
set_option linter.unusedSimpArgs false
set_option linter.unusedVariables false
def bts (s : ByteArray) : List Int := s.data.toList.map fun b => (b.toNat : Int)
theorem bts_len (s : ByteArray) : (bts s).length = s.size := by simp [bts]
theorem bts_rng (s : ByteArray) : ∀ b ∈ bts s, 0 ≤ b ∧ b < 256 := by
  intro b hb
  simp only [bts, List.mem_map] at hb
  obtain ⟨u, _, rfl⟩ := hb
  exact ⟨by omega, by have := u.toNat_lt; omega⟩
theorem bt_get (s : ByteArray) (i : Nat) : bt s (i : Int) = (bts s).getD i 0 := by
  unfold bt
  rw [Int.toNat_natCast]
  by_cases h : i < s.size
  · rw [dif_pos h, List.getD_eq_getElem?_getD, List.getElem?_eq_getElem (by rw [bts_len]; exact h)]
    simp [bts]
    rfl
  · rw [dif_neg h, List.getD_eq_getElem?_getD, List.getElem?_eq_none (by rw [bts_len]; omega)]
    rfl
def w4 (a b c d n : Int) : Int := (((a * 256 + b) * 256 + c) * 256 + d) * 256 + n
def tw : List Int → List Int
  | [] => [w4 0 0 0 0 0]
  | [a] => [w4 a 0 0 0 1]
  | [a, b] => [w4 a b 0 0 2]
  | [a, b, c] => [w4 a b c 0 3]
  | a :: b :: c :: d :: r => w4 a b c d 4 :: tw r
def W (v : V) : List Int := if v.f0 = 1 then [1, v.f1 + 549755813888] else if v.f0 = 3 then [3, v.f1] else if v.f0 = 0 then [0] else 2 :: tw (bts v.f2)
theorem p63 : (2 : Int) ^ 63 = 9223372036854775808 := by decide
end Go.Proofs.YtmhnfdgegejlkaaDoor.V
end

section
namespace Go.Proofs.YtmhnfdgegejlkaaDoor.V
open Go Go.RowKit Go.Proofs.YtmhnfdgegejlkaaDoor.P Go.Proofs.YtmhnfdgegejlkaaDoorW.PrintWords Go.Proofs.YtmhnfdgegejlkaaDoorW.PrintMore
set_option linter.unusedSimpArgs false
set_option linter.unusedVariables false
theorem tmod_neg (m : Nat) : Int.tmod (-(m : Int)) 10 = -((m % 10 : Nat) : Int) := by rw [Int.neg_tmod, Int.tmod_eq_emod_of_nonneg (by omega)]; rfl
theorem tdiv_neg (m : Nat) : Int.tdiv (-(m : Int)) 10 = -((m / 10 : Nat) : Int) := by rw [Int.neg_tdiv, Int.tdiv_eq_ediv_of_nonneg (by omega)]; rfl
theorem strOf_dig (m : Nat) (h : m < 10) : strOfNums [(wrap64 (48 - -(m : Int))) % 256] = ⟨#[UInt8.ofNat (48 + m)]⟩ := by
  rw [wrap64_id (by omega) (by omega), show (48 - -(m : Int)) % 256 = ((48 + m : Nat) : Int) from by omega]
  have := Lib.Lz.strOfNums_map [UInt8.ofNat (48 + m)]
  have e : (UInt8.ofNat (48 + m)).toNat = 48 + m := by simp; omega
  rw [List.map_cons, List.map_nil, e] at this
  exact this
theorem ba_append (x y : List UInt8) : ((⟨x.toArray⟩ : ByteArray) ++ (⟨y.toArray⟩ : ByteArray)) = ⟨(x ++ y).toArray⟩ := by
  apply ByteArray.ext
  simp
theorem ba_size (x : List UInt8) : (⟨x.toArray⟩ : ByteArray).size = x.length := by simp [ByteArray.size]
theorem dig_len : ∀ (n m : Nat), m < 10 ^ (n + 1) → (Lib.decDigits m).length ≤ n + 1 := by
  intro n
  induction n with
  | zero => intro m h; rw [Lib.decDigits, dif_pos (by omega)]; simp
  | succ n ih =>
    intro m h
    rw [Lib.decDigits]
    by_cases h1 : m < 10
    · rw [dif_pos h1]; simp
    · rw [dif_neg h1, List.length_append]
      have := ih (m / 10) (by rw [Nat.pow_succ] at h; omega)
      simp only [List.length_cons, List.length_nil]
      omega
theorem ev_count : ∀ (n k m : Nat), m < 10 ^ (n + 1) → m ≤ 9223372036854775807 → n < 20 → n + 1 ≤ k → alumref19_count.f k (-(m : Int)) = some ⟨(Lib.decDigits m).toArray⟩ := by
  intro n
  induction n with
  | zero =>
    intro k m h hm hn hk
    obtain ⟨k, rfl⟩ : ∃ j, k = j + 1 := ⟨k - 1, by omega⟩
    rw [alumref19_count.f, show Int.tmod (-(m : Int)) 10 = -(m : Int) from by rw [tmod_neg, Nat.mod_eq_of_lt (by omega)], Option.bind_some, if_pos (by omega), strOf_dig m (by omega), Lib.decDigits, dif_pos (by omega)]
  | succ n ih =>
    intro k m h hm hn hk
    obtain ⟨k, rfl⟩ : ∃ j, k = j + 1 := ⟨k - 1, by omega⟩
    rw [alumref19_count.f, tmod_neg, Option.bind_some, strOf_dig (m % 10) (by omega)]
    by_cases h1 : m < 10
    · rw [if_pos (by omega), Lib.decDigits, dif_pos h1, show m % 10 = m from by omega]
    · have hl := dig_len n (m / 10) (by rw [Nat.pow_succ] at h; omega)
      rw [if_neg (by omega), tdiv_neg, wrap64_id (by omega) (by omega), ih k (m / 10) (by rw [Nat.pow_succ] at h; omega) (by omega) (by omega) (by omega)]
      simp only [Option.bind_some]
      rw [if_pos (by rw [ba_size]; simp [ByteArray.size]; omega)]
      rw [show (⟨#[UInt8.ofNat (48 + m % 10)]⟩ : ByteArray) = ⟨[UInt8.ofNat (48 + m % 10)].toArray⟩ from rfl, ba_append]
      conv => rhs; rw [Lib.decDigits, dif_neg h1]
theorem ev_Digits (k : Nat) (hk : 20 ≤ k) (n : Int) (h1 : -549755813888 ≤ n) (h2 : n ≤ 549755813887) : alumref19_Digits.f k n = some ⟨(Lib.itoa n).toArray⟩ := by
  unfold alumref19_Digits.f Lib.itoa
  by_cases h : n < 0
  · have e : n = -((n.natAbs : Nat) : Int) := by omega
    have hl := dig_len 12 n.natAbs (by have : (10 : Nat) ^ 13 = 10000000000000 := by decide
                                       rw [this]; omega)
    rw [if_pos h, if_pos h, e, ev_count 12 k n.natAbs (by have : (10 : Nat) ^ 13 = 10000000000000 := by decide
                                                          rw [this]; omega) (by omega) (by omega) (by omega), ← e]
    simp only [Option.bind_some]
    rw [if_pos (by rw [ba_size]; omega), show (⟨#[45]⟩ : ByteArray) = ⟨[(45 : UInt8)].toArray⟩ from rfl, ba_append]
    rfl
  · have e : -n = -((n.toNat : Nat) : Int) := by omega
    rw [if_neg h, if_neg h, wrap64_id (by omega) (by omega), e, ev_count 12 k n.toNat (by have : (10 : Nat) ^ 13 = 10000000000000 := by decide
                                                                                          rw [this]; omega) (by omega) (by omega) (by omega)]
    rfl
def plainB (b : Int) : Bool := decide (32 ≤ b) && decide (b ≤ 126) && b != 39 && b != 92
def hexd (n : Int) : Int := if n < 10 then 48 + n else 87 + n
def esc (b : Int) : List Int := if plainB b then [b] else [92, hexd (b / 16), hexd (b % 16)]
theorem ev_plain (b : Int) : value_plain.f b = some (plainB b) := by
  unfold value_plain.f plainB
  by_cases h1 : b ≥ 32
  · rw [if_pos h1]
    by_cases h2 : b ≤ 126
    · rw [if_pos h2]
      by_cases h3 : b = 39
      · rw [if_pos h3]; simp [h3]
      · rw [if_neg h3]; simp [h1, h2, h3]
    · rw [if_neg h2]; simp [h2]
  · rw [if_neg h1]; simp [h1]
theorem and15_all : ((List.range 256).all fun b => Go.bits .and .u8 (b : Int) 15 == (b : Int) % 16) = true := by kernel_rfl
theorem and15 (b : Int) (h0 : 0 ≤ b) (h1 : b < 256) : Go.bits .and .u8 b 15 = b % 16 := by
  have := List.all_eq_true.1 and15_all b.toNat (by rw [List.mem_range]; omega)
  rw [show ((b.toNat : Nat) : Int) = b from by omega] at this
  exact of_decide_eq_true (by simpa using this)
def digTab : ByteArray := ⟨#[48, 49, 50, 51, 52, 53, 54, 55, 56, 57, 97, 98, 99, 100, 101, 102]⟩
theorem dig_all : ((List.range 16).all fun n => bt digTab (n : Int) == hexd (n : Int)) = true := by kernel_rfl
theorem dig_at (n : Int) (h0 : 0 ≤ n) (h1 : n < 16) : bt digTab n = hexd n := by
  have := List.all_eq_true.1 dig_all n.toNat (by rw [List.mem_range]; omega)
  rw [show ((n.toNat : Nat) : Int) = n from by omega] at this
  exact of_decide_eq_true (by simpa using this)
theorem bt_drop (s : ByteArray) (i : Nat) (h : i < s.size) : (bts s).drop i = bt s (i : Int) :: (bts s).drop (i + 1) := by
  have hl : i < (bts s).length := by rw [bts_len]; exact h
  rw [List.drop_eq_getElem_cons hl, bt_get, List.getD_eq_getElem?_getD, List.getElem?_eq_getElem hl]
  rfl
theorem bt_rng (s : ByteArray) (i : Nat) (h : i < s.size) : 0 ≤ bt s (i : Int) ∧ bt s (i : Int) < 256 := by
  have hl : i < (bts s).length := by rw [bts_len]; exact h
  rw [bt_get, List.getD_eq_getElem?_getD, List.getElem?_eq_getElem hl]
  exact bts_rng s _ (List.getElem_mem hl)
theorem print_loop (s : ByteArray) (p q : Int) (hs : s.size ≤ 1000) (d : Nat) : ∀ (k i : Nat) (acc : List Int), s.size - i = d → i ≤ s.size → acc.length ≤ 3 * i + 1 → d + 1 ≤ k →
    value_PrintT.l0 k acc s.size i p q s = some (strOfNums (acc ++ ((bts s).drop i).flatMap esc ++ [39])) := by
  induction d with
  | zero =>
    intro k i acc hd hi ha hk
    obtain ⟨k, rfl⟩ : ∃ m, k = m + 1 := ⟨k - 1, by omega⟩
    rw [value_PrintT.l0, if_neg (by omega), if_pos (by omega), List.drop_eq_nil_of_le (by rw [bts_len]; omega)]
    simp
  | succ d ih =>
    intro k i acc hd hi ha hk
    obtain ⟨k, rfl⟩ : ∃ m, k = m + 1 := ⟨k - 1, by omega⟩
    have hi' : i < s.size := by omega
    have hb := bt_rng s i hi'
    rw [value_PrintT.l0, if_pos (by omega), if_pos (by omega), if_pos (by omega), ev_plain, bt_drop s i hi', List.flatMap_cons]
    simp only [Option.bind_some]
    by_cases hp : plainB (bt s i) = true
    · have he : esc (bt s i) = [bt s i] := by unfold esc; rw [if_pos hp]
      rw [if_pos hp, if_pos (by omega), he, wrap_succ i (by omega), ih k (i + 1) _ (by omega) (by omega) (by rw [List.length_append]; simp only [List.length_cons, List.length_nil]; omega) (by omega)]
      simp only [List.append_assoc]
    · have he : esc (bt s i) = [92, hexd (bt s i / 16), hexd (bt s i % 16)] := by unfold esc; rw [if_neg hp]
      rw [if_neg hp, and15 _ hb.1 hb.2, if_pos (by omega), if_pos (by omega), if_pos (by omega), if_pos (by omega)]
      rw [show (⟨#[48, 49, 50, 51, 52, 53, 54, 55, 56, 57, 97, 98, 99, 100, 101, 102]⟩ : ByteArray) = digTab from rfl, dig_at _ (by omega) (by omega), dig_at _ (by omega) (by omega)]
      simp only [List.length_cons, List.length_nil]
      rw [if_pos (by omega), he, wrap_succ i (by omega), ih k (i + 1) _ (by omega) (by omega) (by rw [List.length_append]; simp only [List.length_cons, List.length_nil]; omega) (by omega)]
      simp only [List.append_assoc]
theorem ev_hex (n : Int) (h0 : 0 ≤ n) (h1 : n < 16) : alumref19_hex.f n = some (hexd n) := by
  unfold alumref19_hex.f hexd
  by_cases h : n < 10
  · rw [if_pos h, if_pos h, wrap64_id (by omega) (by omega), Int.emod_eq_of_lt (by omega) (by omega)]
  · rw [if_neg h, if_neg h, wrap64_id (by omega) (by omega), Int.emod_eq_of_lt (by omega) (by omega)]
theorem refprint_loop (s : ByteArray) (p q : Int) (hs : s.size ≤ 1000) (d : Nat) : ∀ (k i : Nat) (acc : List Int), s.size - i = d → i ≤ s.size → acc.length ≤ 3 * i + 1 → 2 * d + 1 ≤ k →
    alumref19_Print.l0 k acc i p q s = some (strOfNums (acc ++ ((bts s).drop i).flatMap esc ++ [39])) := by
  induction d with
  | zero =>
    intro k i acc hd hi ha hk
    obtain ⟨k, rfl⟩ : ∃ m, k = m + 1 := ⟨k - 1, by omega⟩
    rw [alumref19_Print.l0, if_neg (by omega), if_pos (by omega), List.drop_eq_nil_of_le (by rw [bts_len]; omega)]
    simp
  | succ d ih =>
    intro k i acc hd hi ha hk
    obtain ⟨k, rfl⟩ : ∃ m, k = m + 2 := ⟨k - 2, by omega⟩
    have hi' : i < s.size := by omega
    have hb := bt_rng s i hi'
    rw [alumref19_Print.l0, if_pos (by omega), if_pos (by omega), bt_drop s i hi', List.flatMap_cons]
    have hno : plainB (bt s i) = false → alumref19_Print.j1 (k + 1) acc i (bt s i) true p q s = some (strOfNums (acc ++ (esc (bt s i) ++ ((bts s).drop (i + 1)).flatMap esc) ++ [39])) := by
      intro hp
      have he : esc (bt s i) = [92, hexd (bt s i / 16), hexd (bt s i % 16)] := by unfold esc; rw [hp]; rfl
      rw [alumref19_Print.j1, if_pos rfl, wrap64_id (x := bt s i) (by omega) (by omega), Int.tdiv_eq_ediv_of_nonneg hb.1, Int.tmod_eq_emod_of_nonneg hb.1, wrap64_id (by omega) (by omega), ev_hex _ (by omega) (by omega), ev_hex _ (by omega) (by omega)]
      simp only [Option.bind_some, List.length_cons, List.length_nil]
      rw [if_pos (by omega), he, wrap_succ i (by omega), ih k (i + 1) _ (by omega) (by omega) (by rw [List.length_append]; simp only [List.length_cons, List.length_nil]; omega) (by omega)]
      simp only [List.append_assoc]
    have hyes : plainB (bt s i) = true → alumref19_Print.j1 (k + 1) acc i (bt s i) false p q s = some (strOfNums (acc ++ (esc (bt s i) ++ ((bts s).drop (i + 1)).flatMap esc) ++ [39])) := by
      intro hp
      have he : esc (bt s i) = [bt s i] := by unfold esc; rw [if_pos hp]
      rw [alumref19_Print.j1, if_neg (by simp), if_pos (by omega), he, wrap_succ i (by omega), ih k (i + 1) _ (by omega) (by omega) (by rw [List.length_append]; simp only [List.length_cons, List.length_nil]; omega) (by omega)]
      simp only [List.append_assoc]
    by_cases h1 : bt s i < 32
    · rw [if_pos h1]; exact hno (by unfold plainB; simp [show ¬ (32 ≤ bt s i) from by omega])
    · rw [if_neg h1]
      by_cases h2 : bt s i > 126
      · rw [if_pos h2]; exact hno (by unfold plainB; simp [show ¬ (bt s i ≤ 126) from by omega])
      · rw [if_neg h2]
        by_cases h3 : bt s i = 39
        · rw [if_pos h3]; exact hno (by unfold plainB; simp [h3])
        · rw [if_neg h3]
          by_cases h4 : bt s i = 92
          · rw [show (bt s i == 92) = true from by simp [h4]]; exact hno (by unfold plainB; simp [h4])
          · rw [show (bt s i == 92) = false from by simp [h4]]; exact hyes (by unfold plainB; simp [h3, h4, show 32 ≤ bt s i from by omega, show bt s i ≤ 126 from by omega])
def vprint (v : V) : ByteArray := if v.f0 = 1 then ⟨(Lib.itoa v.f1).toArray⟩ else if v.f0 = 3 then (if v.f1 = 1 then ⟨#[116, 114, 117, 101]⟩ else ⟨#[102, 97, 108, 115, 101]⟩) else if v.f0 = 0 then ⟨#[110, 117, 108, 108]⟩ else strOfNums (39 :: (bts v.f2).flatMap esc ++ [39])
theorem ev_Print (k : Nat) (hk : 60 ≤ k) (v : V) (h : Rt v) : value_PrintT.f k v.f0 v.f1 v.f2 = some (vprint v) := by
  unfold value_PrintT.f vprint
  by_cases h1 : v.f0 = 1
  · have hr : -549755813888 ≤ v.f1 ∧ v.f1 ≤ 549755813887 := by rcases h with h | h | h | h <;> omega
    rw [if_pos h1, if_pos h1]
    unfold strconv_ItoaT.f
    rw [if_pos (by omega)]
    rfl
  · rw [if_neg h1, if_neg h1]
    by_cases h3 : v.f0 = 3
    · rw [if_pos h3, if_pos h3]
      unfold strconv_FormatBool.f internal_strconv_FormatBool.f
      by_cases h4 : v.f1 = 1
      · rw [if_pos h4]; simp [h4]
      · rw [if_neg h4]; simp [h4]
    · rw [if_neg h3, if_neg h3]
      by_cases h0 : v.f0 = 0
      · rw [if_pos h0, if_pos h0]
      · have h2 : v.f2.size ≤ 40 := by
          rcases h with h | h | h | h
          · omega
          · omega
          · exact h.2.2
          · omega
        rw [if_neg h0, if_neg h0]
        have := print_loop v.f2 v.f0 v.f1 (by omega) v.f2.size k 0 [39] (by omega) (by omega) (by simp) (by omega)
        rw [Int.natCast_zero] at this
        rw [this]
        rfl
theorem ev_refPrint (k : Nat) (hk : 100 ≤ k) (v : V) (h : Rt v) : alumref19_Print.f k v.f0 v.f1 v.f2 = some (vprint v) := by
  unfold alumref19_Print.f vprint
  by_cases h1 : v.f0 = 1
  · have hr : -549755813888 ≤ v.f1 ∧ v.f1 ≤ 549755813887 := by rcases h with h | h | h | h <;> omega
    rw [if_pos h1, if_pos h1, ev_Digits k (by omega) _ hr.1 hr.2]
    rfl
  · rw [if_neg h1, if_neg h1]
    by_cases h3 : v.f0 = 3
    · rw [if_pos h3, if_pos h3]
      by_cases h4 : v.f1 = 1
      · rw [if_pos h4, if_pos h4]
      · rw [if_neg h4, if_neg h4]
    · rw [if_neg h3, if_neg h3]
      by_cases h0 : v.f0 = 0
      · rw [if_neg (by omega), if_pos h0]
      · have h2 : v.f0 = 2 ∧ v.f2.size ≤ 40 := by
          rcases h with h | h | h | h
          · omega
          · omega
          · exact ⟨h.1, h.2.2⟩
          · omega
        rw [if_pos h2.1, if_neg h0]
        have := refprint_loop v.f2 v.f0 v.f1 (by omega) v.f2.size k 0 [39] (by omega) (by omega) (by simp) (by omega)
        rw [Int.natCast_zero] at this
        rw [this]
        rfl
end Go.Proofs.YtmhnfdgegejlkaaDoor.V
end

section
namespace Go.Proofs.YtmhnfdgegejlkaaDoor.V
open Go Go.RowKit Go.Proofs.YtmhnfdgegejlkaaDoor.P Go.Proofs.YtmhnfdgegejlkaaDoorW.PrintWords
theorem sanity_at : alumlaw19_sanity.f 40 = some true := by kernel_rfl
theorem ev_sanity (k : Nat) (hk : 40 ≤ k) : alumlaw19_sanity.f k = some true := at_rounds (fun k => alumlaw19_sanity.mono k) hk sanity_at
end Go.Proofs.YtmhnfdgegejlkaaDoor.V
end

section
namespace Go.Proofs.YtmhnfdgegejlkaaDoor.V
open Go Go.RowKit Go.Proofs.YtmhnfdgegejlkaaDoor.P Go.Proofs.YtmhnfdgegejlkaaDoorW.PrintWords Go.Proofs.YtmhnfdgegejlkaaDoorW.PrintMore
set_option linter.unusedSimpArgs false
set_option linter.unusedVariables false
theorem pl_eq (b : Int) : P.plainB b = plainB b := by unfold P.plainB plainB; simp [Bool.and_assoc]
def ofI (l : List Int) : List UInt8 := l.map fun x => UInt8.ofNat x.toNat
def toI (l : List UInt8) : List Int := l.map fun b => (b.toNat : Int)
theorem toI_ofI (l : List Int) (h : ∀ b ∈ l, 0 ≤ b ∧ b < 256) : toI (ofI l) = l := by
  induction l with
  | nil => rfl
  | cons x l ih =>
    have hx := h x (List.mem_cons_self)
    have := ih (fun b hb => h b (List.mem_cons_of_mem _ hb))
    unfold toI ofI at this ⊢
    rw [List.map_cons, List.map_cons, this, UInt8.toNat_ofNat']
    congr 1
    omega
theorem ofI_toI (l : List UInt8) : ofI (toI l) = l := by
  induction l with
  | nil => rfl
  | cons x l ih =>
    unfold toI ofI at ih ⊢
    rw [List.map_cons, List.map_cons, ih]
    congr 1
    simp
theorem strOf_toI (l : List UInt8) : strOfNums (toI l) = ⟨l.toArray⟩ := Lib.Lz.strOfNums_map l
theorem bts_str (l : List Int) (h : ∀ b ∈ l, 0 ≤ b ∧ b < 256) : bts (strOfNums l) = l := by
  rw [← toI_ofI l h, strOf_toI]
  unfold bts toI
  simp
theorem str_bts (s : ByteArray) : strOfNums (bts s) = s := strOf_toI s.data.toList
theorem bts_inj {s t : ByteArray} (h : bts s = bts t) : s = t := by rw [← str_bts s, h, str_bts]
theorem dig_inv : ((List.range 256).all fun a => match P.hexd a with
    | some d => decide (Lib.lowerB (UInt8.ofNat a) = UInt8.ofNat a → hexd (d : Int) = (a : Int)) && decide (d < 16)
    | none => true) = true := by kernel_rfl
theorem dig_inv' (a : UInt8) (d : Nat) (h : P.hexd a.toNat = some d) : d < 16 ∧ (Lib.lowerB a = a → hexd (d : Int) = (a.toNat : Int)) := by
  have := List.all_eq_true.1 dig_inv a.toNat (by rw [List.mem_range]; exact a.toNat_lt)
  rw [h] at this
  simp only [Bool.and_eq_true, decide_eq_true_eq] at this
  have e : UInt8.ofNat a.toNat = a := by simp
  rw [e] at this
  exact ⟨this.2, this.1⟩
theorem esc_all : ((List.range 256).all fun b => (P.phex 0 [UInt8.ofNat (hexd ((b : Int) / 16)).toNat, UInt8.ofNat (hexd ((b : Int) % 16)).toNat] == some b) && decide (Lib.toLowerA [UInt8.ofNat (hexd ((b : Int) / 16)).toNat, UInt8.ofNat (hexd ((b : Int) % 16)).toNat] = [UInt8.ofNat (hexd ((b : Int) / 16)).toNat, UInt8.ofNat (hexd ((b : Int) % 16)).toNat])) = true := by kernel_rfl
theorem esc_rng (b : Int) (h : 0 ≤ b ∧ b < 256) : ∀ x ∈ esc b, 0 ≤ x ∧ x < 256 := by
  intro x hx
  unfold esc at hx
  split at hx
  · simp at hx; omega
  · unfold hexd at hx
    simp at hx
    rcases hx with hx | hx | hx
    · omega
    · split at hx <;> omega
    · split at hx <;> omega
theorem flat_rng (l : List Int) (h : ∀ b ∈ l, 0 ≤ b ∧ b < 256) : ∀ x ∈ l.flatMap esc, 0 ≤ x ∧ x < 256 := by
  intro x hx
  obtain ⟨b, hb, hx⟩ := List.mem_flatMap.1 hx
  exact esc_rng b (h b hb) x hx
theorem qd_esc_all (l : List Int) (h : ∀ b ∈ l, 0 ≤ b ∧ b < 256) : qd (ofI (l.flatMap esc)) = some l := by
  induction l with
  | nil => rfl
  | cons b l ih =>
    have hb := h b (List.mem_cons_self)
    have ih := ih (fun b hb => h b (List.mem_cons_of_mem _ hb))
    rw [List.flatMap_cons]
    unfold ofI at ih ⊢
    rw [List.map_append]
    by_cases hp : plainB b = true
    · have he : esc b = [b] := by unfold esc; rw [if_pos hp]
      rw [he, List.map_cons, List.map_nil, List.singleton_append]
      have e : ((UInt8.ofNat b.toNat).toNat : Int) = b := by rw [UInt8.toNat_ofNat']; omega
      rw [P.qd_plain, ih, e]
      · rfl
      · intro h92
        rw [h92] at e
        unfold plainB at hp
        rw [← e] at hp
        revert hp
        decide
      · rw [e, pl_eq]; exact hp
    · have he : esc b = [92, hexd (b / 16), hexd (b % 16)] := by unfold esc; rw [if_neg hp]
      have hall := List.all_eq_true.1 esc_all b.toNat (by rw [List.mem_range]; omega)
      rw [show ((b.toNat : Nat) : Int) = b from by omega] at hall
      simp only [Bool.and_eq_true, beq_iff_eq, decide_eq_true_eq] at hall
      rw [he]
      simp only [List.map_cons, List.map_nil, List.cons_append, List.nil_append]
      rw [show UInt8.ofNat (Int.toNat 92) = 92 from rfl, P.qd_esc, hall.1]
      simp only []
      rw [show ((b.toNat : Nat) : Int) = b from by omega, pl_eq, if_neg hp, if_pos hall.2, ih]
      rfl
theorem qd_inv : ∀ (n : Nat) (L : List UInt8) (l : List Int), L.length ≤ n → qd L = some l → (∀ b ∈ l, 0 ≤ b ∧ b < 256) ∧ l.flatMap esc = toI L := by
  intro n
  induction n with
  | zero =>
    intro L l hn h
    obtain rfl : L = [] := List.eq_nil_of_length_eq_zero (by omega)
    injection h with h
    subst h
    exact ⟨by simp, rfl⟩
  | succ n ih =>
    intro L l hn h
    match L, hn, h with
    | [], _, h =>
      injection h with h
      subst h
      exact ⟨by simp, rfl⟩
    | c :: r, hn, h =>
      by_cases hc : c = 92
      · subst hc
        match r, hn, h with
        | [], _, h => cases h
        | [_], _, h => cases h
        | a :: b :: r', hn, h =>
          rw [P.qd_esc] at h
          cases hph : P.phex 0 [a, b] with
          | none => rw [hph] at h; cases h
          | some v =>
            rw [hph] at h
            simp only [] at h
            split at h
            · cases h
            · rename_i hnp
              split at h
              · rename_i hlow
                obtain ⟨l', hl', rfl⟩ := Option.map_eq_some_iff.1 h
                obtain ⟨h1, h2⟩ := ih r' l' (by simp at hn; omega) hl'
                have hv := (P.phex_ascii hph).2.2
                refine ⟨fun x hx => ?_, ?_⟩
                · rcases List.mem_cons.1 hx with rfl | hx
                  · omega
                  · exact h1 x hx
                · rw [List.flatMap_cons, h2]
                  have he : esc (v : Int) = [92, hexd ((v : Int) / 16), hexd ((v : Int) % 16)] := by unfold esc; rw [if_neg (by rw [← pl_eq]; exact hnp)]
                  unfold P.phex at hph
                  cases ha : P.hexd a.toNat with
                  | none => rw [ha] at hph; cases hph
                  | some d =>
                    rw [ha] at hph
                    simp only [] at hph
                    unfold P.phex at hph
                    cases hb : P.hexd b.toNat with
                    | none => rw [hb] at hph; cases hph
                    | some e =>
                      rw [hb] at hph
                      simp only [P.phex] at hph
                      injection hph with hph
                      have ia := dig_inv' a d ha
                      have ib := dig_inv' b e hb
                      simp only [Lib.toLowerA, List.map_cons, List.map_nil, List.cons.injEq, and_true] at hlow
                      have e1 : (v : Int) / 16 = d := by omega
                      have e2 : (v : Int) % 16 = e := by omega
                      rw [he, e1, e2, ia.2 hlow.1, ib.2 hlow.2]
                      rfl
              · cases h
      · by_cases hp : P.plainB (c.toNat : Int) = true
        · rw [P.qd_plain hc hp] at h
          obtain ⟨l', hl', rfl⟩ := Option.map_eq_some_iff.1 h
          obtain ⟨h1, h2⟩ := ih r l' (by simp at hn; omega) hl'
          refine ⟨fun x hx => ?_, ?_⟩
          · rcases List.mem_cons.1 hx with rfl | hx
            · have := c.toNat_lt; omega
            · exact h1 x hx
          · rw [List.flatMap_cons, h2]
            have he : esc (c.toNat : Int) = [(c.toNat : Int)] := by unfold esc; rw [if_pos (by rw [← pl_eq]; exact hp)]
            rw [he]
            rfl
        · unfold P.qd at h
          rw [if_neg hc, if_neg hp] at h
          cases h
def txt (t : ByteArray) : ByteArray := strOfNums (39 :: (bts t).flatMap esc ++ [39])
theorem txt_rng (t : ByteArray) : ∀ x ∈ 39 :: (bts t).flatMap esc ++ [39], 0 ≤ x ∧ x < 256 := by
  intro x hx
  simp only [List.mem_append, List.mem_cons, List.cons_append, List.mem_nil_iff, or_false] at hx
  rcases hx with rfl | hx | rfl
  · omega
  · exact flat_rng _ (bts_rng t) x hx
  · omega
theorem bts_txt (t : ByteArray) : bts (txt t) = 39 :: (bts t).flatMap esc ++ [39] := bts_str _ (txt_rng t)
theorem quoted_txt (t : ByteArray) : quotedP (txt t) = some t := by
  have hb := bts_txt t
  have hl : (txt t).size = (bts t |>.flatMap esc).length + 2 := by rw [← bts_len, hb]; simp
  have h0 : bt (txt t) 0 = 39 := by rw [show (0 : Int) = ((0 : Nat) : Int) from rfl, bt_get, hb]; rfl
  have h1 : bt (txt t) ((txt t).size - 1) = 39 := by
    rw [show (((txt t).size : Int) - 1) = (((txt t).size - 1 : Nat) : Int) from by omega, bt_get, hb, hl, List.getD_eq_getElem?_getD]
    simp
  unfold quotedP
  rw [if_neg (by omega), if_neg (by simpa using h0), if_neg (by simpa using h1)]
  have hi : ((txt t).extract 1 ((txt t).size - 1)).data.toList = ofI ((bts t).flatMap esc) := by
    rw [Lib.extract_data, ← ofI_toI (txt t).data.toList, show toI (txt t).data.toList = bts (txt t) from rfl, hb, hl]
    unfold ofI
    simp
  rw [hi, qd_esc_all _ (bts_rng t)]
  simp only [Option.map_some, str_bts]
theorem quoted_inv {s t : ByteArray} (h : quotedP s = some t) : s = txt t := by
  unfold quotedP at h
  split at h
  · cases h
  · rename_i h2
    split at h
    · cases h
    · rename_i h0
      split at h
      · cases h
      · rename_i h1
        obtain ⟨l, hq, rfl⟩ := Option.map_eq_some_iff.1 h
        obtain ⟨hr, hf⟩ := qd_inv _ _ _ (Nat.le_refl _) hq
        apply bts_inj
        rw [bts_txt, bts_str l hr, hf]
        have h0' : bt s 0 = 39 := by simpa using h0
        have h1' : bt s (s.size - 1) = 39 := by simpa using h1
        rw [show (0 : Int) = ((0 : Nat) : Int) from rfl, bt_get] at h0'
        rw [show ((s.size : Int) - 1) = ((s.size - 1 : Nat) : Int) from by omega, bt_get] at h1'
        have hlen := bts_len s
        have hi : toI (s.extract 1 (s.size - 1)).data.toList = ((bts s).drop 1).take (s.size - 2) := by
          rw [Lib.extract_data]
          unfold toI bts
          rw [List.map_take, List.map_drop]
          rfl
        rw [hi]
        generalize bts s = L at *
        apply List.ext_getElem
        · simp; omega
        · intro i i1 i2
          rw [List.getElem_append]
          by_cases e : i < s.size - 1
          · rw [dif_pos (by simp; omega)]
            cases i with
            | zero => simpa [List.getD_eq_getElem?_getD, List.getElem?_eq_getElem (show 0 < L.length by omega)] using h0'
            | succ i => simp [List.getElem_take, List.getElem_drop, Nat.add_comm]
          · rw [dif_neg (by simp; omega)]
            have : i = s.size - 1 := by omega
            subst this
            simpa [List.getD_eq_getElem?_getD, List.getElem?_eq_getElem (show s.size - 1 < L.length by omega)] using h1'
end Go.Proofs.YtmhnfdgegejlkaaDoor.V
end

section
namespace Go.Proofs.YtmhnfdgegejlkaaDoor.V
open Go Go.RowKit Go.Proofs.YtmhnfdgegejlkaaDoor.P Go.Proofs.YtmhnfdgegejlkaaDoorW.PrintWords Go.Proofs.YtmhnfdgegejlkaaDoorW.PrintMore
set_option linter.unusedSimpArgs false
set_option linter.unusedVariables false
theorem pu_snoc (d : Nat) (hd : d ≤ 9) : ∀ (l : List UInt8) (acc u : Nat), Lib.parseUint10 acc l = .ok u → u < 100000000000000000 → Lib.parseUint10 acc (l ++ [UInt8.ofNat (48 + d)]) = .ok (u * 10 + d) := by
  have hc : (UInt8.ofNat (48 + d)).toNat = 48 + d := by rw [UInt8.toNat_ofNat']; omega
  intro l
  induction l with
  | nil =>
    intro acc u h hu
    simp only [Lib.parseUint10] at h
    injection h with h
    subst h
    simp only [List.nil_append, Lib.parseUint10, hc]
    rw [if_pos (by omega), if_neg (by omega), if_neg (by omega)]
    congr 1
    omega
  | cons c l ih =>
    intro acc u h hu
    simp only [List.cons_append, Lib.parseUint10] at h ⊢
    split at h
    · rename_i h1
      rw [if_pos h1]
      split at h
      · cases h
      · rename_i h2
        rw [if_neg h2]
        split at h
        · cases h
        · rename_i h3
          rw [if_neg h3]
          exact ih _ _ h hu
    · cases h
theorem pu_dec : ∀ (n m : Nat), m ≤ n → m < 100000000000000000 → Lib.parseUint10 0 (Lib.decDigits m) = .ok m := by
  intro n
  induction n with
  | zero =>
    intro m hm hb
    obtain rfl : m = 0 := by omega
    rw [Lib.decDigits_one (by omega)]
    rfl
  | succ n ih =>
    intro m hm hb
    by_cases h : m < 10
    · have := pu_snoc m (by omega) [] 0 0 rfl (by omega)
      rw [Lib.decDigits_one h]
      simpa using this
    · rw [Lib.decDigits, dif_neg h, pu_snoc (m % 10) (by omega) _ 0 (m / 10) (ih _ (by omega) (by omega)) (by omega)]
      congr 1
      omega
theorem dec_all : ∀ (n m : Nat), m ≤ n → ∀ c ∈ Lib.decDigits m, 48 ≤ c.toNat ∧ c.toNat ≤ 57 := by
  intro n
  induction n with
  | zero =>
    intro m hm c hc
    obtain rfl : m = 0 := by omega
    rw [Lib.decDigits_one (by omega)] at hc
    simp at hc
    subst hc
    decide
  | succ n ih =>
    intro m hm c hc
    by_cases h : m < 10
    · rw [Lib.decDigits_one h] at hc
      simp only [List.mem_singleton] at hc
      rw [hc, UInt8.toNat_ofNat']
      omega
    · rw [Lib.decDigits, dif_neg h] at hc
      rcases List.mem_append.1 hc with hc | hc
      · exact ih _ (by omega) c hc
      · simp only [List.mem_singleton] at hc
        rw [hc, UInt8.toNat_ofNat']
        omega
theorem dec_ne (m : Nat) : Lib.decDigits m ≠ [] := by
  rw [Lib.decDigits]
  split <;> simp
theorem dec_cons (m : Nat) : ∃ c r, Lib.decDigits m = c :: r ∧ 48 ≤ c.toNat ∧ c.toNat ≤ 57 := by
  cases h : Lib.decDigits m with
  | nil => exact absurd h (dec_ne m)
  | cons c r => exact ⟨c, r, rfl, dec_all m m (Nat.le_refl _) c (by rw [h]; exact List.mem_cons_self)⟩
theorem itoa_cons (n : Int) : ∃ c r, Lib.itoa n = c :: r ∧ (c.toNat = 45 ∨ 48 ≤ c.toNat ∧ c.toNat ≤ 57) := by
  unfold Lib.itoa
  by_cases h : n < 0
  · rw [if_pos h]; exact ⟨_, _, rfl, Or.inl rfl⟩
  · rw [if_neg h]
    obtain ⟨c, r, e, hc⟩ := dec_cons n.toNat
    exact ⟨c, r, e, Or.inr hc⟩
theorem atoi_itoa (n : Int) (h1 : -549755813888 ≤ n) (h2 : n ≤ 549755813887) : Lib.atoiAll (Lib.itoa n) = .ok n := by
  unfold Lib.itoa
  by_cases h : n < 0
  · rw [if_pos h]
    unfold Lib.atoiAll Lib.parseMag
    simp only [show ((45 : UInt8).toNat = 43 ∨ (45 : UInt8).toNat = 45) from by decide, if_true, dec_ne, if_false, pu_dec _ n.natAbs (Nat.le_refl _) (by omega)]
    rw [if_neg (by intro hh; exact hh.1 rfl), if_neg (by intro hh; have := hh.2; omega)]
    congr 1
    rw [if_pos (by decide)]
    omega
  · rw [if_neg h]
    obtain ⟨c, r, e, hc⟩ := dec_cons n.toNat
    have hp := pu_dec _ n.toNat (Nat.le_refl _) (by omega)
    rw [e] at hp ⊢
    unfold Lib.atoiAll Lib.parseMag
    simp only [show ¬ (c.toNat = 43 ∨ c.toNat = 45) from by omega, if_false, List.cons_ne_nil, hp]
    rw [if_neg (by intro hh; have := hh.2; omega), if_neg (by intro hh; have := hh.1; omega)]
    congr 1
    rw [if_neg (by omega)]
    omega
theorem toList_mk (l : List UInt8) : (⟨l.toArray⟩ : ByteArray).toList = l := by rw [Lib.toList_data]
theorem bt_mk (c : UInt8) (r : List UInt8) : bt (⟨(c :: r).toArray⟩ : ByteArray) 0 = (c.toNat : Int) := by
  rw [show (0 : Int) = ((0 : Nat) : Int) from rfl, bt_get]
  simp [bts]
theorem quoted_no {s : ByteArray} (h : bt s 0 ≠ 39) : quotedP s = none := by
  unfold quotedP
  by_cases h2 : s.size < 2
  · rw [if_pos h2]
  · rw [if_neg h2, if_pos h]
theorem txt_cons (t : ByteArray) : ∃ r, (txt t).toList = 39 :: r := by
  rw [Lib.toList_data, ← ofI_toI (txt t).data.toList, show toI (txt t).data.toList = bts (txt t) from rfl, bts_txt]
  exact ⟨_, rfl⟩
theorem vprint_txt (t : ByteArray) : vprint ⟨2, 0, t⟩ = txt t := by
  unfold vprint txt
  simp
theorem rightI_iff (n : Int) : rightI n = true ↔ -549755813888 ≤ n ∧ n ≤ 549755813887 := by unfold rightI; simp
theorem rightT_iff (t : ByteArray) : rightT t = true ↔ t.size ≤ 40 := by unfold rightT; simp; omega
theorem parse_print {v : V} (h : Rt v) : parseP (vprint v) = some (v.f0, v.f1, v.f2) := by
  obtain ⟨a, b, c⟩ := v
  rcases h with h | h | h | h
  · obtain ⟨rfl, rfl, rfl⟩ : a = 0 ∧ b = 0 ∧ c = e0 := h
    rw [show vprint ⟨0, 0, e0⟩ = ⟨([110, 117, 108, 108] : List UInt8).toArray⟩ from rfl]
    unfold parseP
    rw [toList_mk, if_pos rfl]
  · obtain ⟨rfl, h1, h2, rfl⟩ : a = 1 ∧ -549755813888 ≤ b ∧ b ≤ 549755813887 ∧ c = e0 := h
    have hv : vprint ⟨1, b, e0⟩ = ⟨(Lib.itoa b).toArray⟩ := by unfold vprint; rw [if_pos rfl]
    rw [hv]
    obtain ⟨ch, r, e, hc⟩ := itoa_cons b
    have hq : quotedP ⟨(Lib.itoa b).toArray⟩ = none := by
      rw [e]
      exact quoted_no (by rw [bt_mk]; omega)
    unfold parseP
    rw [toList_mk, hq, if_neg, if_neg, if_neg]
    · simp only [atoi_itoa b h1 h2, if_true]
      rw [if_pos ((rightI_iff b).2 ⟨h1, h2⟩)]
    all_goals
      rw [e]
      intro hh
      injection hh with hh _
      subst hh
      revert hc
      decide
  · obtain ⟨rfl, rfl, h1⟩ : a = 2 ∧ b = 0 ∧ c.size ≤ 40 := h
    rw [vprint_txt]
    obtain ⟨r, e⟩ := txt_cons c
    unfold parseP
    rw [quoted_txt, if_neg, if_neg, if_neg]
    · simp only []
      rw [if_pos ((rightT_iff c).2 h1)]
    all_goals
      rw [e]
      intro hh
      injection hh with hh _
      revert hh
      decide
  · obtain ⟨rfl, h1, rfl⟩ : a = 3 ∧ (b = 0 ∨ b = 1) ∧ c = e0 := h
    rcases h1 with rfl | rfl
    · rw [show vprint ⟨3, 0, e0⟩ = ⟨([102, 97, 108, 115, 101] : List UInt8).toArray⟩ from rfl]
      unfold parseP
      rw [toList_mk, if_neg (by decide), if_neg (by decide), if_pos rfl]
    · rw [show vprint ⟨3, 1, e0⟩ = ⟨([116, 114, 117, 101] : List UInt8).toArray⟩ from rfl]
      unfold parseP
      rw [toList_mk, if_neg (by decide), if_pos rfl]
theorem toList_eq {s : ByteArray} {l : List UInt8} (h : s.toList = l) : s = ⟨l.toArray⟩ := by
  rw [Lib.toList_data] at h
  rw [← h]
theorem print_parse {s : ByteArray} {x : Int × Int × ByteArray} (h : parseP s = some x) : Rt ⟨x.1, x.2.1, x.2.2⟩ ∧ vprint ⟨x.1, x.2.1, x.2.2⟩ = s := by
  unfold parseP at h
  split at h
  · rename_i e
    injection h with h
    subst h
    exact ⟨Or.inl ⟨rfl, rfl, rfl⟩, by rw [toList_eq e]; rfl⟩
  · split at h
    · rename_i e
      injection h with h
      subst h
      exact ⟨Or.inr (Or.inr (Or.inr ⟨rfl, Or.inr rfl, rfl⟩)), by rw [toList_eq e]; rfl⟩
    · split at h
      · rename_i e
        injection h with h
        subst h
        exact ⟨Or.inr (Or.inr (Or.inr ⟨rfl, Or.inl rfl, rfl⟩)), by rw [toList_eq e]; rfl⟩
      · split at h
        · rename_i t hq
          split at h
          · rename_i hr
            injection h with h
            subst h
            refine ⟨Or.inr (Or.inr (Or.inl ⟨rfl, rfl, (rightT_iff t).1 hr⟩)), ?_⟩
            rw [quoted_inv hq]
            exact vprint_txt t
          · cases h
        · split at h
          · rename_i n hn
            split at h
            · rename_i hi
              split at h
              · rename_i hr
                injection h with h
                subst h
                refine ⟨Or.inr (Or.inl ⟨rfl, ((rightI_iff n).1 hr).1, ((rightI_iff n).1 hr).2, rfl⟩), ?_⟩
                unfold vprint
                rw [if_pos rfl]
                show (⟨(Lib.itoa n).toArray⟩ : ByteArray) = s
                rw [hi]
              · cases h
            · cases h
          · cases h
theorem vprint_inj {u v : V} (hu : Rt u) (hv : Rt v) (h : vprint u = vprint v) : u = v := by
  have h1 := parse_print hu
  rw [h, parse_print hv] at h1
  injection h1 with h1
  obtain ⟨a, b, c⟩ := u
  obtain ⟨d, e, f⟩ := v
  simp only [Prod.mk.injEq] at h1
  obtain ⟨rfl, rfl, rfl⟩ := h1
  rfl
end Go.Proofs.YtmhnfdgegejlkaaDoor.V
end

section
namespace Go.Proofs.YtmhnfdgegejlkaaDoor.V
open Go Go.RowKit Go.Proofs.YtmhnfdgegejlkaaDoor.P Go.Proofs.YtmhnfdgegejlkaaDoorW.PrintWords Go.Proofs.YtmhnfdgegejlkaaDoorW.PrintMore
set_option linter.unusedSimpArgs false
set_option linter.unusedVariables false
theorem j6_yes {s : ByteArray} (k : Nat) (hk : 110 ≤ k) {v : V} (h : Rt v) (hp : vprint v = s) : alumref19_Parse.j6 k s v.f0 v.f1 v.f2 = some (v.f0, v.f1, v.f2, true) := by
  obtain ⟨k, rfl⟩ : ∃ m, k = m + 1 := ⟨k - 1, by omega⟩
  rw [alumref19_Parse.j6, refRight_yes h]
  simp only [Option.bind_some, if_true]
  rw [ev_refPrint k (by omega) v h, hp]
  simp
theorem j6_no {s : ByteArray} (k : Nat) (hk : 110 ≤ k) {v : V} (h : ¬ (Rt v ∧ vprint v = s)) : alumref19_Parse.j6 k s v.f0 v.f1 v.f2 = some (0, 0, e0, false) := by
  obtain ⟨k, rfl⟩ : ∃ m, k = m + 1 := ⟨k - 1, by omega⟩
  rw [alumref19_Parse.j6]
  by_cases hr : Rt v
  · rw [refRight_yes hr]
    simp only [Option.bind_some, if_true]
    rw [ev_refPrint k (by omega) v hr]
    have hne : ¬ (vprint v).toList = s.toList := fun e => h ⟨hr, by rw [Lib.toList_data, Lib.toList_data] at e; exact ByteArray.ext (Array.toList_inj.1 e)⟩
    simp only [Option.bind_some]
    rw [if_neg hne]
  · rw [refRight_no hr]
    simp
def dgv (c : Int) : Int := if 48 ≤ c then (if c ≤ 57 then (c - 48) % 256 else if 97 ≤ c ∧ c ≤ 102 then (c - 97) % 256 + 10 else -1) else -1
theorem ev_digit (k : Nat) (hk : 1 ≤ k) (c : Int) : alumref19_digit.f k c = some (dgv c) := by
  obtain ⟨k, rfl⟩ : ∃ m, k = m + 1 := ⟨k - 1, by omega⟩
  unfold alumref19_digit.f dgv
  by_cases h : c ≥ 48
  · rw [if_pos h, if_pos h, alumref19_digit.j0]
    by_cases h2 : c ≤ 57
    · simp [h2]
    · rw [if_neg (by simpa using h2), if_neg h2]
      by_cases h3 : c ≥ 97
      · rw [if_pos h3]
        by_cases h4 : c ≤ 102
        · rw [if_pos h4, if_pos ⟨h3, h4⟩]
        · rw [if_neg h4, if_neg (by omega)]
      · rw [if_neg h3, if_neg (by omega)]
  · rw [if_neg h, if_neg h, alumref19_digit.j0, if_neg (by simp), if_neg (by omega)]
def hx (a b : Int) : Int := (wrap64 (wrap64 (mx 0 (dgv a) * 16) + mx 0 (dgv b))) % 256
def gl : Nat → List Int → List Int
  | 0, _ => []
  | n + 1, c :: a :: r =>
    if c = 92 ∧ 1 ≤ r.length then (match r with
      | b :: r' => hx a b :: gl n r'
      | [] => [])
    else c :: gl n (a :: r)
  | _ + 1, _ => []
theorem gl_cc (n : Nat) (c a : Int) (r : List Int) : gl (n + 1) (c :: a :: r) = if c = 92 ∧ 1 ≤ r.length then (match r with
      | b :: r' => hx a b :: gl n r'
      | [] => []) else c :: gl n (a :: r) := rfl
theorem hx_all : ((List.range 256).all fun b => hx (hexd ((b : Int) / 16)) (hexd ((b : Int) % 16)) == (b : Int)) = true := by kernel_rfl
theorem hx_at (b : Int) (h : 0 ≤ b ∧ b < 256) : hx (hexd (b / 16)) (hexd (b % 16)) = b := by
  have := List.all_eq_true.1 hx_all b.toNat (by rw [List.mem_range]; omega)
  rw [show ((b.toNat : Nat) : Int) = b from by omega] at this
  exact beq_iff_eq.1 this
theorem gl_esc : ∀ (l : List Int) (n : Nat), (∀ b ∈ l, 0 ≤ b ∧ b < 256) → l.length + 1 ≤ n → gl n (l.flatMap esc ++ [39]) = l := by
  intro l
  induction l with
  | nil =>
    intro n h hn
    obtain ⟨n, rfl⟩ : ∃ m, n = m + 1 := ⟨n - 1, by omega⟩
    rfl
  | cons b l ih =>
    intro n h hn
    obtain ⟨n, rfl⟩ : ∃ m, n = m + 1 := ⟨n - 1, by simp at hn; omega⟩
    have hb := h b (List.mem_cons_self)
    have ih := ih n (fun b hb => h b (List.mem_cons_of_mem _ hb)) (by simp at hn; omega)
    rw [List.flatMap_cons]
    by_cases hp : plainB b = true
    · have he : esc b = [b] := by unfold esc; rw [if_pos hp]
      have h92 : b ≠ 92 := by rintro rfl; revert hp; decide
      rw [he]
      simp only [List.singleton_append, List.cons_append, List.nil_append]
      cases hr : l.flatMap esc ++ [39] with
      | nil => simp at hr
      | cons a r =>
        rw [hr] at ih
        rw [gl_cc, if_neg (by simp [h92]), ih]
    · have he : esc b = [92, hexd (b / 16), hexd (b % 16)] := by unfold esc; rw [if_neg hp]
      rw [he]
      simp only [List.cons_append, List.nil_append]
      rw [gl_cc, if_pos ⟨rfl, by simp⟩]
      simp only []
      rw [hx_at b hb, ih]
theorem text_loop (s : ByteArray) (hs : s.size ≤ 200) (p : Int) (q : ByteArray) (d : Nat) : ∀ (k i : Nat) (acc : List Int), s.size - i ≤ d → 1 ≤ i → acc.length ≤ i → 2 * d + 200 ≤ k →
    ∃ k', 110 ≤ k' ∧ alumref19_Parse.l0 k s acc i 2 p q = alumref19_Parse.j6 k' s 2 p (strOfNums (acc ++ gl d ((bts s).drop i))) := by
  induction d with
  | zero =>
    intro k i acc hd hi ha hk
    obtain ⟨k, rfl⟩ : ∃ m, k = m + 1 := ⟨k - 1, by omega⟩
    refine ⟨k, by omega, ?_⟩
    rw [alumref19_Parse.l0, wrap64_id (by omega) (by omega), if_neg (by omega)]
    simp [gl]
  | succ d ih =>
    intro k i acc hd hi ha hk
    obtain ⟨k, rfl⟩ : ∃ m, k = m + 1 := ⟨k - 1, by omega⟩
    rw [alumref19_Parse.l0, wrap64_id (by omega) (by omega)]
    by_cases hlt : (i : Int) < (s.size : Int) - 1
    · rw [if_pos hlt, if_pos (by omega), if_pos (by omega)]
      have hd1 := bt_drop s i (by omega)
      have hd2 := bt_drop s (i + 1) (by omega)
      by_cases hc : bt s i = 92
      · rw [if_pos hc, hc]
        obtain ⟨k, rfl⟩ : ∃ m, k = m + 1 := ⟨k - 1, by omega⟩
        rw [alumref19_Parse.j3]
        rw [show (wrap64 ((i : Int) + 2)) = (((i + 2 : Nat)) : Int) from by rw [wrap64_id (by omega) (by omega)]; omega]
        by_cases h3 : i + 2 < s.size
        · have hd3 := bt_drop s (i + 2) (by omega)
          rw [if_pos (by simpa using (by omega : ((i + 2 : Nat) : Int) < (s.size : Int)))]
          rw [show (wrap64 ((i : Int) + 1)) = (((i + 1 : Nat)) : Int) from by rw [wrap64_id (by omega) (by omega)]; omega]
          rw [if_pos (by omega), if_pos (by omega), ev_digit k (by omega)]
          simp only [Option.bind_some]
          rw [if_pos (by omega), if_pos (by omega), ev_digit k (by omega)]
          simp only [Option.bind_some]
          rw [if_pos (by omega), show (wrap64 (((i + 2 : Nat) : Int) + 1)) = (((i + 3 : Nat)) : Int) from by rw [wrap64_id (by omega) (by omega)]; omega]
          obtain ⟨k', hk', e⟩ := ih k (i + 3) (acc ++ [hx (bt s ((i + 1 : Nat) : Int)) (bt s ((i + 2 : Nat) : Int))]) (by omega) (by omega) (by simp; omega) (by omega)
          refine ⟨k', hk', ?_⟩
          rw [show (wrap64 ((wrap64 ((mx 0 (dgv (bt s ((i + 1 : Nat) : Int)))) * 16)) + (mx 0 (dgv (bt s ((i + 2 : Nat) : Int)))))) % 256 = hx (bt s ((i + 1 : Nat) : Int)) (bt s ((i + 2 : Nat) : Int)) from rfl, e]
          rw [hd1, hd2, hc]
          rw [show i + 1 + 1 = i + 2 from rfl, hd3, gl_cc, if_pos ⟨rfl, by simp⟩]
          simp only [List.append_assoc, List.singleton_append]
        · rw [if_neg (by simpa using (by omega : ¬ ((i + 2 : Nat) : Int) < (s.size : Int))), if_pos (by omega), show (wrap64 ((i : Int) + 1)) = (((i + 1 : Nat)) : Int) from by rw [wrap64_id (by omega) (by omega)]; omega]
          obtain ⟨k', hk', e⟩ := ih k (i + 1) (acc ++ [92]) (by omega) (by omega) (by simp; omega) (by omega)
          refine ⟨k', hk', ?_⟩
          rw [e, hd1, hd2, hc, gl_cc, if_neg (by rw [List.length_drop, bts_len]; omega)]
          rw [← hd2]
          simp only [List.append_assoc, List.singleton_append]
      · rw [if_neg hc]
        obtain ⟨k, rfl⟩ : ∃ m, k = m + 1 := ⟨k - 1, by omega⟩
        rw [alumref19_Parse.j3, if_neg (by simp), if_pos (by omega), show (wrap64 ((i : Int) + 1)) = (((i + 1 : Nat)) : Int) from by rw [wrap64_id (by omega) (by omega)]; omega]
        obtain ⟨k', hk', e⟩ := ih k (i + 1) (acc ++ [bt s i]) (by omega) (by omega) (by simp; omega) (by omega)
        refine ⟨k', hk', ?_⟩
        rw [e, hd1, hd2, gl_cc, if_neg (by simp [hc])]
        rw [← hd2]
        simp only [List.append_assoc, List.singleton_append]
    · rw [if_neg hlt]
      refine ⟨k, by omega, ?_⟩
      have hl : ((bts s).drop i).length ≤ 1 := by rw [List.length_drop, bts_len]; omega
      generalize (bts s).drop i = r at hl
      match r, hl with
      | [], _ => simp [gl]
      | [_], _ => simp [gl]
      | _ :: _ :: _, h => simp at h
def gn : Nat → List Int → Int → Int
  | 0, _, b => b
  | _ + 1, [], b => b
  | m + 1, c :: r, b => gn m r (if c = 45 then b else wrap64 (wrap64 (wrap64 (b * 10) + wrap64 c) - 48))
theorem num_loop (s : ByteArray) (hs : s.size ≤ 200) (q : ByteArray) (d : Nat) : ∀ (k i : Nat) (b : Int), 14 - i = d → i ≤ 14 → 2 * d + 200 ≤ k →
    ∃ k', 110 ≤ k' ∧ alumref19_Parse.l1 k s i 1 b q = alumref19_Parse.j6 k' s 1 (if 0 < s.size ∧ bt s 0 = 45 then wrap64 (-(gn d ((bts s).drop i) b)) else gn d ((bts s).drop i) b) q := by
  have fin : ∀ (k : Nat) (i b : Int), 120 ≤ k → ∃ k', 110 ≤ k' ∧ alumref19_Parse.j5 k s i false 1 b q = alumref19_Parse.j6 k' s 1 (if 0 < s.size ∧ bt s 0 = 45 then wrap64 (-b) else b) q := by
    intro k i b hk
    obtain ⟨k, rfl⟩ : ∃ m, k = m + 1 := ⟨k - 1, by omega⟩
    refine ⟨k, by omega, ?_⟩
    rw [alumref19_Parse.j5, if_neg (by simp)]
    by_cases h0 : 0 < s.size
    · rw [if_pos (by omega), if_pos (by omega)]
      by_cases h1 : bt s 0 = 45
      · rw [if_pos h1, if_pos ⟨h0, h1⟩]
      · rw [if_neg h1, if_neg (fun h => h1 h.2)]
    · rw [if_neg (by omega), if_neg (fun h => h0 h.1)]
  induction d with
  | zero =>
    intro k i b hd hi hk
    obtain ⟨k, rfl⟩ : ∃ m, k = m + 1 := ⟨k - 1, by omega⟩
    obtain rfl : i = 14 := by omega
    rw [alumref19_Parse.l1]
    have hdec : decide (((14 : Nat) : Int) < 14) = false := by decide
    rw [hdec]
    simp only [gn, ite_self]
    exact fin k _ b (by omega)
  | succ d ih =>
    intro k i b hd hi hk
    obtain ⟨k, rfl⟩ : ∃ m, k = m + 1 := ⟨k - 1, by omega⟩
    rw [alumref19_Parse.l1]
    by_cases hlt : i < s.size
    · have hdr := bt_drop s i hlt
      rw [if_pos (by omega), show decide ((i : Int) < 14) = true from decide_eq_true (by omega)]
      obtain ⟨k, rfl⟩ : ∃ m, k = m + 1 := ⟨k - 1, by omega⟩
      rw [alumref19_Parse.j5, if_pos rfl, if_pos (by omega), if_pos (by omega), show (wrap64 ((i : Int) + 1)) = (((i + 1 : Nat)) : Int) from by rw [wrap64_id (by omega) (by omega)]; omega]
      rw [hdr]
      simp only [gn]
      by_cases hc : bt s i = 45
      · rw [if_pos hc, if_pos hc]
        exact ih k (i + 1) _ (by omega) (by omega) (by omega)
      · rw [if_neg hc, if_neg hc]
        exact ih k (i + 1) _ (by omega) (by omega) (by omega)
    · rw [if_neg (by omega), List.drop_eq_nil_of_le (by rw [bts_len]; omega)]
      simp only [gn]
      exact fin k _ b (by omega)
theorem gn_snoc (d : Nat) (hd : d ≤ 9) : ∀ (l : List Int) (m : Nat) (b u : Int), (∀ c ∈ l, 48 ≤ c ∧ c ≤ 57) → l.length < m → gn m l b = u → 0 ≤ u → u < 100000000000000 → gn m (l ++ [48 + (d : Int)]) b = u * 10 + d := by
  intro l
  induction l with
  | nil =>
    intro m b u hl hm h h0 h1
    obtain ⟨m, rfl⟩ : ∃ n, m = n + 1 := ⟨m - 1, by simp at hm; omega⟩
    simp only [gn] at h
    subst h
    simp only [List.nil_append, gn]
    have e1 : wrap64 (b * 10) = b * 10 := wrap64_id (by omega) (by omega)
    have e2 : wrap64 (48 + (d : Int)) = 48 + (d : Int) := wrap64_id (by omega) (by omega)
    have e3 : wrap64 (b * 10 + (48 + (d : Int))) = b * 10 + (48 + (d : Int)) := wrap64_id (by omega) (by omega)
    have e4 : wrap64 (b * 10 + (48 + (d : Int)) - 48) = b * 10 + (48 + (d : Int)) - 48 := wrap64_id (by omega) (by omega)
    rw [if_neg (by omega), e1, e2, e3, e4]
    cases m <;> simp only [gn] <;> omega
  | cons c l ih =>
    intro m b u hl hm h h0 h1
    obtain ⟨m, rfl⟩ : ∃ n, m = n + 1 := ⟨m - 1, by simp at hm; omega⟩
    simp only [List.cons_append, gn] at h ⊢
    exact ih m _ u (fun c hc => hl c (List.mem_cons_of_mem _ hc)) (by simp at hm; omega) h h0 h1
theorem gn_one (m k : Nat) (h : m < 10) (hk : 1 ≤ k) : gn k (toI (Lib.decDigits m)) 0 = m := by
  rw [Lib.decDigits_one h]
  have := gn_snoc m (by omega) [] k 0 0 (by simp) (by simp; omega) (by cases k <;> simp only [gn]) (by omega) (by omega)
  rw [show toI [UInt8.ofNat (48 + m)] = [48 + (m : Int)] from by unfold toI; simp only [List.map_cons, List.map_nil, UInt8.toNat_ofNat']; congr 1; omega]
  simpa using this
theorem gn_dec : ∀ (n m k : Nat), m ≤ n → m < 10000000000000 → (Lib.decDigits m).length ≤ k → gn k (toI (Lib.decDigits m)) 0 = m := by
  intro n
  induction n with
  | zero =>
    intro m k hm hb hk
    obtain rfl : m = 0 := by omega
    exact gn_one 0 k (by omega) (by rw [Lib.decDigits_one (by omega)] at hk; simpa using hk)
  | succ n ih =>
    intro m k hm hb hk
    by_cases h : m < 10
    · exact gn_one m k h (by rw [Lib.decDigits_one h] at hk; simpa using hk)
    · rw [Lib.decDigits, dif_neg h] at hk ⊢
      have e : toI (Lib.decDigits (m / 10) ++ [UInt8.ofNat (48 + m % 10)]) = toI (Lib.decDigits (m / 10)) ++ [48 + ((m % 10 : Nat) : Int)] := by
        unfold toI
        simp only [List.map_append, List.map_cons, List.map_nil, UInt8.toNat_ofNat']
        congr 2
        omega
      rw [e, gn_snoc (m % 10) (by omega) _ k 0 ((m / 10 : Nat) : Int) _ _ (ih (m / 10) k (by omega) (by omega) (by simp at hk; omega)) (by omega) (by omega)]
      · omega
      · intro c hc
        unfold toI at hc
        obtain ⟨x, hx, rfl⟩ := List.mem_map.1 hc
        have := dec_all _ _ (Nat.le_refl _) x hx
        omega
      · unfold toI
        simp at hk ⊢
        omega
theorem ref_guess (s : ByteArray) (hs : s.size ≤ 200) : ∃ (k' : Nat) (v0 : V), 110 ≤ k' ∧ alumref19_Parse.f 800 s = alumref19_Parse.j6 k' s v0.f0 v0.f1 v0.f2 ∧ ∀ v, Rt v → vprint v = s → v0 = v := by
  unfold alumref19_Parse.f
  by_cases e2 : s.toList = ([116, 114, 117, 101] : List UInt8)
  · rw [if_pos e2]
    refine ⟨799, ⟨3, 1, e0⟩, by omega, ?_, fun v hv hp => ?_⟩
    · rw [show (800 : Nat) = 799 + 1 from rfl, alumref19_Parse.j0, if_pos rfl, e2]; rfl
    · refine vprint_inj (Or.inr (Or.inr (Or.inr ⟨rfl, Or.inr rfl, rfl⟩))) hv (Eq.trans ?_ hp.symm)
      rw [toList_eq e2]; rfl
  · rw [if_neg e2]
    by_cases e3 : s.toList = ([102, 97, 108, 115, 101] : List UInt8)
    · refine ⟨799, ⟨3, 0, e0⟩, by omega, ?_, fun v hv hp => ?_⟩
      · rw [show (800 : Nat) = 799 + 1 from rfl, alumref19_Parse.j0, if_pos (by simpa using e3), e3]; rfl
      · refine vprint_inj (Or.inr (Or.inr (Or.inr ⟨rfl, Or.inl rfl, rfl⟩))) hv (Eq.trans ?_ hp.symm)
        rw [toList_eq e3]; rfl
    · rw [show (800 : Nat) = 799 + 1 from rfl, alumref19_Parse.j0, if_neg (by simpa using e3)]
      have hj1 : (if (s.size : Int) > 0 then (if 0 < (s.size : Int) then (alumref19_Parse.j1 799 s ((bt s 0) == 39) 0 0 (⟨#[]⟩ : ByteArray)) else (none)) else (alumref19_Parse.j1 799 s false 0 0 (⟨#[]⟩ : ByteArray))) = alumref19_Parse.j1 799 s (decide (0 < s.size ∧ bt s 0 = 39)) 0 0 e0 := by
        by_cases h0 : 0 < s.size
        · rw [if_pos (by omega), if_pos (by omega)]
          congr 1
          rw [Bool.eq_iff_iff]
          simp [h0]
        · rw [if_neg (by omega)]
          congr 1
          simp [h0]
      rw [hj1, show (799 : Nat) = 798 + 1 from rfl, alumref19_Parse.j1]
      by_cases h39 : 0 < s.size ∧ bt s 0 = 39
      · rw [if_pos (decide_eq_true h39)]
        obtain ⟨k', hk', e⟩ := text_loop s hs 0 e0 200 798 1 [] (by omega) (by omega) (by simp) (by omega)
        refine ⟨k', ⟨2, 0, strOfNums (gl 200 ((bts s).drop 1))⟩, hk', e, fun v hv hp => ?_⟩
        have hpp := parse_print hv
        rw [hp] at hpp
        obtain ⟨a, b, c⟩ := v
        rcases hv with h | h | h | h
        · obtain ⟨rfl, rfl, rfl⟩ : a = 0 ∧ b = 0 ∧ c = e0 := h
          rw [← hp] at h39
          exact absurd h39.2 (by decide)
        · obtain ⟨rfl, _, _, rfl⟩ : a = 1 ∧ _ ∧ _ ∧ c = e0 := h
          have hv : vprint ⟨1, b, e0⟩ = ⟨(Lib.itoa b).toArray⟩ := by unfold vprint; rw [if_pos rfl]
          obtain ⟨ch, r, e, hc⟩ := itoa_cons b
          rw [← hp, hv, e, bt_mk] at h39
          omega
        · obtain ⟨rfl, rfl, h1⟩ : a = 2 ∧ b = 0 ∧ c.size ≤ 40 := h
          rw [vprint_txt] at hp
          subst hp
          have : gl 200 ((bts (txt c)).drop 1) = bts c := by
            rw [bts_txt]
            exact gl_esc _ _ (bts_rng c) (by rw [bts_len]; omega)
          rw [this, str_bts]
        · obtain ⟨rfl, h1, rfl⟩ : a = 3 ∧ (b = 0 ∨ b = 1) ∧ c = e0 := h
          rw [← hp] at h39
          rcases h1 with rfl | rfl <;> exact absurd h39.2 (by decide)
      · rw [if_neg (by simpa using h39)]
        by_cases e1 : s.toList = ([110, 117, 108, 108] : List UInt8)
        · rw [if_pos e1]
          refine ⟨798, ⟨0, 0, e0⟩, by omega, rfl, fun v hv hp => vprint_inj (Or.inl ⟨rfl, rfl, rfl⟩) hv (Eq.trans ?_ hp.symm)⟩
          rw [toList_eq e1]; rfl
        · rw [if_neg e1]
          obtain ⟨k', hk', e⟩ := num_loop s hs e0 14 798 0 0 (by omega) (by omega) (by omega)
          refine ⟨k', ⟨1, (if 0 < s.size ∧ bt s 0 = 45 then wrap64 (-(gn 14 ((bts s).drop 0) 0)) else gn 14 ((bts s).drop 0) 0), e0⟩, hk', e, fun v hv hp => ?_⟩
          obtain ⟨a, b, c⟩ := v
          rcases hv with h | h | h | h
          · obtain ⟨rfl, rfl, rfl⟩ : a = 0 ∧ b = 0 ∧ c = e0 := h
            exact absurd (by rw [← hp]; exact toList_mk [110, 117, 108, 108]) e1
          · obtain ⟨rfl, h1, h2, rfl⟩ : a = 1 ∧ -549755813888 ≤ b ∧ b ≤ 549755813887 ∧ c = e0 := h
            have hv : vprint ⟨1, b, e0⟩ = ⟨(Lib.itoa b).toArray⟩ := by unfold vprint; rw [if_pos rfl]
            rw [hv] at hp
            have hb : bts s = toI (Lib.itoa b) := by rw [← hp]; unfold bts toI; simp
            rw [hb, List.drop_zero]
            have hg : (if 0 < s.size ∧ bt s 0 = 45 then wrap64 (-(gn 14 (toI (Lib.itoa b)) 0)) else gn 14 (toI (Lib.itoa b)) 0) = b := by
              by_cases hn : b < 0
              · have hi : Lib.itoa b = 45 :: Lib.decDigits b.natAbs := by unfold Lib.itoa; rw [if_pos hn]
                have h0 : 0 < s.size ∧ bt s 0 = 45 := by
                  rw [← hp, hi]
                  exact ⟨by rw [ba_size]; simp, bt_mk _ _⟩
                rw [if_pos h0, hi]
                have : gn 14 (toI (45 :: Lib.decDigits b.natAbs)) 0 = gn 13 (toI (Lib.decDigits b.natAbs)) 0 := rfl
                rw [this, gn_dec _ _ 13 (Nat.le_refl _) (by omega) (by have := dig_len 11 b.natAbs (by omega); omega), wrap64_id (by omega) (by omega)]
                omega
              · have hi : Lib.itoa b = Lib.decDigits b.toNat := by unfold Lib.itoa; rw [if_neg hn]
                obtain ⟨ch, r, ec, hc⟩ := dec_cons b.toNat
                have h0 : ¬ (0 < s.size ∧ bt s 0 = 45) := by
                  rw [← hp, hi, ec, bt_mk]
                  omega
                rw [if_neg h0, hi, gn_dec _ _ 14 (Nat.le_refl _) (by omega) (by have := dig_len 11 b.toNat (by omega); omega)]
                omega
            rw [hg]
          · obtain ⟨rfl, rfl, h1⟩ : a = 2 ∧ b = 0 ∧ c.size ≤ 40 := h
            rw [vprint_txt] at hp
            subst hp
            refine absurd ⟨?_, ?_⟩ h39
            · rw [← bts_len, bts_txt]; simp
            · rw [show (0 : Int) = ((0 : Nat) : Int) from rfl, bt_get, bts_txt]; rfl
          · obtain ⟨rfl, h1, rfl⟩ : a = 3 ∧ (b = 0 ∨ b = 1) ∧ c = e0 := h
            rcases h1 with rfl | rfl
            · exact absurd (by rw [← hp]; exact toList_mk [102, 97, 108, 115, 101]) e3
            · exact absurd (by rw [← hp]; exact toList_mk [116, 114, 117, 101]) e2
end Go.Proofs.YtmhnfdgegejlkaaDoor.V
end

section
namespace Go.Proofs.YtmhnfdgegejlkaaDoor.V
open Go Go.RowKit Go.Proofs.YtmhnfdgegejlkaaDoor.P Go.Proofs.YtmhnfdgegejlkaaDoorW.PrintWords Go.Proofs.YtmhnfdgegejlkaaDoorW.PrintMore
set_option linter.unusedSimpArgs false
set_option linter.unusedVariables false
theorem ValueParses : alumlaw19_ValueParsesT.Pure := by
  intro s hs
  refine ⟨800, ?_⟩
  unfold alumlaw19_ValueParsesT.f
  by_cases h200 : (s.size : Int) > 200
  · rw [if_pos h200, ev_sanity _ (by omega)]; rfl
  · rw [if_neg h200]
    obtain ⟨k', v0, hk', hr, hg⟩ := ref_guess s (by omega)
    have hP : value_ParseT.f s = some (match parseP s with
      | some v => (v.1, v.2.1, v.2.2, true)
      | none => (0, 0, ⟨#[]⟩, false)) := by unfold value_ParseT.f; rw [if_pos hs]; cases parseP s <;> rfl
    rw [hP, hr]
    cases hp : parseP s with
    | some x =>
      obtain ⟨hx, hv⟩ := print_parse hp
      have e0' := hg _ hx hv
      subst e0'
      rw [j6_yes k' hk' hx hv]
      simp only [Option.bind_some]
      rw [ev_sanity _ (by omega)]
      simp only [Option.bind_some, if_true]
      have hpr := ev_Print 800 (by omega) ⟨x.1, x.2.1, x.2.2⟩ hx
      rw [hv] at hpr
      simp only [] at hpr
      rw [hpr]
      simp
    | none =>
      rw [j6_no k' hk' (fun hh => by
        have := parse_print hh.1
        rw [hh.2, hp] at this
        cases this)]
      simp only [Option.bind_some]
      rw [ev_sanity _ (by omega)]
      simp
end Go.Proofs.YtmhnfdgegejlkaaDoor.V
end

section
namespace Go.Proofs.YtmhnfdgegejlkaaDoor.valueParses
open Go Go.ChangeShapes Go.WideShapes Go.ChangeAt Go.RowKit Go.Proofs.YtmhnfdgegejlkaaDoor.P Go.Proofs.YtmhnfdgegejlkaaDoorW.PrintWords
open Go.ChangeMaps (open_string shut_string)
set_option linter.unusedVariables false
theorem own : ownKnob Tryd.prog.godebug = none := by kernel_rfl
set_option maxRecDepth 100000 in
set_option maxHeartbeats 4000000 in
theorem lifted (os : Os) (started : os.Started) (H : Type) (enc : TypeId × Value → H) :
    ReturnsInHanded {} Tryd.checked os 9 .any (fun w args => (Rows.valueParsesSpec.pre enc Tryd.prog Tryd.f9 [] false w args ∧ laidMetH Tryd.prog Rows.valueParsesRow.laid w) ∧ sizedMet enc Tryd.prog Tryd.f9 (OpenSpec.ofChange Rows.valueParsesSpec) false w args)
      (Rows.valueParsesSpec.post enc Tryd.prog Tryd.f9 false true false false) := by
  refine returnsInHanded_of_change_and (C := Tryd.checked) (X := fun w _ => laidMetH Tryd.prog Rows.valueParsesRow.laid w) (fun _ _ _ hh h => h.of_heap hh) own started (by kernel_rfl) Tryd.func9
    (ChangeSpec.witness_shaped (enc := enc) (C := Tryd.checked) (os := os) (X := fun w _ => laidMetH Tryd.prog Rows.valueParsesRow.laid w) false (World.laidAll Tryd.prog os Rows.valueParsesRow.laid) #[.string ByteArray.empty] 8 (World.laidAll_os _ _ _) (World.shaped_of_ZipB (by kernel_rfl) (by kernel_rfl)) (by kernel_rfl) (by kernel_rfl) (by kernel_rfl) (by rw [MakeChecks.laidMetH_plain _ _ _ (by kernel_rfl)]; exact laidMet_laidAll _ (by kernel_rfl) (by kernel_rfl))) ?_
  intro W base args ds gs before hval0 hW hcnd hsz0 hL _
  have hsz : (DataW.weightsEach Tryd.prog (Tryd.f9.params.toList ++ Rows.valueParsesSpec.plain.varTypes Tryd.prog) (ds ++ gs)).all (· ≤ reachBytes) = true := hsz0
  have hval : ∀ (j : Nat) t v, Tryd.f9.params[j]? = some t → args[j]? = some v → Value.okWide Tryd.prog W .any base t v := hval0
  have hW' := hW
  obtain ⟨p, q, hA0, hV, rfl, hfz, hnd⟩ := hW
  have hA : DataW.TrodAll enc Tryd.prog W 0 (fun _ => true) true Tryd.f9.params.toList args.toList ds p := hA0
  rw [Tryd.params9] at hA hval hsz
  obtain ⟨v0, vs0, d0, ds0, p0, q0, hargs, rfl, rfl, h0, r0⟩ := trodAll_cons hA
  obtain ⟨rfl, rfl, rfl⟩ := trodAll_nil r0
  obtain rfl : args = #[v0] := Array.toList_inj.1 hargs
  obtain ⟨rfl, rfl⟩ := trodVars_none hV
  have wt0 : ∀ m ∈ d0.weights Tryd.prog 9, m ≤ reachBytes := fun m hm => of_decide_eq_true (List.all_eq_true.1 hsz m (DataW.weights_mem_each (j := 0) rfl rfl m hm))
  have k0 := h0
  obtain ⟨fu0, hf0⟩ := h0
  obtain ⟨x0, K0, g0⟩ := (op9 enc W).2 fu0 _ _ _ hf0 wt0
  obtain ⟨y0, rfl, rfl, rfl, w0⟩ := open_string Tryd.underlying9 (hval 0 9 v0 rfl rfl) k0
  obtain rfl : x0 = y0 := (Value.string.inj (List.head_eq_of_cons_eq K0)).symm
  clear hA0 hval0 hsz0 hsz
  obtain ⟨k, h⟩ := V.ValueParses x0 g0
  refine (alumlaw19_ValueParsesT.calls (htab := tabW_of (by kernel_rfl) (by kernel_rfl) (by kernel_rfl) hL) k x0 true W h).mono fun e W' ⟨he, bel⟩ => ?_
  subst he
  exact ⟨_, rfl, _, _, _, [], _, [], hW', trodAll_mk1 (shut_bool Tryd.underlying4 _), (trodAll_cons_mk (shut_string Tryd.underlying9 w0) trodAll_mk0), rfl, bel.frame _, fun h => by cases h⟩
theorem over : Rows.valueParsesRow.holds Tryd.pinned (OpenSpec.ofChange Rows.valueParsesSpec) :=
  OpenClaim.holds_of_wide 9 Tryd.f9 rfl rfl rfl rfl rfl rfl rfl ⟨rfl, rfl, rfl, rfl, rfl⟩ rfl rfl rfl rfl rfl (by kernel_rfl) Tryd.func9 (by kernel_rfl)
    (of_decide_eq_true (by kernel_rfl)) (by unfold Func.isWrapper; first | (rw [if_pos (by decide +kernel)]; kernel_rfl) | (rw [if_neg (by decide +kernel)]; exact ⟨rfl, rfl⟩))
    (fun os started H enc _ => lifted os started H enc)
theorem proved : Rows.ValueParsesSaid := over
theorem card : Rows.ValueParsesCardSaid :=
  Claim7.holds_tied_plain_at .later [] [.data, .data, .data, .data, .sentinel, .sentinel, .pinned, .pinned] true (true, "eaa6d28c6d451e0ea154fbe0a4847d0661ee0ec78c71484efcf210b047928753") true
    proved (fun _ h => by cases h) (by kernel_rfl) (fun _ h => by cases h) valueParses_row_tie rfl ⟨rfl, rfl⟩ (by kernel_rfl) rfl
    (fun f fn hf hfn => by
      obtain rfl : f = 9 := Option.some.inj ((show Tryd.prog.funcNamed "alum/alumlaw19.ValueParses" = some 9 by kernel_rfl).symm.trans hf) |>.symm
      obtain rfl : fn = Tryd.f9 := (Option.some.inj (Tryd.func9.symm.trans hfn)).symm
      exact ⟨by kernel_rfl, fun j t ht => by
        rw [Tryd.params9] at ht
        have hm : t ∈ [9] := by simpa using Array.mem_of_getElem? ht
        have hall : ([9].all fun u => !Tryd.prog.wantsStandIn u) = true := by kernel_rfl
        exact (show Tryd.prog.wantsStandIn t = false by simpa using List.all_eq_true.1 hall t hm)⟩)
    (by kernel_rfl)
#print axioms card
end Go.Proofs.YtmhnfdgegejlkaaDoor.valueParses
end
