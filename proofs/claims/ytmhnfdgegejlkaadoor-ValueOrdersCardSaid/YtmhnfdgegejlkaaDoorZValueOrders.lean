/- The law ValueOrders holds: at any three values the law alumlaw19.ValueOrders answers true, wherever the tied tables are laid -/
import Derived.Test.YtmhnfdgegejlkaaDoorBValueOrders0
import Derived.Test.YtmhnfdgegejlkaaDoorBValueOrders2
import Derived.Test.YtmhnfdgegejlkaaDoorWWordsq
import Derived.WalkKit
import Derived.ProofKit
import Derived.SizedLaws
import Derived.DataReads
import Derived.OpenShut
import Derived.ShutString
import Derived.ChangeOld
import Derived.Below
import Derived.LaidMore
import Derived.Stop.Joined
import Derived.Lib.Bytealg
import Derived.Test.YtmhnfdgegejlkaaDoorBValueOrders1
import Derived.KernelRfl
import Derived.Test.YtmhnfdgegejlkaaDoorRows
import Derived.Test.YtmhnfdgegejlkaaDoorCards
import Derived.Test.YtmhnfdgegejlkaaDoorTie
import Derived.SevenTiedAt
section
namespace Go.Proofs.YtmhnfdgegejlkaaDoor.P
open Go.RowKit Go.Proofs.YtmhnfdgegejlkaaDoorW.PrintWords Go.Proofs.YtmhnfdgegejlkaaDoorW.PrintLast Go.Proofs.YtmhnfdgegejlkaaDoorW.PrintMore
attribute [local go_sem] max2_int min2_int max_two min_two max_three min_three max_four min_four
set_option linter.unusedVariables false
set_option linter.unusedSimpArgs false
attribute [local go_sem high] eqA23
mutual
def alumlaw19_ValueOrders.j0 : Nat → Bool → Int → Int → ByteArray → Int → Int → ByteArray → Int → Int → ByteArray → Option (Bool)
  | 0, _, _, _, _, _, _, _, _, _, _ => none
  | k + 1, x22, x649000, x649001, x649002, x650000, x650001, x650002, x651000, x651001, x651002 => if x22 = true then ((alumlaw19_sanity.f k).bind fun t654 => (some t654)) else ((value_Compare.f k x649000 x649001 x649002 x650000 x650001 x650002).bind fun t655 => ((value_Compare.f k x650000 x650001 x650002 x651000 x651001 x651002).bind fun t656 => ((value_Compare.f k x649000 x649001 x649002 x651000 x651001 x651002).bind fun t657 => ((value_Compare.f k x650000 x650001 x650002 x649000 x649001 x649002).bind fun t658 => (if t655 = (wrap64 (-t658)) then (if t655 < (-1) then (none) else (if t655 > 1 then (none) else (alumlaw19_ValueOrders.j1 k t655 t656 t657 ((t655 == 0) != (x649000 == x650000 && (x649001 == x650001 && (x649002.toList == x650002.toList)))) x649000 x649001 x649002 x650000 x650001 x650002 x651000 x651001 x651002))) else (none))))))
def alumlaw19_ValueOrders.j1 : Nat → Int → Int → Int → Bool → Int → Int → ByteArray → Int → Int → ByteArray → Int → Int → ByteArray → Option (Bool)
  | 0, _, _, _, _, _, _, _, _, _, _, _, _, _ => none
  | k + 1, x7, x8, x9, x54, x649000, x649001, x649002, x650000, x650001, x650002, x651000, x651001, x651002 => if x54 = true then (none) else ((alumlaw19_sanity.f k).bind fun t659 => (if t659 = true then (if x7 > 0 then ((value_CompareRows.f k (([(⟨x649000, x649001, x649002⟩ : S23), (⟨x650000, x650001, x650002⟩ : S23)] : List (S23))) (([(⟨x649000, x649001, x649002⟩ : S23), (⟨x651000, x651001, x651002⟩ : S23)] : List (S23)))).bind fun t666 => (if t666 = x8 then ((value_CompareRows.f k (([(⟨x649000, x649001, x649002⟩ : S23)] : List (S23))) (([(⟨x649000, x649001, x649002⟩ : S23), (⟨x650000, x650001, x650002⟩ : S23)] : List (S23)))).bind fun t673 => (some (t673 == (-1)))) else (none))) else (if x8 > 0 then ((value_CompareRows.f k (([(⟨x649000, x649001, x649002⟩ : S23), (⟨x650000, x650001, x650002⟩ : S23)] : List (S23))) (([(⟨x649000, x649001, x649002⟩ : S23), (⟨x651000, x651001, x651002⟩ : S23)] : List (S23)))).bind fun t680 => (if t680 = x8 then ((value_CompareRows.f k (([(⟨x649000, x649001, x649002⟩ : S23)] : List (S23))) (([(⟨x649000, x649001, x649002⟩ : S23), (⟨x650000, x650001, x650002⟩ : S23)] : List (S23)))).bind fun t687 => (some (t687 == (-1)))) else (none))) else (if x9 ≤ 0 then (if x7 = 0 then (if x8 = 0 then ((value_CompareRows.f k (([(⟨x649000, x649001, x649002⟩ : S23), (⟨x650000, x650001, x650002⟩ : S23)] : List (S23))) (([(⟨x649000, x649001, x649002⟩ : S23), (⟨x651000, x651001, x651002⟩ : S23)] : List (S23)))).bind fun t694 => (if t694 = x8 then ((value_CompareRows.f k (([(⟨x649000, x649001, x649002⟩ : S23)] : List (S23))) (([(⟨x649000, x649001, x649002⟩ : S23), (⟨x650000, x650001, x650002⟩ : S23)] : List (S23)))).bind fun t701 => (some (t701 == (-1)))) else (none))) else (if x9 < 0 then ((value_CompareRows.f k (([(⟨x649000, x649001, x649002⟩ : S23), (⟨x650000, x650001, x650002⟩ : S23)] : List (S23))) (([(⟨x649000, x649001, x649002⟩ : S23), (⟨x651000, x651001, x651002⟩ : S23)] : List (S23)))).bind fun t708 => (if t708 = x8 then ((value_CompareRows.f k (([(⟨x649000, x649001, x649002⟩ : S23)] : List (S23))) (([(⟨x649000, x649001, x649002⟩ : S23), (⟨x650000, x650001, x650002⟩ : S23)] : List (S23)))).bind fun t715 => (some (t715 == (-1)))) else (none))) else (none))) else (if x9 < 0 then ((value_CompareRows.f k (([(⟨x649000, x649001, x649002⟩ : S23), (⟨x650000, x650001, x650002⟩ : S23)] : List (S23))) (([(⟨x649000, x649001, x649002⟩ : S23), (⟨x651000, x651001, x651002⟩ : S23)] : List (S23)))).bind fun t722 => (if t722 = x8 then ((value_CompareRows.f k (([(⟨x649000, x649001, x649002⟩ : S23)] : List (S23))) (([(⟨x649000, x649001, x649002⟩ : S23), (⟨x650000, x650001, x650002⟩ : S23)] : List (S23)))).bind fun t729 => (some (t729 == (-1)))) else (none))) else (none))) else (none)))) else (none)))
end
def alumlaw19_ValueOrders.f (k : Nat) (a0_0 : Int) (a0_1 : Int) (a0_2 : ByteArray) (a1_0 : Int) (a1_1 : Int) (a1_2 : ByteArray) (a2_0 : Int) (a2_1 : Int) (a2_2 : ByteArray) : Option (Bool) := (alumref19_Right.f a0_0 a0_1 a0_2).bind fun t651 => (if t651 = true then ((alumref19_Right.f a1_0 a1_1 a1_2).bind fun t652 => (if t652 = true then ((alumref19_Right.f a2_0 a2_1 a2_2).bind fun t653 => (alumlaw19_ValueOrders.j0 k (!t653) a0_0 a0_1 a0_2 a1_0 a1_1 a1_2 a2_0 a2_1 a2_2)) else (alumlaw19_ValueOrders.j0 k true a0_0 a0_1 a0_2 a1_0 a1_1 a1_2 a2_0 a2_1 a2_2))) else (alumlaw19_ValueOrders.j0 k true a0_0 a0_1 a0_2 a1_0 a1_1 a1_2 a2_0 a2_1 a2_2))
def alumlaw19_ValueOrders.T3 : Bool × List (List Nat × List Nat) := (true, [([], []), ([], []), ([0, 1], [0, 1]), ([], []), ([], []), ([3, 4, 2], [3, 4]), ([], []), ([], []), ([6, 7, 5], [6, 7]), ([2, 8, 0, 1, 2], [2]), ([5, 9, 0, 1, 2, 3, 4, 5, 9], [5]), ([8, 10, 0, 1, 2, 3, 4, 5, 6, 7, 8, 9, 10], [8])])
def alumlaw19_ValueOrders.B3 : List Nat := [0, 0, 3, 0, 0, 31, 0, 0, 255, 511, 1023, 2047]
theorem alumlaw19_ValueOrders.tab3 : rtab .any (opsOf Tryd.f6 3) = alumlaw19_ValueOrders.T3 := by kernel_rfl
theorem alumlaw19_ValueOrders.bits3 : waitsOk alumlaw19_ValueOrders.T3.2 alumlaw19_ValueOrders.B3 = true := by kernel_rfl
set_option maxHeartbeats 8000000 in
set_option maxRecDepth 100000 in
theorem alumlaw19_ValueOrders.calls (k : Nat) (a0_0 : Int) (a0_1 : Int) (a0_2 : ByteArray) (a1_0 : Int) (a1_1 : Int) (a1_2 : ByteArray) (a2_0 : Int) (a2_1 : Int) (a2_2 : ByteArray) (r : Bool) (w : World) (h : alumlaw19_ValueOrders.f k a0_0 a0_1 a0_2 a1_0 a1_1 a1_2 a2_0 a2_1 a2_2 = some r) :
    Calls Tryd.prog 6 #[.agg #[.int .i64 a0_0, .int .i64 a0_1, .string a0_2], .agg #[.int .i64 a1_0, .int .i64 a1_1, .string a1_2], .agg #[.int .i64 a2_0, .int .i64 a2_1, .string a2_2]] w fun e w' => e = .returned (.bool r) ∧ Below w.heap.size w w' := by
  have hu23 := Tryd.underlying23
  have HB := Aside0.mk (Below.refl w.heap.size w)
  have H : ((alumref19_Right.f a0_0 a0_1 a0_2).bind fun t651 => (if t651 = true then ((alumref19_Right.f a1_0 a1_1 a1_2).bind fun t652 => (if t652 = true then ((alumref19_Right.f a2_0 a2_1 a2_2).bind fun t653 => (alumlaw19_ValueOrders.j0 k (!t653) a0_0 a0_1 a0_2 a1_0 a1_1 a1_2 a2_0 a2_1 a2_2)) else (alumlaw19_ValueOrders.j0 k true a0_0 a0_1 a0_2 a1_0 a1_1 a1_2 a2_0 a2_1 a2_2))) else (alumlaw19_ValueOrders.j0 k true a0_0 a0_1 a0_2 a1_0 a1_1 a1_2 a2_0 a2_1 a2_2))) = some r := h
  clear h
  have HC4 := Aside0.mk H
  clear H
  go_enter Tryd.func6, Tryd.ntmps6
  go_upto_region 1 with (first | ((with_reducible refine gate_dst (N := 3) rfl ?_); (try (refine gate_guard (by rfl) ?_; dsimp only)); refine box_event ?hg (N := 3) ?hd (cs := #[.int .i64 a0_0, .int .i64 a0_1, .string a0_2]) (t := 23) ?hr ?_; (case hd => rfl); (case hg => rfl); (case hr => first | (go_simp; done) | (go_simp; rfl)); intro gb648 hg w5 hbox hb; have n0_ := Aside0.mk (below_step (by repeat (first | (with_reducible first | exact HB.out | apply below_alloc | apply pw_below_drewN | apply below_drew1) | exact HB.out)) hb); have n1_ := Aside0.mk (hbox); have n2_ := Aside0.mk ((by rw [hg]; exact (below_size (by repeat (first | (with_reducible first | exact HB.out | apply below_alloc | apply pw_below_drewN | apply below_drew1) | exact HB.out))) : w.heap.size ≤ gb648)); have n3_ := Aside0.mk ((by rw [hg]; exact (below_size (by repeat (first | (with_reducible first | exact HB.out | apply below_alloc | apply pw_below_drewN | apply below_drew1) | exact HB.out))) : w.heap.size ≤ gb648)); clear HB; have HB := n0_; have BK648 := n1_; have GW648 := n2_; have GE648 := n3_; clear n0_ n1_ n2_ n3_; clear hb hbox hg) | ((with_reducible refine gate_dst (N := 4) rfl ?_); (try (refine gate_guard (by rfl) ?_; dsimp only)); refine box_event ?hg (N := 4) ?hd (cs := #[.int .i64 a1_0, .int .i64 a1_1, .string a1_2]) (t := 23) ?hr ?_; (case hd => rfl); (case hg => rfl); (case hr => first | (go_simp; done) | (go_simp; rfl)); intro gb649 hg w6 hbox hb; have n0_ := Aside0.mk (blk_below (g := gb648) (o := .cells #[.int .i64 a0_0, .int .i64 a0_1, .string a0_2] 23 (0, 0)) (by (with_reducible repeat (first | refine blk_drewN ?_ _ | refine blk_drew ?_ | refine blk_alloc ?_ _)); exact BK648.out) hb); have n1_ := Aside0.mk (below_step (by repeat (first | (with_reducible first | exact HB.out | apply below_alloc | apply pw_below_drewN | apply below_drew1 | refine below_set ?_ GE648.out) | exact HB.out)) hb); have n2_ := Aside0.mk (hbox); have n3_ := Aside0.mk ((by rw [hg]; exact (below_size (by repeat (first | (with_reducible first | exact HB.out | apply below_alloc | apply pw_below_drewN | apply below_drew1 | refine below_set ?_ GE648.out) | exact HB.out))) : w.heap.size ≤ gb649)); have n4_ := Aside0.mk ((by rw [hg]; exact (below_size (by repeat (first | (with_reducible first | exact HB.out | apply below_alloc | apply pw_below_drewN | apply below_drew1 | refine below_set ?_ GE648.out) | exact HB.out))) : w.heap.size ≤ gb649)); have n5_ := Aside0.mk ((by rw [hg]; exact Nat.ne_of_lt (blk_lt (g := gb648) (o := .cells #[.int .i64 a0_0, .int .i64 a0_1, .string a0_2] 23 (0, 0)) (by (with_reducible repeat (first | refine blk_drewN ?_ _ | refine blk_drew ?_ | refine blk_alloc ?_ _)); exact BK648.out)) : gb648 ≠ gb649)); have n6_ := Aside0.mk ((by rw [hg]; exact Nat.ne_of_gt (blk_lt (g := gb648) (o := .cells #[.int .i64 a0_0, .int .i64 a0_1, .string a0_2] 23 (0, 0)) (by (with_reducible repeat (first | refine blk_drewN ?_ _ | refine blk_drew ?_ | refine blk_alloc ?_ _)); exact BK648.out)) : gb649 ≠ gb648)); clear BK648; clear HB; have BK648 := n0_; have HB := n1_; have BK649 := n2_; have GW649 := n3_; have GE649 := n4_; have NB648_649 := n5_; have NB649_648 := n6_; clear n0_ n1_ n2_ n3_ n4_ n5_ n6_; clear hb hbox hg) | ((with_reducible refine gate_dst (N := 5) rfl ?_); (try (refine gate_guard (by rfl) ?_; dsimp only)); refine box_event ?hg (N := 5) ?hd (cs := #[.int .i64 a2_0, .int .i64 a2_1, .string a2_2]) (t := 23) ?hr ?_; (case hd => rfl); (case hg => rfl); (case hr => first | (go_simp; done) | (go_simp; rfl)); intro gb650 hg w7 hbox hb; have n0_ := Aside0.mk (blk_below (g := gb648) (o := .cells #[.int .i64 a0_0, .int .i64 a0_1, .string a0_2] 23 (0, 0)) (by (with_reducible repeat (first | refine blk_drewN ?_ _ | refine blk_drew ?_ | refine blk_alloc ?_ _)); exact BK648.out) hb); have n1_ := Aside0.mk (blk_below (g := gb649) (o := .cells #[.int .i64 a1_0, .int .i64 a1_1, .string a1_2] 23 (0, 0)) (by (with_reducible repeat (first | refine blk_drewN ?_ _ | refine blk_drew ?_ | refine blk_alloc ?_ _)); exact BK649.out) hb); have n2_ := Aside0.mk (below_step (by repeat (first | (with_reducible first | exact HB.out | apply below_alloc | apply pw_below_drewN | apply below_drew1 | refine below_set ?_ GE648.out | refine below_set ?_ GE649.out) | exact HB.out)) hb); have n3_ := Aside0.mk (hbox); have n4_ := Aside0.mk ((by rw [hg]; exact (below_size (by repeat (first | (with_reducible first | exact HB.out | apply below_alloc | apply pw_below_drewN | apply below_drew1 | refine below_set ?_ GE648.out | refine below_set ?_ GE649.out) | exact HB.out))) : w.heap.size ≤ gb650)); have n5_ := Aside0.mk ((by rw [hg]; exact (below_size (by repeat (first | (with_reducible first | exact HB.out | apply below_alloc | apply pw_below_drewN | apply below_drew1 | refine below_set ?_ GE648.out | refine below_set ?_ GE649.out) | exact HB.out))) : w.heap.size ≤ gb650)); have n6_ := Aside0.mk ((by rw [hg]; exact Nat.ne_of_lt (blk_lt (g := gb648) (o := .cells #[.int .i64 a0_0, .int .i64 a0_1, .string a0_2] 23 (0, 0)) (by (with_reducible repeat (first | refine blk_drewN ?_ _ | refine blk_drew ?_ | refine blk_alloc ?_ _)); exact BK648.out)) : gb648 ≠ gb650)); have n7_ := Aside0.mk ((by rw [hg]; exact Nat.ne_of_gt (blk_lt (g := gb648) (o := .cells #[.int .i64 a0_0, .int .i64 a0_1, .string a0_2] 23 (0, 0)) (by (with_reducible repeat (first | refine blk_drewN ?_ _ | refine blk_drew ?_ | refine blk_alloc ?_ _)); exact BK648.out)) : gb650 ≠ gb648)); have n8_ := Aside0.mk ((by rw [hg]; exact Nat.ne_of_lt (blk_lt (g := gb649) (o := .cells #[.int .i64 a1_0, .int .i64 a1_1, .string a1_2] 23 (0, 0)) (by (with_reducible repeat (first | refine blk_drewN ?_ _ | refine blk_drew ?_ | refine blk_alloc ?_ _)); exact BK649.out)) : gb649 ≠ gb650)); have n9_ := Aside0.mk ((by rw [hg]; exact Nat.ne_of_gt (blk_lt (g := gb649) (o := .cells #[.int .i64 a1_0, .int .i64 a1_1, .string a1_2] 23 (0, 0)) (by (with_reducible repeat (first | refine blk_drewN ?_ _ | refine blk_drew ?_ | refine blk_alloc ?_ _)); exact BK649.out)) : gb650 ≠ gb649)); clear BK648; clear BK649; clear HB; have BK648 := n0_; have BK649 := n1_; have HB := n2_; have BK650 := n3_; have GW650 := n4_; have GE650 := n5_; have NB648_650 := n6_; have NB650_648 := n7_; have NB649_650 := n8_; have NB650_649 := n9_; clear n0_ n1_ n2_ n3_ n4_ n5_ n6_ n7_ n8_ n9_; clear hb hbox hg))
  (try simp only [Act.put, List.setIfInBounds_toArray, List.set_cons_zero, List.set_cons_succ])
  go_cut [22] (fun v22 wc => ∃ (kq : Nat) (x22_3 : Bool), v22 = .bool x22_3 ∧ Aside0 (alumlaw19_ValueOrders.j0 kq x22_3 a0_0 a0_1 a0_2 a1_0 a1_1 a1_2 a2_0 a2_1 a2_2 = some r) ∧ Aside0 (kq ≤ k) ∧ Aside0 (wc.heap[gb648]? = some (.cells #[.int .i64 a0_0, .int .i64 a0_1, .string a0_2] 23 (0, 0))) ∧ Aside0 (wc.heap[gb649]? = some (.cells #[.int .i64 a1_0, .int .i64 a1_1, .string a1_2] 23 (0, 0))) ∧ Aside0 (wc.heap[gb650]? = some (.cells #[.int .i64 a2_0, .int .i64 a2_1, .string a2_2] 23 (0, 0))) ∧ Aside0 (Below w.heap.size w wc))
  case first =>
    have H := HC4.out
    clear HC4
    replace H := Option.bind_eq_some_iff.mp H
    obtain ⟨t651, A80, H⟩ := H
    replace H : (if t651 = true then ((alumref19_Right.f a1_0 a1_1 a1_2).bind fun t652 => (if t652 = true then ((alumref19_Right.f a2_0 a2_1 a2_2).bind fun t653 => (alumlaw19_ValueOrders.j0 k (!t653) a0_0 a0_1 a0_2 a1_0 a1_1 a1_2 a2_0 a2_1 a2_2)) else (alumlaw19_ValueOrders.j0 k true a0_0 a0_1 a0_2 a1_0 a1_1 a1_2 a2_0 a2_1 a2_2))) else (alumlaw19_ValueOrders.j0 k true a0_0 a0_1 a0_2 a1_0 a1_1 a1_2 a2_0 a2_1 a2_2)) = some r := H
    have A8 := Aside0.mk A80
    clear A80
    by_cases c9 : t651 = true
    · subst c9
      have H1 : ((alumref19_Right.f a1_0 a1_1 a1_2).bind fun t652 => (if t652 = true then ((alumref19_Right.f a2_0 a2_1 a2_2).bind fun t653 => (alumlaw19_ValueOrders.j0 k (!t653) a0_0 a0_1 a0_2 a1_0 a1_1 a1_2 a2_0 a2_1 a2_2)) else (alumlaw19_ValueOrders.j0 k true a0_0 a0_1 a0_2 a1_0 a1_1 a1_2 a2_0 a2_1 a2_2))) = some r := by rw [if_pos rfl] at H; exact H
      clear H
      have H := H1
      clear H1
      replace H := Option.bind_eq_some_iff.mp H
      obtain ⟨t652, A100, H⟩ := H
      replace H : (if t652 = true then ((alumref19_Right.f a2_0 a2_1 a2_2).bind fun t653 => (alumlaw19_ValueOrders.j0 k (!t653) a0_0 a0_1 a0_2 a1_0 a1_1 a1_2 a2_0 a2_1 a2_2)) else (alumlaw19_ValueOrders.j0 k true a0_0 a0_1 a0_2 a1_0 a1_1 a1_2 a2_0 a2_1 a2_2)) = some r := H
      have A10 := Aside0.mk A100
      clear A100
      by_cases c11 : t652 = true
      · subst c11
        have H1 : ((alumref19_Right.f a2_0 a2_1 a2_2).bind fun t653 => (alumlaw19_ValueOrders.j0 k (!t653) a0_0 a0_1 a0_2 a1_0 a1_1 a1_2 a2_0 a2_1 a2_2)) = some r := by rw [if_pos rfl] at H; exact H
        clear H
        have H := H1
        clear H1
        replace H := Option.bind_eq_some_iff.mp H
        obtain ⟨t653, A120, H⟩ := H
        replace H : (alumlaw19_ValueOrders.j0 k (!t653) a0_0 a0_1 a0_2 a1_0 a1_1 a1_2 a2_0 a2_1 a2_2) = some r := H
        have A12 := Aside0.mk A120
        clear A120
        have H' := Aside0.mk H
        clear H
        have hnb13 := NB648_649.out
        have hnc13 := NB649_648.out
        have hnb14 := NB648_650.out
        have hnc14 := NB650_648.out
        have hcz15_0 : w7.cell? ⟨gb648, 0, none⟩ = some (.int .i64 a0_0) := (blk_cell BK648.out 0).trans rfl
        have hcz15_1 : w7.cell? ⟨gb648, 1, none⟩ = some (.int .i64 a0_1) := (blk_cell BK648.out 1).trans rfl
        have hcz15_2 : w7.cell? ⟨gb648, 2, none⟩ = some (.string a0_2) := (blk_cell BK648.out 2).trans rfl
        have hfz15_0 := blk_frozen BK648.out 0
        have hfz15_1 := blk_frozen BK648.out 1
        have hfz15_2 := blk_frozen BK648.out 2
        go_wp2_with (first | ((with_reducible refine gate_callee (f := 11) rfl ?_); refine goesL_ (some 11) rfl rfl Tryd.func11 (by kernel_rfl) rfl #[.agg #[.int .i64 a0_0, .int .i64 a0_1, .string a0_2]] rfl (by (try simp only [List.map_toArray, List.map_cons, List.map_nil]); first | done | rfl | (simp only [List.length_drop, List.length_take]; rfl)) ?_; (with_reducible refine (alumref19_Right.calls a0_0 a0_1 a0_2 true _ A8.out).mono ?_); rintro e w16 ⟨rfl, hb⟩; refine ⟨_, rfl, ?_⟩; have n0_ := Aside0.mk (blk_below (g := gb648) (o := .cells #[.int .i64 a0_0, .int .i64 a0_1, .string a0_2] 23 (0, 0)) (by (with_reducible repeat (first | refine blk_drewN ?_ _ | refine blk_drew ?_ | refine blk_alloc ?_ _)); exact BK648.out) hb); have n1_ := Aside0.mk (blk_below (g := gb649) (o := .cells #[.int .i64 a1_0, .int .i64 a1_1, .string a1_2] 23 (0, 0)) (by (with_reducible repeat (first | refine blk_drewN ?_ _ | refine blk_drew ?_ | refine blk_alloc ?_ _)); exact BK649.out) hb); have n2_ := Aside0.mk (blk_below (g := gb650) (o := .cells #[.int .i64 a2_0, .int .i64 a2_1, .string a2_2] 23 (0, 0)) (by (with_reducible repeat (first | refine blk_drewN ?_ _ | refine blk_drew ?_ | refine blk_alloc ?_ _)); exact BK650.out) hb); have n3_ := Aside0.mk (below_step (by repeat (first | (with_reducible first | exact HB.out | apply below_alloc | apply pw_below_drewN | apply below_drew1 | refine below_set ?_ GE648.out | refine below_set ?_ GE649.out | refine below_set ?_ GE650.out) | exact HB.out)) hb); clear BK648; clear BK649; clear BK650; clear HB; have BK648 := n0_; have BK649 := n1_; have BK650 := n2_; have HB := n3_; clear n0_ n1_ n2_ n3_; (try clear hb); (try clear hb2); (try clear hk); (try clear hi); have hnb17 := NB649_650.out; have hnc17 := NB650_649.out; have hcz18_0 : w16.cell? ⟨gb649, 0, none⟩ = some (.int .i64 a1_0) := (blk_cell BK649.out 0).trans rfl; have hcz18_1 : w16.cell? ⟨gb649, 1, none⟩ = some (.int .i64 a1_1) := (blk_cell BK649.out 1).trans rfl; have hcz18_2 : w16.cell? ⟨gb649, 2, none⟩ = some (.string a1_2) := (blk_cell BK649.out 2).trans rfl; have hfz18_0 := blk_frozen BK649.out 0; have hfz18_1 := blk_frozen BK649.out 1; have hfz18_2 := blk_frozen BK649.out 2) | (go_at_call 11; (with_reducible refine (alumref19_Right.calls a1_0 a1_1 a1_2 true _ A10.out).mono ?_); rintro e w19 ⟨rfl, hb⟩; have n0_ := Aside0.mk (blk_below (g := gb648) (o := .cells #[.int .i64 a0_0, .int .i64 a0_1, .string a0_2] 23 (0, 0)) (by (with_reducible repeat (first | refine blk_drewN ?_ _ | refine blk_drew ?_ | refine blk_alloc ?_ _)); exact BK648.out) hb); have n1_ := Aside0.mk (blk_below (g := gb649) (o := .cells #[.int .i64 a1_0, .int .i64 a1_1, .string a1_2] 23 (0, 0)) (by (with_reducible repeat (first | refine blk_drewN ?_ _ | refine blk_drew ?_ | refine blk_alloc ?_ _)); exact BK649.out) hb); have n2_ := Aside0.mk (blk_below (g := gb650) (o := .cells #[.int .i64 a2_0, .int .i64 a2_1, .string a2_2] 23 (0, 0)) (by (with_reducible repeat (first | refine blk_drewN ?_ _ | refine blk_drew ?_ | refine blk_alloc ?_ _)); exact BK650.out) hb); have n3_ := Aside0.mk (below_step (by repeat (first | (with_reducible first | exact HB.out | apply below_alloc | apply pw_below_drewN | apply below_drew1 | refine below_set ?_ GE648.out | refine below_set ?_ GE649.out | refine below_set ?_ GE650.out) | exact HB.out)) hb); clear BK648; clear BK649; clear BK650; clear HB; have BK648 := n0_; have BK649 := n1_; have BK650 := n2_; have HB := n3_; clear n0_ n1_ n2_ n3_; (try clear hb); (try clear hb2); (try clear hk); (try clear hi); have hcz20_0 : w19.cell? ⟨gb650, 0, none⟩ = some (.int .i64 a2_0) := (blk_cell BK650.out 0).trans rfl; have hcz20_1 : w19.cell? ⟨gb650, 1, none⟩ = some (.int .i64 a2_1) := (blk_cell BK650.out 1).trans rfl; have hcz20_2 : w19.cell? ⟨gb650, 2, none⟩ = some (.string a2_2) := (blk_cell BK650.out 2).trans rfl; have hfz20_0 := blk_frozen BK650.out 0; have hfz20_1 := blk_frozen BK650.out 1; have hfz20_2 := blk_frozen BK650.out 2) | (go_at_call 11; (with_reducible refine (alumref19_Right.calls a2_0 a2_1 a2_2 t653 _ A12.out).mono ?_); rintro e w21 ⟨rfl, hb⟩; have n0_ := Aside0.mk (blk_below (g := gb648) (o := .cells #[.int .i64 a0_0, .int .i64 a0_1, .string a0_2] 23 (0, 0)) (by (with_reducible repeat (first | refine blk_drewN ?_ _ | refine blk_drew ?_ | refine blk_alloc ?_ _)); exact BK648.out) hb); have n1_ := Aside0.mk (blk_below (g := gb649) (o := .cells #[.int .i64 a1_0, .int .i64 a1_1, .string a1_2] 23 (0, 0)) (by (with_reducible repeat (first | refine blk_drewN ?_ _ | refine blk_drew ?_ | refine blk_alloc ?_ _)); exact BK649.out) hb); have n2_ := Aside0.mk (blk_below (g := gb650) (o := .cells #[.int .i64 a2_0, .int .i64 a2_1, .string a2_2] 23 (0, 0)) (by (with_reducible repeat (first | refine blk_drewN ?_ _ | refine blk_drew ?_ | refine blk_alloc ?_ _)); exact BK650.out) hb); have n3_ := Aside0.mk (below_step (by repeat (first | (with_reducible first | exact HB.out | apply below_alloc | apply pw_below_drewN | apply below_drew1 | refine below_set ?_ GE648.out | refine below_set ?_ GE649.out | refine below_set ?_ GE650.out) | exact HB.out)) hb); clear BK648; clear BK649; clear BK650; clear HB; have BK648 := n0_; have BK649 := n1_; have BK650 := n2_; have HB := n3_; clear n0_ n1_ n2_ n3_; (try clear hb); (try clear hb2); (try clear hk); (try clear hi)))
        go_meet
        case rel => exact ⟨_, (!t653), (by first | rfl | (simp; done) | (simp [*]; done)), H', ⟨by first | omega | exact Nat.le_refl _⟩, ⟨by (with_reducible repeat (first | refine blk_drewN ?_ _ | refine blk_drew ?_ | refine blk_alloc ?_ _)); exact BK648.out⟩, ⟨by (with_reducible repeat (first | refine blk_drewN ?_ _ | refine blk_drew ?_ | refine blk_alloc ?_ _)); exact BK649.out⟩, ⟨by (with_reducible repeat (first | refine blk_drewN ?_ _ | refine blk_drew ?_ | refine blk_alloc ?_ _)); exact BK650.out⟩, ⟨by repeat (first | (with_reducible first | exact HB.out | apply below_alloc | apply pw_below_drewN | apply below_drew1 | refine below_set ?_ GE648.out | refine below_set ?_ GE649.out | refine below_set ?_ GE650.out) | exact HB.out)⟩⟩
      · replace c11 := Bool.eq_false_iff.mpr c11
        subst c11
        have H1 : (alumlaw19_ValueOrders.j0 k true a0_0 a0_1 a0_2 a1_0 a1_1 a1_2 a2_0 a2_1 a2_2) = some r := by rw [if_neg (show ¬ (false = true) by decide)] at H; exact H
        clear H
        have H := H1
        clear H1
        have H' := Aside0.mk H
        clear H
        have hnb22 := NB648_649.out
        have hnc22 := NB649_648.out
        have hnb23 := NB648_650.out
        have hnc23 := NB650_648.out
        have hcz24_0 : w7.cell? ⟨gb648, 0, none⟩ = some (.int .i64 a0_0) := (blk_cell BK648.out 0).trans rfl
        have hcz24_1 : w7.cell? ⟨gb648, 1, none⟩ = some (.int .i64 a0_1) := (blk_cell BK648.out 1).trans rfl
        have hcz24_2 : w7.cell? ⟨gb648, 2, none⟩ = some (.string a0_2) := (blk_cell BK648.out 2).trans rfl
        have hfz24_0 := blk_frozen BK648.out 0
        have hfz24_1 := blk_frozen BK648.out 1
        have hfz24_2 := blk_frozen BK648.out 2
        go_wp2_with (first | ((with_reducible refine gate_callee (f := 11) rfl ?_); refine goesL_ (some 11) rfl rfl Tryd.func11 (by kernel_rfl) rfl #[.agg #[.int .i64 a0_0, .int .i64 a0_1, .string a0_2]] rfl (by (try simp only [List.map_toArray, List.map_cons, List.map_nil]); first | done | rfl | (simp only [List.length_drop, List.length_take]; rfl)) ?_; (with_reducible refine (alumref19_Right.calls a0_0 a0_1 a0_2 true _ A8.out).mono ?_); rintro e w25 ⟨rfl, hb⟩; refine ⟨_, rfl, ?_⟩; have n0_ := Aside0.mk (blk_below (g := gb648) (o := .cells #[.int .i64 a0_0, .int .i64 a0_1, .string a0_2] 23 (0, 0)) (by (with_reducible repeat (first | refine blk_drewN ?_ _ | refine blk_drew ?_ | refine blk_alloc ?_ _)); exact BK648.out) hb); have n1_ := Aside0.mk (blk_below (g := gb649) (o := .cells #[.int .i64 a1_0, .int .i64 a1_1, .string a1_2] 23 (0, 0)) (by (with_reducible repeat (first | refine blk_drewN ?_ _ | refine blk_drew ?_ | refine blk_alloc ?_ _)); exact BK649.out) hb); have n2_ := Aside0.mk (blk_below (g := gb650) (o := .cells #[.int .i64 a2_0, .int .i64 a2_1, .string a2_2] 23 (0, 0)) (by (with_reducible repeat (first | refine blk_drewN ?_ _ | refine blk_drew ?_ | refine blk_alloc ?_ _)); exact BK650.out) hb); have n3_ := Aside0.mk (below_step (by repeat (first | (with_reducible first | exact HB.out | apply below_alloc | apply pw_below_drewN | apply below_drew1 | refine below_set ?_ GE648.out | refine below_set ?_ GE649.out | refine below_set ?_ GE650.out) | exact HB.out)) hb); clear BK648; clear BK649; clear BK650; clear HB; have BK648 := n0_; have BK649 := n1_; have BK650 := n2_; have HB := n3_; clear n0_ n1_ n2_ n3_; (try clear hb); (try clear hb2); (try clear hk); (try clear hi); have hnb26 := NB649_650.out; have hnc26 := NB650_649.out; have hcz27_0 : w25.cell? ⟨gb649, 0, none⟩ = some (.int .i64 a1_0) := (blk_cell BK649.out 0).trans rfl; have hcz27_1 : w25.cell? ⟨gb649, 1, none⟩ = some (.int .i64 a1_1) := (blk_cell BK649.out 1).trans rfl; have hcz27_2 : w25.cell? ⟨gb649, 2, none⟩ = some (.string a1_2) := (blk_cell BK649.out 2).trans rfl; have hfz27_0 := blk_frozen BK649.out 0; have hfz27_1 := blk_frozen BK649.out 1; have hfz27_2 := blk_frozen BK649.out 2) | (go_at_call 11; (with_reducible refine (alumref19_Right.calls a1_0 a1_1 a1_2 false _ A10.out).mono ?_); rintro e w28 ⟨rfl, hb⟩; have n0_ := Aside0.mk (blk_below (g := gb648) (o := .cells #[.int .i64 a0_0, .int .i64 a0_1, .string a0_2] 23 (0, 0)) (by (with_reducible repeat (first | refine blk_drewN ?_ _ | refine blk_drew ?_ | refine blk_alloc ?_ _)); exact BK648.out) hb); have n1_ := Aside0.mk (blk_below (g := gb649) (o := .cells #[.int .i64 a1_0, .int .i64 a1_1, .string a1_2] 23 (0, 0)) (by (with_reducible repeat (first | refine blk_drewN ?_ _ | refine blk_drew ?_ | refine blk_alloc ?_ _)); exact BK649.out) hb); have n2_ := Aside0.mk (blk_below (g := gb650) (o := .cells #[.int .i64 a2_0, .int .i64 a2_1, .string a2_2] 23 (0, 0)) (by (with_reducible repeat (first | refine blk_drewN ?_ _ | refine blk_drew ?_ | refine blk_alloc ?_ _)); exact BK650.out) hb); have n3_ := Aside0.mk (below_step (by repeat (first | (with_reducible first | exact HB.out | apply below_alloc | apply pw_below_drewN | apply below_drew1 | refine below_set ?_ GE648.out | refine below_set ?_ GE649.out | refine below_set ?_ GE650.out) | exact HB.out)) hb); clear BK648; clear BK649; clear BK650; clear HB; have BK648 := n0_; have BK649 := n1_; have BK650 := n2_; have HB := n3_; clear n0_ n1_ n2_ n3_; (try clear hb); (try clear hb2); (try clear hk); (try clear hi)))
        go_meet
        case rel => exact ⟨_, (true), (by first | rfl | (simp; done) | (simp [*]; done)), H', ⟨by first | omega | exact Nat.le_refl _⟩, ⟨by (with_reducible repeat (first | refine blk_drewN ?_ _ | refine blk_drew ?_ | refine blk_alloc ?_ _)); exact BK648.out⟩, ⟨by (with_reducible repeat (first | refine blk_drewN ?_ _ | refine blk_drew ?_ | refine blk_alloc ?_ _)); exact BK649.out⟩, ⟨by (with_reducible repeat (first | refine blk_drewN ?_ _ | refine blk_drew ?_ | refine blk_alloc ?_ _)); exact BK650.out⟩, ⟨by repeat (first | (with_reducible first | exact HB.out | apply below_alloc | apply pw_below_drewN | apply below_drew1 | refine below_set ?_ GE648.out | refine below_set ?_ GE649.out | refine below_set ?_ GE650.out) | exact HB.out)⟩⟩
    · replace c9 := Bool.eq_false_iff.mpr c9
      subst c9
      have H1 : (alumlaw19_ValueOrders.j0 k true a0_0 a0_1 a0_2 a1_0 a1_1 a1_2 a2_0 a2_1 a2_2) = some r := by rw [if_neg (show ¬ (false = true) by decide)] at H; exact H
      clear H
      have H := H1
      clear H1
      have H' := Aside0.mk H
      clear H
      have hnb29 := NB648_649.out
      have hnc29 := NB649_648.out
      have hnb30 := NB648_650.out
      have hnc30 := NB650_648.out
      have hcz31_0 : w7.cell? ⟨gb648, 0, none⟩ = some (.int .i64 a0_0) := (blk_cell BK648.out 0).trans rfl
      have hcz31_1 : w7.cell? ⟨gb648, 1, none⟩ = some (.int .i64 a0_1) := (blk_cell BK648.out 1).trans rfl
      have hcz31_2 : w7.cell? ⟨gb648, 2, none⟩ = some (.string a0_2) := (blk_cell BK648.out 2).trans rfl
      have hfz31_0 := blk_frozen BK648.out 0
      have hfz31_1 := blk_frozen BK648.out 1
      have hfz31_2 := blk_frozen BK648.out 2
      go_wp2_with (first | ((with_reducible refine gate_callee (f := 11) rfl ?_); refine goesL_ (some 11) rfl rfl Tryd.func11 (by kernel_rfl) rfl #[.agg #[.int .i64 a0_0, .int .i64 a0_1, .string a0_2]] rfl (by (try simp only [List.map_toArray, List.map_cons, List.map_nil]); first | done | rfl | (simp only [List.length_drop, List.length_take]; rfl)) ?_; (with_reducible refine (alumref19_Right.calls a0_0 a0_1 a0_2 false _ A8.out).mono ?_); rintro e w32 ⟨rfl, hb⟩; refine ⟨_, rfl, ?_⟩; have n0_ := Aside0.mk (blk_below (g := gb648) (o := .cells #[.int .i64 a0_0, .int .i64 a0_1, .string a0_2] 23 (0, 0)) (by (with_reducible repeat (first | refine blk_drewN ?_ _ | refine blk_drew ?_ | refine blk_alloc ?_ _)); exact BK648.out) hb); have n1_ := Aside0.mk (blk_below (g := gb649) (o := .cells #[.int .i64 a1_0, .int .i64 a1_1, .string a1_2] 23 (0, 0)) (by (with_reducible repeat (first | refine blk_drewN ?_ _ | refine blk_drew ?_ | refine blk_alloc ?_ _)); exact BK649.out) hb); have n2_ := Aside0.mk (blk_below (g := gb650) (o := .cells #[.int .i64 a2_0, .int .i64 a2_1, .string a2_2] 23 (0, 0)) (by (with_reducible repeat (first | refine blk_drewN ?_ _ | refine blk_drew ?_ | refine blk_alloc ?_ _)); exact BK650.out) hb); have n3_ := Aside0.mk (below_step (by repeat (first | (with_reducible first | exact HB.out | apply below_alloc | apply pw_below_drewN | apply below_drew1 | refine below_set ?_ GE648.out | refine below_set ?_ GE649.out | refine below_set ?_ GE650.out) | exact HB.out)) hb); clear BK648; clear BK649; clear BK650; clear HB; have BK648 := n0_; have BK649 := n1_; have BK650 := n2_; have HB := n3_; clear n0_ n1_ n2_ n3_; (try clear hb); (try clear hb2); (try clear hk); (try clear hi)))
      go_meet
      case rel => exact ⟨_, (true), (by first | rfl | (simp; done) | (simp [*]; done)), H', ⟨by first | omega | exact Nat.le_refl _⟩, ⟨by (with_reducible repeat (first | refine blk_drewN ?_ _ | refine blk_drew ?_ | refine blk_alloc ?_ _)); exact BK648.out⟩, ⟨by (with_reducible repeat (first | refine blk_drewN ?_ _ | refine blk_drew ?_ | refine blk_alloc ?_ _)); exact BK649.out⟩, ⟨by (with_reducible repeat (first | refine blk_drewN ?_ _ | refine blk_drew ?_ | refine blk_alloc ?_ _)); exact BK650.out⟩, ⟨by repeat (first | (with_reducible first | exact HB.out | apply below_alloc | apply pw_below_drewN | apply below_drew1 | refine below_set ?_ GE648.out | refine below_set ?_ GE649.out | refine below_set ?_ GE650.out) | exact HB.out)⟩⟩
  case rest =>
    clear HC4
    try clear c1
    try clear c2
    try clear p2
    try clear c3
    try clear c6
    try clear c9
    try clear c11
    try clear c13
    try clear c14
    try clear c17
    try clear c22
    try clear c23
    try clear c26
    try clear c29
    try clear c30
    try clear hcz15_0
    try clear hcz15_1
    try clear hcz15_2
    try clear hcz18_0
    try clear hcz18_1
    try clear hcz18_2
    try clear hcz20_0
    try clear hcz20_1
    try clear hcz20_2
    try clear hcz24_0
    try clear hcz24_1
    try clear hcz24_2
    try clear hcz27_0
    try clear hcz27_1
    try clear hcz27_2
    try clear hcz31_0
    try clear hcz31_1
    try clear hcz31_2
    try clear hfz15_0
    try clear hfz15_1
    try clear hfz15_2
    try clear hfz18_0
    try clear hfz18_1
    try clear hfz18_2
    try clear hfz20_0
    try clear hfz20_1
    try clear hfz20_2
    try clear hfz24_0
    try clear hfz24_1
    try clear hfz24_2
    try clear hfz27_0
    try clear hfz27_1
    try clear hfz27_2
    try clear hfz31_0
    try clear hfz31_1
    try clear hfz31_2
    obtain ⟨kq, x22_3, rfl, HA, HJ3, BK648, BK649, BK650, HB⟩ := hcut
    cases kq with
    | zero => exact absurd HA.out (by simp [alumlaw19_ValueOrders.j0])
    | succ kj3 =>
      have H := HA.out
      clear HA
      simp only [alumlaw19_ValueOrders.j0] at H
      by_cases c33 : x22_3 = true
      · subst c33
        have H1 : ((alumlaw19_sanity.f kj3).bind fun t654 => (some t654)) = some r := by rw [if_pos rfl] at H; exact H
        clear H
        have H := H1
        clear H1
        replace H := Option.bind_eq_some_iff.mp H
        obtain ⟨t654, A340, H⟩ := H
        replace H : (some t654) = some r := H
        have A34 := Aside0.mk A340
        clear A340
        obtain rfl := Option.some.inj H
        go_wp2_with (first | ((with_reducible refine gate_callee (f := 12) rfl ?_); refine goesL_ (some 23) rfl rfl Tryd.func12 (by kernel_rfl) rfl #[] rfl (by (try simp only [List.map_toArray, List.map_cons, List.map_nil]); first | done | rfl | (simp only [List.length_drop, List.length_take]; rfl)) ?_; (with_reducible refine (alumlaw19_sanity.calls kj3  t654 _ A34.out).mono ?_); rintro e w35 ⟨rfl, hb⟩; refine ⟨_, rfl, ?_⟩; have n0_ := Aside0.mk (blk_below (g := gb648) (o := .cells #[.int .i64 a0_0, .int .i64 a0_1, .string a0_2] 23 (0, 0)) (by (with_reducible repeat (first | refine blk_drewN ?_ _ | refine blk_drew ?_ | refine blk_alloc ?_ _)); exact BK648.out) hb); have n1_ := Aside0.mk (blk_below (g := gb649) (o := .cells #[.int .i64 a1_0, .int .i64 a1_1, .string a1_2] 23 (0, 0)) (by (with_reducible repeat (first | refine blk_drewN ?_ _ | refine blk_drew ?_ | refine blk_alloc ?_ _)); exact BK649.out) hb); have n2_ := Aside0.mk (blk_below (g := gb650) (o := .cells #[.int .i64 a2_0, .int .i64 a2_1, .string a2_2] 23 (0, 0)) (by (with_reducible repeat (first | refine blk_drewN ?_ _ | refine blk_drew ?_ | refine blk_alloc ?_ _)); exact BK650.out) hb); have n3_ := Aside0.mk (below_step (by repeat (first | (with_reducible first | exact HB.out | apply below_alloc | apply pw_below_drewN | apply below_drew1 | refine below_set ?_ GE648.out | refine below_set ?_ GE649.out | refine below_set ?_ GE650.out) | exact HB.out)) hb); clear BK648; clear BK649; clear BK650; clear HB; have BK648 := n0_; have BK649 := n1_; have BK650 := n2_; have HB := n3_; clear n0_ n1_ n2_ n3_; (try clear hb); (try clear hb2); (try clear hk); (try clear hi)))
        go_ret
        exact ⟨by first | rfl | (simp [errW_none, errW_some] <;> rfl) | (simp [*, errW_none, errW_some] <;> rfl), by repeat (first | (with_reducible first | exact HB.out | apply below_alloc | apply pw_below_drewN | apply below_drew1 | refine below_set ?_ GE648.out | refine below_set ?_ GE649.out | refine below_set ?_ GE650.out) | exact HB.out)⟩
      · replace c33 := Bool.eq_false_iff.mpr c33
        subst c33
        have H1 : ((value_Compare.f kj3 a0_0 a0_1 a0_2 a1_0 a1_1 a1_2).bind fun t655 => ((value_Compare.f kj3 a1_0 a1_1 a1_2 a2_0 a2_1 a2_2).bind fun t656 => ((value_Compare.f kj3 a0_0 a0_1 a0_2 a2_0 a2_1 a2_2).bind fun t657 => ((value_Compare.f kj3 a1_0 a1_1 a1_2 a0_0 a0_1 a0_2).bind fun t658 => (if t655 = (wrap64 (-t658)) then (if t655 < (-1) then (none) else (if t655 > 1 then (none) else (alumlaw19_ValueOrders.j1 kj3 t655 t656 t657 ((t655 == 0) != (a0_0 == a1_0 && (a0_1 == a1_1 && (a0_2.toList == a1_2.toList)))) a0_0 a0_1 a0_2 a1_0 a1_1 a1_2 a2_0 a2_1 a2_2))) else (none)))))) = some r := by rw [if_neg (show ¬ (false = true) by decide)] at H; exact H
        clear H
        have H := H1
        clear H1
        replace H := Option.bind_eq_some_iff.mp H
        obtain ⟨t655, A360, H⟩ := H
        replace H : ((value_Compare.f kj3 a1_0 a1_1 a1_2 a2_0 a2_1 a2_2).bind fun t656 => ((value_Compare.f kj3 a0_0 a0_1 a0_2 a2_0 a2_1 a2_2).bind fun t657 => ((value_Compare.f kj3 a1_0 a1_1 a1_2 a0_0 a0_1 a0_2).bind fun t658 => (if t655 = (wrap64 (-t658)) then (if t655 < (-1) then (none) else (if t655 > 1 then (none) else (alumlaw19_ValueOrders.j1 kj3 t655 t656 t657 ((t655 == 0) != (a0_0 == a1_0 && (a0_1 == a1_1 && (a0_2.toList == a1_2.toList)))) a0_0 a0_1 a0_2 a1_0 a1_1 a1_2 a2_0 a2_1 a2_2))) else (none))))) = some r := H
        have A36 := Aside0.mk A360
        clear A360
        replace H := Option.bind_eq_some_iff.mp H
        obtain ⟨t656, A370, H⟩ := H
        replace H : ((value_Compare.f kj3 a0_0 a0_1 a0_2 a2_0 a2_1 a2_2).bind fun t657 => ((value_Compare.f kj3 a1_0 a1_1 a1_2 a0_0 a0_1 a0_2).bind fun t658 => (if t655 = (wrap64 (-t658)) then (if t655 < (-1) then (none) else (if t655 > 1 then (none) else (alumlaw19_ValueOrders.j1 kj3 t655 t656 t657 ((t655 == 0) != (a0_0 == a1_0 && (a0_1 == a1_1 && (a0_2.toList == a1_2.toList)))) a0_0 a0_1 a0_2 a1_0 a1_1 a1_2 a2_0 a2_1 a2_2))) else (none)))) = some r := H
        have A37 := Aside0.mk A370
        clear A370
        replace H := Option.bind_eq_some_iff.mp H
        obtain ⟨t657, A380, H⟩ := H
        replace H : ((value_Compare.f kj3 a1_0 a1_1 a1_2 a0_0 a0_1 a0_2).bind fun t658 => (if t655 = (wrap64 (-t658)) then (if t655 < (-1) then (none) else (if t655 > 1 then (none) else (alumlaw19_ValueOrders.j1 kj3 t655 t656 t657 ((t655 == 0) != (a0_0 == a1_0 && (a0_1 == a1_1 && (a0_2.toList == a1_2.toList)))) a0_0 a0_1 a0_2 a1_0 a1_1 a1_2 a2_0 a2_1 a2_2))) else (none))) = some r := H
        have A38 := Aside0.mk A380
        clear A380
        have HC39 := Aside0.mk H
        clear H
        try go_wp2
        have n0_ := Aside0.mk (blk_drew BK648.out)
        have n1_ := Aside0.mk (blk_drew BK649.out)
        have n2_ := Aside0.mk (blk_drew BK650.out)
        have n3_ := Aside0.mk (below_drew1 HB.out)
        clear BK648
        clear BK649
        clear BK650
        clear HB
        have BK648 := n0_
        have BK649 := n1_
        have BK650 := n2_
        have HB := n3_
        clear n0_ n1_ n2_ n3_
        refine start_ (n := 12) (S := fun w' => w'.cell? ⟨gb648, 0, none⟩ = some (.int .i64 a0_0) ∧ w'.cell? ⟨gb648, 1, none⟩ = some (.int .i64 a0_1) ∧ w'.cell? ⟨gb648, 2, none⟩ = some (.string a0_2) ∧ w'.cell? ⟨gb649, 0, none⟩ = some (.int .i64 a1_0) ∧ w'.cell? ⟨gb649, 1, none⟩ = some (.int .i64 a1_1) ∧ w'.cell? ⟨gb649, 2, none⟩ = some (.string a1_2) ∧ w'.cell? ⟨gb650, 0, none⟩ = some (.int .i64 a2_0) ∧ w'.cell? ⟨gb650, 1, none⟩ = some (.int .i64 a2_1) ∧ w'.cell? ⟨gb650, 2, none⟩ = some (.string a2_2)) (ds := []) #[false, false, false, false, false, false, false, false, false, false, false, false] (by kernel_rfl) rfl rfl ⟨(blk_cell BK648.out 0).trans rfl, (blk_cell BK648.out 1).trans rfl, (blk_cell BK648.out 2).trans rfl, (blk_cell BK649.out 0).trans rfl, (blk_cell BK649.out 1).trans rfl, (blk_cell BK649.out 2).trans rfl, (blk_cell BK650.out 0).trans rfl, (blk_cell BK650.out 1).trans rfl, (blk_cell BK650.out 2).trans rfl⟩ (fun hHeld => ?_); refine with_tabW alumlaw19_ValueOrders.tab3 alumlaw19_ValueOrders.bits3 (fun HT_ HW_ => ?_)
        generalize wc.drew = w40 at BK648 BK649 BK650 HB hHeld ⊢
        refine take_ (i := 0) (N := some 24) (v := ?_) (a' := ?_) #[true, false, false, false, false, false, false, false, false, false, false, false] rfl rfl (take_ofW HT_.out HW_.out (by kernel_rfl)) (fun _ _ _ h => h) (Or.inl ⟨by rfl, ?_⟩) hHeld ?_ ?_
        rotate_left
        · rintro w' ⟨s0, s1, s2, s3, s4, s5, s6, s7, s8⟩
          go_simp
          with_reducible rfl
        rotate_left
        · simp only [Act.put, List.setIfInBounds_toArray, List.set_cons_zero, List.set_cons_succ, i64_w, i32_w]
          rfl
        refine take_ (i := 1) (N := some 25) (v := ?_) (a' := ?_) #[true, true, false, false, false, false, false, false, false, false, false, false] rfl rfl (take_ofW HT_.out HW_.out (by kernel_rfl)) (fun _ _ _ h => h) (Or.inl ⟨by rfl, ?_⟩) hHeld ?_ ?_
        rotate_left
        · rintro w' ⟨s0, s1, s2, s3, s4, s5, s6, s7, s8⟩
          go_simp
          with_reducible rfl
        rotate_left
        · simp only [Act.put, List.setIfInBounds_toArray, List.set_cons_zero, List.set_cons_succ, i64_w, i32_w]
          rfl
        refine take_ (i := 3) (N := some 27) (v := ?_) (a' := ?_) #[true, true, false, true, false, false, false, false, false, false, false, false] rfl rfl (take_ofW HT_.out HW_.out (by kernel_rfl)) (fun _ _ _ h => h) (Or.inl ⟨by rfl, ?_⟩) hHeld ?_ ?_
        rotate_left
        · rintro w' ⟨s0, s1, s2, s3, s4, s5, s6, s7, s8⟩
          go_simp
          with_reducible rfl
        rotate_left
        · simp only [Act.put, List.setIfInBounds_toArray, List.set_cons_zero, List.set_cons_succ, i64_w, i32_w]
          rfl
        refine take_ (i := 4) (N := some 28) (v := ?_) (a' := ?_) #[true, true, false, true, true, false, false, false, false, false, false, false] rfl rfl (take_ofW HT_.out HW_.out (by kernel_rfl)) (fun _ _ _ h => h) (Or.inl ⟨by rfl, ?_⟩) hHeld ?_ ?_
        rotate_left
        · rintro w' ⟨s0, s1, s2, s3, s4, s5, s6, s7, s8⟩
          go_simp
          with_reducible rfl
        rotate_left
        · simp only [Act.put, List.setIfInBounds_toArray, List.set_cons_zero, List.set_cons_succ, i64_w, i32_w]
          rfl
        refine take_ (i := 6) (N := some 30) (v := ?_) (a' := ?_) #[true, true, false, true, true, false, true, false, false, false, false, false] rfl rfl (take_ofW HT_.out HW_.out (by kernel_rfl)) (fun _ _ _ h => h) (Or.inl ⟨by rfl, ?_⟩) hHeld ?_ ?_
        rotate_left
        · rintro w' ⟨s0, s1, s2, s3, s4, s5, s6, s7, s8⟩
          go_simp
          with_reducible rfl
        rotate_left
        · simp only [Act.put, List.setIfInBounds_toArray, List.set_cons_zero, List.set_cons_succ, i64_w, i32_w]
          rfl
        refine take_ (i := 7) (N := some 31) (v := ?_) (a' := ?_) #[true, true, false, true, true, false, true, true, false, false, false, false] rfl rfl (take_ofW HT_.out HW_.out (by kernel_rfl)) (fun _ _ _ h => h) (Or.inl ⟨by rfl, ?_⟩) hHeld ?_ ?_
        rotate_left
        · rintro w' ⟨s0, s1, s2, s3, s4, s5, s6, s7, s8⟩
          go_simp
          with_reducible rfl
        rotate_left
        · simp only [Act.put, List.setIfInBounds_toArray, List.set_cons_zero, List.set_cons_succ, i64_w, i32_w]
          rfl
        refine one_ (i := 2) (N := some 26) #[true, true, true, true, true, false, true, true, false, false, false, false] rfl rfl (one_of HT_.out (by kernel_rfl)) (by decide) (fun K hK => ?_)
        refine goes_ Tryd.func13 (by kernel_rfl) rfl #[.agg #[.int .i64 a0_0, .int .i64 a0_1, .string a0_2], .agg #[.int .i64 a1_0, .int .i64 a1_1, .string a1_2]] (by rfl) rfl rfl (by (try simp only [List.map_toArray, List.map_cons, List.map_nil]); first | done | rfl | (simp only [List.length_drop, List.length_take]; rfl)) ?_
        with_reducible refine (value_Compare.calls kj3 a0_0 a0_1 a0_2 a1_0 a1_1 a1_2 t655 _ A36.out).mono ?_
        rintro e w41 ⟨rfl, hb⟩
        refine ⟨_, rfl, ?_⟩
        have n0_ := Aside0.mk (blk_below (g := gb648) (o := .cells #[.int .i64 a0_0, .int .i64 a0_1, .string a0_2] 23 (0, 0)) (by (with_reducible repeat (first | refine blk_drewN ?_ _ | refine blk_drew ?_ | refine blk_alloc ?_ _)); exact BK648.out) hb)
        have n1_ := Aside0.mk (blk_below (g := gb649) (o := .cells #[.int .i64 a1_0, .int .i64 a1_1, .string a1_2] 23 (0, 0)) (by (with_reducible repeat (first | refine blk_drewN ?_ _ | refine blk_drew ?_ | refine blk_alloc ?_ _)); exact BK649.out) hb)
        have n2_ := Aside0.mk (blk_below (g := gb650) (o := .cells #[.int .i64 a2_0, .int .i64 a2_1, .string a2_2] 23 (0, 0)) (by (with_reducible repeat (first | refine blk_drewN ?_ _ | refine blk_drew ?_ | refine blk_alloc ?_ _)); exact BK650.out) hb)
        have n3_ := Aside0.mk (below_step (by repeat (first | (with_reducible first | exact HB.out | apply below_alloc | apply pw_below_drewN | apply below_drew1 | refine below_set ?_ GE648.out | refine below_set ?_ GE649.out | refine below_set ?_ GE650.out) | exact HB.out)) hb)
        clear BK648
        clear BK649
        clear BK650
        clear HB
        have BK648 := n0_
        have BK649 := n1_
        have BK650 := n2_
        have HB := n3_
        clear n0_ n1_ n2_ n3_
        (try clear hb)
        (try clear hb2)
        (try clear hk)
        (try clear hi)
        refine hK.out _ _ ⟨(blk_cell BK648.out 0).trans rfl, (blk_cell BK648.out 1).trans rfl, (blk_cell BK648.out 2).trans rfl, (blk_cell BK649.out 0).trans rfl, (blk_cell BK649.out 1).trans rfl, (blk_cell BK649.out 2).trans rfl, (blk_cell BK650.out 0).trans rfl, (blk_cell BK650.out 1).trans rfl, (blk_cell BK650.out 2).trans rfl⟩ (fun hHeld => ?_)
        clear hK K
        refine norm_ (a' := ?_) ?_ ?_
        rotate_left
        · show Act.put _ (some 26) _ = _
          simp only [Act.put, List.setIfInBounds_toArray, List.set_cons_zero, List.set_cons_succ, i64_w, i32_w]
          rfl
        refine one_ (i := 5) (N := some 29) #[true, true, true, true, true, true, true, true, false, false, false, false] rfl rfl (one_of HT_.out (by kernel_rfl)) (by decide) (fun K hK => ?_)
        refine goes_ Tryd.func13 (by kernel_rfl) rfl #[.agg #[.int .i64 a1_0, .int .i64 a1_1, .string a1_2], .agg #[.int .i64 a2_0, .int .i64 a2_1, .string a2_2]] (by rfl) rfl rfl (by (try simp only [List.map_toArray, List.map_cons, List.map_nil]); first | done | rfl | (simp only [List.length_drop, List.length_take]; rfl)) ?_
        with_reducible refine (value_Compare.calls kj3 a1_0 a1_1 a1_2 a2_0 a2_1 a2_2 t656 _ A37.out).mono ?_
        rintro e w42 ⟨rfl, hb⟩
        refine ⟨_, rfl, ?_⟩
        have n0_ := Aside0.mk (blk_below (g := gb648) (o := .cells #[.int .i64 a0_0, .int .i64 a0_1, .string a0_2] 23 (0, 0)) (by (with_reducible repeat (first | refine blk_drewN ?_ _ | refine blk_drew ?_ | refine blk_alloc ?_ _)); exact BK648.out) hb)
        have n1_ := Aside0.mk (blk_below (g := gb649) (o := .cells #[.int .i64 a1_0, .int .i64 a1_1, .string a1_2] 23 (0, 0)) (by (with_reducible repeat (first | refine blk_drewN ?_ _ | refine blk_drew ?_ | refine blk_alloc ?_ _)); exact BK649.out) hb)
        have n2_ := Aside0.mk (blk_below (g := gb650) (o := .cells #[.int .i64 a2_0, .int .i64 a2_1, .string a2_2] 23 (0, 0)) (by (with_reducible repeat (first | refine blk_drewN ?_ _ | refine blk_drew ?_ | refine blk_alloc ?_ _)); exact BK650.out) hb)
        have n3_ := Aside0.mk (below_step (by repeat (first | (with_reducible first | exact HB.out | apply below_alloc | apply pw_below_drewN | apply below_drew1 | refine below_set ?_ GE648.out | refine below_set ?_ GE649.out | refine below_set ?_ GE650.out) | exact HB.out)) hb)
        clear BK648
        clear BK649
        clear BK650
        clear HB
        have BK648 := n0_
        have BK649 := n1_
        have BK650 := n2_
        have HB := n3_
        clear n0_ n1_ n2_ n3_
        (try clear hb)
        (try clear hb2)
        (try clear hk)
        (try clear hi)
        refine hK.out _ _ ⟨(blk_cell BK648.out 0).trans rfl, (blk_cell BK648.out 1).trans rfl, (blk_cell BK648.out 2).trans rfl, (blk_cell BK649.out 0).trans rfl, (blk_cell BK649.out 1).trans rfl, (blk_cell BK649.out 2).trans rfl, (blk_cell BK650.out 0).trans rfl, (blk_cell BK650.out 1).trans rfl, (blk_cell BK650.out 2).trans rfl⟩ (fun hHeld => ?_)
        clear hK K
        refine norm_ (a' := ?_) ?_ ?_
        rotate_left
        · show Act.put _ (some 29) _ = _
          simp only [Act.put, List.setIfInBounds_toArray, List.set_cons_zero, List.set_cons_succ, i64_w, i32_w]
          rfl
        refine one_ (i := 8) (N := some 32) #[true, true, true, true, true, true, true, true, true, false, false, false] rfl rfl (one_of HT_.out (by kernel_rfl)) (by decide) (fun K hK => ?_)
        refine goes_ Tryd.func13 (by kernel_rfl) rfl #[.agg #[.int .i64 a0_0, .int .i64 a0_1, .string a0_2], .agg #[.int .i64 a2_0, .int .i64 a2_1, .string a2_2]] (by rfl) rfl rfl (by (try simp only [List.map_toArray, List.map_cons, List.map_nil]); first | done | rfl | (simp only [List.length_drop, List.length_take]; rfl)) ?_
        with_reducible refine (value_Compare.calls kj3 a0_0 a0_1 a0_2 a2_0 a2_1 a2_2 t657 _ A38.out).mono ?_
        rintro e w43 ⟨rfl, hb⟩
        refine ⟨_, rfl, ?_⟩
        have n0_ := Aside0.mk (blk_below (g := gb648) (o := .cells #[.int .i64 a0_0, .int .i64 a0_1, .string a0_2] 23 (0, 0)) (by (with_reducible repeat (first | refine blk_drewN ?_ _ | refine blk_drew ?_ | refine blk_alloc ?_ _)); exact BK648.out) hb)
        have n1_ := Aside0.mk (blk_below (g := gb649) (o := .cells #[.int .i64 a1_0, .int .i64 a1_1, .string a1_2] 23 (0, 0)) (by (with_reducible repeat (first | refine blk_drewN ?_ _ | refine blk_drew ?_ | refine blk_alloc ?_ _)); exact BK649.out) hb)
        have n2_ := Aside0.mk (blk_below (g := gb650) (o := .cells #[.int .i64 a2_0, .int .i64 a2_1, .string a2_2] 23 (0, 0)) (by (with_reducible repeat (first | refine blk_drewN ?_ _ | refine blk_drew ?_ | refine blk_alloc ?_ _)); exact BK650.out) hb)
        have n3_ := Aside0.mk (below_step (by repeat (first | (with_reducible first | exact HB.out | apply below_alloc | apply pw_below_drewN | apply below_drew1 | refine below_set ?_ GE648.out | refine below_set ?_ GE649.out | refine below_set ?_ GE650.out) | exact HB.out)) hb)
        clear BK648
        clear BK649
        clear BK650
        clear HB
        have BK648 := n0_
        have BK649 := n1_
        have BK650 := n2_
        have HB := n3_
        clear n0_ n1_ n2_ n3_
        (try clear hb)
        (try clear hb2)
        (try clear hk)
        (try clear hi)
        refine hK.out _ _ ⟨(blk_cell BK648.out 0).trans rfl, (blk_cell BK648.out 1).trans rfl, (blk_cell BK648.out 2).trans rfl, (blk_cell BK649.out 0).trans rfl, (blk_cell BK649.out 1).trans rfl, (blk_cell BK649.out 2).trans rfl, (blk_cell BK650.out 0).trans rfl, (blk_cell BK650.out 1).trans rfl, (blk_cell BK650.out 2).trans rfl⟩ (fun hHeld => ?_)
        clear hK K
        refine norm_ (a' := ?_) ?_ ?_
        rotate_left
        · show Act.put _ (some 32) _ = _
          simp only [Act.put, List.setIfInBounds_toArray, List.set_cons_zero, List.set_cons_succ, i64_w, i32_w]
          rfl
        refine pure_ (i := 9) (N := some 7) (v := ?_) (a' := ?_) #[true, true, true, true, true, true, true, true, true, true, false, false] rfl rfl (any_of HT_.out (by kernel_rfl)) (fun _ _ _ h => h) (Or.inl ⟨by rfl, ?_⟩) ?_ ?_
        rotate_left
        · intro w'
          go_simp
          with_reducible rfl
        rotate_left
        · simp only [Act.put, List.setIfInBounds_toArray, List.set_cons_zero, List.set_cons_succ, i64_w, i32_w]
          rfl
        refine pure_ (i := 10) (N := some 8) (v := ?_) (a' := ?_) #[true, true, true, true, true, true, true, true, true, true, true, false] rfl rfl (any_of HT_.out (by kernel_rfl)) (fun _ _ _ h => h) (Or.inl ⟨by rfl, ?_⟩) ?_ ?_
        rotate_left
        · intro w'
          go_simp
          with_reducible rfl
        rotate_left
        · simp only [Act.put, List.setIfInBounds_toArray, List.set_cons_zero, List.set_cons_succ, i64_w, i32_w]
          rfl
        refine pure_ (i := 11) (N := some 9) (v := ?_) (a' := ?_) #[true, true, true, true, true, true, true, true, true, true, true, true] rfl rfl (any_of HT_.out (by kernel_rfl)) (fun _ _ _ h => h) (Or.inl ⟨by rfl, ?_⟩) ?_ ?_
        rotate_left
        · intro w'
          go_simp
          with_reducible rfl
        rotate_left
        · simp only [Act.put, List.setIfInBounds_toArray, List.set_cons_zero, List.set_cons_succ, i64_w, i32_w]
          rfl
        refine done_ (done_of HT_.out (by kernel_rfl)) ?_
        go_upto_region 4 with (fail)
        go_cut [54] (fun v54 wc => ∃ (kq : Nat) (x54_38 : Bool), v54 = .bool x54_38 ∧ Aside0 (alumlaw19_ValueOrders.j1 kq t655 t656 t657 x54_38 a0_0 a0_1 a0_2 a1_0 a1_1 a1_2 a2_0 a2_1 a2_2 = some r) ∧ Aside0 (kq ≤ kj3) ∧ Aside0 (wc.heap[gb648]? = some (.cells #[.int .i64 a0_0, .int .i64 a0_1, .string a0_2] 23 (0, 0))) ∧ Aside0 (wc.heap[gb649]? = some (.cells #[.int .i64 a1_0, .int .i64 a1_1, .string a1_2] 23 (0, 0))) ∧ Aside0 (wc.heap[gb650]? = some (.cells #[.int .i64 a2_0, .int .i64 a2_1, .string a2_2] 23 (0, 0))) ∧ Aside0 (Below w.heap.size w wc))
        case first =>
          have H := HC39.out
          clear HC39
          replace H := Option.bind_eq_some_iff.mp H
          obtain ⟨t658, A440, H⟩ := H
          replace H : (if t655 = (wrap64 (-t658)) then (if t655 < (-1) then (none) else (if t655 > 1 then (none) else (alumlaw19_ValueOrders.j1 kj3 t655 t656 t657 ((t655 == 0) != (a0_0 == a1_0 && (a0_1 == a1_1 && (a0_2.toList == a1_2.toList)))) a0_0 a0_1 a0_2 a1_0 a1_1 a1_2 a2_0 a2_1 a2_2))) else (none)) = some r := H
          have A44 := Aside0.mk A440
          clear A440
          by_cases c45 : t655 = (wrap64 (-t658))
          · rw [if_pos c45] at H
            have c45b0 : (t655 == (wrap64 (-t658))) = true := beq_iff_eq.mpr c45
            have c45b1 : (t655 != (wrap64 (-t658))) = false := bne_eq_false_iff_eq.mpr c45
            clear c45
            (first | rw [c45b0] | (simp only [i64_w, i32_w]; rw [c45b0]) | skip)
            by_cases c46 : t655 < (-1)
            · rw [if_pos c46] at H
              exact absurd H (by simp)
            · rw [if_neg c46] at H
              have c46b0 : decide (t655 < (-1)) = false := decide_eq_false c46
              clear c46
              by_cases c47 : t655 > 1
              · rw [if_pos c47] at H
                exact absurd H (by simp)
              · rw [if_neg c47] at H
                have c47b0 : decide (1 < t655) = false := decide_eq_false c47
                clear c47
                have H' := Aside0.mk H
                clear H
                have hnb48 := NB649_648.out
                have hnc48 := NB648_649.out
                have hnb49 := NB649_650.out
                have hnc49 := NB650_649.out
                have hcz50_0 : w43.cell? ⟨gb649, 0, none⟩ = some (.int .i64 a1_0) := (blk_cell BK649.out 0).trans rfl
                have hcz50_1 : w43.cell? ⟨gb649, 1, none⟩ = some (.int .i64 a1_1) := (blk_cell BK649.out 1).trans rfl
                have hcz50_2 : w43.cell? ⟨gb649, 2, none⟩ = some (.string a1_2) := (blk_cell BK649.out 2).trans rfl
                have hfz50_0 := blk_frozen BK649.out 0
                have hfz50_1 := blk_frozen BK649.out 1
                have hfz50_2 := blk_frozen BK649.out 2
                have hnb51 := NB648_650.out
                have hnc51 := NB650_648.out
                have hcz52_0 : w43.cell? ⟨gb648, 0, none⟩ = some (.int .i64 a0_0) := (blk_cell BK648.out 0).trans rfl
                have hcz52_1 : w43.cell? ⟨gb648, 1, none⟩ = some (.int .i64 a0_1) := (blk_cell BK648.out 1).trans rfl
                have hcz52_2 : w43.cell? ⟨gb648, 2, none⟩ = some (.string a0_2) := (blk_cell BK648.out 2).trans rfl
                have hfz52_0 := blk_frozen BK648.out 0
                have hfz52_1 := blk_frozen BK648.out 1
                have hfz52_2 := blk_frozen BK648.out 2
                go_wp2_with (first | ((with_reducible refine gate_callee (f := 13) rfl ?_); refine goesL_ (some 36) rfl rfl Tryd.func13 (by kernel_rfl) rfl #[.agg #[.int .i64 a1_0, .int .i64 a1_1, .string a1_2], .agg #[.int .i64 a0_0, .int .i64 a0_1, .string a0_2]] rfl (by (try simp only [List.map_toArray, List.map_cons, List.map_nil]); first | done | rfl | (simp only [List.length_drop, List.length_take]; rfl)) ?_; (with_reducible refine (value_Compare.calls kj3 a1_0 a1_1 a1_2 a0_0 a0_1 a0_2 t658 _ A44.out).mono ?_); rintro e w53 ⟨rfl, hb⟩; refine ⟨_, rfl, ?_⟩; have n0_ := Aside0.mk (blk_below (g := gb648) (o := .cells #[.int .i64 a0_0, .int .i64 a0_1, .string a0_2] 23 (0, 0)) (by (with_reducible repeat (first | refine blk_drewN ?_ _ | refine blk_drew ?_ | refine blk_alloc ?_ _)); exact BK648.out) hb); have n1_ := Aside0.mk (blk_below (g := gb649) (o := .cells #[.int .i64 a1_0, .int .i64 a1_1, .string a1_2] 23 (0, 0)) (by (with_reducible repeat (first | refine blk_drewN ?_ _ | refine blk_drew ?_ | refine blk_alloc ?_ _)); exact BK649.out) hb); have n2_ := Aside0.mk (blk_below (g := gb650) (o := .cells #[.int .i64 a2_0, .int .i64 a2_1, .string a2_2] 23 (0, 0)) (by (with_reducible repeat (first | refine blk_drewN ?_ _ | refine blk_drew ?_ | refine blk_alloc ?_ _)); exact BK650.out) hb); have n3_ := Aside0.mk (below_step (by repeat (first | (with_reducible first | exact HB.out | apply below_alloc | apply pw_below_drewN | apply below_drew1 | refine below_set ?_ GE648.out | refine below_set ?_ GE649.out | refine below_set ?_ GE650.out) | exact HB.out)) hb); clear BK648; clear BK649; clear BK650; clear HB; have BK648 := n0_; have BK649 := n1_; have BK650 := n2_; have HB := n3_; clear n0_ n1_ n2_ n3_; (try clear hb); (try clear hb2); (try clear hk); (try clear hi); have hcz54_0 : w53.cell? ⟨gb648, 0, none⟩ = some (.int .i64 a0_0) := (blk_cell BK648.out 0).trans rfl; have hcz54_1 : w53.cell? ⟨gb648, 1, none⟩ = some (.int .i64 a0_1) := (blk_cell BK648.out 1).trans rfl; have hcz54_2 : w53.cell? ⟨gb648, 2, none⟩ = some (.string a0_2) := (blk_cell BK648.out 2).trans rfl; have hfz54_0 := blk_frozen BK648.out 0; have hfz54_1 := blk_frozen BK648.out 1; have hfz54_2 := blk_frozen BK648.out 2; have hcz55_0 : w53.cell? ⟨gb649, 0, none⟩ = some (.int .i64 a1_0) := (blk_cell BK649.out 0).trans rfl; have hcz55_1 : w53.cell? ⟨gb649, 1, none⟩ = some (.int .i64 a1_1) := (blk_cell BK649.out 1).trans rfl; have hcz55_2 : w53.cell? ⟨gb649, 2, none⟩ = some (.string a1_2) := (blk_cell BK649.out 2).trans rfl; have hfz55_0 := blk_frozen BK649.out 0; have hfz55_1 := blk_frozen BK649.out 1; have hfz55_2 := blk_frozen BK649.out 2))
                go_meet
                case rel => exact ⟨_, (((t655 == 0) != (a0_0 == a1_0 && (a0_1 == a1_1 && (a0_2.toList == a1_2.toList))))), (by first | rfl | (simp; done) | (simp [*]; done)), H', ⟨by have := HJ3.out; first | omega | exact Nat.le_refl _⟩, ⟨by (with_reducible repeat (first | refine blk_drewN ?_ _ | refine blk_drew ?_ | refine blk_alloc ?_ _)); exact BK648.out⟩, ⟨by (with_reducible repeat (first | refine blk_drewN ?_ _ | refine blk_drew ?_ | refine blk_alloc ?_ _)); exact BK649.out⟩, ⟨by (with_reducible repeat (first | refine blk_drewN ?_ _ | refine blk_drew ?_ | refine blk_alloc ?_ _)); exact BK650.out⟩, ⟨by repeat (first | (with_reducible first | exact HB.out | apply below_alloc | apply pw_below_drewN | apply below_drew1 | refine below_set ?_ GE648.out | refine below_set ?_ GE649.out | refine below_set ?_ GE650.out) | exact HB.out)⟩⟩
          · rw [if_neg c45] at H
            exact absurd H (by simp)
        case rest =>
          clear HC39
          try clear c1
          try clear c2
          try clear p2
          try clear c3
          try clear c4
          try clear c5
          try clear c6
          try clear p6
          try clear c9
          try clear c11
          try clear c12
          try clear c13
          try clear c14
          try clear c17
          try clear c22
          try clear c23
          try clear c26
          try clear c29
          try clear c30
          try clear c33
          try clear c45
          try clear c45b0
          try clear c45b1
          try clear c46
          try clear c46b0
          try clear c47
          try clear c47b0
          try clear c48
          try clear c49
          try clear c51
          try clear hcz15_0
          try clear hcz15_1
          try clear hcz15_2
          try clear hcz18_0
          try clear hcz18_1
          try clear hcz18_2
          try clear hcz20_0
          try clear hcz20_1
          try clear hcz20_2
          try clear hcz24_0
          try clear hcz24_1
          try clear hcz24_2
          try clear hcz27_0
          try clear hcz27_1
          try clear hcz27_2
          try clear hcz31_0
          try clear hcz31_1
          try clear hcz31_2
          try clear hcz50_0
          try clear hcz50_1
          try clear hcz50_2
          try clear hcz52_0
          try clear hcz52_1
          try clear hcz52_2
          try clear hcz54_0
          try clear hcz54_1
          try clear hcz54_2
          try clear hcz55_0
          try clear hcz55_1
          try clear hcz55_2
          try clear hfz15_0
          try clear hfz15_1
          try clear hfz15_2
          try clear hfz18_0
          try clear hfz18_1
          try clear hfz18_2
          try clear hfz20_0
          try clear hfz20_1
          try clear hfz20_2
          try clear hfz24_0
          try clear hfz24_1
          try clear hfz24_2
          try clear hfz27_0
          try clear hfz27_1
          try clear hfz27_2
          try clear hfz31_0
          try clear hfz31_1
          try clear hfz31_2
          try clear hfz50_0
          try clear hfz50_1
          try clear hfz50_2
          try clear hfz52_0
          try clear hfz52_1
          try clear hfz52_2
          try clear hfz54_0
          try clear hfz54_1
          try clear hfz54_2
          try clear hfz55_0
          try clear hfz55_1
          try clear hfz55_2
          try clear p2
          obtain ⟨kq, x54_38, rfl, HA, HJ38, BK648, BK649, BK650, HB⟩ := hcut
          cases kq with
          | zero => exact absurd HA.out (by simp [alumlaw19_ValueOrders.j1])
          | succ kj38 =>
            have H := HA.out
            clear HA
            simp only [alumlaw19_ValueOrders.j1] at H
            by_cases c56 : x54_38 = true
            · subst c56
              have H1 : (none) = some r := by rw [if_pos rfl] at H; exact H
              clear H
              have H := H1
              clear H1
              exact absurd H (by simp)
            · replace c56 := Bool.eq_false_iff.mpr c56
              subst c56
              have H1 : ((alumlaw19_sanity.f kj38).bind fun t659 => (if t659 = true then (if t655 > 0 then ((value_CompareRows.f kj38 (([(⟨a0_0, a0_1, a0_2⟩ : S23), (⟨a1_0, a1_1, a1_2⟩ : S23)] : List (S23))) (([(⟨a0_0, a0_1, a0_2⟩ : S23), (⟨a2_0, a2_1, a2_2⟩ : S23)] : List (S23)))).bind fun t666 => (if t666 = t656 then ((value_CompareRows.f kj38 (([(⟨a0_0, a0_1, a0_2⟩ : S23)] : List (S23))) (([(⟨a0_0, a0_1, a0_2⟩ : S23), (⟨a1_0, a1_1, a1_2⟩ : S23)] : List (S23)))).bind fun t673 => (some (t673 == (-1)))) else (none))) else (if t656 > 0 then ((value_CompareRows.f kj38 (([(⟨a0_0, a0_1, a0_2⟩ : S23), (⟨a1_0, a1_1, a1_2⟩ : S23)] : List (S23))) (([(⟨a0_0, a0_1, a0_2⟩ : S23), (⟨a2_0, a2_1, a2_2⟩ : S23)] : List (S23)))).bind fun t680 => (if t680 = t656 then ((value_CompareRows.f kj38 (([(⟨a0_0, a0_1, a0_2⟩ : S23)] : List (S23))) (([(⟨a0_0, a0_1, a0_2⟩ : S23), (⟨a1_0, a1_1, a1_2⟩ : S23)] : List (S23)))).bind fun t687 => (some (t687 == (-1)))) else (none))) else (if t657 ≤ 0 then (if t655 = 0 then (if t656 = 0 then ((value_CompareRows.f kj38 (([(⟨a0_0, a0_1, a0_2⟩ : S23), (⟨a1_0, a1_1, a1_2⟩ : S23)] : List (S23))) (([(⟨a0_0, a0_1, a0_2⟩ : S23), (⟨a2_0, a2_1, a2_2⟩ : S23)] : List (S23)))).bind fun t694 => (if t694 = t656 then ((value_CompareRows.f kj38 (([(⟨a0_0, a0_1, a0_2⟩ : S23)] : List (S23))) (([(⟨a0_0, a0_1, a0_2⟩ : S23), (⟨a1_0, a1_1, a1_2⟩ : S23)] : List (S23)))).bind fun t701 => (some (t701 == (-1)))) else (none))) else (if t657 < 0 then ((value_CompareRows.f kj38 (([(⟨a0_0, a0_1, a0_2⟩ : S23), (⟨a1_0, a1_1, a1_2⟩ : S23)] : List (S23))) (([(⟨a0_0, a0_1, a0_2⟩ : S23), (⟨a2_0, a2_1, a2_2⟩ : S23)] : List (S23)))).bind fun t708 => (if t708 = t656 then ((value_CompareRows.f kj38 (([(⟨a0_0, a0_1, a0_2⟩ : S23)] : List (S23))) (([(⟨a0_0, a0_1, a0_2⟩ : S23), (⟨a1_0, a1_1, a1_2⟩ : S23)] : List (S23)))).bind fun t715 => (some (t715 == (-1)))) else (none))) else (none))) else (if t657 < 0 then ((value_CompareRows.f kj38 (([(⟨a0_0, a0_1, a0_2⟩ : S23), (⟨a1_0, a1_1, a1_2⟩ : S23)] : List (S23))) (([(⟨a0_0, a0_1, a0_2⟩ : S23), (⟨a2_0, a2_1, a2_2⟩ : S23)] : List (S23)))).bind fun t722 => (if t722 = t656 then ((value_CompareRows.f kj38 (([(⟨a0_0, a0_1, a0_2⟩ : S23)] : List (S23))) (([(⟨a0_0, a0_1, a0_2⟩ : S23), (⟨a1_0, a1_1, a1_2⟩ : S23)] : List (S23)))).bind fun t729 => (some (t729 == (-1)))) else (none))) else (none))) else (none)))) else (none))) = some r := by rw [if_neg (show ¬ (false = true) by decide)] at H; exact H
              clear H
              have H := H1
              clear H1
              replace H := Option.bind_eq_some_iff.mp H
              obtain ⟨t659, A570, H⟩ := H
              replace H : (if t659 = true then (if t655 > 0 then ((value_CompareRows.f kj38 (([(⟨a0_0, a0_1, a0_2⟩ : S23), (⟨a1_0, a1_1, a1_2⟩ : S23)] : List (S23))) (([(⟨a0_0, a0_1, a0_2⟩ : S23), (⟨a2_0, a2_1, a2_2⟩ : S23)] : List (S23)))).bind fun t666 => (if t666 = t656 then ((value_CompareRows.f kj38 (([(⟨a0_0, a0_1, a0_2⟩ : S23)] : List (S23))) (([(⟨a0_0, a0_1, a0_2⟩ : S23), (⟨a1_0, a1_1, a1_2⟩ : S23)] : List (S23)))).bind fun t673 => (some (t673 == (-1)))) else (none))) else (if t656 > 0 then ((value_CompareRows.f kj38 (([(⟨a0_0, a0_1, a0_2⟩ : S23), (⟨a1_0, a1_1, a1_2⟩ : S23)] : List (S23))) (([(⟨a0_0, a0_1, a0_2⟩ : S23), (⟨a2_0, a2_1, a2_2⟩ : S23)] : List (S23)))).bind fun t680 => (if t680 = t656 then ((value_CompareRows.f kj38 (([(⟨a0_0, a0_1, a0_2⟩ : S23)] : List (S23))) (([(⟨a0_0, a0_1, a0_2⟩ : S23), (⟨a1_0, a1_1, a1_2⟩ : S23)] : List (S23)))).bind fun t687 => (some (t687 == (-1)))) else (none))) else (if t657 ≤ 0 then (if t655 = 0 then (if t656 = 0 then ((value_CompareRows.f kj38 (([(⟨a0_0, a0_1, a0_2⟩ : S23), (⟨a1_0, a1_1, a1_2⟩ : S23)] : List (S23))) (([(⟨a0_0, a0_1, a0_2⟩ : S23), (⟨a2_0, a2_1, a2_2⟩ : S23)] : List (S23)))).bind fun t694 => (if t694 = t656 then ((value_CompareRows.f kj38 (([(⟨a0_0, a0_1, a0_2⟩ : S23)] : List (S23))) (([(⟨a0_0, a0_1, a0_2⟩ : S23), (⟨a1_0, a1_1, a1_2⟩ : S23)] : List (S23)))).bind fun t701 => (some (t701 == (-1)))) else (none))) else (if t657 < 0 then ((value_CompareRows.f kj38 (([(⟨a0_0, a0_1, a0_2⟩ : S23), (⟨a1_0, a1_1, a1_2⟩ : S23)] : List (S23))) (([(⟨a0_0, a0_1, a0_2⟩ : S23), (⟨a2_0, a2_1, a2_2⟩ : S23)] : List (S23)))).bind fun t708 => (if t708 = t656 then ((value_CompareRows.f kj38 (([(⟨a0_0, a0_1, a0_2⟩ : S23)] : List (S23))) (([(⟨a0_0, a0_1, a0_2⟩ : S23), (⟨a1_0, a1_1, a1_2⟩ : S23)] : List (S23)))).bind fun t715 => (some (t715 == (-1)))) else (none))) else (none))) else (if t657 < 0 then ((value_CompareRows.f kj38 (([(⟨a0_0, a0_1, a0_2⟩ : S23), (⟨a1_0, a1_1, a1_2⟩ : S23)] : List (S23))) (([(⟨a0_0, a0_1, a0_2⟩ : S23), (⟨a2_0, a2_1, a2_2⟩ : S23)] : List (S23)))).bind fun t722 => (if t722 = t656 then ((value_CompareRows.f kj38 (([(⟨a0_0, a0_1, a0_2⟩ : S23)] : List (S23))) (([(⟨a0_0, a0_1, a0_2⟩ : S23), (⟨a1_0, a1_1, a1_2⟩ : S23)] : List (S23)))).bind fun t729 => (some (t729 == (-1)))) else (none))) else (none))) else (none)))) else (none)) = some r := H
              have A57 := Aside0.mk A570
              clear A570
              by_cases c58 : t659 = true
              · subst c58
                have H1 : (if t655 > 0 then ((value_CompareRows.f kj38 (([(⟨a0_0, a0_1, a0_2⟩ : S23), (⟨a1_0, a1_1, a1_2⟩ : S23)] : List (S23))) (([(⟨a0_0, a0_1, a0_2⟩ : S23), (⟨a2_0, a2_1, a2_2⟩ : S23)] : List (S23)))).bind fun t666 => (if t666 = t656 then ((value_CompareRows.f kj38 (([(⟨a0_0, a0_1, a0_2⟩ : S23)] : List (S23))) (([(⟨a0_0, a0_1, a0_2⟩ : S23), (⟨a1_0, a1_1, a1_2⟩ : S23)] : List (S23)))).bind fun t673 => (some (t673 == (-1)))) else (none))) else (if t656 > 0 then ((value_CompareRows.f kj38 (([(⟨a0_0, a0_1, a0_2⟩ : S23), (⟨a1_0, a1_1, a1_2⟩ : S23)] : List (S23))) (([(⟨a0_0, a0_1, a0_2⟩ : S23), (⟨a2_0, a2_1, a2_2⟩ : S23)] : List (S23)))).bind fun t680 => (if t680 = t656 then ((value_CompareRows.f kj38 (([(⟨a0_0, a0_1, a0_2⟩ : S23)] : List (S23))) (([(⟨a0_0, a0_1, a0_2⟩ : S23), (⟨a1_0, a1_1, a1_2⟩ : S23)] : List (S23)))).bind fun t687 => (some (t687 == (-1)))) else (none))) else (if t657 ≤ 0 then (if t655 = 0 then (if t656 = 0 then ((value_CompareRows.f kj38 (([(⟨a0_0, a0_1, a0_2⟩ : S23), (⟨a1_0, a1_1, a1_2⟩ : S23)] : List (S23))) (([(⟨a0_0, a0_1, a0_2⟩ : S23), (⟨a2_0, a2_1, a2_2⟩ : S23)] : List (S23)))).bind fun t694 => (if t694 = t656 then ((value_CompareRows.f kj38 (([(⟨a0_0, a0_1, a0_2⟩ : S23)] : List (S23))) (([(⟨a0_0, a0_1, a0_2⟩ : S23), (⟨a1_0, a1_1, a1_2⟩ : S23)] : List (S23)))).bind fun t701 => (some (t701 == (-1)))) else (none))) else (if t657 < 0 then ((value_CompareRows.f kj38 (([(⟨a0_0, a0_1, a0_2⟩ : S23), (⟨a1_0, a1_1, a1_2⟩ : S23)] : List (S23))) (([(⟨a0_0, a0_1, a0_2⟩ : S23), (⟨a2_0, a2_1, a2_2⟩ : S23)] : List (S23)))).bind fun t708 => (if t708 = t656 then ((value_CompareRows.f kj38 (([(⟨a0_0, a0_1, a0_2⟩ : S23)] : List (S23))) (([(⟨a0_0, a0_1, a0_2⟩ : S23), (⟨a1_0, a1_1, a1_2⟩ : S23)] : List (S23)))).bind fun t715 => (some (t715 == (-1)))) else (none))) else (none))) else (if t657 < 0 then ((value_CompareRows.f kj38 (([(⟨a0_0, a0_1, a0_2⟩ : S23), (⟨a1_0, a1_1, a1_2⟩ : S23)] : List (S23))) (([(⟨a0_0, a0_1, a0_2⟩ : S23), (⟨a2_0, a2_1, a2_2⟩ : S23)] : List (S23)))).bind fun t722 => (if t722 = t656 then ((value_CompareRows.f kj38 (([(⟨a0_0, a0_1, a0_2⟩ : S23)] : List (S23))) (([(⟨a0_0, a0_1, a0_2⟩ : S23), (⟨a1_0, a1_1, a1_2⟩ : S23)] : List (S23)))).bind fun t729 => (some (t729 == (-1)))) else (none))) else (none))) else (none)))) = some r := by rw [if_pos rfl] at H; exact H
                clear H
                have H := H1
                clear H1
                by_cases c59 : t655 > 0
                · rw [if_pos c59] at H
                  have c59b0 : decide (0 < t655) = true := decide_eq_true c59
                  clear c59
                  obtain ⟨y660, hy660⟩ : ∃ y_ : List (S23), y_ = (([(⟨a0_0, a0_1, a0_2⟩ : S23), (⟨a1_0, a1_1, a1_2⟩ : S23)] : List (S23))) := ⟨_, rfl⟩
                  replace H : ((value_CompareRows.f kj38 y660 (([(⟨a0_0, a0_1, a0_2⟩ : S23), (⟨a2_0, a2_1, a2_2⟩ : S23)] : List (S23)))).bind fun t666 => (if t666 = t656 then ((value_CompareRows.f kj38 (([(⟨a0_0, a0_1, a0_2⟩ : S23)] : List (S23))) (([(⟨a0_0, a0_1, a0_2⟩ : S23), (⟨a1_0, a1_1, a1_2⟩ : S23)] : List (S23)))).bind fun t673 => (some (t673 == (-1)))) else (none))) = some r := by first | (rw [hy660]; with_reducible exact H) | (have H2_ := (Option.bind_some _ _).symm.trans H; rw [hy660]; with_reducible exact H2_) | (have H2_ := (Option.bind_some _ _).symm.trans H; with_reducible exact H2_) | with_reducible exact H | (rw [hy660]; exact H) | exact H
                  have Ny660 := Aside0.mk hy660
                  clear hy660
                  obtain ⟨y663, hy663⟩ : ∃ y_ : List (S23), y_ = (([(⟨a0_0, a0_1, a0_2⟩ : S23), (⟨a2_0, a2_1, a2_2⟩ : S23)] : List (S23))) := ⟨_, rfl⟩
                  replace H : ((value_CompareRows.f kj38 y660 y663).bind fun t666 => (if t666 = t656 then ((value_CompareRows.f kj38 (([(⟨a0_0, a0_1, a0_2⟩ : S23)] : List (S23))) (([(⟨a0_0, a0_1, a0_2⟩ : S23), (⟨a1_0, a1_1, a1_2⟩ : S23)] : List (S23)))).bind fun t673 => (some (t673 == (-1)))) else (none))) = some r := by first | (rw [hy663]; with_reducible exact H) | (have H2_ := (Option.bind_some _ _).symm.trans H; rw [hy663]; with_reducible exact H2_) | (have H2_ := (Option.bind_some _ _).symm.trans H; with_reducible exact H2_) | with_reducible exact H | (rw [hy663]; exact H) | exact H
                  have Ny663 := Aside0.mk hy663
                  clear hy663
                  replace H := Option.bind_eq_some_iff.mp H
                  obtain ⟨t666, A600, H⟩ := H
                  replace H : (if t666 = t656 then ((value_CompareRows.f kj38 (([(⟨a0_0, a0_1, a0_2⟩ : S23)] : List (S23))) (([(⟨a0_0, a0_1, a0_2⟩ : S23), (⟨a1_0, a1_1, a1_2⟩ : S23)] : List (S23)))).bind fun t673 => (some (t673 == (-1)))) else (none)) = some r := H
                  have A60 := Aside0.mk A600
                  clear A600
                  by_cases c61 : t666 = t656
                  · rw [if_pos c61] at H
                    have c61b0 : (t666 == t656) = true := beq_iff_eq.mpr c61
                    have c61b1 : (t666 != t656) = false := bne_eq_false_iff_eq.mpr c61
                    clear c61
                    obtain ⟨y667, hy667⟩ : ∃ y_ : List (S23), y_ = (([(⟨a0_0, a0_1, a0_2⟩ : S23)] : List (S23))) := ⟨_, rfl⟩
                    replace H : ((value_CompareRows.f kj38 y667 (([(⟨a0_0, a0_1, a0_2⟩ : S23), (⟨a1_0, a1_1, a1_2⟩ : S23)] : List (S23)))).bind fun t673 => (some (t673 == (-1)))) = some r := by first | (rw [hy667]; with_reducible exact H) | (have H2_ := (Option.bind_some _ _).symm.trans H; rw [hy667]; with_reducible exact H2_) | (have H2_ := (Option.bind_some _ _).symm.trans H; with_reducible exact H2_) | with_reducible exact H | (rw [hy667]; exact H) | exact H
                    have Ny667 := Aside0.mk hy667
                    clear hy667
                    obtain ⟨y670, hy670⟩ : ∃ y_ : List (S23), y_ = (([(⟨a0_0, a0_1, a0_2⟩ : S23), (⟨a1_0, a1_1, a1_2⟩ : S23)] : List (S23))) := ⟨_, rfl⟩
                    replace H : ((value_CompareRows.f kj38 y667 y670).bind fun t673 => (some (t673 == (-1)))) = some r := by first | (rw [hy670]; with_reducible exact H) | (have H2_ := (Option.bind_some _ _).symm.trans H; rw [hy670]; with_reducible exact H2_) | (have H2_ := (Option.bind_some _ _).symm.trans H; with_reducible exact H2_) | with_reducible exact H | (rw [hy670]; exact H) | exact H
                    have Ny670 := Aside0.mk hy670
                    clear hy670
                    replace H := Option.bind_eq_some_iff.mp H
                    obtain ⟨t673, A620, H⟩ := H
                    replace H : (some (t673 == (-1))) = some r := H
                    have A62 := Aside0.mk A620
                    clear A620
                    obtain rfl := Option.some.inj H
                    go_wp2_with (first | ((with_reducible refine gate_callee (f := 12) rfl ?_); refine goesL_ (some 55) rfl rfl Tryd.func12 (by kernel_rfl) rfl #[] rfl (by (try simp only [List.map_toArray, List.map_cons, List.map_nil]); first | done | rfl | (simp only [List.length_drop, List.length_take]; rfl)) ?_; (with_reducible refine (alumlaw19_sanity.calls kj38  true _ A57.out).mono ?_); rintro e w63 ⟨rfl, hb⟩; refine ⟨_, rfl, ?_⟩; have n0_ := Aside0.mk (blk_below (g := gb648) (o := .cells #[.int .i64 a0_0, .int .i64 a0_1, .string a0_2] 23 (0, 0)) (by (with_reducible repeat (first | refine blk_drewN ?_ _ | refine blk_drew ?_ | refine blk_alloc ?_ _)); exact BK648.out) hb); have n1_ := Aside0.mk (blk_below (g := gb649) (o := .cells #[.int .i64 a1_0, .int .i64 a1_1, .string a1_2] 23 (0, 0)) (by (with_reducible repeat (first | refine blk_drewN ?_ _ | refine blk_drew ?_ | refine blk_alloc ?_ _)); exact BK649.out) hb); have n2_ := Aside0.mk (blk_below (g := gb650) (o := .cells #[.int .i64 a2_0, .int .i64 a2_1, .string a2_2] 23 (0, 0)) (by (with_reducible repeat (first | refine blk_drewN ?_ _ | refine blk_drew ?_ | refine blk_alloc ?_ _)); exact BK650.out) hb); have n3_ := Aside0.mk (below_step (by repeat (first | (with_reducible first | exact HB.out | apply below_alloc | apply pw_below_drewN | apply below_drew1 | refine below_set ?_ GE648.out | refine below_set ?_ GE649.out | refine below_set ?_ GE650.out) | exact HB.out)) hb); clear BK648; clear BK649; clear BK650; clear HB; have BK648 := n0_; have BK649 := n1_; have BK650 := n2_; have HB := n3_; clear n0_ n1_ n2_ n3_; (try clear hb); (try clear hb2); (try clear hk); (try clear hi); have hnb64 := NB648_649.out; have hnc64 := NB649_648.out; have hnb65 := NB648_650.out; have hnc65 := NB650_648.out; have hcz66_0 : w63.cell? ⟨gb648, 0, none⟩ = some (.int .i64 a0_0) := (blk_cell BK648.out 0).trans rfl; have hcz66_1 : w63.cell? ⟨gb648, 1, none⟩ = some (.int .i64 a0_1) := (blk_cell BK648.out 1).trans rfl; have hcz66_2 : w63.cell? ⟨gb648, 2, none⟩ = some (.string a0_2) := (blk_cell BK648.out 2).trans rfl; have hfz66_0 := blk_frozen BK648.out 0; have hfz66_1 := blk_frozen BK648.out 1; have hfz66_2 := blk_frozen BK648.out 2; have hnb67 := NB649_650.out; have hnc67 := NB650_649.out; have hcz68_0 : w63.cell? ⟨gb649, 0, none⟩ = some (.int .i64 a1_0) := (blk_cell BK649.out 0).trans rfl; have hcz68_1 : w63.cell? ⟨gb649, 1, none⟩ = some (.int .i64 a1_1) := (blk_cell BK649.out 1).trans rfl; have hcz68_2 : w63.cell? ⟨gb649, 2, none⟩ = some (.string a1_2) := (blk_cell BK649.out 2).trans rfl; have hfz68_0 := blk_frozen BK649.out 0; have hfz68_1 := blk_frozen BK649.out 1; have hfz68_2 := blk_frozen BK649.out 2) | ((with_reducible refine gate_dst (N := 83) rfl ?_); (try (refine gate_guard (by rfl) ?_; dsimp only)); refine Kd.R_lit k23 _ 23 ?hg (N := 83) ?hd (xs := ([(⟨a0_0, a0_1, a0_2⟩ : S23), (⟨a1_0, a1_1, a1_2⟩ : S23)] : List (S23))) (inner := [.int .i64 a0_0, .int .i64 a0_1, .string a0_2, .int .i64 a1_0, .int .i64 a1_1, .string a1_2]) (ok := fun _ => True) (okp := fun _ => True) ?hr ?hp (fun _ hk => hk) trivial (Below.refl _ _) (Nat.le_refl _) (by simp) ?_; (case hd => rfl); (case hg => rfl); (case hr => first | (go_simp; done) | (go_simp; rfl)); (case hp => exact (Reps.c3 (show Kd.M k23 _ _ _ (⟨a0_0, a0_1, a0_2⟩ : S23) [.int .i64 a0_0, .int .i64 a0_1, .string a0_2] from (k23_mkM _ _ _ (⟨a0_0, a0_1, a0_2⟩ : S23) )) (Reps.c3 (show Kd.M k23 _ _ _ (⟨a1_0, a1_1, a1_2⟩ : S23) [.int .i64 a1_0, .int .i64 a1_1, .string a1_2] from (k23_mkM _ _ _ (⟨a1_0, a1_1, a1_2⟩ : S23) )) (Reps.none _ _)))); intro v661 w69 ho70 hb hg_ hnew_; clear hg_ hnew_; (first | rw [← Ny660.out] at ho70 | (simp only [Int.reduceToNat] at ho70; rw [← Ny660.out] at ho70)); have n0_ := Aside0.mk (Kd.R_lower (Kd.R_newB (Kd.R_newB (Kd.R_newB ho70 (g := gb648) (o := .cells #[.int .i64 a0_0, .int .i64 a0_1, .string a0_2] 23 (0, 0)) (by (with_reducible repeat (first | refine blk_drewN ?_ _ | refine blk_drew ?_ | refine blk_alloc ?_ _)); exact BK648.out)) (g := gb649) (o := .cells #[.int .i64 a1_0, .int .i64 a1_1, .string a1_2] 23 (0, 0)) (by (with_reducible repeat (first | refine blk_drewN ?_ _ | refine blk_drew ?_ | refine blk_alloc ?_ _)); exact BK649.out)) (g := gb650) (o := .cells #[.int .i64 a2_0, .int .i64 a2_1, .string a2_2] 23 (0, 0)) (by (with_reducible repeat (first | refine blk_drewN ?_ _ | refine blk_drew ?_ | refine blk_alloc ?_ _)); exact BK650.out)) (below_size (by repeat (first | (with_reducible first | exact HB.out | apply below_alloc | apply pw_below_drewN | apply below_drew1 | refine below_set ?_ GE648.out | refine below_set ?_ GE649.out | refine below_set ?_ GE650.out) | exact HB.out)))); have n1_ := Aside0.mk (blk_below (g := gb648) (o := .cells #[.int .i64 a0_0, .int .i64 a0_1, .string a0_2] 23 (0, 0)) (by (with_reducible repeat (first | refine blk_drewN ?_ _ | refine blk_drew ?_ | refine blk_alloc ?_ _)); exact BK648.out) hb); have n2_ := Aside0.mk (blk_below (g := gb649) (o := .cells #[.int .i64 a1_0, .int .i64 a1_1, .string a1_2] 23 (0, 0)) (by (with_reducible repeat (first | refine blk_drewN ?_ _ | refine blk_drew ?_ | refine blk_alloc ?_ _)); exact BK649.out) hb); have n3_ := Aside0.mk (blk_below (g := gb650) (o := .cells #[.int .i64 a2_0, .int .i64 a2_1, .string a2_2] 23 (0, 0)) (by (with_reducible repeat (first | refine blk_drewN ?_ _ | refine blk_drew ?_ | refine blk_alloc ?_ _)); exact BK650.out) hb); have n4_ := Aside0.mk (below_step (by repeat (first | (with_reducible first | exact HB.out | apply below_alloc | apply pw_below_drewN | apply below_drew1 | refine below_set ?_ GE648.out | refine below_set ?_ GE649.out | refine below_set ?_ GE650.out) | exact HB.out)) hb); clear BK648; clear BK649; clear BK650; clear HB; have HO662 := n0_; have BK648 := n1_; have BK649 := n2_; have BK650 := n3_; have HB := n4_; clear n0_ n1_ n2_ n3_ n4_; clear hb ho70; have hcz71_0 : w69.cell? ⟨gb648, 0, none⟩ = some (.int .i64 a0_0) := (blk_cell BK648.out 0).trans rfl; have hcz71_1 : w69.cell? ⟨gb648, 1, none⟩ = some (.int .i64 a0_1) := (blk_cell BK648.out 1).trans rfl; have hcz71_2 : w69.cell? ⟨gb648, 2, none⟩ = some (.string a0_2) := (blk_cell BK648.out 2).trans rfl; have hfz71_0 := blk_frozen BK648.out 0; have hfz71_1 := blk_frozen BK648.out 1; have hfz71_2 := blk_frozen BK648.out 2; have hcz72_0 : w69.cell? ⟨gb650, 0, none⟩ = some (.int .i64 a2_0) := (blk_cell BK650.out 0).trans rfl; have hcz72_1 : w69.cell? ⟨gb650, 1, none⟩ = some (.int .i64 a2_1) := (blk_cell BK650.out 1).trans rfl; have hcz72_2 : w69.cell? ⟨gb650, 2, none⟩ = some (.string a2_2) := (blk_cell BK650.out 2).trans rfl; have hfz72_0 := blk_frozen BK650.out 0; have hfz72_1 := blk_frozen BK650.out 1; have hfz72_2 := blk_frozen BK650.out 2) | ((with_reducible refine gate_dst (N := 86) rfl ?_); (try (refine gate_guard (by rfl) ?_; dsimp only)); refine Kd.R_lit k23 _ 23 ?hg (N := 86) ?hd (xs := ([(⟨a0_0, a0_1, a0_2⟩ : S23), (⟨a2_0, a2_1, a2_2⟩ : S23)] : List (S23))) (inner := [.int .i64 a0_0, .int .i64 a0_1, .string a0_2, .int .i64 a2_0, .int .i64 a2_1, .string a2_2]) (ok := fun _ => True) (okp := fun _ => True) ?hr ?hp (fun _ hk => hk) trivial (Below.refl _ _) (Nat.le_refl _) (by simp) ?_; (case hd => rfl); (case hg => rfl); (case hr => first | (go_simp; done) | (go_simp; rfl)); (case hp => exact (Reps.c3 (show Kd.M k23 _ _ _ (⟨a0_0, a0_1, a0_2⟩ : S23) [.int .i64 a0_0, .int .i64 a0_1, .string a0_2] from (k23_mkM _ _ _ (⟨a0_0, a0_1, a0_2⟩ : S23) )) (Reps.c3 (show Kd.M k23 _ _ _ (⟨a2_0, a2_1, a2_2⟩ : S23) [.int .i64 a2_0, .int .i64 a2_1, .string a2_2] from (k23_mkM _ _ _ (⟨a2_0, a2_1, a2_2⟩ : S23) )) (Reps.none _ _)))); intro v664 w73 ho74 hb hg_ hnew_; clear hg_ hnew_; (first | rw [← Ny663.out] at ho74 | (simp only [Int.reduceToNat] at ho74; rw [← Ny663.out] at ho74)); have n0_ := Aside0.mk (Kd.R_elder' (by (with_reducible repeat (first | apply Kd.R_alloc | apply Kd.R_drewN | apply Kd.R_drew)); exact HO662.out) (Kd.R_base ho74) hb); have n1_ := Aside0.mk (Kd.R_lower (Kd.R_newB (Kd.R_newB (Kd.R_newB (Kd.R_new' ho74 (Kd.R_lt (by (with_reducible repeat (first | apply Kd.R_alloc | apply Kd.R_drewN | apply Kd.R_drew)); exact HO662.out))) (g := gb648) (o := .cells #[.int .i64 a0_0, .int .i64 a0_1, .string a0_2] 23 (0, 0)) (by (with_reducible repeat (first | refine blk_drewN ?_ _ | refine blk_drew ?_ | refine blk_alloc ?_ _)); exact BK648.out)) (g := gb649) (o := .cells #[.int .i64 a1_0, .int .i64 a1_1, .string a1_2] 23 (0, 0)) (by (with_reducible repeat (first | refine blk_drewN ?_ _ | refine blk_drew ?_ | refine blk_alloc ?_ _)); exact BK649.out)) (g := gb650) (o := .cells #[.int .i64 a2_0, .int .i64 a2_1, .string a2_2] 23 (0, 0)) (by (with_reducible repeat (first | refine blk_drewN ?_ _ | refine blk_drew ?_ | refine blk_alloc ?_ _)); exact BK650.out)) (below_size (by repeat (first | (with_reducible first | exact HB.out | apply below_alloc | apply pw_below_drewN | apply below_drew1 | refine below_set ?_ GE648.out | refine below_set ?_ GE649.out | refine below_set ?_ GE650.out) | exact HB.out)))); have n2_ := Aside0.mk (blk_below (g := gb648) (o := .cells #[.int .i64 a0_0, .int .i64 a0_1, .string a0_2] 23 (0, 0)) (by (with_reducible repeat (first | refine blk_drewN ?_ _ | refine blk_drew ?_ | refine blk_alloc ?_ _)); exact BK648.out) hb); have n3_ := Aside0.mk (blk_below (g := gb649) (o := .cells #[.int .i64 a1_0, .int .i64 a1_1, .string a1_2] 23 (0, 0)) (by (with_reducible repeat (first | refine blk_drewN ?_ _ | refine blk_drew ?_ | refine blk_alloc ?_ _)); exact BK649.out) hb); have n4_ := Aside0.mk (blk_below (g := gb650) (o := .cells #[.int .i64 a2_0, .int .i64 a2_1, .string a2_2] 23 (0, 0)) (by (with_reducible repeat (first | refine blk_drewN ?_ _ | refine blk_drew ?_ | refine blk_alloc ?_ _)); exact BK650.out) hb); have n5_ := Aside0.mk (below_step (by repeat (first | (with_reducible first | exact HB.out | apply below_alloc | apply pw_below_drewN | apply below_drew1 | refine below_set ?_ GE648.out | refine below_set ?_ GE649.out | refine below_set ?_ GE650.out) | exact HB.out)) hb); clear HO662; clear BK648; clear BK649; clear BK650; clear HB; have HO662 := n0_; have HO665 := n1_; have BK648 := n2_; have BK649 := n3_; have BK650 := n4_; have HB := n5_; clear n0_ n1_ n2_ n3_ n4_ n5_; clear hb ho74; obtain ⟨Ao75, co75, eo75⟩ := Kd.R_slice HO662.out; subst eo75; obtain ⟨Ao76, co76, eo76⟩ := Kd.R_slice HO665.out; subst eo76) | (go_at_call 31; (with_reducible refine (value_CompareRows.calls kj38 _ _ y660 _ _ y663 t666 _ ?side1 ?side2 ?side3 ?side4 A60.out).mono ?_); (case side1 => repeat (first | exact (Kd.R_reads' HO662.out).2.2 | (with_reducible refine Kd.C_alloc ?_ _) | (with_reducible refine Kd.C_drewN ?_ _) | (with_reducible refine Kd.C_drew ?_))); (case side2 => exact (Kd.R_reads' HO662.out).2.1); (case side3 => repeat (first | exact (Kd.R_reads' HO665.out).2.2 | (with_reducible refine Kd.C_alloc ?_ _) | (with_reducible refine Kd.C_drewN ?_ _) | (with_reducible refine Kd.C_drew ?_))); (case side4 => exact (Kd.R_reads' HO665.out).2.1); rintro e w77 ⟨rfl, hb⟩; have n0_ := Aside0.mk (Kd.R_below (by (with_reducible repeat (first | apply Kd.R_alloc | apply Kd.R_drewN | apply Kd.R_drew)); exact HO662.out) hb); have n1_ := Aside0.mk (Kd.R_below (by (with_reducible repeat (first | apply Kd.R_alloc | apply Kd.R_drewN | apply Kd.R_drew)); exact HO665.out) hb); have n2_ := Aside0.mk (blk_below (g := gb648) (o := .cells #[.int .i64 a0_0, .int .i64 a0_1, .string a0_2] 23 (0, 0)) (by (with_reducible repeat (first | refine blk_drewN ?_ _ | refine blk_drew ?_ | refine blk_alloc ?_ _)); exact BK648.out) hb); have n3_ := Aside0.mk (blk_below (g := gb649) (o := .cells #[.int .i64 a1_0, .int .i64 a1_1, .string a1_2] 23 (0, 0)) (by (with_reducible repeat (first | refine blk_drewN ?_ _ | refine blk_drew ?_ | refine blk_alloc ?_ _)); exact BK649.out) hb); have n4_ := Aside0.mk (blk_below (g := gb650) (o := .cells #[.int .i64 a2_0, .int .i64 a2_1, .string a2_2] 23 (0, 0)) (by (with_reducible repeat (first | refine blk_drewN ?_ _ | refine blk_drew ?_ | refine blk_alloc ?_ _)); exact BK650.out) hb); have n5_ := Aside0.mk (below_step (by repeat (first | (with_reducible first | exact HB.out | apply below_alloc | apply pw_below_drewN | apply below_drew1 | refine below_set ?_ GE648.out | refine below_set ?_ GE649.out | refine below_set ?_ GE650.out) | exact HB.out)) hb); clear HO662; clear HO665; clear BK648; clear BK649; clear BK650; clear HB; have HO662 := n0_; have HO665 := n1_; have BK648 := n2_; have BK649 := n3_; have BK650 := n4_; have HB := n5_; clear n0_ n1_ n2_ n3_ n4_ n5_; (try clear hb); (try clear hb2); (try clear hk); (try clear hi); have hcz78_0 : w77.cell? ⟨gb648, 0, none⟩ = some (.int .i64 a0_0) := (blk_cell BK648.out 0).trans rfl; have hcz78_1 : w77.cell? ⟨gb648, 1, none⟩ = some (.int .i64 a0_1) := (blk_cell BK648.out 1).trans rfl; have hcz78_2 : w77.cell? ⟨gb648, 2, none⟩ = some (.string a0_2) := (blk_cell BK648.out 2).trans rfl; have hfz78_0 := blk_frozen BK648.out 0; have hfz78_1 := blk_frozen BK648.out 1; have hfz78_2 := blk_frozen BK648.out 2) | ((with_reducible refine gate_dst (N := 93) rfl ?_); (try (refine gate_guard (by rfl) ?_; dsimp only)); refine Kd.R_lit k23 _ 23 ?hg (N := 93) ?hd (xs := ([(⟨a0_0, a0_1, a0_2⟩ : S23)] : List (S23))) (inner := [.int .i64 a0_0, .int .i64 a0_1, .string a0_2]) (ok := fun _ => True) (okp := fun _ => True) ?hr ?hp (fun _ hk => hk) trivial (Below.refl _ _) (Nat.le_refl _) (by simp) ?_; (case hd => rfl); (case hg => rfl); (case hr => first | (go_simp; done) | (go_simp; rfl)); (case hp => exact (Reps.c3 (show Kd.M k23 _ _ _ (⟨a0_0, a0_1, a0_2⟩ : S23) [.int .i64 a0_0, .int .i64 a0_1, .string a0_2] from (k23_mkM _ _ _ (⟨a0_0, a0_1, a0_2⟩ : S23) )) (Reps.none _ _))); intro v668 w79 ho80 hb hg_ hnew_; clear hg_ hnew_; (first | rw [← Ny667.out] at ho80 | (simp only [Int.reduceToNat] at ho80; rw [← Ny667.out] at ho80)); have n0_ := Aside0.mk (Kd.R_elder' (by (with_reducible repeat (first | apply Kd.R_alloc | apply Kd.R_drewN | apply Kd.R_drew)); exact HO662.out) (Kd.R_base ho80) hb); have n1_ := Aside0.mk (Kd.R_elder' (by (with_reducible repeat (first | apply Kd.R_alloc | apply Kd.R_drewN | apply Kd.R_drew)); exact HO665.out) (Kd.R_base ho80) hb); have n2_ := Aside0.mk (Kd.R_lower (Kd.R_newB (Kd.R_newB (Kd.R_newB (Kd.R_new' (Kd.R_new' ho80 (Kd.R_lt (by (with_reducible repeat (first | apply Kd.R_alloc | apply Kd.R_drewN | apply Kd.R_drew)); exact HO662.out))) (Kd.R_lt (by (with_reducible repeat (first | apply Kd.R_alloc | apply Kd.R_drewN | apply Kd.R_drew)); exact HO665.out))) (g := gb648) (o := .cells #[.int .i64 a0_0, .int .i64 a0_1, .string a0_2] 23 (0, 0)) (by (with_reducible repeat (first | refine blk_drewN ?_ _ | refine blk_drew ?_ | refine blk_alloc ?_ _)); exact BK648.out)) (g := gb649) (o := .cells #[.int .i64 a1_0, .int .i64 a1_1, .string a1_2] 23 (0, 0)) (by (with_reducible repeat (first | refine blk_drewN ?_ _ | refine blk_drew ?_ | refine blk_alloc ?_ _)); exact BK649.out)) (g := gb650) (o := .cells #[.int .i64 a2_0, .int .i64 a2_1, .string a2_2] 23 (0, 0)) (by (with_reducible repeat (first | refine blk_drewN ?_ _ | refine blk_drew ?_ | refine blk_alloc ?_ _)); exact BK650.out)) (below_size (by repeat (first | (with_reducible first | exact HB.out | apply below_alloc | apply pw_below_drewN | apply below_drew1 | refine below_set ?_ GE648.out | refine below_set ?_ GE649.out | refine below_set ?_ GE650.out) | exact HB.out)))); have n3_ := Aside0.mk (blk_below (g := gb648) (o := .cells #[.int .i64 a0_0, .int .i64 a0_1, .string a0_2] 23 (0, 0)) (by (with_reducible repeat (first | refine blk_drewN ?_ _ | refine blk_drew ?_ | refine blk_alloc ?_ _)); exact BK648.out) hb); have n4_ := Aside0.mk (blk_below (g := gb649) (o := .cells #[.int .i64 a1_0, .int .i64 a1_1, .string a1_2] 23 (0, 0)) (by (with_reducible repeat (first | refine blk_drewN ?_ _ | refine blk_drew ?_ | refine blk_alloc ?_ _)); exact BK649.out) hb); have n5_ := Aside0.mk (blk_below (g := gb650) (o := .cells #[.int .i64 a2_0, .int .i64 a2_1, .string a2_2] 23 (0, 0)) (by (with_reducible repeat (first | refine blk_drewN ?_ _ | refine blk_drew ?_ | refine blk_alloc ?_ _)); exact BK650.out) hb); have n6_ := Aside0.mk (below_step (by repeat (first | (with_reducible first | exact HB.out | apply below_alloc | apply pw_below_drewN | apply below_drew1 | refine below_set ?_ GE648.out | refine below_set ?_ GE649.out | refine below_set ?_ GE650.out) | exact HB.out)) hb); clear HO662; clear HO665; clear BK648; clear BK649; clear BK650; clear HB; have HO662 := n0_; have HO665 := n1_; have HO669 := n2_; have BK648 := n3_; have BK649 := n4_; have BK650 := n5_; have HB := n6_; clear n0_ n1_ n2_ n3_ n4_ n5_ n6_; clear hb ho80; have hcz81_0 : w79.cell? ⟨gb648, 0, none⟩ = some (.int .i64 a0_0) := (blk_cell BK648.out 0).trans rfl; have hcz81_1 : w79.cell? ⟨gb648, 1, none⟩ = some (.int .i64 a0_1) := (blk_cell BK648.out 1).trans rfl; have hcz81_2 : w79.cell? ⟨gb648, 2, none⟩ = some (.string a0_2) := (blk_cell BK648.out 2).trans rfl; have hfz81_0 := blk_frozen BK648.out 0; have hfz81_1 := blk_frozen BK648.out 1; have hfz81_2 := blk_frozen BK648.out 2; have hcz82_0 : w79.cell? ⟨gb649, 0, none⟩ = some (.int .i64 a1_0) := (blk_cell BK649.out 0).trans rfl; have hcz82_1 : w79.cell? ⟨gb649, 1, none⟩ = some (.int .i64 a1_1) := (blk_cell BK649.out 1).trans rfl; have hcz82_2 : w79.cell? ⟨gb649, 2, none⟩ = some (.string a1_2) := (blk_cell BK649.out 2).trans rfl; have hfz82_0 := blk_frozen BK649.out 0; have hfz82_1 := blk_frozen BK649.out 1; have hfz82_2 := blk_frozen BK649.out 2) | ((with_reducible refine gate_dst (N := 96) rfl ?_); (try (refine gate_guard (by rfl) ?_; dsimp only)); refine Kd.R_lit k23 _ 23 ?hg (N := 96) ?hd (xs := ([(⟨a0_0, a0_1, a0_2⟩ : S23), (⟨a1_0, a1_1, a1_2⟩ : S23)] : List (S23))) (inner := [.int .i64 a0_0, .int .i64 a0_1, .string a0_2, .int .i64 a1_0, .int .i64 a1_1, .string a1_2]) (ok := fun _ => True) (okp := fun _ => True) ?hr ?hp (fun _ hk => hk) trivial (Below.refl _ _) (Nat.le_refl _) (by simp) ?_; (case hd => rfl); (case hg => rfl); (case hr => first | (go_simp; done) | (go_simp; rfl)); (case hp => exact (Reps.c3 (show Kd.M k23 _ _ _ (⟨a0_0, a0_1, a0_2⟩ : S23) [.int .i64 a0_0, .int .i64 a0_1, .string a0_2] from (k23_mkM _ _ _ (⟨a0_0, a0_1, a0_2⟩ : S23) )) (Reps.c3 (show Kd.M k23 _ _ _ (⟨a1_0, a1_1, a1_2⟩ : S23) [.int .i64 a1_0, .int .i64 a1_1, .string a1_2] from (k23_mkM _ _ _ (⟨a1_0, a1_1, a1_2⟩ : S23) )) (Reps.none _ _)))); intro v671 w83 ho84 hb hg_ hnew_; clear hg_ hnew_; (first | rw [← Ny670.out] at ho84 | (simp only [Int.reduceToNat] at ho84; rw [← Ny670.out] at ho84)); have n0_ := Aside0.mk (Kd.R_elder' (by (with_reducible repeat (first | apply Kd.R_alloc | apply Kd.R_drewN | apply Kd.R_drew)); exact HO662.out) (Kd.R_base ho84) hb); have n1_ := Aside0.mk (Kd.R_elder' (by (with_reducible repeat (first | apply Kd.R_alloc | apply Kd.R_drewN | apply Kd.R_drew)); exact HO665.out) (Kd.R_base ho84) hb); have n2_ := Aside0.mk (Kd.R_elder' (by (with_reducible repeat (first | apply Kd.R_alloc | apply Kd.R_drewN | apply Kd.R_drew)); exact HO669.out) (Kd.R_base ho84) hb); have n3_ := Aside0.mk (Kd.R_lower (Kd.R_newB (Kd.R_newB (Kd.R_newB (Kd.R_new' (Kd.R_new' (Kd.R_new' ho84 (Kd.R_lt (by (with_reducible repeat (first | apply Kd.R_alloc | apply Kd.R_drewN | apply Kd.R_drew)); exact HO662.out))) (Kd.R_lt (by (with_reducible repeat (first | apply Kd.R_alloc | apply Kd.R_drewN | apply Kd.R_drew)); exact HO665.out))) (Kd.R_lt (by (with_reducible repeat (first | apply Kd.R_alloc | apply Kd.R_drewN | apply Kd.R_drew)); exact HO669.out))) (g := gb648) (o := .cells #[.int .i64 a0_0, .int .i64 a0_1, .string a0_2] 23 (0, 0)) (by (with_reducible repeat (first | refine blk_drewN ?_ _ | refine blk_drew ?_ | refine blk_alloc ?_ _)); exact BK648.out)) (g := gb649) (o := .cells #[.int .i64 a1_0, .int .i64 a1_1, .string a1_2] 23 (0, 0)) (by (with_reducible repeat (first | refine blk_drewN ?_ _ | refine blk_drew ?_ | refine blk_alloc ?_ _)); exact BK649.out)) (g := gb650) (o := .cells #[.int .i64 a2_0, .int .i64 a2_1, .string a2_2] 23 (0, 0)) (by (with_reducible repeat (first | refine blk_drewN ?_ _ | refine blk_drew ?_ | refine blk_alloc ?_ _)); exact BK650.out)) (below_size (by repeat (first | (with_reducible first | exact HB.out | apply below_alloc | apply pw_below_drewN | apply below_drew1 | refine below_set ?_ GE648.out | refine below_set ?_ GE649.out | refine below_set ?_ GE650.out) | exact HB.out)))); have n4_ := Aside0.mk (blk_below (g := gb648) (o := .cells #[.int .i64 a0_0, .int .i64 a0_1, .string a0_2] 23 (0, 0)) (by (with_reducible repeat (first | refine blk_drewN ?_ _ | refine blk_drew ?_ | refine blk_alloc ?_ _)); exact BK648.out) hb); have n5_ := Aside0.mk (blk_below (g := gb649) (o := .cells #[.int .i64 a1_0, .int .i64 a1_1, .string a1_2] 23 (0, 0)) (by (with_reducible repeat (first | refine blk_drewN ?_ _ | refine blk_drew ?_ | refine blk_alloc ?_ _)); exact BK649.out) hb); have n6_ := Aside0.mk (blk_below (g := gb650) (o := .cells #[.int .i64 a2_0, .int .i64 a2_1, .string a2_2] 23 (0, 0)) (by (with_reducible repeat (first | refine blk_drewN ?_ _ | refine blk_drew ?_ | refine blk_alloc ?_ _)); exact BK650.out) hb); have n7_ := Aside0.mk (below_step (by repeat (first | (with_reducible first | exact HB.out | apply below_alloc | apply pw_below_drewN | apply below_drew1 | refine below_set ?_ GE648.out | refine below_set ?_ GE649.out | refine below_set ?_ GE650.out) | exact HB.out)) hb); clear HO662; clear HO665; clear HO669; clear BK648; clear BK649; clear BK650; clear HB; have HO662 := n0_; have HO665 := n1_; have HO669 := n2_; have HO672 := n3_; have BK648 := n4_; have BK649 := n5_; have BK650 := n6_; have HB := n7_; clear n0_ n1_ n2_ n3_ n4_ n5_ n6_ n7_; clear hb ho84; obtain ⟨Ao85, co85, eo85⟩ := Kd.R_slice HO669.out; subst eo85; obtain ⟨Ao86, co86, eo86⟩ := Kd.R_slice HO672.out; subst eo86) | (go_at_call 31; (with_reducible refine (value_CompareRows.calls kj38 _ _ y667 _ _ y670 t673 _ ?side1 ?side2 ?side3 ?side4 A62.out).mono ?_); (case side1 => repeat (first | exact (Kd.R_reads' HO669.out).2.2 | (with_reducible refine Kd.C_alloc ?_ _) | (with_reducible refine Kd.C_drewN ?_ _) | (with_reducible refine Kd.C_drew ?_))); (case side2 => exact (Kd.R_reads' HO669.out).2.1); (case side3 => repeat (first | exact (Kd.R_reads' HO672.out).2.2 | (with_reducible refine Kd.C_alloc ?_ _) | (with_reducible refine Kd.C_drewN ?_ _) | (with_reducible refine Kd.C_drew ?_))); (case side4 => exact (Kd.R_reads' HO672.out).2.1); rintro e w87 ⟨rfl, hb⟩; have n0_ := Aside0.mk (Kd.R_below (by (with_reducible repeat (first | apply Kd.R_alloc | apply Kd.R_drewN | apply Kd.R_drew)); exact HO662.out) hb); have n1_ := Aside0.mk (Kd.R_below (by (with_reducible repeat (first | apply Kd.R_alloc | apply Kd.R_drewN | apply Kd.R_drew)); exact HO665.out) hb); have n2_ := Aside0.mk (Kd.R_below (by (with_reducible repeat (first | apply Kd.R_alloc | apply Kd.R_drewN | apply Kd.R_drew)); exact HO669.out) hb); have n3_ := Aside0.mk (Kd.R_below (by (with_reducible repeat (first | apply Kd.R_alloc | apply Kd.R_drewN | apply Kd.R_drew)); exact HO672.out) hb); have n4_ := Aside0.mk (blk_below (g := gb648) (o := .cells #[.int .i64 a0_0, .int .i64 a0_1, .string a0_2] 23 (0, 0)) (by (with_reducible repeat (first | refine blk_drewN ?_ _ | refine blk_drew ?_ | refine blk_alloc ?_ _)); exact BK648.out) hb); have n5_ := Aside0.mk (blk_below (g := gb649) (o := .cells #[.int .i64 a1_0, .int .i64 a1_1, .string a1_2] 23 (0, 0)) (by (with_reducible repeat (first | refine blk_drewN ?_ _ | refine blk_drew ?_ | refine blk_alloc ?_ _)); exact BK649.out) hb); have n6_ := Aside0.mk (blk_below (g := gb650) (o := .cells #[.int .i64 a2_0, .int .i64 a2_1, .string a2_2] 23 (0, 0)) (by (with_reducible repeat (first | refine blk_drewN ?_ _ | refine blk_drew ?_ | refine blk_alloc ?_ _)); exact BK650.out) hb); have n7_ := Aside0.mk (below_step (by repeat (first | (with_reducible first | exact HB.out | apply below_alloc | apply pw_below_drewN | apply below_drew1 | refine below_set ?_ GE648.out | refine below_set ?_ GE649.out | refine below_set ?_ GE650.out) | exact HB.out)) hb); clear HO662; clear HO665; clear HO669; clear HO672; clear BK648; clear BK649; clear BK650; clear HB; have HO662 := n0_; have HO665 := n1_; have HO669 := n2_; have HO672 := n3_; have BK648 := n4_; have BK649 := n5_; have BK650 := n6_; have HB := n7_; clear n0_ n1_ n2_ n3_ n4_ n5_ n6_ n7_; (try clear hb); (try clear hb2); (try clear hk); (try clear hi)))
                    go_ret
                    exact ⟨by first | rfl | (simp [errW_none, errW_some] <;> rfl) | (simp [*, errW_none, errW_some] <;> rfl), by repeat (first | (with_reducible first | exact HB.out | apply below_alloc | apply pw_below_drewN | apply below_drew1 | refine below_set ?_ GE648.out | refine below_set ?_ GE649.out | refine below_set ?_ GE650.out) | exact HB.out)⟩
                  · rw [if_neg c61] at H
                    exact absurd H (by simp)
                · rw [if_neg c59] at H
                  have c59b0 : decide (0 < t655) = false := decide_eq_false c59
                  clear c59
                  by_cases c88 : t656 > 0
                  · rw [if_pos c88] at H
                    have c88b0 : decide (0 < t656) = true := decide_eq_true c88
                    clear c88
                    obtain ⟨y674, hy674⟩ : ∃ y_ : List (S23), y_ = (([(⟨a0_0, a0_1, a0_2⟩ : S23), (⟨a1_0, a1_1, a1_2⟩ : S23)] : List (S23))) := ⟨_, rfl⟩
                    replace H : ((value_CompareRows.f kj38 y674 (([(⟨a0_0, a0_1, a0_2⟩ : S23), (⟨a2_0, a2_1, a2_2⟩ : S23)] : List (S23)))).bind fun t680 => (if t680 = t656 then ((value_CompareRows.f kj38 (([(⟨a0_0, a0_1, a0_2⟩ : S23)] : List (S23))) (([(⟨a0_0, a0_1, a0_2⟩ : S23), (⟨a1_0, a1_1, a1_2⟩ : S23)] : List (S23)))).bind fun t687 => (some (t687 == (-1)))) else (none))) = some r := by first | (rw [hy674]; with_reducible exact H) | (have H2_ := (Option.bind_some _ _).symm.trans H; rw [hy674]; with_reducible exact H2_) | (have H2_ := (Option.bind_some _ _).symm.trans H; with_reducible exact H2_) | with_reducible exact H | (rw [hy674]; exact H) | exact H
                    have Ny674 := Aside0.mk hy674
                    clear hy674
                    obtain ⟨y677, hy677⟩ : ∃ y_ : List (S23), y_ = (([(⟨a0_0, a0_1, a0_2⟩ : S23), (⟨a2_0, a2_1, a2_2⟩ : S23)] : List (S23))) := ⟨_, rfl⟩
                    replace H : ((value_CompareRows.f kj38 y674 y677).bind fun t680 => (if t680 = t656 then ((value_CompareRows.f kj38 (([(⟨a0_0, a0_1, a0_2⟩ : S23)] : List (S23))) (([(⟨a0_0, a0_1, a0_2⟩ : S23), (⟨a1_0, a1_1, a1_2⟩ : S23)] : List (S23)))).bind fun t687 => (some (t687 == (-1)))) else (none))) = some r := by first | (rw [hy677]; with_reducible exact H) | (have H2_ := (Option.bind_some _ _).symm.trans H; rw [hy677]; with_reducible exact H2_) | (have H2_ := (Option.bind_some _ _).symm.trans H; with_reducible exact H2_) | with_reducible exact H | (rw [hy677]; exact H) | exact H
                    have Ny677 := Aside0.mk hy677
                    clear hy677
                    replace H := Option.bind_eq_some_iff.mp H
                    obtain ⟨t680, A890, H⟩ := H
                    replace H : (if t680 = t656 then ((value_CompareRows.f kj38 (([(⟨a0_0, a0_1, a0_2⟩ : S23)] : List (S23))) (([(⟨a0_0, a0_1, a0_2⟩ : S23), (⟨a1_0, a1_1, a1_2⟩ : S23)] : List (S23)))).bind fun t687 => (some (t687 == (-1)))) else (none)) = some r := H
                    have A89 := Aside0.mk A890
                    clear A890
                    by_cases c90 : t680 = t656
                    · rw [if_pos c90] at H
                      have c90b0 : (t680 == t656) = true := beq_iff_eq.mpr c90
                      have c90b1 : (t680 != t656) = false := bne_eq_false_iff_eq.mpr c90
                      clear c90
                      obtain ⟨y681, hy681⟩ : ∃ y_ : List (S23), y_ = (([(⟨a0_0, a0_1, a0_2⟩ : S23)] : List (S23))) := ⟨_, rfl⟩
                      replace H : ((value_CompareRows.f kj38 y681 (([(⟨a0_0, a0_1, a0_2⟩ : S23), (⟨a1_0, a1_1, a1_2⟩ : S23)] : List (S23)))).bind fun t687 => (some (t687 == (-1)))) = some r := by first | (rw [hy681]; with_reducible exact H) | (have H2_ := (Option.bind_some _ _).symm.trans H; rw [hy681]; with_reducible exact H2_) | (have H2_ := (Option.bind_some _ _).symm.trans H; with_reducible exact H2_) | with_reducible exact H | (rw [hy681]; exact H) | exact H
                      have Ny681 := Aside0.mk hy681
                      clear hy681
                      obtain ⟨y684, hy684⟩ : ∃ y_ : List (S23), y_ = (([(⟨a0_0, a0_1, a0_2⟩ : S23), (⟨a1_0, a1_1, a1_2⟩ : S23)] : List (S23))) := ⟨_, rfl⟩
                      replace H : ((value_CompareRows.f kj38 y681 y684).bind fun t687 => (some (t687 == (-1)))) = some r := by first | (rw [hy684]; with_reducible exact H) | (have H2_ := (Option.bind_some _ _).symm.trans H; rw [hy684]; with_reducible exact H2_) | (have H2_ := (Option.bind_some _ _).symm.trans H; with_reducible exact H2_) | with_reducible exact H | (rw [hy684]; exact H) | exact H
                      have Ny684 := Aside0.mk hy684
                      clear hy684
                      replace H := Option.bind_eq_some_iff.mp H
                      obtain ⟨t687, A910, H⟩ := H
                      replace H : (some (t687 == (-1))) = some r := H
                      have A91 := Aside0.mk A910
                      clear A910
                      obtain rfl := Option.some.inj H
                      go_wp2_with (first | ((with_reducible refine gate_callee (f := 12) rfl ?_); refine goesL_ (some 55) rfl rfl Tryd.func12 (by kernel_rfl) rfl #[] rfl (by (try simp only [List.map_toArray, List.map_cons, List.map_nil]); first | done | rfl | (simp only [List.length_drop, List.length_take]; rfl)) ?_; (with_reducible refine (alumlaw19_sanity.calls kj38  true _ A57.out).mono ?_); rintro e w92 ⟨rfl, hb⟩; refine ⟨_, rfl, ?_⟩; have n0_ := Aside0.mk (blk_below (g := gb648) (o := .cells #[.int .i64 a0_0, .int .i64 a0_1, .string a0_2] 23 (0, 0)) (by (with_reducible repeat (first | refine blk_drewN ?_ _ | refine blk_drew ?_ | refine blk_alloc ?_ _)); exact BK648.out) hb); have n1_ := Aside0.mk (blk_below (g := gb649) (o := .cells #[.int .i64 a1_0, .int .i64 a1_1, .string a1_2] 23 (0, 0)) (by (with_reducible repeat (first | refine blk_drewN ?_ _ | refine blk_drew ?_ | refine blk_alloc ?_ _)); exact BK649.out) hb); have n2_ := Aside0.mk (blk_below (g := gb650) (o := .cells #[.int .i64 a2_0, .int .i64 a2_1, .string a2_2] 23 (0, 0)) (by (with_reducible repeat (first | refine blk_drewN ?_ _ | refine blk_drew ?_ | refine blk_alloc ?_ _)); exact BK650.out) hb); have n3_ := Aside0.mk (below_step (by repeat (first | (with_reducible first | exact HB.out | apply below_alloc | apply pw_below_drewN | apply below_drew1 | refine below_set ?_ GE648.out | refine below_set ?_ GE649.out | refine below_set ?_ GE650.out) | exact HB.out)) hb); clear BK648; clear BK649; clear BK650; clear HB; have BK648 := n0_; have BK649 := n1_; have BK650 := n2_; have HB := n3_; clear n0_ n1_ n2_ n3_; (try clear hb); (try clear hb2); (try clear hk); (try clear hi); have hnb93 := NB648_649.out; have hnc93 := NB649_648.out; have hnb94 := NB648_650.out; have hnc94 := NB650_648.out; have hcz95_0 : w92.cell? ⟨gb648, 0, none⟩ = some (.int .i64 a0_0) := (blk_cell BK648.out 0).trans rfl; have hcz95_1 : w92.cell? ⟨gb648, 1, none⟩ = some (.int .i64 a0_1) := (blk_cell BK648.out 1).trans rfl; have hcz95_2 : w92.cell? ⟨gb648, 2, none⟩ = some (.string a0_2) := (blk_cell BK648.out 2).trans rfl; have hfz95_0 := blk_frozen BK648.out 0; have hfz95_1 := blk_frozen BK648.out 1; have hfz95_2 := blk_frozen BK648.out 2; have hnb96 := NB649_650.out; have hnc96 := NB650_649.out; have hcz97_0 : w92.cell? ⟨gb649, 0, none⟩ = some (.int .i64 a1_0) := (blk_cell BK649.out 0).trans rfl; have hcz97_1 : w92.cell? ⟨gb649, 1, none⟩ = some (.int .i64 a1_1) := (blk_cell BK649.out 1).trans rfl; have hcz97_2 : w92.cell? ⟨gb649, 2, none⟩ = some (.string a1_2) := (blk_cell BK649.out 2).trans rfl; have hfz97_0 := blk_frozen BK649.out 0; have hfz97_1 := blk_frozen BK649.out 1; have hfz97_2 := blk_frozen BK649.out 2) | ((with_reducible refine gate_dst (N := 83) rfl ?_); (try (refine gate_guard (by rfl) ?_; dsimp only)); refine Kd.R_lit k23 _ 23 ?hg (N := 83) ?hd (xs := ([(⟨a0_0, a0_1, a0_2⟩ : S23), (⟨a1_0, a1_1, a1_2⟩ : S23)] : List (S23))) (inner := [.int .i64 a0_0, .int .i64 a0_1, .string a0_2, .int .i64 a1_0, .int .i64 a1_1, .string a1_2]) (ok := fun _ => True) (okp := fun _ => True) ?hr ?hp (fun _ hk => hk) trivial (Below.refl _ _) (Nat.le_refl _) (by simp) ?_; (case hd => rfl); (case hg => rfl); (case hr => first | (go_simp; done) | (go_simp; rfl)); (case hp => exact (Reps.c3 (show Kd.M k23 _ _ _ (⟨a0_0, a0_1, a0_2⟩ : S23) [.int .i64 a0_0, .int .i64 a0_1, .string a0_2] from (k23_mkM _ _ _ (⟨a0_0, a0_1, a0_2⟩ : S23) )) (Reps.c3 (show Kd.M k23 _ _ _ (⟨a1_0, a1_1, a1_2⟩ : S23) [.int .i64 a1_0, .int .i64 a1_1, .string a1_2] from (k23_mkM _ _ _ (⟨a1_0, a1_1, a1_2⟩ : S23) )) (Reps.none _ _)))); intro v675 w98 ho99 hb hg_ hnew_; clear hg_ hnew_; (first | rw [← Ny674.out] at ho99 | (simp only [Int.reduceToNat] at ho99; rw [← Ny674.out] at ho99)); have n0_ := Aside0.mk (Kd.R_lower (Kd.R_newB (Kd.R_newB (Kd.R_newB ho99 (g := gb648) (o := .cells #[.int .i64 a0_0, .int .i64 a0_1, .string a0_2] 23 (0, 0)) (by (with_reducible repeat (first | refine blk_drewN ?_ _ | refine blk_drew ?_ | refine blk_alloc ?_ _)); exact BK648.out)) (g := gb649) (o := .cells #[.int .i64 a1_0, .int .i64 a1_1, .string a1_2] 23 (0, 0)) (by (with_reducible repeat (first | refine blk_drewN ?_ _ | refine blk_drew ?_ | refine blk_alloc ?_ _)); exact BK649.out)) (g := gb650) (o := .cells #[.int .i64 a2_0, .int .i64 a2_1, .string a2_2] 23 (0, 0)) (by (with_reducible repeat (first | refine blk_drewN ?_ _ | refine blk_drew ?_ | refine blk_alloc ?_ _)); exact BK650.out)) (below_size (by repeat (first | (with_reducible first | exact HB.out | apply below_alloc | apply pw_below_drewN | apply below_drew1 | refine below_set ?_ GE648.out | refine below_set ?_ GE649.out | refine below_set ?_ GE650.out) | exact HB.out)))); have n1_ := Aside0.mk (blk_below (g := gb648) (o := .cells #[.int .i64 a0_0, .int .i64 a0_1, .string a0_2] 23 (0, 0)) (by (with_reducible repeat (first | refine blk_drewN ?_ _ | refine blk_drew ?_ | refine blk_alloc ?_ _)); exact BK648.out) hb); have n2_ := Aside0.mk (blk_below (g := gb649) (o := .cells #[.int .i64 a1_0, .int .i64 a1_1, .string a1_2] 23 (0, 0)) (by (with_reducible repeat (first | refine blk_drewN ?_ _ | refine blk_drew ?_ | refine blk_alloc ?_ _)); exact BK649.out) hb); have n3_ := Aside0.mk (blk_below (g := gb650) (o := .cells #[.int .i64 a2_0, .int .i64 a2_1, .string a2_2] 23 (0, 0)) (by (with_reducible repeat (first | refine blk_drewN ?_ _ | refine blk_drew ?_ | refine blk_alloc ?_ _)); exact BK650.out) hb); have n4_ := Aside0.mk (below_step (by repeat (first | (with_reducible first | exact HB.out | apply below_alloc | apply pw_below_drewN | apply below_drew1 | refine below_set ?_ GE648.out | refine below_set ?_ GE649.out | refine below_set ?_ GE650.out) | exact HB.out)) hb); clear BK648; clear BK649; clear BK650; clear HB; have HO676 := n0_; have BK648 := n1_; have BK649 := n2_; have BK650 := n3_; have HB := n4_; clear n0_ n1_ n2_ n3_ n4_; clear hb ho99; have hcz100_0 : w98.cell? ⟨gb648, 0, none⟩ = some (.int .i64 a0_0) := (blk_cell BK648.out 0).trans rfl; have hcz100_1 : w98.cell? ⟨gb648, 1, none⟩ = some (.int .i64 a0_1) := (blk_cell BK648.out 1).trans rfl; have hcz100_2 : w98.cell? ⟨gb648, 2, none⟩ = some (.string a0_2) := (blk_cell BK648.out 2).trans rfl; have hfz100_0 := blk_frozen BK648.out 0; have hfz100_1 := blk_frozen BK648.out 1; have hfz100_2 := blk_frozen BK648.out 2; have hcz101_0 : w98.cell? ⟨gb650, 0, none⟩ = some (.int .i64 a2_0) := (blk_cell BK650.out 0).trans rfl; have hcz101_1 : w98.cell? ⟨gb650, 1, none⟩ = some (.int .i64 a2_1) := (blk_cell BK650.out 1).trans rfl; have hcz101_2 : w98.cell? ⟨gb650, 2, none⟩ = some (.string a2_2) := (blk_cell BK650.out 2).trans rfl; have hfz101_0 := blk_frozen BK650.out 0; have hfz101_1 := blk_frozen BK650.out 1; have hfz101_2 := blk_frozen BK650.out 2) | ((with_reducible refine gate_dst (N := 86) rfl ?_); (try (refine gate_guard (by rfl) ?_; dsimp only)); refine Kd.R_lit k23 _ 23 ?hg (N := 86) ?hd (xs := ([(⟨a0_0, a0_1, a0_2⟩ : S23), (⟨a2_0, a2_1, a2_2⟩ : S23)] : List (S23))) (inner := [.int .i64 a0_0, .int .i64 a0_1, .string a0_2, .int .i64 a2_0, .int .i64 a2_1, .string a2_2]) (ok := fun _ => True) (okp := fun _ => True) ?hr ?hp (fun _ hk => hk) trivial (Below.refl _ _) (Nat.le_refl _) (by simp) ?_; (case hd => rfl); (case hg => rfl); (case hr => first | (go_simp; done) | (go_simp; rfl)); (case hp => exact (Reps.c3 (show Kd.M k23 _ _ _ (⟨a0_0, a0_1, a0_2⟩ : S23) [.int .i64 a0_0, .int .i64 a0_1, .string a0_2] from (k23_mkM _ _ _ (⟨a0_0, a0_1, a0_2⟩ : S23) )) (Reps.c3 (show Kd.M k23 _ _ _ (⟨a2_0, a2_1, a2_2⟩ : S23) [.int .i64 a2_0, .int .i64 a2_1, .string a2_2] from (k23_mkM _ _ _ (⟨a2_0, a2_1, a2_2⟩ : S23) )) (Reps.none _ _)))); intro v678 w102 ho103 hb hg_ hnew_; clear hg_ hnew_; (first | rw [← Ny677.out] at ho103 | (simp only [Int.reduceToNat] at ho103; rw [← Ny677.out] at ho103)); have n0_ := Aside0.mk (Kd.R_elder' (by (with_reducible repeat (first | apply Kd.R_alloc | apply Kd.R_drewN | apply Kd.R_drew)); exact HO676.out) (Kd.R_base ho103) hb); have n1_ := Aside0.mk (Kd.R_lower (Kd.R_newB (Kd.R_newB (Kd.R_newB (Kd.R_new' ho103 (Kd.R_lt (by (with_reducible repeat (first | apply Kd.R_alloc | apply Kd.R_drewN | apply Kd.R_drew)); exact HO676.out))) (g := gb648) (o := .cells #[.int .i64 a0_0, .int .i64 a0_1, .string a0_2] 23 (0, 0)) (by (with_reducible repeat (first | refine blk_drewN ?_ _ | refine blk_drew ?_ | refine blk_alloc ?_ _)); exact BK648.out)) (g := gb649) (o := .cells #[.int .i64 a1_0, .int .i64 a1_1, .string a1_2] 23 (0, 0)) (by (with_reducible repeat (first | refine blk_drewN ?_ _ | refine blk_drew ?_ | refine blk_alloc ?_ _)); exact BK649.out)) (g := gb650) (o := .cells #[.int .i64 a2_0, .int .i64 a2_1, .string a2_2] 23 (0, 0)) (by (with_reducible repeat (first | refine blk_drewN ?_ _ | refine blk_drew ?_ | refine blk_alloc ?_ _)); exact BK650.out)) (below_size (by repeat (first | (with_reducible first | exact HB.out | apply below_alloc | apply pw_below_drewN | apply below_drew1 | refine below_set ?_ GE648.out | refine below_set ?_ GE649.out | refine below_set ?_ GE650.out) | exact HB.out)))); have n2_ := Aside0.mk (blk_below (g := gb648) (o := .cells #[.int .i64 a0_0, .int .i64 a0_1, .string a0_2] 23 (0, 0)) (by (with_reducible repeat (first | refine blk_drewN ?_ _ | refine blk_drew ?_ | refine blk_alloc ?_ _)); exact BK648.out) hb); have n3_ := Aside0.mk (blk_below (g := gb649) (o := .cells #[.int .i64 a1_0, .int .i64 a1_1, .string a1_2] 23 (0, 0)) (by (with_reducible repeat (first | refine blk_drewN ?_ _ | refine blk_drew ?_ | refine blk_alloc ?_ _)); exact BK649.out) hb); have n4_ := Aside0.mk (blk_below (g := gb650) (o := .cells #[.int .i64 a2_0, .int .i64 a2_1, .string a2_2] 23 (0, 0)) (by (with_reducible repeat (first | refine blk_drewN ?_ _ | refine blk_drew ?_ | refine blk_alloc ?_ _)); exact BK650.out) hb); have n5_ := Aside0.mk (below_step (by repeat (first | (with_reducible first | exact HB.out | apply below_alloc | apply pw_below_drewN | apply below_drew1 | refine below_set ?_ GE648.out | refine below_set ?_ GE649.out | refine below_set ?_ GE650.out) | exact HB.out)) hb); clear HO676; clear BK648; clear BK649; clear BK650; clear HB; have HO676 := n0_; have HO679 := n1_; have BK648 := n2_; have BK649 := n3_; have BK650 := n4_; have HB := n5_; clear n0_ n1_ n2_ n3_ n4_ n5_; clear hb ho103; obtain ⟨Ao104, co104, eo104⟩ := Kd.R_slice HO676.out; subst eo104; obtain ⟨Ao105, co105, eo105⟩ := Kd.R_slice HO679.out; subst eo105) | (go_at_call 31; (with_reducible refine (value_CompareRows.calls kj38 _ _ y674 _ _ y677 t680 _ ?side1 ?side2 ?side3 ?side4 A89.out).mono ?_); (case side1 => repeat (first | exact (Kd.R_reads' HO676.out).2.2 | (with_reducible refine Kd.C_alloc ?_ _) | (with_reducible refine Kd.C_drewN ?_ _) | (with_reducible refine Kd.C_drew ?_))); (case side2 => exact (Kd.R_reads' HO676.out).2.1); (case side3 => repeat (first | exact (Kd.R_reads' HO679.out).2.2 | (with_reducible refine Kd.C_alloc ?_ _) | (with_reducible refine Kd.C_drewN ?_ _) | (with_reducible refine Kd.C_drew ?_))); (case side4 => exact (Kd.R_reads' HO679.out).2.1); rintro e w106 ⟨rfl, hb⟩; have n0_ := Aside0.mk (Kd.R_below (by (with_reducible repeat (first | apply Kd.R_alloc | apply Kd.R_drewN | apply Kd.R_drew)); exact HO676.out) hb); have n1_ := Aside0.mk (Kd.R_below (by (with_reducible repeat (first | apply Kd.R_alloc | apply Kd.R_drewN | apply Kd.R_drew)); exact HO679.out) hb); have n2_ := Aside0.mk (blk_below (g := gb648) (o := .cells #[.int .i64 a0_0, .int .i64 a0_1, .string a0_2] 23 (0, 0)) (by (with_reducible repeat (first | refine blk_drewN ?_ _ | refine blk_drew ?_ | refine blk_alloc ?_ _)); exact BK648.out) hb); have n3_ := Aside0.mk (blk_below (g := gb649) (o := .cells #[.int .i64 a1_0, .int .i64 a1_1, .string a1_2] 23 (0, 0)) (by (with_reducible repeat (first | refine blk_drewN ?_ _ | refine blk_drew ?_ | refine blk_alloc ?_ _)); exact BK649.out) hb); have n4_ := Aside0.mk (blk_below (g := gb650) (o := .cells #[.int .i64 a2_0, .int .i64 a2_1, .string a2_2] 23 (0, 0)) (by (with_reducible repeat (first | refine blk_drewN ?_ _ | refine blk_drew ?_ | refine blk_alloc ?_ _)); exact BK650.out) hb); have n5_ := Aside0.mk (below_step (by repeat (first | (with_reducible first | exact HB.out | apply below_alloc | apply pw_below_drewN | apply below_drew1 | refine below_set ?_ GE648.out | refine below_set ?_ GE649.out | refine below_set ?_ GE650.out) | exact HB.out)) hb); clear HO676; clear HO679; clear BK648; clear BK649; clear BK650; clear HB; have HO676 := n0_; have HO679 := n1_; have BK648 := n2_; have BK649 := n3_; have BK650 := n4_; have HB := n5_; clear n0_ n1_ n2_ n3_ n4_ n5_; (try clear hb); (try clear hb2); (try clear hk); (try clear hi); have hcz107_0 : w106.cell? ⟨gb648, 0, none⟩ = some (.int .i64 a0_0) := (blk_cell BK648.out 0).trans rfl; have hcz107_1 : w106.cell? ⟨gb648, 1, none⟩ = some (.int .i64 a0_1) := (blk_cell BK648.out 1).trans rfl; have hcz107_2 : w106.cell? ⟨gb648, 2, none⟩ = some (.string a0_2) := (blk_cell BK648.out 2).trans rfl; have hfz107_0 := blk_frozen BK648.out 0; have hfz107_1 := blk_frozen BK648.out 1; have hfz107_2 := blk_frozen BK648.out 2) | ((with_reducible refine gate_dst (N := 93) rfl ?_); (try (refine gate_guard (by rfl) ?_; dsimp only)); refine Kd.R_lit k23 _ 23 ?hg (N := 93) ?hd (xs := ([(⟨a0_0, a0_1, a0_2⟩ : S23)] : List (S23))) (inner := [.int .i64 a0_0, .int .i64 a0_1, .string a0_2]) (ok := fun _ => True) (okp := fun _ => True) ?hr ?hp (fun _ hk => hk) trivial (Below.refl _ _) (Nat.le_refl _) (by simp) ?_; (case hd => rfl); (case hg => rfl); (case hr => first | (go_simp; done) | (go_simp; rfl)); (case hp => exact (Reps.c3 (show Kd.M k23 _ _ _ (⟨a0_0, a0_1, a0_2⟩ : S23) [.int .i64 a0_0, .int .i64 a0_1, .string a0_2] from (k23_mkM _ _ _ (⟨a0_0, a0_1, a0_2⟩ : S23) )) (Reps.none _ _))); intro v682 w108 ho109 hb hg_ hnew_; clear hg_ hnew_; (first | rw [← Ny681.out] at ho109 | (simp only [Int.reduceToNat] at ho109; rw [← Ny681.out] at ho109)); have n0_ := Aside0.mk (Kd.R_elder' (by (with_reducible repeat (first | apply Kd.R_alloc | apply Kd.R_drewN | apply Kd.R_drew)); exact HO676.out) (Kd.R_base ho109) hb); have n1_ := Aside0.mk (Kd.R_elder' (by (with_reducible repeat (first | apply Kd.R_alloc | apply Kd.R_drewN | apply Kd.R_drew)); exact HO679.out) (Kd.R_base ho109) hb); have n2_ := Aside0.mk (Kd.R_lower (Kd.R_newB (Kd.R_newB (Kd.R_newB (Kd.R_new' (Kd.R_new' ho109 (Kd.R_lt (by (with_reducible repeat (first | apply Kd.R_alloc | apply Kd.R_drewN | apply Kd.R_drew)); exact HO676.out))) (Kd.R_lt (by (with_reducible repeat (first | apply Kd.R_alloc | apply Kd.R_drewN | apply Kd.R_drew)); exact HO679.out))) (g := gb648) (o := .cells #[.int .i64 a0_0, .int .i64 a0_1, .string a0_2] 23 (0, 0)) (by (with_reducible repeat (first | refine blk_drewN ?_ _ | refine blk_drew ?_ | refine blk_alloc ?_ _)); exact BK648.out)) (g := gb649) (o := .cells #[.int .i64 a1_0, .int .i64 a1_1, .string a1_2] 23 (0, 0)) (by (with_reducible repeat (first | refine blk_drewN ?_ _ | refine blk_drew ?_ | refine blk_alloc ?_ _)); exact BK649.out)) (g := gb650) (o := .cells #[.int .i64 a2_0, .int .i64 a2_1, .string a2_2] 23 (0, 0)) (by (with_reducible repeat (first | refine blk_drewN ?_ _ | refine blk_drew ?_ | refine blk_alloc ?_ _)); exact BK650.out)) (below_size (by repeat (first | (with_reducible first | exact HB.out | apply below_alloc | apply pw_below_drewN | apply below_drew1 | refine below_set ?_ GE648.out | refine below_set ?_ GE649.out | refine below_set ?_ GE650.out) | exact HB.out)))); have n3_ := Aside0.mk (blk_below (g := gb648) (o := .cells #[.int .i64 a0_0, .int .i64 a0_1, .string a0_2] 23 (0, 0)) (by (with_reducible repeat (first | refine blk_drewN ?_ _ | refine blk_drew ?_ | refine blk_alloc ?_ _)); exact BK648.out) hb); have n4_ := Aside0.mk (blk_below (g := gb649) (o := .cells #[.int .i64 a1_0, .int .i64 a1_1, .string a1_2] 23 (0, 0)) (by (with_reducible repeat (first | refine blk_drewN ?_ _ | refine blk_drew ?_ | refine blk_alloc ?_ _)); exact BK649.out) hb); have n5_ := Aside0.mk (blk_below (g := gb650) (o := .cells #[.int .i64 a2_0, .int .i64 a2_1, .string a2_2] 23 (0, 0)) (by (with_reducible repeat (first | refine blk_drewN ?_ _ | refine blk_drew ?_ | refine blk_alloc ?_ _)); exact BK650.out) hb); have n6_ := Aside0.mk (below_step (by repeat (first | (with_reducible first | exact HB.out | apply below_alloc | apply pw_below_drewN | apply below_drew1 | refine below_set ?_ GE648.out | refine below_set ?_ GE649.out | refine below_set ?_ GE650.out) | exact HB.out)) hb); clear HO676; clear HO679; clear BK648; clear BK649; clear BK650; clear HB; have HO676 := n0_; have HO679 := n1_; have HO683 := n2_; have BK648 := n3_; have BK649 := n4_; have BK650 := n5_; have HB := n6_; clear n0_ n1_ n2_ n3_ n4_ n5_ n6_; clear hb ho109; have hcz110_0 : w108.cell? ⟨gb648, 0, none⟩ = some (.int .i64 a0_0) := (blk_cell BK648.out 0).trans rfl; have hcz110_1 : w108.cell? ⟨gb648, 1, none⟩ = some (.int .i64 a0_1) := (blk_cell BK648.out 1).trans rfl; have hcz110_2 : w108.cell? ⟨gb648, 2, none⟩ = some (.string a0_2) := (blk_cell BK648.out 2).trans rfl; have hfz110_0 := blk_frozen BK648.out 0; have hfz110_1 := blk_frozen BK648.out 1; have hfz110_2 := blk_frozen BK648.out 2; have hcz111_0 : w108.cell? ⟨gb649, 0, none⟩ = some (.int .i64 a1_0) := (blk_cell BK649.out 0).trans rfl; have hcz111_1 : w108.cell? ⟨gb649, 1, none⟩ = some (.int .i64 a1_1) := (blk_cell BK649.out 1).trans rfl; have hcz111_2 : w108.cell? ⟨gb649, 2, none⟩ = some (.string a1_2) := (blk_cell BK649.out 2).trans rfl; have hfz111_0 := blk_frozen BK649.out 0; have hfz111_1 := blk_frozen BK649.out 1; have hfz111_2 := blk_frozen BK649.out 2) | ((with_reducible refine gate_dst (N := 96) rfl ?_); (try (refine gate_guard (by rfl) ?_; dsimp only)); refine Kd.R_lit k23 _ 23 ?hg (N := 96) ?hd (xs := ([(⟨a0_0, a0_1, a0_2⟩ : S23), (⟨a1_0, a1_1, a1_2⟩ : S23)] : List (S23))) (inner := [.int .i64 a0_0, .int .i64 a0_1, .string a0_2, .int .i64 a1_0, .int .i64 a1_1, .string a1_2]) (ok := fun _ => True) (okp := fun _ => True) ?hr ?hp (fun _ hk => hk) trivial (Below.refl _ _) (Nat.le_refl _) (by simp) ?_; (case hd => rfl); (case hg => rfl); (case hr => first | (go_simp; done) | (go_simp; rfl)); (case hp => exact (Reps.c3 (show Kd.M k23 _ _ _ (⟨a0_0, a0_1, a0_2⟩ : S23) [.int .i64 a0_0, .int .i64 a0_1, .string a0_2] from (k23_mkM _ _ _ (⟨a0_0, a0_1, a0_2⟩ : S23) )) (Reps.c3 (show Kd.M k23 _ _ _ (⟨a1_0, a1_1, a1_2⟩ : S23) [.int .i64 a1_0, .int .i64 a1_1, .string a1_2] from (k23_mkM _ _ _ (⟨a1_0, a1_1, a1_2⟩ : S23) )) (Reps.none _ _)))); intro v685 w112 ho113 hb hg_ hnew_; clear hg_ hnew_; (first | rw [← Ny684.out] at ho113 | (simp only [Int.reduceToNat] at ho113; rw [← Ny684.out] at ho113)); have n0_ := Aside0.mk (Kd.R_elder' (by (with_reducible repeat (first | apply Kd.R_alloc | apply Kd.R_drewN | apply Kd.R_drew)); exact HO676.out) (Kd.R_base ho113) hb); have n1_ := Aside0.mk (Kd.R_elder' (by (with_reducible repeat (first | apply Kd.R_alloc | apply Kd.R_drewN | apply Kd.R_drew)); exact HO679.out) (Kd.R_base ho113) hb); have n2_ := Aside0.mk (Kd.R_elder' (by (with_reducible repeat (first | apply Kd.R_alloc | apply Kd.R_drewN | apply Kd.R_drew)); exact HO683.out) (Kd.R_base ho113) hb); have n3_ := Aside0.mk (Kd.R_lower (Kd.R_newB (Kd.R_newB (Kd.R_newB (Kd.R_new' (Kd.R_new' (Kd.R_new' ho113 (Kd.R_lt (by (with_reducible repeat (first | apply Kd.R_alloc | apply Kd.R_drewN | apply Kd.R_drew)); exact HO676.out))) (Kd.R_lt (by (with_reducible repeat (first | apply Kd.R_alloc | apply Kd.R_drewN | apply Kd.R_drew)); exact HO679.out))) (Kd.R_lt (by (with_reducible repeat (first | apply Kd.R_alloc | apply Kd.R_drewN | apply Kd.R_drew)); exact HO683.out))) (g := gb648) (o := .cells #[.int .i64 a0_0, .int .i64 a0_1, .string a0_2] 23 (0, 0)) (by (with_reducible repeat (first | refine blk_drewN ?_ _ | refine blk_drew ?_ | refine blk_alloc ?_ _)); exact BK648.out)) (g := gb649) (o := .cells #[.int .i64 a1_0, .int .i64 a1_1, .string a1_2] 23 (0, 0)) (by (with_reducible repeat (first | refine blk_drewN ?_ _ | refine blk_drew ?_ | refine blk_alloc ?_ _)); exact BK649.out)) (g := gb650) (o := .cells #[.int .i64 a2_0, .int .i64 a2_1, .string a2_2] 23 (0, 0)) (by (with_reducible repeat (first | refine blk_drewN ?_ _ | refine blk_drew ?_ | refine blk_alloc ?_ _)); exact BK650.out)) (below_size (by repeat (first | (with_reducible first | exact HB.out | apply below_alloc | apply pw_below_drewN | apply below_drew1 | refine below_set ?_ GE648.out | refine below_set ?_ GE649.out | refine below_set ?_ GE650.out) | exact HB.out)))); have n4_ := Aside0.mk (blk_below (g := gb648) (o := .cells #[.int .i64 a0_0, .int .i64 a0_1, .string a0_2] 23 (0, 0)) (by (with_reducible repeat (first | refine blk_drewN ?_ _ | refine blk_drew ?_ | refine blk_alloc ?_ _)); exact BK648.out) hb); have n5_ := Aside0.mk (blk_below (g := gb649) (o := .cells #[.int .i64 a1_0, .int .i64 a1_1, .string a1_2] 23 (0, 0)) (by (with_reducible repeat (first | refine blk_drewN ?_ _ | refine blk_drew ?_ | refine blk_alloc ?_ _)); exact BK649.out) hb); have n6_ := Aside0.mk (blk_below (g := gb650) (o := .cells #[.int .i64 a2_0, .int .i64 a2_1, .string a2_2] 23 (0, 0)) (by (with_reducible repeat (first | refine blk_drewN ?_ _ | refine blk_drew ?_ | refine blk_alloc ?_ _)); exact BK650.out) hb); have n7_ := Aside0.mk (below_step (by repeat (first | (with_reducible first | exact HB.out | apply below_alloc | apply pw_below_drewN | apply below_drew1 | refine below_set ?_ GE648.out | refine below_set ?_ GE649.out | refine below_set ?_ GE650.out) | exact HB.out)) hb); clear HO676; clear HO679; clear HO683; clear BK648; clear BK649; clear BK650; clear HB; have HO676 := n0_; have HO679 := n1_; have HO683 := n2_; have HO686 := n3_; have BK648 := n4_; have BK649 := n5_; have BK650 := n6_; have HB := n7_; clear n0_ n1_ n2_ n3_ n4_ n5_ n6_ n7_; clear hb ho113; obtain ⟨Ao114, co114, eo114⟩ := Kd.R_slice HO683.out; subst eo114; obtain ⟨Ao115, co115, eo115⟩ := Kd.R_slice HO686.out; subst eo115) | (go_at_call 31; (with_reducible refine (value_CompareRows.calls kj38 _ _ y681 _ _ y684 t687 _ ?side1 ?side2 ?side3 ?side4 A91.out).mono ?_); (case side1 => repeat (first | exact (Kd.R_reads' HO683.out).2.2 | (with_reducible refine Kd.C_alloc ?_ _) | (with_reducible refine Kd.C_drewN ?_ _) | (with_reducible refine Kd.C_drew ?_))); (case side2 => exact (Kd.R_reads' HO683.out).2.1); (case side3 => repeat (first | exact (Kd.R_reads' HO686.out).2.2 | (with_reducible refine Kd.C_alloc ?_ _) | (with_reducible refine Kd.C_drewN ?_ _) | (with_reducible refine Kd.C_drew ?_))); (case side4 => exact (Kd.R_reads' HO686.out).2.1); rintro e w116 ⟨rfl, hb⟩; have n0_ := Aside0.mk (Kd.R_below (by (with_reducible repeat (first | apply Kd.R_alloc | apply Kd.R_drewN | apply Kd.R_drew)); exact HO676.out) hb); have n1_ := Aside0.mk (Kd.R_below (by (with_reducible repeat (first | apply Kd.R_alloc | apply Kd.R_drewN | apply Kd.R_drew)); exact HO679.out) hb); have n2_ := Aside0.mk (Kd.R_below (by (with_reducible repeat (first | apply Kd.R_alloc | apply Kd.R_drewN | apply Kd.R_drew)); exact HO683.out) hb); have n3_ := Aside0.mk (Kd.R_below (by (with_reducible repeat (first | apply Kd.R_alloc | apply Kd.R_drewN | apply Kd.R_drew)); exact HO686.out) hb); have n4_ := Aside0.mk (blk_below (g := gb648) (o := .cells #[.int .i64 a0_0, .int .i64 a0_1, .string a0_2] 23 (0, 0)) (by (with_reducible repeat (first | refine blk_drewN ?_ _ | refine blk_drew ?_ | refine blk_alloc ?_ _)); exact BK648.out) hb); have n5_ := Aside0.mk (blk_below (g := gb649) (o := .cells #[.int .i64 a1_0, .int .i64 a1_1, .string a1_2] 23 (0, 0)) (by (with_reducible repeat (first | refine blk_drewN ?_ _ | refine blk_drew ?_ | refine blk_alloc ?_ _)); exact BK649.out) hb); have n6_ := Aside0.mk (blk_below (g := gb650) (o := .cells #[.int .i64 a2_0, .int .i64 a2_1, .string a2_2] 23 (0, 0)) (by (with_reducible repeat (first | refine blk_drewN ?_ _ | refine blk_drew ?_ | refine blk_alloc ?_ _)); exact BK650.out) hb); have n7_ := Aside0.mk (below_step (by repeat (first | (with_reducible first | exact HB.out | apply below_alloc | apply pw_below_drewN | apply below_drew1 | refine below_set ?_ GE648.out | refine below_set ?_ GE649.out | refine below_set ?_ GE650.out) | exact HB.out)) hb); clear HO676; clear HO679; clear HO683; clear HO686; clear BK648; clear BK649; clear BK650; clear HB; have HO676 := n0_; have HO679 := n1_; have HO683 := n2_; have HO686 := n3_; have BK648 := n4_; have BK649 := n5_; have BK650 := n6_; have HB := n7_; clear n0_ n1_ n2_ n3_ n4_ n5_ n6_ n7_; (try clear hb); (try clear hb2); (try clear hk); (try clear hi)))
                      go_ret
                      exact ⟨by first | rfl | (simp [errW_none, errW_some] <;> rfl) | (simp [*, errW_none, errW_some] <;> rfl), by repeat (first | (with_reducible first | exact HB.out | apply below_alloc | apply pw_below_drewN | apply below_drew1 | refine below_set ?_ GE648.out | refine below_set ?_ GE649.out | refine below_set ?_ GE650.out) | exact HB.out)⟩
                    · rw [if_neg c90] at H
                      exact absurd H (by simp)
                  · rw [if_neg c88] at H
                    have c88b0 : decide (0 < t656) = false := decide_eq_false c88
                    clear c88
                    by_cases c117 : t657 ≤ 0
                    · rw [if_pos c117] at H
                      have c117b0 : decide (t657 ≤ 0) = true := decide_eq_true c117
                      clear c117
                      by_cases c118 : t655 = 0
                      · rw [if_pos c118] at H
                        have c118b0 : (t655 == 0) = true := beq_iff_eq.mpr c118
                        have c118b1 : (t655 != 0) = false := bne_eq_false_iff_eq.mpr c118
                        clear c118
                        by_cases c119 : t656 = 0
                        · rw [if_pos c119] at H
                          have c119b0 : (t656 == 0) = true := beq_iff_eq.mpr c119
                          have c119b1 : (t656 != 0) = false := bne_eq_false_iff_eq.mpr c119
                          clear c119
                          obtain ⟨y688, hy688⟩ : ∃ y_ : List (S23), y_ = (([(⟨a0_0, a0_1, a0_2⟩ : S23), (⟨a1_0, a1_1, a1_2⟩ : S23)] : List (S23))) := ⟨_, rfl⟩
                          replace H : ((value_CompareRows.f kj38 y688 (([(⟨a0_0, a0_1, a0_2⟩ : S23), (⟨a2_0, a2_1, a2_2⟩ : S23)] : List (S23)))).bind fun t694 => (if t694 = t656 then ((value_CompareRows.f kj38 (([(⟨a0_0, a0_1, a0_2⟩ : S23)] : List (S23))) (([(⟨a0_0, a0_1, a0_2⟩ : S23), (⟨a1_0, a1_1, a1_2⟩ : S23)] : List (S23)))).bind fun t701 => (some (t701 == (-1)))) else (none))) = some r := by first | (rw [hy688]; with_reducible exact H) | (have H2_ := (Option.bind_some _ _).symm.trans H; rw [hy688]; with_reducible exact H2_) | (have H2_ := (Option.bind_some _ _).symm.trans H; with_reducible exact H2_) | with_reducible exact H | (rw [hy688]; exact H) | exact H
                          have Ny688 := Aside0.mk hy688
                          clear hy688
                          obtain ⟨y691, hy691⟩ : ∃ y_ : List (S23), y_ = (([(⟨a0_0, a0_1, a0_2⟩ : S23), (⟨a2_0, a2_1, a2_2⟩ : S23)] : List (S23))) := ⟨_, rfl⟩
                          replace H : ((value_CompareRows.f kj38 y688 y691).bind fun t694 => (if t694 = t656 then ((value_CompareRows.f kj38 (([(⟨a0_0, a0_1, a0_2⟩ : S23)] : List (S23))) (([(⟨a0_0, a0_1, a0_2⟩ : S23), (⟨a1_0, a1_1, a1_2⟩ : S23)] : List (S23)))).bind fun t701 => (some (t701 == (-1)))) else (none))) = some r := by first | (rw [hy691]; with_reducible exact H) | (have H2_ := (Option.bind_some _ _).symm.trans H; rw [hy691]; with_reducible exact H2_) | (have H2_ := (Option.bind_some _ _).symm.trans H; with_reducible exact H2_) | with_reducible exact H | (rw [hy691]; exact H) | exact H
                          have Ny691 := Aside0.mk hy691
                          clear hy691
                          replace H := Option.bind_eq_some_iff.mp H
                          obtain ⟨t694, A1200, H⟩ := H
                          replace H : (if t694 = t656 then ((value_CompareRows.f kj38 (([(⟨a0_0, a0_1, a0_2⟩ : S23)] : List (S23))) (([(⟨a0_0, a0_1, a0_2⟩ : S23), (⟨a1_0, a1_1, a1_2⟩ : S23)] : List (S23)))).bind fun t701 => (some (t701 == (-1)))) else (none)) = some r := H
                          have A120 := Aside0.mk A1200
                          clear A1200
                          by_cases c121 : t694 = t656
                          · rw [if_pos c121] at H
                            have c121b0 : (t694 == t656) = true := beq_iff_eq.mpr c121
                            have c121b1 : (t694 != t656) = false := bne_eq_false_iff_eq.mpr c121
                            clear c121
                            obtain ⟨y695, hy695⟩ : ∃ y_ : List (S23), y_ = (([(⟨a0_0, a0_1, a0_2⟩ : S23)] : List (S23))) := ⟨_, rfl⟩
                            replace H : ((value_CompareRows.f kj38 y695 (([(⟨a0_0, a0_1, a0_2⟩ : S23), (⟨a1_0, a1_1, a1_2⟩ : S23)] : List (S23)))).bind fun t701 => (some (t701 == (-1)))) = some r := by first | (rw [hy695]; with_reducible exact H) | (have H2_ := (Option.bind_some _ _).symm.trans H; rw [hy695]; with_reducible exact H2_) | (have H2_ := (Option.bind_some _ _).symm.trans H; with_reducible exact H2_) | with_reducible exact H | (rw [hy695]; exact H) | exact H
                            have Ny695 := Aside0.mk hy695
                            clear hy695
                            obtain ⟨y698, hy698⟩ : ∃ y_ : List (S23), y_ = (([(⟨a0_0, a0_1, a0_2⟩ : S23), (⟨a1_0, a1_1, a1_2⟩ : S23)] : List (S23))) := ⟨_, rfl⟩
                            replace H : ((value_CompareRows.f kj38 y695 y698).bind fun t701 => (some (t701 == (-1)))) = some r := by first | (rw [hy698]; with_reducible exact H) | (have H2_ := (Option.bind_some _ _).symm.trans H; rw [hy698]; with_reducible exact H2_) | (have H2_ := (Option.bind_some _ _).symm.trans H; with_reducible exact H2_) | with_reducible exact H | (rw [hy698]; exact H) | exact H
                            have Ny698 := Aside0.mk hy698
                            clear hy698
                            replace H := Option.bind_eq_some_iff.mp H
                            obtain ⟨t701, A1220, H⟩ := H
                            replace H : (some (t701 == (-1))) = some r := H
                            have A122 := Aside0.mk A1220
                            clear A1220
                            obtain rfl := Option.some.inj H
                            go_wp2_with (first | ((with_reducible refine gate_callee (f := 12) rfl ?_); refine goesL_ (some 55) rfl rfl Tryd.func12 (by kernel_rfl) rfl #[] rfl (by (try simp only [List.map_toArray, List.map_cons, List.map_nil]); first | done | rfl | (simp only [List.length_drop, List.length_take]; rfl)) ?_; (with_reducible refine (alumlaw19_sanity.calls kj38  true _ A57.out).mono ?_); rintro e w123 ⟨rfl, hb⟩; refine ⟨_, rfl, ?_⟩; have n0_ := Aside0.mk (blk_below (g := gb648) (o := .cells #[.int .i64 a0_0, .int .i64 a0_1, .string a0_2] 23 (0, 0)) (by (with_reducible repeat (first | refine blk_drewN ?_ _ | refine blk_drew ?_ | refine blk_alloc ?_ _)); exact BK648.out) hb); have n1_ := Aside0.mk (blk_below (g := gb649) (o := .cells #[.int .i64 a1_0, .int .i64 a1_1, .string a1_2] 23 (0, 0)) (by (with_reducible repeat (first | refine blk_drewN ?_ _ | refine blk_drew ?_ | refine blk_alloc ?_ _)); exact BK649.out) hb); have n2_ := Aside0.mk (blk_below (g := gb650) (o := .cells #[.int .i64 a2_0, .int .i64 a2_1, .string a2_2] 23 (0, 0)) (by (with_reducible repeat (first | refine blk_drewN ?_ _ | refine blk_drew ?_ | refine blk_alloc ?_ _)); exact BK650.out) hb); have n3_ := Aside0.mk (below_step (by repeat (first | (with_reducible first | exact HB.out | apply below_alloc | apply pw_below_drewN | apply below_drew1 | refine below_set ?_ GE648.out | refine below_set ?_ GE649.out | refine below_set ?_ GE650.out) | exact HB.out)) hb); clear BK648; clear BK649; clear BK650; clear HB; have BK648 := n0_; have BK649 := n1_; have BK650 := n2_; have HB := n3_; clear n0_ n1_ n2_ n3_; (try clear hb); (try clear hb2); (try clear hk); (try clear hi); have hnb124 := NB648_649.out; have hnc124 := NB649_648.out; have hnb125 := NB648_650.out; have hnc125 := NB650_648.out; have hcz126_0 : w123.cell? ⟨gb648, 0, none⟩ = some (.int .i64 a0_0) := (blk_cell BK648.out 0).trans rfl; have hcz126_1 : w123.cell? ⟨gb648, 1, none⟩ = some (.int .i64 a0_1) := (blk_cell BK648.out 1).trans rfl; have hcz126_2 : w123.cell? ⟨gb648, 2, none⟩ = some (.string a0_2) := (blk_cell BK648.out 2).trans rfl; have hfz126_0 := blk_frozen BK648.out 0; have hfz126_1 := blk_frozen BK648.out 1; have hfz126_2 := blk_frozen BK648.out 2; have hnb127 := NB649_650.out; have hnc127 := NB650_649.out; have hcz128_0 : w123.cell? ⟨gb649, 0, none⟩ = some (.int .i64 a1_0) := (blk_cell BK649.out 0).trans rfl; have hcz128_1 : w123.cell? ⟨gb649, 1, none⟩ = some (.int .i64 a1_1) := (blk_cell BK649.out 1).trans rfl; have hcz128_2 : w123.cell? ⟨gb649, 2, none⟩ = some (.string a1_2) := (blk_cell BK649.out 2).trans rfl; have hfz128_0 := blk_frozen BK649.out 0; have hfz128_1 := blk_frozen BK649.out 1; have hfz128_2 := blk_frozen BK649.out 2) | ((with_reducible refine gate_dst (N := 83) rfl ?_); (try (refine gate_guard (by rfl) ?_; dsimp only)); refine Kd.R_lit k23 _ 23 ?hg (N := 83) ?hd (xs := ([(⟨a0_0, a0_1, a0_2⟩ : S23), (⟨a1_0, a1_1, a1_2⟩ : S23)] : List (S23))) (inner := [.int .i64 a0_0, .int .i64 a0_1, .string a0_2, .int .i64 a1_0, .int .i64 a1_1, .string a1_2]) (ok := fun _ => True) (okp := fun _ => True) ?hr ?hp (fun _ hk => hk) trivial (Below.refl _ _) (Nat.le_refl _) (by simp) ?_; (case hd => rfl); (case hg => rfl); (case hr => first | (go_simp; done) | (go_simp; rfl)); (case hp => exact (Reps.c3 (show Kd.M k23 _ _ _ (⟨a0_0, a0_1, a0_2⟩ : S23) [.int .i64 a0_0, .int .i64 a0_1, .string a0_2] from (k23_mkM _ _ _ (⟨a0_0, a0_1, a0_2⟩ : S23) )) (Reps.c3 (show Kd.M k23 _ _ _ (⟨a1_0, a1_1, a1_2⟩ : S23) [.int .i64 a1_0, .int .i64 a1_1, .string a1_2] from (k23_mkM _ _ _ (⟨a1_0, a1_1, a1_2⟩ : S23) )) (Reps.none _ _)))); intro v689 w129 ho130 hb hg_ hnew_; clear hg_ hnew_; (first | rw [← Ny688.out] at ho130 | (simp only [Int.reduceToNat] at ho130; rw [← Ny688.out] at ho130)); have n0_ := Aside0.mk (Kd.R_lower (Kd.R_newB (Kd.R_newB (Kd.R_newB ho130 (g := gb648) (o := .cells #[.int .i64 a0_0, .int .i64 a0_1, .string a0_2] 23 (0, 0)) (by (with_reducible repeat (first | refine blk_drewN ?_ _ | refine blk_drew ?_ | refine blk_alloc ?_ _)); exact BK648.out)) (g := gb649) (o := .cells #[.int .i64 a1_0, .int .i64 a1_1, .string a1_2] 23 (0, 0)) (by (with_reducible repeat (first | refine blk_drewN ?_ _ | refine blk_drew ?_ | refine blk_alloc ?_ _)); exact BK649.out)) (g := gb650) (o := .cells #[.int .i64 a2_0, .int .i64 a2_1, .string a2_2] 23 (0, 0)) (by (with_reducible repeat (first | refine blk_drewN ?_ _ | refine blk_drew ?_ | refine blk_alloc ?_ _)); exact BK650.out)) (below_size (by repeat (first | (with_reducible first | exact HB.out | apply below_alloc | apply pw_below_drewN | apply below_drew1 | refine below_set ?_ GE648.out | refine below_set ?_ GE649.out | refine below_set ?_ GE650.out) | exact HB.out)))); have n1_ := Aside0.mk (blk_below (g := gb648) (o := .cells #[.int .i64 a0_0, .int .i64 a0_1, .string a0_2] 23 (0, 0)) (by (with_reducible repeat (first | refine blk_drewN ?_ _ | refine blk_drew ?_ | refine blk_alloc ?_ _)); exact BK648.out) hb); have n2_ := Aside0.mk (blk_below (g := gb649) (o := .cells #[.int .i64 a1_0, .int .i64 a1_1, .string a1_2] 23 (0, 0)) (by (with_reducible repeat (first | refine blk_drewN ?_ _ | refine blk_drew ?_ | refine blk_alloc ?_ _)); exact BK649.out) hb); have n3_ := Aside0.mk (blk_below (g := gb650) (o := .cells #[.int .i64 a2_0, .int .i64 a2_1, .string a2_2] 23 (0, 0)) (by (with_reducible repeat (first | refine blk_drewN ?_ _ | refine blk_drew ?_ | refine blk_alloc ?_ _)); exact BK650.out) hb); have n4_ := Aside0.mk (below_step (by repeat (first | (with_reducible first | exact HB.out | apply below_alloc | apply pw_below_drewN | apply below_drew1 | refine below_set ?_ GE648.out | refine below_set ?_ GE649.out | refine below_set ?_ GE650.out) | exact HB.out)) hb); clear BK648; clear BK649; clear BK650; clear HB; have HO690 := n0_; have BK648 := n1_; have BK649 := n2_; have BK650 := n3_; have HB := n4_; clear n0_ n1_ n2_ n3_ n4_; clear hb ho130; have hcz131_0 : w129.cell? ⟨gb648, 0, none⟩ = some (.int .i64 a0_0) := (blk_cell BK648.out 0).trans rfl; have hcz131_1 : w129.cell? ⟨gb648, 1, none⟩ = some (.int .i64 a0_1) := (blk_cell BK648.out 1).trans rfl; have hcz131_2 : w129.cell? ⟨gb648, 2, none⟩ = some (.string a0_2) := (blk_cell BK648.out 2).trans rfl; have hfz131_0 := blk_frozen BK648.out 0; have hfz131_1 := blk_frozen BK648.out 1; have hfz131_2 := blk_frozen BK648.out 2; have hcz132_0 : w129.cell? ⟨gb650, 0, none⟩ = some (.int .i64 a2_0) := (blk_cell BK650.out 0).trans rfl; have hcz132_1 : w129.cell? ⟨gb650, 1, none⟩ = some (.int .i64 a2_1) := (blk_cell BK650.out 1).trans rfl; have hcz132_2 : w129.cell? ⟨gb650, 2, none⟩ = some (.string a2_2) := (blk_cell BK650.out 2).trans rfl; have hfz132_0 := blk_frozen BK650.out 0; have hfz132_1 := blk_frozen BK650.out 1; have hfz132_2 := blk_frozen BK650.out 2) | ((with_reducible refine gate_dst (N := 86) rfl ?_); (try (refine gate_guard (by rfl) ?_; dsimp only)); refine Kd.R_lit k23 _ 23 ?hg (N := 86) ?hd (xs := ([(⟨a0_0, a0_1, a0_2⟩ : S23), (⟨a2_0, a2_1, a2_2⟩ : S23)] : List (S23))) (inner := [.int .i64 a0_0, .int .i64 a0_1, .string a0_2, .int .i64 a2_0, .int .i64 a2_1, .string a2_2]) (ok := fun _ => True) (okp := fun _ => True) ?hr ?hp (fun _ hk => hk) trivial (Below.refl _ _) (Nat.le_refl _) (by simp) ?_; (case hd => rfl); (case hg => rfl); (case hr => first | (go_simp; done) | (go_simp; rfl)); (case hp => exact (Reps.c3 (show Kd.M k23 _ _ _ (⟨a0_0, a0_1, a0_2⟩ : S23) [.int .i64 a0_0, .int .i64 a0_1, .string a0_2] from (k23_mkM _ _ _ (⟨a0_0, a0_1, a0_2⟩ : S23) )) (Reps.c3 (show Kd.M k23 _ _ _ (⟨a2_0, a2_1, a2_2⟩ : S23) [.int .i64 a2_0, .int .i64 a2_1, .string a2_2] from (k23_mkM _ _ _ (⟨a2_0, a2_1, a2_2⟩ : S23) )) (Reps.none _ _)))); intro v692 w133 ho134 hb hg_ hnew_; clear hg_ hnew_; (first | rw [← Ny691.out] at ho134 | (simp only [Int.reduceToNat] at ho134; rw [← Ny691.out] at ho134)); have n0_ := Aside0.mk (Kd.R_elder' (by (with_reducible repeat (first | apply Kd.R_alloc | apply Kd.R_drewN | apply Kd.R_drew)); exact HO690.out) (Kd.R_base ho134) hb); have n1_ := Aside0.mk (Kd.R_lower (Kd.R_newB (Kd.R_newB (Kd.R_newB (Kd.R_new' ho134 (Kd.R_lt (by (with_reducible repeat (first | apply Kd.R_alloc | apply Kd.R_drewN | apply Kd.R_drew)); exact HO690.out))) (g := gb648) (o := .cells #[.int .i64 a0_0, .int .i64 a0_1, .string a0_2] 23 (0, 0)) (by (with_reducible repeat (first | refine blk_drewN ?_ _ | refine blk_drew ?_ | refine blk_alloc ?_ _)); exact BK648.out)) (g := gb649) (o := .cells #[.int .i64 a1_0, .int .i64 a1_1, .string a1_2] 23 (0, 0)) (by (with_reducible repeat (first | refine blk_drewN ?_ _ | refine blk_drew ?_ | refine blk_alloc ?_ _)); exact BK649.out)) (g := gb650) (o := .cells #[.int .i64 a2_0, .int .i64 a2_1, .string a2_2] 23 (0, 0)) (by (with_reducible repeat (first | refine blk_drewN ?_ _ | refine blk_drew ?_ | refine blk_alloc ?_ _)); exact BK650.out)) (below_size (by repeat (first | (with_reducible first | exact HB.out | apply below_alloc | apply pw_below_drewN | apply below_drew1 | refine below_set ?_ GE648.out | refine below_set ?_ GE649.out | refine below_set ?_ GE650.out) | exact HB.out)))); have n2_ := Aside0.mk (blk_below (g := gb648) (o := .cells #[.int .i64 a0_0, .int .i64 a0_1, .string a0_2] 23 (0, 0)) (by (with_reducible repeat (first | refine blk_drewN ?_ _ | refine blk_drew ?_ | refine blk_alloc ?_ _)); exact BK648.out) hb); have n3_ := Aside0.mk (blk_below (g := gb649) (o := .cells #[.int .i64 a1_0, .int .i64 a1_1, .string a1_2] 23 (0, 0)) (by (with_reducible repeat (first | refine blk_drewN ?_ _ | refine blk_drew ?_ | refine blk_alloc ?_ _)); exact BK649.out) hb); have n4_ := Aside0.mk (blk_below (g := gb650) (o := .cells #[.int .i64 a2_0, .int .i64 a2_1, .string a2_2] 23 (0, 0)) (by (with_reducible repeat (first | refine blk_drewN ?_ _ | refine blk_drew ?_ | refine blk_alloc ?_ _)); exact BK650.out) hb); have n5_ := Aside0.mk (below_step (by repeat (first | (with_reducible first | exact HB.out | apply below_alloc | apply pw_below_drewN | apply below_drew1 | refine below_set ?_ GE648.out | refine below_set ?_ GE649.out | refine below_set ?_ GE650.out) | exact HB.out)) hb); clear HO690; clear BK648; clear BK649; clear BK650; clear HB; have HO690 := n0_; have HO693 := n1_; have BK648 := n2_; have BK649 := n3_; have BK650 := n4_; have HB := n5_; clear n0_ n1_ n2_ n3_ n4_ n5_; clear hb ho134; obtain ⟨Ao135, co135, eo135⟩ := Kd.R_slice HO690.out; subst eo135; obtain ⟨Ao136, co136, eo136⟩ := Kd.R_slice HO693.out; subst eo136) | (go_at_call 31; (with_reducible refine (value_CompareRows.calls kj38 _ _ y688 _ _ y691 t694 _ ?side1 ?side2 ?side3 ?side4 A120.out).mono ?_); (case side1 => repeat (first | exact (Kd.R_reads' HO690.out).2.2 | (with_reducible refine Kd.C_alloc ?_ _) | (with_reducible refine Kd.C_drewN ?_ _) | (with_reducible refine Kd.C_drew ?_))); (case side2 => exact (Kd.R_reads' HO690.out).2.1); (case side3 => repeat (first | exact (Kd.R_reads' HO693.out).2.2 | (with_reducible refine Kd.C_alloc ?_ _) | (with_reducible refine Kd.C_drewN ?_ _) | (with_reducible refine Kd.C_drew ?_))); (case side4 => exact (Kd.R_reads' HO693.out).2.1); rintro e w137 ⟨rfl, hb⟩; have n0_ := Aside0.mk (Kd.R_below (by (with_reducible repeat (first | apply Kd.R_alloc | apply Kd.R_drewN | apply Kd.R_drew)); exact HO690.out) hb); have n1_ := Aside0.mk (Kd.R_below (by (with_reducible repeat (first | apply Kd.R_alloc | apply Kd.R_drewN | apply Kd.R_drew)); exact HO693.out) hb); have n2_ := Aside0.mk (blk_below (g := gb648) (o := .cells #[.int .i64 a0_0, .int .i64 a0_1, .string a0_2] 23 (0, 0)) (by (with_reducible repeat (first | refine blk_drewN ?_ _ | refine blk_drew ?_ | refine blk_alloc ?_ _)); exact BK648.out) hb); have n3_ := Aside0.mk (blk_below (g := gb649) (o := .cells #[.int .i64 a1_0, .int .i64 a1_1, .string a1_2] 23 (0, 0)) (by (with_reducible repeat (first | refine blk_drewN ?_ _ | refine blk_drew ?_ | refine blk_alloc ?_ _)); exact BK649.out) hb); have n4_ := Aside0.mk (blk_below (g := gb650) (o := .cells #[.int .i64 a2_0, .int .i64 a2_1, .string a2_2] 23 (0, 0)) (by (with_reducible repeat (first | refine blk_drewN ?_ _ | refine blk_drew ?_ | refine blk_alloc ?_ _)); exact BK650.out) hb); have n5_ := Aside0.mk (below_step (by repeat (first | (with_reducible first | exact HB.out | apply below_alloc | apply pw_below_drewN | apply below_drew1 | refine below_set ?_ GE648.out | refine below_set ?_ GE649.out | refine below_set ?_ GE650.out) | exact HB.out)) hb); clear HO690; clear HO693; clear BK648; clear BK649; clear BK650; clear HB; have HO690 := n0_; have HO693 := n1_; have BK648 := n2_; have BK649 := n3_; have BK650 := n4_; have HB := n5_; clear n0_ n1_ n2_ n3_ n4_ n5_; (try clear hb); (try clear hb2); (try clear hk); (try clear hi); have hcz138_0 : w137.cell? ⟨gb648, 0, none⟩ = some (.int .i64 a0_0) := (blk_cell BK648.out 0).trans rfl; have hcz138_1 : w137.cell? ⟨gb648, 1, none⟩ = some (.int .i64 a0_1) := (blk_cell BK648.out 1).trans rfl; have hcz138_2 : w137.cell? ⟨gb648, 2, none⟩ = some (.string a0_2) := (blk_cell BK648.out 2).trans rfl; have hfz138_0 := blk_frozen BK648.out 0; have hfz138_1 := blk_frozen BK648.out 1; have hfz138_2 := blk_frozen BK648.out 2) | ((with_reducible refine gate_dst (N := 93) rfl ?_); (try (refine gate_guard (by rfl) ?_; dsimp only)); refine Kd.R_lit k23 _ 23 ?hg (N := 93) ?hd (xs := ([(⟨a0_0, a0_1, a0_2⟩ : S23)] : List (S23))) (inner := [.int .i64 a0_0, .int .i64 a0_1, .string a0_2]) (ok := fun _ => True) (okp := fun _ => True) ?hr ?hp (fun _ hk => hk) trivial (Below.refl _ _) (Nat.le_refl _) (by simp) ?_; (case hd => rfl); (case hg => rfl); (case hr => first | (go_simp; done) | (go_simp; rfl)); (case hp => exact (Reps.c3 (show Kd.M k23 _ _ _ (⟨a0_0, a0_1, a0_2⟩ : S23) [.int .i64 a0_0, .int .i64 a0_1, .string a0_2] from (k23_mkM _ _ _ (⟨a0_0, a0_1, a0_2⟩ : S23) )) (Reps.none _ _))); intro v696 w139 ho140 hb hg_ hnew_; clear hg_ hnew_; (first | rw [← Ny695.out] at ho140 | (simp only [Int.reduceToNat] at ho140; rw [← Ny695.out] at ho140)); have n0_ := Aside0.mk (Kd.R_elder' (by (with_reducible repeat (first | apply Kd.R_alloc | apply Kd.R_drewN | apply Kd.R_drew)); exact HO690.out) (Kd.R_base ho140) hb); have n1_ := Aside0.mk (Kd.R_elder' (by (with_reducible repeat (first | apply Kd.R_alloc | apply Kd.R_drewN | apply Kd.R_drew)); exact HO693.out) (Kd.R_base ho140) hb); have n2_ := Aside0.mk (Kd.R_lower (Kd.R_newB (Kd.R_newB (Kd.R_newB (Kd.R_new' (Kd.R_new' ho140 (Kd.R_lt (by (with_reducible repeat (first | apply Kd.R_alloc | apply Kd.R_drewN | apply Kd.R_drew)); exact HO690.out))) (Kd.R_lt (by (with_reducible repeat (first | apply Kd.R_alloc | apply Kd.R_drewN | apply Kd.R_drew)); exact HO693.out))) (g := gb648) (o := .cells #[.int .i64 a0_0, .int .i64 a0_1, .string a0_2] 23 (0, 0)) (by (with_reducible repeat (first | refine blk_drewN ?_ _ | refine blk_drew ?_ | refine blk_alloc ?_ _)); exact BK648.out)) (g := gb649) (o := .cells #[.int .i64 a1_0, .int .i64 a1_1, .string a1_2] 23 (0, 0)) (by (with_reducible repeat (first | refine blk_drewN ?_ _ | refine blk_drew ?_ | refine blk_alloc ?_ _)); exact BK649.out)) (g := gb650) (o := .cells #[.int .i64 a2_0, .int .i64 a2_1, .string a2_2] 23 (0, 0)) (by (with_reducible repeat (first | refine blk_drewN ?_ _ | refine blk_drew ?_ | refine blk_alloc ?_ _)); exact BK650.out)) (below_size (by repeat (first | (with_reducible first | exact HB.out | apply below_alloc | apply pw_below_drewN | apply below_drew1 | refine below_set ?_ GE648.out | refine below_set ?_ GE649.out | refine below_set ?_ GE650.out) | exact HB.out)))); have n3_ := Aside0.mk (blk_below (g := gb648) (o := .cells #[.int .i64 a0_0, .int .i64 a0_1, .string a0_2] 23 (0, 0)) (by (with_reducible repeat (first | refine blk_drewN ?_ _ | refine blk_drew ?_ | refine blk_alloc ?_ _)); exact BK648.out) hb); have n4_ := Aside0.mk (blk_below (g := gb649) (o := .cells #[.int .i64 a1_0, .int .i64 a1_1, .string a1_2] 23 (0, 0)) (by (with_reducible repeat (first | refine blk_drewN ?_ _ | refine blk_drew ?_ | refine blk_alloc ?_ _)); exact BK649.out) hb); have n5_ := Aside0.mk (blk_below (g := gb650) (o := .cells #[.int .i64 a2_0, .int .i64 a2_1, .string a2_2] 23 (0, 0)) (by (with_reducible repeat (first | refine blk_drewN ?_ _ | refine blk_drew ?_ | refine blk_alloc ?_ _)); exact BK650.out) hb); have n6_ := Aside0.mk (below_step (by repeat (first | (with_reducible first | exact HB.out | apply below_alloc | apply pw_below_drewN | apply below_drew1 | refine below_set ?_ GE648.out | refine below_set ?_ GE649.out | refine below_set ?_ GE650.out) | exact HB.out)) hb); clear HO690; clear HO693; clear BK648; clear BK649; clear BK650; clear HB; have HO690 := n0_; have HO693 := n1_; have HO697 := n2_; have BK648 := n3_; have BK649 := n4_; have BK650 := n5_; have HB := n6_; clear n0_ n1_ n2_ n3_ n4_ n5_ n6_; clear hb ho140; have hcz141_0 : w139.cell? ⟨gb648, 0, none⟩ = some (.int .i64 a0_0) := (blk_cell BK648.out 0).trans rfl; have hcz141_1 : w139.cell? ⟨gb648, 1, none⟩ = some (.int .i64 a0_1) := (blk_cell BK648.out 1).trans rfl; have hcz141_2 : w139.cell? ⟨gb648, 2, none⟩ = some (.string a0_2) := (blk_cell BK648.out 2).trans rfl; have hfz141_0 := blk_frozen BK648.out 0; have hfz141_1 := blk_frozen BK648.out 1; have hfz141_2 := blk_frozen BK648.out 2; have hcz142_0 : w139.cell? ⟨gb649, 0, none⟩ = some (.int .i64 a1_0) := (blk_cell BK649.out 0).trans rfl; have hcz142_1 : w139.cell? ⟨gb649, 1, none⟩ = some (.int .i64 a1_1) := (blk_cell BK649.out 1).trans rfl; have hcz142_2 : w139.cell? ⟨gb649, 2, none⟩ = some (.string a1_2) := (blk_cell BK649.out 2).trans rfl; have hfz142_0 := blk_frozen BK649.out 0; have hfz142_1 := blk_frozen BK649.out 1; have hfz142_2 := blk_frozen BK649.out 2) | ((with_reducible refine gate_dst (N := 96) rfl ?_); (try (refine gate_guard (by rfl) ?_; dsimp only)); refine Kd.R_lit k23 _ 23 ?hg (N := 96) ?hd (xs := ([(⟨a0_0, a0_1, a0_2⟩ : S23), (⟨a1_0, a1_1, a1_2⟩ : S23)] : List (S23))) (inner := [.int .i64 a0_0, .int .i64 a0_1, .string a0_2, .int .i64 a1_0, .int .i64 a1_1, .string a1_2]) (ok := fun _ => True) (okp := fun _ => True) ?hr ?hp (fun _ hk => hk) trivial (Below.refl _ _) (Nat.le_refl _) (by simp) ?_; (case hd => rfl); (case hg => rfl); (case hr => first | (go_simp; done) | (go_simp; rfl)); (case hp => exact (Reps.c3 (show Kd.M k23 _ _ _ (⟨a0_0, a0_1, a0_2⟩ : S23) [.int .i64 a0_0, .int .i64 a0_1, .string a0_2] from (k23_mkM _ _ _ (⟨a0_0, a0_1, a0_2⟩ : S23) )) (Reps.c3 (show Kd.M k23 _ _ _ (⟨a1_0, a1_1, a1_2⟩ : S23) [.int .i64 a1_0, .int .i64 a1_1, .string a1_2] from (k23_mkM _ _ _ (⟨a1_0, a1_1, a1_2⟩ : S23) )) (Reps.none _ _)))); intro v699 w143 ho144 hb hg_ hnew_; clear hg_ hnew_; (first | rw [← Ny698.out] at ho144 | (simp only [Int.reduceToNat] at ho144; rw [← Ny698.out] at ho144)); have n0_ := Aside0.mk (Kd.R_elder' (by (with_reducible repeat (first | apply Kd.R_alloc | apply Kd.R_drewN | apply Kd.R_drew)); exact HO690.out) (Kd.R_base ho144) hb); have n1_ := Aside0.mk (Kd.R_elder' (by (with_reducible repeat (first | apply Kd.R_alloc | apply Kd.R_drewN | apply Kd.R_drew)); exact HO693.out) (Kd.R_base ho144) hb); have n2_ := Aside0.mk (Kd.R_elder' (by (with_reducible repeat (first | apply Kd.R_alloc | apply Kd.R_drewN | apply Kd.R_drew)); exact HO697.out) (Kd.R_base ho144) hb); have n3_ := Aside0.mk (Kd.R_lower (Kd.R_newB (Kd.R_newB (Kd.R_newB (Kd.R_new' (Kd.R_new' (Kd.R_new' ho144 (Kd.R_lt (by (with_reducible repeat (first | apply Kd.R_alloc | apply Kd.R_drewN | apply Kd.R_drew)); exact HO690.out))) (Kd.R_lt (by (with_reducible repeat (first | apply Kd.R_alloc | apply Kd.R_drewN | apply Kd.R_drew)); exact HO693.out))) (Kd.R_lt (by (with_reducible repeat (first | apply Kd.R_alloc | apply Kd.R_drewN | apply Kd.R_drew)); exact HO697.out))) (g := gb648) (o := .cells #[.int .i64 a0_0, .int .i64 a0_1, .string a0_2] 23 (0, 0)) (by (with_reducible repeat (first | refine blk_drewN ?_ _ | refine blk_drew ?_ | refine blk_alloc ?_ _)); exact BK648.out)) (g := gb649) (o := .cells #[.int .i64 a1_0, .int .i64 a1_1, .string a1_2] 23 (0, 0)) (by (with_reducible repeat (first | refine blk_drewN ?_ _ | refine blk_drew ?_ | refine blk_alloc ?_ _)); exact BK649.out)) (g := gb650) (o := .cells #[.int .i64 a2_0, .int .i64 a2_1, .string a2_2] 23 (0, 0)) (by (with_reducible repeat (first | refine blk_drewN ?_ _ | refine blk_drew ?_ | refine blk_alloc ?_ _)); exact BK650.out)) (below_size (by repeat (first | (with_reducible first | exact HB.out | apply below_alloc | apply pw_below_drewN | apply below_drew1 | refine below_set ?_ GE648.out | refine below_set ?_ GE649.out | refine below_set ?_ GE650.out) | exact HB.out)))); have n4_ := Aside0.mk (blk_below (g := gb648) (o := .cells #[.int .i64 a0_0, .int .i64 a0_1, .string a0_2] 23 (0, 0)) (by (with_reducible repeat (first | refine blk_drewN ?_ _ | refine blk_drew ?_ | refine blk_alloc ?_ _)); exact BK648.out) hb); have n5_ := Aside0.mk (blk_below (g := gb649) (o := .cells #[.int .i64 a1_0, .int .i64 a1_1, .string a1_2] 23 (0, 0)) (by (with_reducible repeat (first | refine blk_drewN ?_ _ | refine blk_drew ?_ | refine blk_alloc ?_ _)); exact BK649.out) hb); have n6_ := Aside0.mk (blk_below (g := gb650) (o := .cells #[.int .i64 a2_0, .int .i64 a2_1, .string a2_2] 23 (0, 0)) (by (with_reducible repeat (first | refine blk_drewN ?_ _ | refine blk_drew ?_ | refine blk_alloc ?_ _)); exact BK650.out) hb); have n7_ := Aside0.mk (below_step (by repeat (first | (with_reducible first | exact HB.out | apply below_alloc | apply pw_below_drewN | apply below_drew1 | refine below_set ?_ GE648.out | refine below_set ?_ GE649.out | refine below_set ?_ GE650.out) | exact HB.out)) hb); clear HO690; clear HO693; clear HO697; clear BK648; clear BK649; clear BK650; clear HB; have HO690 := n0_; have HO693 := n1_; have HO697 := n2_; have HO700 := n3_; have BK648 := n4_; have BK649 := n5_; have BK650 := n6_; have HB := n7_; clear n0_ n1_ n2_ n3_ n4_ n5_ n6_ n7_; clear hb ho144; obtain ⟨Ao145, co145, eo145⟩ := Kd.R_slice HO697.out; subst eo145; obtain ⟨Ao146, co146, eo146⟩ := Kd.R_slice HO700.out; subst eo146) | (go_at_call 31; (with_reducible refine (value_CompareRows.calls kj38 _ _ y695 _ _ y698 t701 _ ?side1 ?side2 ?side3 ?side4 A122.out).mono ?_); (case side1 => repeat (first | exact (Kd.R_reads' HO697.out).2.2 | (with_reducible refine Kd.C_alloc ?_ _) | (with_reducible refine Kd.C_drewN ?_ _) | (with_reducible refine Kd.C_drew ?_))); (case side2 => exact (Kd.R_reads' HO697.out).2.1); (case side3 => repeat (first | exact (Kd.R_reads' HO700.out).2.2 | (with_reducible refine Kd.C_alloc ?_ _) | (with_reducible refine Kd.C_drewN ?_ _) | (with_reducible refine Kd.C_drew ?_))); (case side4 => exact (Kd.R_reads' HO700.out).2.1); rintro e w147 ⟨rfl, hb⟩; have n0_ := Aside0.mk (Kd.R_below (by (with_reducible repeat (first | apply Kd.R_alloc | apply Kd.R_drewN | apply Kd.R_drew)); exact HO690.out) hb); have n1_ := Aside0.mk (Kd.R_below (by (with_reducible repeat (first | apply Kd.R_alloc | apply Kd.R_drewN | apply Kd.R_drew)); exact HO693.out) hb); have n2_ := Aside0.mk (Kd.R_below (by (with_reducible repeat (first | apply Kd.R_alloc | apply Kd.R_drewN | apply Kd.R_drew)); exact HO697.out) hb); have n3_ := Aside0.mk (Kd.R_below (by (with_reducible repeat (first | apply Kd.R_alloc | apply Kd.R_drewN | apply Kd.R_drew)); exact HO700.out) hb); have n4_ := Aside0.mk (blk_below (g := gb648) (o := .cells #[.int .i64 a0_0, .int .i64 a0_1, .string a0_2] 23 (0, 0)) (by (with_reducible repeat (first | refine blk_drewN ?_ _ | refine blk_drew ?_ | refine blk_alloc ?_ _)); exact BK648.out) hb); have n5_ := Aside0.mk (blk_below (g := gb649) (o := .cells #[.int .i64 a1_0, .int .i64 a1_1, .string a1_2] 23 (0, 0)) (by (with_reducible repeat (first | refine blk_drewN ?_ _ | refine blk_drew ?_ | refine blk_alloc ?_ _)); exact BK649.out) hb); have n6_ := Aside0.mk (blk_below (g := gb650) (o := .cells #[.int .i64 a2_0, .int .i64 a2_1, .string a2_2] 23 (0, 0)) (by (with_reducible repeat (first | refine blk_drewN ?_ _ | refine blk_drew ?_ | refine blk_alloc ?_ _)); exact BK650.out) hb); have n7_ := Aside0.mk (below_step (by repeat (first | (with_reducible first | exact HB.out | apply below_alloc | apply pw_below_drewN | apply below_drew1 | refine below_set ?_ GE648.out | refine below_set ?_ GE649.out | refine below_set ?_ GE650.out) | exact HB.out)) hb); clear HO690; clear HO693; clear HO697; clear HO700; clear BK648; clear BK649; clear BK650; clear HB; have HO690 := n0_; have HO693 := n1_; have HO697 := n2_; have HO700 := n3_; have BK648 := n4_; have BK649 := n5_; have BK650 := n6_; have HB := n7_; clear n0_ n1_ n2_ n3_ n4_ n5_ n6_ n7_; (try clear hb); (try clear hb2); (try clear hk); (try clear hi)))
                            go_ret
                            exact ⟨by first | rfl | (simp [errW_none, errW_some] <;> rfl) | (simp [*, errW_none, errW_some] <;> rfl), by repeat (first | (with_reducible first | exact HB.out | apply below_alloc | apply pw_below_drewN | apply below_drew1 | refine below_set ?_ GE648.out | refine below_set ?_ GE649.out | refine below_set ?_ GE650.out) | exact HB.out)⟩
                          · rw [if_neg c121] at H
                            exact absurd H (by simp)
                        · rw [if_neg c119] at H
                          have c119b0 : (t656 == 0) = false := beq_eq_false_iff_ne.mpr c119
                          have c119b1 : (t656 != 0) = true := bne_iff_ne.mpr c119
                          by_cases c148 : t657 < 0
                          · rw [if_pos c148] at H
                            have c148b0 : decide (t657 < 0) = true := decide_eq_true c148
                            clear c148
                            obtain ⟨y702, hy702⟩ : ∃ y_ : List (S23), y_ = (([(⟨a0_0, a0_1, a0_2⟩ : S23), (⟨a1_0, a1_1, a1_2⟩ : S23)] : List (S23))) := ⟨_, rfl⟩
                            replace H : ((value_CompareRows.f kj38 y702 (([(⟨a0_0, a0_1, a0_2⟩ : S23), (⟨a2_0, a2_1, a2_2⟩ : S23)] : List (S23)))).bind fun t708 => (if t708 = t656 then ((value_CompareRows.f kj38 (([(⟨a0_0, a0_1, a0_2⟩ : S23)] : List (S23))) (([(⟨a0_0, a0_1, a0_2⟩ : S23), (⟨a1_0, a1_1, a1_2⟩ : S23)] : List (S23)))).bind fun t715 => (some (t715 == (-1)))) else (none))) = some r := by first | (rw [hy702]; with_reducible exact H) | (have H2_ := (Option.bind_some _ _).symm.trans H; rw [hy702]; with_reducible exact H2_) | (have H2_ := (Option.bind_some _ _).symm.trans H; with_reducible exact H2_) | with_reducible exact H | (rw [hy702]; exact H) | exact H
                            have Ny702 := Aside0.mk hy702
                            clear hy702
                            obtain ⟨y705, hy705⟩ : ∃ y_ : List (S23), y_ = (([(⟨a0_0, a0_1, a0_2⟩ : S23), (⟨a2_0, a2_1, a2_2⟩ : S23)] : List (S23))) := ⟨_, rfl⟩
                            replace H : ((value_CompareRows.f kj38 y702 y705).bind fun t708 => (if t708 = t656 then ((value_CompareRows.f kj38 (([(⟨a0_0, a0_1, a0_2⟩ : S23)] : List (S23))) (([(⟨a0_0, a0_1, a0_2⟩ : S23), (⟨a1_0, a1_1, a1_2⟩ : S23)] : List (S23)))).bind fun t715 => (some (t715 == (-1)))) else (none))) = some r := by first | (rw [hy705]; with_reducible exact H) | (have H2_ := (Option.bind_some _ _).symm.trans H; rw [hy705]; with_reducible exact H2_) | (have H2_ := (Option.bind_some _ _).symm.trans H; with_reducible exact H2_) | with_reducible exact H | (rw [hy705]; exact H) | exact H
                            have Ny705 := Aside0.mk hy705
                            clear hy705
                            replace H := Option.bind_eq_some_iff.mp H
                            obtain ⟨t708, A1490, H⟩ := H
                            replace H : (if t708 = t656 then ((value_CompareRows.f kj38 (([(⟨a0_0, a0_1, a0_2⟩ : S23)] : List (S23))) (([(⟨a0_0, a0_1, a0_2⟩ : S23), (⟨a1_0, a1_1, a1_2⟩ : S23)] : List (S23)))).bind fun t715 => (some (t715 == (-1)))) else (none)) = some r := H
                            have A149 := Aside0.mk A1490
                            clear A1490
                            by_cases c150 : t708 = t656
                            · rw [if_pos c150] at H
                              have c150b0 : (t708 == t656) = true := beq_iff_eq.mpr c150
                              have c150b1 : (t708 != t656) = false := bne_eq_false_iff_eq.mpr c150
                              clear c150
                              obtain ⟨y709, hy709⟩ : ∃ y_ : List (S23), y_ = (([(⟨a0_0, a0_1, a0_2⟩ : S23)] : List (S23))) := ⟨_, rfl⟩
                              replace H : ((value_CompareRows.f kj38 y709 (([(⟨a0_0, a0_1, a0_2⟩ : S23), (⟨a1_0, a1_1, a1_2⟩ : S23)] : List (S23)))).bind fun t715 => (some (t715 == (-1)))) = some r := by first | (rw [hy709]; with_reducible exact H) | (have H2_ := (Option.bind_some _ _).symm.trans H; rw [hy709]; with_reducible exact H2_) | (have H2_ := (Option.bind_some _ _).symm.trans H; with_reducible exact H2_) | with_reducible exact H | (rw [hy709]; exact H) | exact H
                              have Ny709 := Aside0.mk hy709
                              clear hy709
                              obtain ⟨y712, hy712⟩ : ∃ y_ : List (S23), y_ = (([(⟨a0_0, a0_1, a0_2⟩ : S23), (⟨a1_0, a1_1, a1_2⟩ : S23)] : List (S23))) := ⟨_, rfl⟩
                              replace H : ((value_CompareRows.f kj38 y709 y712).bind fun t715 => (some (t715 == (-1)))) = some r := by first | (rw [hy712]; with_reducible exact H) | (have H2_ := (Option.bind_some _ _).symm.trans H; rw [hy712]; with_reducible exact H2_) | (have H2_ := (Option.bind_some _ _).symm.trans H; with_reducible exact H2_) | with_reducible exact H | (rw [hy712]; exact H) | exact H
                              have Ny712 := Aside0.mk hy712
                              clear hy712
                              replace H := Option.bind_eq_some_iff.mp H
                              obtain ⟨t715, A1510, H⟩ := H
                              replace H : (some (t715 == (-1))) = some r := H
                              have A151 := Aside0.mk A1510
                              clear A1510
                              obtain rfl := Option.some.inj H
                              go_wp2_with (first | ((with_reducible refine gate_callee (f := 12) rfl ?_); refine goesL_ (some 55) rfl rfl Tryd.func12 (by kernel_rfl) rfl #[] rfl (by (try simp only [List.map_toArray, List.map_cons, List.map_nil]); first | done | rfl | (simp only [List.length_drop, List.length_take]; rfl)) ?_; (with_reducible refine (alumlaw19_sanity.calls kj38  true _ A57.out).mono ?_); rintro e w152 ⟨rfl, hb⟩; refine ⟨_, rfl, ?_⟩; have n0_ := Aside0.mk (blk_below (g := gb648) (o := .cells #[.int .i64 a0_0, .int .i64 a0_1, .string a0_2] 23 (0, 0)) (by (with_reducible repeat (first | refine blk_drewN ?_ _ | refine blk_drew ?_ | refine blk_alloc ?_ _)); exact BK648.out) hb); have n1_ := Aside0.mk (blk_below (g := gb649) (o := .cells #[.int .i64 a1_0, .int .i64 a1_1, .string a1_2] 23 (0, 0)) (by (with_reducible repeat (first | refine blk_drewN ?_ _ | refine blk_drew ?_ | refine blk_alloc ?_ _)); exact BK649.out) hb); have n2_ := Aside0.mk (blk_below (g := gb650) (o := .cells #[.int .i64 a2_0, .int .i64 a2_1, .string a2_2] 23 (0, 0)) (by (with_reducible repeat (first | refine blk_drewN ?_ _ | refine blk_drew ?_ | refine blk_alloc ?_ _)); exact BK650.out) hb); have n3_ := Aside0.mk (below_step (by repeat (first | (with_reducible first | exact HB.out | apply below_alloc | apply pw_below_drewN | apply below_drew1 | refine below_set ?_ GE648.out | refine below_set ?_ GE649.out | refine below_set ?_ GE650.out) | exact HB.out)) hb); clear BK648; clear BK649; clear BK650; clear HB; have BK648 := n0_; have BK649 := n1_; have BK650 := n2_; have HB := n3_; clear n0_ n1_ n2_ n3_; (try clear hb); (try clear hb2); (try clear hk); (try clear hi); have hnb153 := NB648_649.out; have hnc153 := NB649_648.out; have hnb154 := NB648_650.out; have hnc154 := NB650_648.out; have hcz155_0 : w152.cell? ⟨gb648, 0, none⟩ = some (.int .i64 a0_0) := (blk_cell BK648.out 0).trans rfl; have hcz155_1 : w152.cell? ⟨gb648, 1, none⟩ = some (.int .i64 a0_1) := (blk_cell BK648.out 1).trans rfl; have hcz155_2 : w152.cell? ⟨gb648, 2, none⟩ = some (.string a0_2) := (blk_cell BK648.out 2).trans rfl; have hfz155_0 := blk_frozen BK648.out 0; have hfz155_1 := blk_frozen BK648.out 1; have hfz155_2 := blk_frozen BK648.out 2; have hnb156 := NB649_650.out; have hnc156 := NB650_649.out; have hcz157_0 : w152.cell? ⟨gb649, 0, none⟩ = some (.int .i64 a1_0) := (blk_cell BK649.out 0).trans rfl; have hcz157_1 : w152.cell? ⟨gb649, 1, none⟩ = some (.int .i64 a1_1) := (blk_cell BK649.out 1).trans rfl; have hcz157_2 : w152.cell? ⟨gb649, 2, none⟩ = some (.string a1_2) := (blk_cell BK649.out 2).trans rfl; have hfz157_0 := blk_frozen BK649.out 0; have hfz157_1 := blk_frozen BK649.out 1; have hfz157_2 := blk_frozen BK649.out 2) | ((with_reducible refine gate_dst (N := 83) rfl ?_); (try (refine gate_guard (by rfl) ?_; dsimp only)); refine Kd.R_lit k23 _ 23 ?hg (N := 83) ?hd (xs := ([(⟨a0_0, a0_1, a0_2⟩ : S23), (⟨a1_0, a1_1, a1_2⟩ : S23)] : List (S23))) (inner := [.int .i64 a0_0, .int .i64 a0_1, .string a0_2, .int .i64 a1_0, .int .i64 a1_1, .string a1_2]) (ok := fun _ => True) (okp := fun _ => True) ?hr ?hp (fun _ hk => hk) trivial (Below.refl _ _) (Nat.le_refl _) (by simp) ?_; (case hd => rfl); (case hg => rfl); (case hr => first | (go_simp; done) | (go_simp; rfl)); (case hp => exact (Reps.c3 (show Kd.M k23 _ _ _ (⟨a0_0, a0_1, a0_2⟩ : S23) [.int .i64 a0_0, .int .i64 a0_1, .string a0_2] from (k23_mkM _ _ _ (⟨a0_0, a0_1, a0_2⟩ : S23) )) (Reps.c3 (show Kd.M k23 _ _ _ (⟨a1_0, a1_1, a1_2⟩ : S23) [.int .i64 a1_0, .int .i64 a1_1, .string a1_2] from (k23_mkM _ _ _ (⟨a1_0, a1_1, a1_2⟩ : S23) )) (Reps.none _ _)))); intro v703 w158 ho159 hb hg_ hnew_; clear hg_ hnew_; (first | rw [← Ny702.out] at ho159 | (simp only [Int.reduceToNat] at ho159; rw [← Ny702.out] at ho159)); have n0_ := Aside0.mk (Kd.R_lower (Kd.R_newB (Kd.R_newB (Kd.R_newB ho159 (g := gb648) (o := .cells #[.int .i64 a0_0, .int .i64 a0_1, .string a0_2] 23 (0, 0)) (by (with_reducible repeat (first | refine blk_drewN ?_ _ | refine blk_drew ?_ | refine blk_alloc ?_ _)); exact BK648.out)) (g := gb649) (o := .cells #[.int .i64 a1_0, .int .i64 a1_1, .string a1_2] 23 (0, 0)) (by (with_reducible repeat (first | refine blk_drewN ?_ _ | refine blk_drew ?_ | refine blk_alloc ?_ _)); exact BK649.out)) (g := gb650) (o := .cells #[.int .i64 a2_0, .int .i64 a2_1, .string a2_2] 23 (0, 0)) (by (with_reducible repeat (first | refine blk_drewN ?_ _ | refine blk_drew ?_ | refine blk_alloc ?_ _)); exact BK650.out)) (below_size (by repeat (first | (with_reducible first | exact HB.out | apply below_alloc | apply pw_below_drewN | apply below_drew1 | refine below_set ?_ GE648.out | refine below_set ?_ GE649.out | refine below_set ?_ GE650.out) | exact HB.out)))); have n1_ := Aside0.mk (blk_below (g := gb648) (o := .cells #[.int .i64 a0_0, .int .i64 a0_1, .string a0_2] 23 (0, 0)) (by (with_reducible repeat (first | refine blk_drewN ?_ _ | refine blk_drew ?_ | refine blk_alloc ?_ _)); exact BK648.out) hb); have n2_ := Aside0.mk (blk_below (g := gb649) (o := .cells #[.int .i64 a1_0, .int .i64 a1_1, .string a1_2] 23 (0, 0)) (by (with_reducible repeat (first | refine blk_drewN ?_ _ | refine blk_drew ?_ | refine blk_alloc ?_ _)); exact BK649.out) hb); have n3_ := Aside0.mk (blk_below (g := gb650) (o := .cells #[.int .i64 a2_0, .int .i64 a2_1, .string a2_2] 23 (0, 0)) (by (with_reducible repeat (first | refine blk_drewN ?_ _ | refine blk_drew ?_ | refine blk_alloc ?_ _)); exact BK650.out) hb); have n4_ := Aside0.mk (below_step (by repeat (first | (with_reducible first | exact HB.out | apply below_alloc | apply pw_below_drewN | apply below_drew1 | refine below_set ?_ GE648.out | refine below_set ?_ GE649.out | refine below_set ?_ GE650.out) | exact HB.out)) hb); clear BK648; clear BK649; clear BK650; clear HB; have HO704 := n0_; have BK648 := n1_; have BK649 := n2_; have BK650 := n3_; have HB := n4_; clear n0_ n1_ n2_ n3_ n4_; clear hb ho159; have hcz160_0 : w158.cell? ⟨gb648, 0, none⟩ = some (.int .i64 a0_0) := (blk_cell BK648.out 0).trans rfl; have hcz160_1 : w158.cell? ⟨gb648, 1, none⟩ = some (.int .i64 a0_1) := (blk_cell BK648.out 1).trans rfl; have hcz160_2 : w158.cell? ⟨gb648, 2, none⟩ = some (.string a0_2) := (blk_cell BK648.out 2).trans rfl; have hfz160_0 := blk_frozen BK648.out 0; have hfz160_1 := blk_frozen BK648.out 1; have hfz160_2 := blk_frozen BK648.out 2; have hcz161_0 : w158.cell? ⟨gb650, 0, none⟩ = some (.int .i64 a2_0) := (blk_cell BK650.out 0).trans rfl; have hcz161_1 : w158.cell? ⟨gb650, 1, none⟩ = some (.int .i64 a2_1) := (blk_cell BK650.out 1).trans rfl; have hcz161_2 : w158.cell? ⟨gb650, 2, none⟩ = some (.string a2_2) := (blk_cell BK650.out 2).trans rfl; have hfz161_0 := blk_frozen BK650.out 0; have hfz161_1 := blk_frozen BK650.out 1; have hfz161_2 := blk_frozen BK650.out 2) | ((with_reducible refine gate_dst (N := 86) rfl ?_); (try (refine gate_guard (by rfl) ?_; dsimp only)); refine Kd.R_lit k23 _ 23 ?hg (N := 86) ?hd (xs := ([(⟨a0_0, a0_1, a0_2⟩ : S23), (⟨a2_0, a2_1, a2_2⟩ : S23)] : List (S23))) (inner := [.int .i64 a0_0, .int .i64 a0_1, .string a0_2, .int .i64 a2_0, .int .i64 a2_1, .string a2_2]) (ok := fun _ => True) (okp := fun _ => True) ?hr ?hp (fun _ hk => hk) trivial (Below.refl _ _) (Nat.le_refl _) (by simp) ?_; (case hd => rfl); (case hg => rfl); (case hr => first | (go_simp; done) | (go_simp; rfl)); (case hp => exact (Reps.c3 (show Kd.M k23 _ _ _ (⟨a0_0, a0_1, a0_2⟩ : S23) [.int .i64 a0_0, .int .i64 a0_1, .string a0_2] from (k23_mkM _ _ _ (⟨a0_0, a0_1, a0_2⟩ : S23) )) (Reps.c3 (show Kd.M k23 _ _ _ (⟨a2_0, a2_1, a2_2⟩ : S23) [.int .i64 a2_0, .int .i64 a2_1, .string a2_2] from (k23_mkM _ _ _ (⟨a2_0, a2_1, a2_2⟩ : S23) )) (Reps.none _ _)))); intro v706 w162 ho163 hb hg_ hnew_; clear hg_ hnew_; (first | rw [← Ny705.out] at ho163 | (simp only [Int.reduceToNat] at ho163; rw [← Ny705.out] at ho163)); have n0_ := Aside0.mk (Kd.R_elder' (by (with_reducible repeat (first | apply Kd.R_alloc | apply Kd.R_drewN | apply Kd.R_drew)); exact HO704.out) (Kd.R_base ho163) hb); have n1_ := Aside0.mk (Kd.R_lower (Kd.R_newB (Kd.R_newB (Kd.R_newB (Kd.R_new' ho163 (Kd.R_lt (by (with_reducible repeat (first | apply Kd.R_alloc | apply Kd.R_drewN | apply Kd.R_drew)); exact HO704.out))) (g := gb648) (o := .cells #[.int .i64 a0_0, .int .i64 a0_1, .string a0_2] 23 (0, 0)) (by (with_reducible repeat (first | refine blk_drewN ?_ _ | refine blk_drew ?_ | refine blk_alloc ?_ _)); exact BK648.out)) (g := gb649) (o := .cells #[.int .i64 a1_0, .int .i64 a1_1, .string a1_2] 23 (0, 0)) (by (with_reducible repeat (first | refine blk_drewN ?_ _ | refine blk_drew ?_ | refine blk_alloc ?_ _)); exact BK649.out)) (g := gb650) (o := .cells #[.int .i64 a2_0, .int .i64 a2_1, .string a2_2] 23 (0, 0)) (by (with_reducible repeat (first | refine blk_drewN ?_ _ | refine blk_drew ?_ | refine blk_alloc ?_ _)); exact BK650.out)) (below_size (by repeat (first | (with_reducible first | exact HB.out | apply below_alloc | apply pw_below_drewN | apply below_drew1 | refine below_set ?_ GE648.out | refine below_set ?_ GE649.out | refine below_set ?_ GE650.out) | exact HB.out)))); have n2_ := Aside0.mk (blk_below (g := gb648) (o := .cells #[.int .i64 a0_0, .int .i64 a0_1, .string a0_2] 23 (0, 0)) (by (with_reducible repeat (first | refine blk_drewN ?_ _ | refine blk_drew ?_ | refine blk_alloc ?_ _)); exact BK648.out) hb); have n3_ := Aside0.mk (blk_below (g := gb649) (o := .cells #[.int .i64 a1_0, .int .i64 a1_1, .string a1_2] 23 (0, 0)) (by (with_reducible repeat (first | refine blk_drewN ?_ _ | refine blk_drew ?_ | refine blk_alloc ?_ _)); exact BK649.out) hb); have n4_ := Aside0.mk (blk_below (g := gb650) (o := .cells #[.int .i64 a2_0, .int .i64 a2_1, .string a2_2] 23 (0, 0)) (by (with_reducible repeat (first | refine blk_drewN ?_ _ | refine blk_drew ?_ | refine blk_alloc ?_ _)); exact BK650.out) hb); have n5_ := Aside0.mk (below_step (by repeat (first | (with_reducible first | exact HB.out | apply below_alloc | apply pw_below_drewN | apply below_drew1 | refine below_set ?_ GE648.out | refine below_set ?_ GE649.out | refine below_set ?_ GE650.out) | exact HB.out)) hb); clear HO704; clear BK648; clear BK649; clear BK650; clear HB; have HO704 := n0_; have HO707 := n1_; have BK648 := n2_; have BK649 := n3_; have BK650 := n4_; have HB := n5_; clear n0_ n1_ n2_ n3_ n4_ n5_; clear hb ho163; obtain ⟨Ao164, co164, eo164⟩ := Kd.R_slice HO704.out; subst eo164; obtain ⟨Ao165, co165, eo165⟩ := Kd.R_slice HO707.out; subst eo165) | (go_at_call 31; (with_reducible refine (value_CompareRows.calls kj38 _ _ y702 _ _ y705 t708 _ ?side1 ?side2 ?side3 ?side4 A149.out).mono ?_); (case side1 => repeat (first | exact (Kd.R_reads' HO704.out).2.2 | (with_reducible refine Kd.C_alloc ?_ _) | (with_reducible refine Kd.C_drewN ?_ _) | (with_reducible refine Kd.C_drew ?_))); (case side2 => exact (Kd.R_reads' HO704.out).2.1); (case side3 => repeat (first | exact (Kd.R_reads' HO707.out).2.2 | (with_reducible refine Kd.C_alloc ?_ _) | (with_reducible refine Kd.C_drewN ?_ _) | (with_reducible refine Kd.C_drew ?_))); (case side4 => exact (Kd.R_reads' HO707.out).2.1); rintro e w166 ⟨rfl, hb⟩; have n0_ := Aside0.mk (Kd.R_below (by (with_reducible repeat (first | apply Kd.R_alloc | apply Kd.R_drewN | apply Kd.R_drew)); exact HO704.out) hb); have n1_ := Aside0.mk (Kd.R_below (by (with_reducible repeat (first | apply Kd.R_alloc | apply Kd.R_drewN | apply Kd.R_drew)); exact HO707.out) hb); have n2_ := Aside0.mk (blk_below (g := gb648) (o := .cells #[.int .i64 a0_0, .int .i64 a0_1, .string a0_2] 23 (0, 0)) (by (with_reducible repeat (first | refine blk_drewN ?_ _ | refine blk_drew ?_ | refine blk_alloc ?_ _)); exact BK648.out) hb); have n3_ := Aside0.mk (blk_below (g := gb649) (o := .cells #[.int .i64 a1_0, .int .i64 a1_1, .string a1_2] 23 (0, 0)) (by (with_reducible repeat (first | refine blk_drewN ?_ _ | refine blk_drew ?_ | refine blk_alloc ?_ _)); exact BK649.out) hb); have n4_ := Aside0.mk (blk_below (g := gb650) (o := .cells #[.int .i64 a2_0, .int .i64 a2_1, .string a2_2] 23 (0, 0)) (by (with_reducible repeat (first | refine blk_drewN ?_ _ | refine blk_drew ?_ | refine blk_alloc ?_ _)); exact BK650.out) hb); have n5_ := Aside0.mk (below_step (by repeat (first | (with_reducible first | exact HB.out | apply below_alloc | apply pw_below_drewN | apply below_drew1 | refine below_set ?_ GE648.out | refine below_set ?_ GE649.out | refine below_set ?_ GE650.out) | exact HB.out)) hb); clear HO704; clear HO707; clear BK648; clear BK649; clear BK650; clear HB; have HO704 := n0_; have HO707 := n1_; have BK648 := n2_; have BK649 := n3_; have BK650 := n4_; have HB := n5_; clear n0_ n1_ n2_ n3_ n4_ n5_; (try clear hb); (try clear hb2); (try clear hk); (try clear hi); have hcz167_0 : w166.cell? ⟨gb648, 0, none⟩ = some (.int .i64 a0_0) := (blk_cell BK648.out 0).trans rfl; have hcz167_1 : w166.cell? ⟨gb648, 1, none⟩ = some (.int .i64 a0_1) := (blk_cell BK648.out 1).trans rfl; have hcz167_2 : w166.cell? ⟨gb648, 2, none⟩ = some (.string a0_2) := (blk_cell BK648.out 2).trans rfl; have hfz167_0 := blk_frozen BK648.out 0; have hfz167_1 := blk_frozen BK648.out 1; have hfz167_2 := blk_frozen BK648.out 2) | ((with_reducible refine gate_dst (N := 93) rfl ?_); (try (refine gate_guard (by rfl) ?_; dsimp only)); refine Kd.R_lit k23 _ 23 ?hg (N := 93) ?hd (xs := ([(⟨a0_0, a0_1, a0_2⟩ : S23)] : List (S23))) (inner := [.int .i64 a0_0, .int .i64 a0_1, .string a0_2]) (ok := fun _ => True) (okp := fun _ => True) ?hr ?hp (fun _ hk => hk) trivial (Below.refl _ _) (Nat.le_refl _) (by simp) ?_; (case hd => rfl); (case hg => rfl); (case hr => first | (go_simp; done) | (go_simp; rfl)); (case hp => exact (Reps.c3 (show Kd.M k23 _ _ _ (⟨a0_0, a0_1, a0_2⟩ : S23) [.int .i64 a0_0, .int .i64 a0_1, .string a0_2] from (k23_mkM _ _ _ (⟨a0_0, a0_1, a0_2⟩ : S23) )) (Reps.none _ _))); intro v710 w168 ho169 hb hg_ hnew_; clear hg_ hnew_; (first | rw [← Ny709.out] at ho169 | (simp only [Int.reduceToNat] at ho169; rw [← Ny709.out] at ho169)); have n0_ := Aside0.mk (Kd.R_elder' (by (with_reducible repeat (first | apply Kd.R_alloc | apply Kd.R_drewN | apply Kd.R_drew)); exact HO704.out) (Kd.R_base ho169) hb); have n1_ := Aside0.mk (Kd.R_elder' (by (with_reducible repeat (first | apply Kd.R_alloc | apply Kd.R_drewN | apply Kd.R_drew)); exact HO707.out) (Kd.R_base ho169) hb); have n2_ := Aside0.mk (Kd.R_lower (Kd.R_newB (Kd.R_newB (Kd.R_newB (Kd.R_new' (Kd.R_new' ho169 (Kd.R_lt (by (with_reducible repeat (first | apply Kd.R_alloc | apply Kd.R_drewN | apply Kd.R_drew)); exact HO704.out))) (Kd.R_lt (by (with_reducible repeat (first | apply Kd.R_alloc | apply Kd.R_drewN | apply Kd.R_drew)); exact HO707.out))) (g := gb648) (o := .cells #[.int .i64 a0_0, .int .i64 a0_1, .string a0_2] 23 (0, 0)) (by (with_reducible repeat (first | refine blk_drewN ?_ _ | refine blk_drew ?_ | refine blk_alloc ?_ _)); exact BK648.out)) (g := gb649) (o := .cells #[.int .i64 a1_0, .int .i64 a1_1, .string a1_2] 23 (0, 0)) (by (with_reducible repeat (first | refine blk_drewN ?_ _ | refine blk_drew ?_ | refine blk_alloc ?_ _)); exact BK649.out)) (g := gb650) (o := .cells #[.int .i64 a2_0, .int .i64 a2_1, .string a2_2] 23 (0, 0)) (by (with_reducible repeat (first | refine blk_drewN ?_ _ | refine blk_drew ?_ | refine blk_alloc ?_ _)); exact BK650.out)) (below_size (by repeat (first | (with_reducible first | exact HB.out | apply below_alloc | apply pw_below_drewN | apply below_drew1 | refine below_set ?_ GE648.out | refine below_set ?_ GE649.out | refine below_set ?_ GE650.out) | exact HB.out)))); have n3_ := Aside0.mk (blk_below (g := gb648) (o := .cells #[.int .i64 a0_0, .int .i64 a0_1, .string a0_2] 23 (0, 0)) (by (with_reducible repeat (first | refine blk_drewN ?_ _ | refine blk_drew ?_ | refine blk_alloc ?_ _)); exact BK648.out) hb); have n4_ := Aside0.mk (blk_below (g := gb649) (o := .cells #[.int .i64 a1_0, .int .i64 a1_1, .string a1_2] 23 (0, 0)) (by (with_reducible repeat (first | refine blk_drewN ?_ _ | refine blk_drew ?_ | refine blk_alloc ?_ _)); exact BK649.out) hb); have n5_ := Aside0.mk (blk_below (g := gb650) (o := .cells #[.int .i64 a2_0, .int .i64 a2_1, .string a2_2] 23 (0, 0)) (by (with_reducible repeat (first | refine blk_drewN ?_ _ | refine blk_drew ?_ | refine blk_alloc ?_ _)); exact BK650.out) hb); have n6_ := Aside0.mk (below_step (by repeat (first | (with_reducible first | exact HB.out | apply below_alloc | apply pw_below_drewN | apply below_drew1 | refine below_set ?_ GE648.out | refine below_set ?_ GE649.out | refine below_set ?_ GE650.out) | exact HB.out)) hb); clear HO704; clear HO707; clear BK648; clear BK649; clear BK650; clear HB; have HO704 := n0_; have HO707 := n1_; have HO711 := n2_; have BK648 := n3_; have BK649 := n4_; have BK650 := n5_; have HB := n6_; clear n0_ n1_ n2_ n3_ n4_ n5_ n6_; clear hb ho169; have hcz170_0 : w168.cell? ⟨gb648, 0, none⟩ = some (.int .i64 a0_0) := (blk_cell BK648.out 0).trans rfl; have hcz170_1 : w168.cell? ⟨gb648, 1, none⟩ = some (.int .i64 a0_1) := (blk_cell BK648.out 1).trans rfl; have hcz170_2 : w168.cell? ⟨gb648, 2, none⟩ = some (.string a0_2) := (blk_cell BK648.out 2).trans rfl; have hfz170_0 := blk_frozen BK648.out 0; have hfz170_1 := blk_frozen BK648.out 1; have hfz170_2 := blk_frozen BK648.out 2; have hcz171_0 : w168.cell? ⟨gb649, 0, none⟩ = some (.int .i64 a1_0) := (blk_cell BK649.out 0).trans rfl; have hcz171_1 : w168.cell? ⟨gb649, 1, none⟩ = some (.int .i64 a1_1) := (blk_cell BK649.out 1).trans rfl; have hcz171_2 : w168.cell? ⟨gb649, 2, none⟩ = some (.string a1_2) := (blk_cell BK649.out 2).trans rfl; have hfz171_0 := blk_frozen BK649.out 0; have hfz171_1 := blk_frozen BK649.out 1; have hfz171_2 := blk_frozen BK649.out 2) | ((with_reducible refine gate_dst (N := 96) rfl ?_); (try (refine gate_guard (by rfl) ?_; dsimp only)); refine Kd.R_lit k23 _ 23 ?hg (N := 96) ?hd (xs := ([(⟨a0_0, a0_1, a0_2⟩ : S23), (⟨a1_0, a1_1, a1_2⟩ : S23)] : List (S23))) (inner := [.int .i64 a0_0, .int .i64 a0_1, .string a0_2, .int .i64 a1_0, .int .i64 a1_1, .string a1_2]) (ok := fun _ => True) (okp := fun _ => True) ?hr ?hp (fun _ hk => hk) trivial (Below.refl _ _) (Nat.le_refl _) (by simp) ?_; (case hd => rfl); (case hg => rfl); (case hr => first | (go_simp; done) | (go_simp; rfl)); (case hp => exact (Reps.c3 (show Kd.M k23 _ _ _ (⟨a0_0, a0_1, a0_2⟩ : S23) [.int .i64 a0_0, .int .i64 a0_1, .string a0_2] from (k23_mkM _ _ _ (⟨a0_0, a0_1, a0_2⟩ : S23) )) (Reps.c3 (show Kd.M k23 _ _ _ (⟨a1_0, a1_1, a1_2⟩ : S23) [.int .i64 a1_0, .int .i64 a1_1, .string a1_2] from (k23_mkM _ _ _ (⟨a1_0, a1_1, a1_2⟩ : S23) )) (Reps.none _ _)))); intro v713 w172 ho173 hb hg_ hnew_; clear hg_ hnew_; (first | rw [← Ny712.out] at ho173 | (simp only [Int.reduceToNat] at ho173; rw [← Ny712.out] at ho173)); have n0_ := Aside0.mk (Kd.R_elder' (by (with_reducible repeat (first | apply Kd.R_alloc | apply Kd.R_drewN | apply Kd.R_drew)); exact HO704.out) (Kd.R_base ho173) hb); have n1_ := Aside0.mk (Kd.R_elder' (by (with_reducible repeat (first | apply Kd.R_alloc | apply Kd.R_drewN | apply Kd.R_drew)); exact HO707.out) (Kd.R_base ho173) hb); have n2_ := Aside0.mk (Kd.R_elder' (by (with_reducible repeat (first | apply Kd.R_alloc | apply Kd.R_drewN | apply Kd.R_drew)); exact HO711.out) (Kd.R_base ho173) hb); have n3_ := Aside0.mk (Kd.R_lower (Kd.R_newB (Kd.R_newB (Kd.R_newB (Kd.R_new' (Kd.R_new' (Kd.R_new' ho173 (Kd.R_lt (by (with_reducible repeat (first | apply Kd.R_alloc | apply Kd.R_drewN | apply Kd.R_drew)); exact HO704.out))) (Kd.R_lt (by (with_reducible repeat (first | apply Kd.R_alloc | apply Kd.R_drewN | apply Kd.R_drew)); exact HO707.out))) (Kd.R_lt (by (with_reducible repeat (first | apply Kd.R_alloc | apply Kd.R_drewN | apply Kd.R_drew)); exact HO711.out))) (g := gb648) (o := .cells #[.int .i64 a0_0, .int .i64 a0_1, .string a0_2] 23 (0, 0)) (by (with_reducible repeat (first | refine blk_drewN ?_ _ | refine blk_drew ?_ | refine blk_alloc ?_ _)); exact BK648.out)) (g := gb649) (o := .cells #[.int .i64 a1_0, .int .i64 a1_1, .string a1_2] 23 (0, 0)) (by (with_reducible repeat (first | refine blk_drewN ?_ _ | refine blk_drew ?_ | refine blk_alloc ?_ _)); exact BK649.out)) (g := gb650) (o := .cells #[.int .i64 a2_0, .int .i64 a2_1, .string a2_2] 23 (0, 0)) (by (with_reducible repeat (first | refine blk_drewN ?_ _ | refine blk_drew ?_ | refine blk_alloc ?_ _)); exact BK650.out)) (below_size (by repeat (first | (with_reducible first | exact HB.out | apply below_alloc | apply pw_below_drewN | apply below_drew1 | refine below_set ?_ GE648.out | refine below_set ?_ GE649.out | refine below_set ?_ GE650.out) | exact HB.out)))); have n4_ := Aside0.mk (blk_below (g := gb648) (o := .cells #[.int .i64 a0_0, .int .i64 a0_1, .string a0_2] 23 (0, 0)) (by (with_reducible repeat (first | refine blk_drewN ?_ _ | refine blk_drew ?_ | refine blk_alloc ?_ _)); exact BK648.out) hb); have n5_ := Aside0.mk (blk_below (g := gb649) (o := .cells #[.int .i64 a1_0, .int .i64 a1_1, .string a1_2] 23 (0, 0)) (by (with_reducible repeat (first | refine blk_drewN ?_ _ | refine blk_drew ?_ | refine blk_alloc ?_ _)); exact BK649.out) hb); have n6_ := Aside0.mk (blk_below (g := gb650) (o := .cells #[.int .i64 a2_0, .int .i64 a2_1, .string a2_2] 23 (0, 0)) (by (with_reducible repeat (first | refine blk_drewN ?_ _ | refine blk_drew ?_ | refine blk_alloc ?_ _)); exact BK650.out) hb); have n7_ := Aside0.mk (below_step (by repeat (first | (with_reducible first | exact HB.out | apply below_alloc | apply pw_below_drewN | apply below_drew1 | refine below_set ?_ GE648.out | refine below_set ?_ GE649.out | refine below_set ?_ GE650.out) | exact HB.out)) hb); clear HO704; clear HO707; clear HO711; clear BK648; clear BK649; clear BK650; clear HB; have HO704 := n0_; have HO707 := n1_; have HO711 := n2_; have HO714 := n3_; have BK648 := n4_; have BK649 := n5_; have BK650 := n6_; have HB := n7_; clear n0_ n1_ n2_ n3_ n4_ n5_ n6_ n7_; clear hb ho173; obtain ⟨Ao174, co174, eo174⟩ := Kd.R_slice HO711.out; subst eo174; obtain ⟨Ao175, co175, eo175⟩ := Kd.R_slice HO714.out; subst eo175) | (go_at_call 31; (with_reducible refine (value_CompareRows.calls kj38 _ _ y709 _ _ y712 t715 _ ?side1 ?side2 ?side3 ?side4 A151.out).mono ?_); (case side1 => repeat (first | exact (Kd.R_reads' HO711.out).2.2 | (with_reducible refine Kd.C_alloc ?_ _) | (with_reducible refine Kd.C_drewN ?_ _) | (with_reducible refine Kd.C_drew ?_))); (case side2 => exact (Kd.R_reads' HO711.out).2.1); (case side3 => repeat (first | exact (Kd.R_reads' HO714.out).2.2 | (with_reducible refine Kd.C_alloc ?_ _) | (with_reducible refine Kd.C_drewN ?_ _) | (with_reducible refine Kd.C_drew ?_))); (case side4 => exact (Kd.R_reads' HO714.out).2.1); rintro e w176 ⟨rfl, hb⟩; have n0_ := Aside0.mk (Kd.R_below (by (with_reducible repeat (first | apply Kd.R_alloc | apply Kd.R_drewN | apply Kd.R_drew)); exact HO704.out) hb); have n1_ := Aside0.mk (Kd.R_below (by (with_reducible repeat (first | apply Kd.R_alloc | apply Kd.R_drewN | apply Kd.R_drew)); exact HO707.out) hb); have n2_ := Aside0.mk (Kd.R_below (by (with_reducible repeat (first | apply Kd.R_alloc | apply Kd.R_drewN | apply Kd.R_drew)); exact HO711.out) hb); have n3_ := Aside0.mk (Kd.R_below (by (with_reducible repeat (first | apply Kd.R_alloc | apply Kd.R_drewN | apply Kd.R_drew)); exact HO714.out) hb); have n4_ := Aside0.mk (blk_below (g := gb648) (o := .cells #[.int .i64 a0_0, .int .i64 a0_1, .string a0_2] 23 (0, 0)) (by (with_reducible repeat (first | refine blk_drewN ?_ _ | refine blk_drew ?_ | refine blk_alloc ?_ _)); exact BK648.out) hb); have n5_ := Aside0.mk (blk_below (g := gb649) (o := .cells #[.int .i64 a1_0, .int .i64 a1_1, .string a1_2] 23 (0, 0)) (by (with_reducible repeat (first | refine blk_drewN ?_ _ | refine blk_drew ?_ | refine blk_alloc ?_ _)); exact BK649.out) hb); have n6_ := Aside0.mk (blk_below (g := gb650) (o := .cells #[.int .i64 a2_0, .int .i64 a2_1, .string a2_2] 23 (0, 0)) (by (with_reducible repeat (first | refine blk_drewN ?_ _ | refine blk_drew ?_ | refine blk_alloc ?_ _)); exact BK650.out) hb); have n7_ := Aside0.mk (below_step (by repeat (first | (with_reducible first | exact HB.out | apply below_alloc | apply pw_below_drewN | apply below_drew1 | refine below_set ?_ GE648.out | refine below_set ?_ GE649.out | refine below_set ?_ GE650.out) | exact HB.out)) hb); clear HO704; clear HO707; clear HO711; clear HO714; clear BK648; clear BK649; clear BK650; clear HB; have HO704 := n0_; have HO707 := n1_; have HO711 := n2_; have HO714 := n3_; have BK648 := n4_; have BK649 := n5_; have BK650 := n6_; have HB := n7_; clear n0_ n1_ n2_ n3_ n4_ n5_ n6_ n7_; (try clear hb); (try clear hb2); (try clear hk); (try clear hi)))
                              go_ret
                              exact ⟨by first | rfl | (simp [errW_none, errW_some] <;> rfl) | (simp [*, errW_none, errW_some] <;> rfl), by repeat (first | (with_reducible first | exact HB.out | apply below_alloc | apply pw_below_drewN | apply below_drew1 | refine below_set ?_ GE648.out | refine below_set ?_ GE649.out | refine below_set ?_ GE650.out) | exact HB.out)⟩
                            · rw [if_neg c150] at H
                              exact absurd H (by simp)
                          · rw [if_neg c148] at H
                            exact absurd H (by simp)
                      · rw [if_neg c118] at H
                        have c118b0 : (t655 == 0) = false := beq_eq_false_iff_ne.mpr c118
                        have c118b1 : (t655 != 0) = true := bne_iff_ne.mpr c118
                        by_cases c177 : t657 < 0
                        · rw [if_pos c177] at H
                          have c177b0 : decide (t657 < 0) = true := decide_eq_true c177
                          clear c177
                          obtain ⟨y716, hy716⟩ : ∃ y_ : List (S23), y_ = (([(⟨a0_0, a0_1, a0_2⟩ : S23), (⟨a1_0, a1_1, a1_2⟩ : S23)] : List (S23))) := ⟨_, rfl⟩
                          replace H : ((value_CompareRows.f kj38 y716 (([(⟨a0_0, a0_1, a0_2⟩ : S23), (⟨a2_0, a2_1, a2_2⟩ : S23)] : List (S23)))).bind fun t722 => (if t722 = t656 then ((value_CompareRows.f kj38 (([(⟨a0_0, a0_1, a0_2⟩ : S23)] : List (S23))) (([(⟨a0_0, a0_1, a0_2⟩ : S23), (⟨a1_0, a1_1, a1_2⟩ : S23)] : List (S23)))).bind fun t729 => (some (t729 == (-1)))) else (none))) = some r := by first | (rw [hy716]; with_reducible exact H) | (have H2_ := (Option.bind_some _ _).symm.trans H; rw [hy716]; with_reducible exact H2_) | (have H2_ := (Option.bind_some _ _).symm.trans H; with_reducible exact H2_) | with_reducible exact H | (rw [hy716]; exact H) | exact H
                          have Ny716 := Aside0.mk hy716
                          clear hy716
                          obtain ⟨y719, hy719⟩ : ∃ y_ : List (S23), y_ = (([(⟨a0_0, a0_1, a0_2⟩ : S23), (⟨a2_0, a2_1, a2_2⟩ : S23)] : List (S23))) := ⟨_, rfl⟩
                          replace H : ((value_CompareRows.f kj38 y716 y719).bind fun t722 => (if t722 = t656 then ((value_CompareRows.f kj38 (([(⟨a0_0, a0_1, a0_2⟩ : S23)] : List (S23))) (([(⟨a0_0, a0_1, a0_2⟩ : S23), (⟨a1_0, a1_1, a1_2⟩ : S23)] : List (S23)))).bind fun t729 => (some (t729 == (-1)))) else (none))) = some r := by first | (rw [hy719]; with_reducible exact H) | (have H2_ := (Option.bind_some _ _).symm.trans H; rw [hy719]; with_reducible exact H2_) | (have H2_ := (Option.bind_some _ _).symm.trans H; with_reducible exact H2_) | with_reducible exact H | (rw [hy719]; exact H) | exact H
                          have Ny719 := Aside0.mk hy719
                          clear hy719
                          replace H := Option.bind_eq_some_iff.mp H
                          obtain ⟨t722, A1780, H⟩ := H
                          replace H : (if t722 = t656 then ((value_CompareRows.f kj38 (([(⟨a0_0, a0_1, a0_2⟩ : S23)] : List (S23))) (([(⟨a0_0, a0_1, a0_2⟩ : S23), (⟨a1_0, a1_1, a1_2⟩ : S23)] : List (S23)))).bind fun t729 => (some (t729 == (-1)))) else (none)) = some r := H
                          have A178 := Aside0.mk A1780
                          clear A1780
                          by_cases c179 : t722 = t656
                          · rw [if_pos c179] at H
                            have c179b0 : (t722 == t656) = true := beq_iff_eq.mpr c179
                            have c179b1 : (t722 != t656) = false := bne_eq_false_iff_eq.mpr c179
                            clear c179
                            obtain ⟨y723, hy723⟩ : ∃ y_ : List (S23), y_ = (([(⟨a0_0, a0_1, a0_2⟩ : S23)] : List (S23))) := ⟨_, rfl⟩
                            replace H : ((value_CompareRows.f kj38 y723 (([(⟨a0_0, a0_1, a0_2⟩ : S23), (⟨a1_0, a1_1, a1_2⟩ : S23)] : List (S23)))).bind fun t729 => (some (t729 == (-1)))) = some r := by first | (rw [hy723]; with_reducible exact H) | (have H2_ := (Option.bind_some _ _).symm.trans H; rw [hy723]; with_reducible exact H2_) | (have H2_ := (Option.bind_some _ _).symm.trans H; with_reducible exact H2_) | with_reducible exact H | (rw [hy723]; exact H) | exact H
                            have Ny723 := Aside0.mk hy723
                            clear hy723
                            obtain ⟨y726, hy726⟩ : ∃ y_ : List (S23), y_ = (([(⟨a0_0, a0_1, a0_2⟩ : S23), (⟨a1_0, a1_1, a1_2⟩ : S23)] : List (S23))) := ⟨_, rfl⟩
                            replace H : ((value_CompareRows.f kj38 y723 y726).bind fun t729 => (some (t729 == (-1)))) = some r := by first | (rw [hy726]; with_reducible exact H) | (have H2_ := (Option.bind_some _ _).symm.trans H; rw [hy726]; with_reducible exact H2_) | (have H2_ := (Option.bind_some _ _).symm.trans H; with_reducible exact H2_) | with_reducible exact H | (rw [hy726]; exact H) | exact H
                            have Ny726 := Aside0.mk hy726
                            clear hy726
                            replace H := Option.bind_eq_some_iff.mp H
                            obtain ⟨t729, A1800, H⟩ := H
                            replace H : (some (t729 == (-1))) = some r := H
                            have A180 := Aside0.mk A1800
                            clear A1800
                            obtain rfl := Option.some.inj H
                            go_wp2_with (first | ((with_reducible refine gate_callee (f := 12) rfl ?_); refine goesL_ (some 55) rfl rfl Tryd.func12 (by kernel_rfl) rfl #[] rfl (by (try simp only [List.map_toArray, List.map_cons, List.map_nil]); first | done | rfl | (simp only [List.length_drop, List.length_take]; rfl)) ?_; (with_reducible refine (alumlaw19_sanity.calls kj38  true _ A57.out).mono ?_); rintro e w181 ⟨rfl, hb⟩; refine ⟨_, rfl, ?_⟩; have n0_ := Aside0.mk (blk_below (g := gb648) (o := .cells #[.int .i64 a0_0, .int .i64 a0_1, .string a0_2] 23 (0, 0)) (by (with_reducible repeat (first | refine blk_drewN ?_ _ | refine blk_drew ?_ | refine blk_alloc ?_ _)); exact BK648.out) hb); have n1_ := Aside0.mk (blk_below (g := gb649) (o := .cells #[.int .i64 a1_0, .int .i64 a1_1, .string a1_2] 23 (0, 0)) (by (with_reducible repeat (first | refine blk_drewN ?_ _ | refine blk_drew ?_ | refine blk_alloc ?_ _)); exact BK649.out) hb); have n2_ := Aside0.mk (blk_below (g := gb650) (o := .cells #[.int .i64 a2_0, .int .i64 a2_1, .string a2_2] 23 (0, 0)) (by (with_reducible repeat (first | refine blk_drewN ?_ _ | refine blk_drew ?_ | refine blk_alloc ?_ _)); exact BK650.out) hb); have n3_ := Aside0.mk (below_step (by repeat (first | (with_reducible first | exact HB.out | apply below_alloc | apply pw_below_drewN | apply below_drew1 | refine below_set ?_ GE648.out | refine below_set ?_ GE649.out | refine below_set ?_ GE650.out) | exact HB.out)) hb); clear BK648; clear BK649; clear BK650; clear HB; have BK648 := n0_; have BK649 := n1_; have BK650 := n2_; have HB := n3_; clear n0_ n1_ n2_ n3_; (try clear hb); (try clear hb2); (try clear hk); (try clear hi); have hnb182 := NB648_649.out; have hnc182 := NB649_648.out; have hnb183 := NB648_650.out; have hnc183 := NB650_648.out; have hcz184_0 : w181.cell? ⟨gb648, 0, none⟩ = some (.int .i64 a0_0) := (blk_cell BK648.out 0).trans rfl; have hcz184_1 : w181.cell? ⟨gb648, 1, none⟩ = some (.int .i64 a0_1) := (blk_cell BK648.out 1).trans rfl; have hcz184_2 : w181.cell? ⟨gb648, 2, none⟩ = some (.string a0_2) := (blk_cell BK648.out 2).trans rfl; have hfz184_0 := blk_frozen BK648.out 0; have hfz184_1 := blk_frozen BK648.out 1; have hfz184_2 := blk_frozen BK648.out 2; have hnb185 := NB649_650.out; have hnc185 := NB650_649.out; have hcz186_0 : w181.cell? ⟨gb649, 0, none⟩ = some (.int .i64 a1_0) := (blk_cell BK649.out 0).trans rfl; have hcz186_1 : w181.cell? ⟨gb649, 1, none⟩ = some (.int .i64 a1_1) := (blk_cell BK649.out 1).trans rfl; have hcz186_2 : w181.cell? ⟨gb649, 2, none⟩ = some (.string a1_2) := (blk_cell BK649.out 2).trans rfl; have hfz186_0 := blk_frozen BK649.out 0; have hfz186_1 := blk_frozen BK649.out 1; have hfz186_2 := blk_frozen BK649.out 2) | ((with_reducible refine gate_dst (N := 83) rfl ?_); (try (refine gate_guard (by rfl) ?_; dsimp only)); refine Kd.R_lit k23 _ 23 ?hg (N := 83) ?hd (xs := ([(⟨a0_0, a0_1, a0_2⟩ : S23), (⟨a1_0, a1_1, a1_2⟩ : S23)] : List (S23))) (inner := [.int .i64 a0_0, .int .i64 a0_1, .string a0_2, .int .i64 a1_0, .int .i64 a1_1, .string a1_2]) (ok := fun _ => True) (okp := fun _ => True) ?hr ?hp (fun _ hk => hk) trivial (Below.refl _ _) (Nat.le_refl _) (by simp) ?_; (case hd => rfl); (case hg => rfl); (case hr => first | (go_simp; done) | (go_simp; rfl)); (case hp => exact (Reps.c3 (show Kd.M k23 _ _ _ (⟨a0_0, a0_1, a0_2⟩ : S23) [.int .i64 a0_0, .int .i64 a0_1, .string a0_2] from (k23_mkM _ _ _ (⟨a0_0, a0_1, a0_2⟩ : S23) )) (Reps.c3 (show Kd.M k23 _ _ _ (⟨a1_0, a1_1, a1_2⟩ : S23) [.int .i64 a1_0, .int .i64 a1_1, .string a1_2] from (k23_mkM _ _ _ (⟨a1_0, a1_1, a1_2⟩ : S23) )) (Reps.none _ _)))); intro v717 w187 ho188 hb hg_ hnew_; clear hg_ hnew_; (first | rw [← Ny716.out] at ho188 | (simp only [Int.reduceToNat] at ho188; rw [← Ny716.out] at ho188)); have n0_ := Aside0.mk (Kd.R_lower (Kd.R_newB (Kd.R_newB (Kd.R_newB ho188 (g := gb648) (o := .cells #[.int .i64 a0_0, .int .i64 a0_1, .string a0_2] 23 (0, 0)) (by (with_reducible repeat (first | refine blk_drewN ?_ _ | refine blk_drew ?_ | refine blk_alloc ?_ _)); exact BK648.out)) (g := gb649) (o := .cells #[.int .i64 a1_0, .int .i64 a1_1, .string a1_2] 23 (0, 0)) (by (with_reducible repeat (first | refine blk_drewN ?_ _ | refine blk_drew ?_ | refine blk_alloc ?_ _)); exact BK649.out)) (g := gb650) (o := .cells #[.int .i64 a2_0, .int .i64 a2_1, .string a2_2] 23 (0, 0)) (by (with_reducible repeat (first | refine blk_drewN ?_ _ | refine blk_drew ?_ | refine blk_alloc ?_ _)); exact BK650.out)) (below_size (by repeat (first | (with_reducible first | exact HB.out | apply below_alloc | apply pw_below_drewN | apply below_drew1 | refine below_set ?_ GE648.out | refine below_set ?_ GE649.out | refine below_set ?_ GE650.out) | exact HB.out)))); have n1_ := Aside0.mk (blk_below (g := gb648) (o := .cells #[.int .i64 a0_0, .int .i64 a0_1, .string a0_2] 23 (0, 0)) (by (with_reducible repeat (first | refine blk_drewN ?_ _ | refine blk_drew ?_ | refine blk_alloc ?_ _)); exact BK648.out) hb); have n2_ := Aside0.mk (blk_below (g := gb649) (o := .cells #[.int .i64 a1_0, .int .i64 a1_1, .string a1_2] 23 (0, 0)) (by (with_reducible repeat (first | refine blk_drewN ?_ _ | refine blk_drew ?_ | refine blk_alloc ?_ _)); exact BK649.out) hb); have n3_ := Aside0.mk (blk_below (g := gb650) (o := .cells #[.int .i64 a2_0, .int .i64 a2_1, .string a2_2] 23 (0, 0)) (by (with_reducible repeat (first | refine blk_drewN ?_ _ | refine blk_drew ?_ | refine blk_alloc ?_ _)); exact BK650.out) hb); have n4_ := Aside0.mk (below_step (by repeat (first | (with_reducible first | exact HB.out | apply below_alloc | apply pw_below_drewN | apply below_drew1 | refine below_set ?_ GE648.out | refine below_set ?_ GE649.out | refine below_set ?_ GE650.out) | exact HB.out)) hb); clear BK648; clear BK649; clear BK650; clear HB; have HO718 := n0_; have BK648 := n1_; have BK649 := n2_; have BK650 := n3_; have HB := n4_; clear n0_ n1_ n2_ n3_ n4_; clear hb ho188; have hcz189_0 : w187.cell? ⟨gb648, 0, none⟩ = some (.int .i64 a0_0) := (blk_cell BK648.out 0).trans rfl; have hcz189_1 : w187.cell? ⟨gb648, 1, none⟩ = some (.int .i64 a0_1) := (blk_cell BK648.out 1).trans rfl; have hcz189_2 : w187.cell? ⟨gb648, 2, none⟩ = some (.string a0_2) := (blk_cell BK648.out 2).trans rfl; have hfz189_0 := blk_frozen BK648.out 0; have hfz189_1 := blk_frozen BK648.out 1; have hfz189_2 := blk_frozen BK648.out 2; have hcz190_0 : w187.cell? ⟨gb650, 0, none⟩ = some (.int .i64 a2_0) := (blk_cell BK650.out 0).trans rfl; have hcz190_1 : w187.cell? ⟨gb650, 1, none⟩ = some (.int .i64 a2_1) := (blk_cell BK650.out 1).trans rfl; have hcz190_2 : w187.cell? ⟨gb650, 2, none⟩ = some (.string a2_2) := (blk_cell BK650.out 2).trans rfl; have hfz190_0 := blk_frozen BK650.out 0; have hfz190_1 := blk_frozen BK650.out 1; have hfz190_2 := blk_frozen BK650.out 2) | ((with_reducible refine gate_dst (N := 86) rfl ?_); (try (refine gate_guard (by rfl) ?_; dsimp only)); refine Kd.R_lit k23 _ 23 ?hg (N := 86) ?hd (xs := ([(⟨a0_0, a0_1, a0_2⟩ : S23), (⟨a2_0, a2_1, a2_2⟩ : S23)] : List (S23))) (inner := [.int .i64 a0_0, .int .i64 a0_1, .string a0_2, .int .i64 a2_0, .int .i64 a2_1, .string a2_2]) (ok := fun _ => True) (okp := fun _ => True) ?hr ?hp (fun _ hk => hk) trivial (Below.refl _ _) (Nat.le_refl _) (by simp) ?_; (case hd => rfl); (case hg => rfl); (case hr => first | (go_simp; done) | (go_simp; rfl)); (case hp => exact (Reps.c3 (show Kd.M k23 _ _ _ (⟨a0_0, a0_1, a0_2⟩ : S23) [.int .i64 a0_0, .int .i64 a0_1, .string a0_2] from (k23_mkM _ _ _ (⟨a0_0, a0_1, a0_2⟩ : S23) )) (Reps.c3 (show Kd.M k23 _ _ _ (⟨a2_0, a2_1, a2_2⟩ : S23) [.int .i64 a2_0, .int .i64 a2_1, .string a2_2] from (k23_mkM _ _ _ (⟨a2_0, a2_1, a2_2⟩ : S23) )) (Reps.none _ _)))); intro v720 w191 ho192 hb hg_ hnew_; clear hg_ hnew_; (first | rw [← Ny719.out] at ho192 | (simp only [Int.reduceToNat] at ho192; rw [← Ny719.out] at ho192)); have n0_ := Aside0.mk (Kd.R_elder' (by (with_reducible repeat (first | apply Kd.R_alloc | apply Kd.R_drewN | apply Kd.R_drew)); exact HO718.out) (Kd.R_base ho192) hb); have n1_ := Aside0.mk (Kd.R_lower (Kd.R_newB (Kd.R_newB (Kd.R_newB (Kd.R_new' ho192 (Kd.R_lt (by (with_reducible repeat (first | apply Kd.R_alloc | apply Kd.R_drewN | apply Kd.R_drew)); exact HO718.out))) (g := gb648) (o := .cells #[.int .i64 a0_0, .int .i64 a0_1, .string a0_2] 23 (0, 0)) (by (with_reducible repeat (first | refine blk_drewN ?_ _ | refine blk_drew ?_ | refine blk_alloc ?_ _)); exact BK648.out)) (g := gb649) (o := .cells #[.int .i64 a1_0, .int .i64 a1_1, .string a1_2] 23 (0, 0)) (by (with_reducible repeat (first | refine blk_drewN ?_ _ | refine blk_drew ?_ | refine blk_alloc ?_ _)); exact BK649.out)) (g := gb650) (o := .cells #[.int .i64 a2_0, .int .i64 a2_1, .string a2_2] 23 (0, 0)) (by (with_reducible repeat (first | refine blk_drewN ?_ _ | refine blk_drew ?_ | refine blk_alloc ?_ _)); exact BK650.out)) (below_size (by repeat (first | (with_reducible first | exact HB.out | apply below_alloc | apply pw_below_drewN | apply below_drew1 | refine below_set ?_ GE648.out | refine below_set ?_ GE649.out | refine below_set ?_ GE650.out) | exact HB.out)))); have n2_ := Aside0.mk (blk_below (g := gb648) (o := .cells #[.int .i64 a0_0, .int .i64 a0_1, .string a0_2] 23 (0, 0)) (by (with_reducible repeat (first | refine blk_drewN ?_ _ | refine blk_drew ?_ | refine blk_alloc ?_ _)); exact BK648.out) hb); have n3_ := Aside0.mk (blk_below (g := gb649) (o := .cells #[.int .i64 a1_0, .int .i64 a1_1, .string a1_2] 23 (0, 0)) (by (with_reducible repeat (first | refine blk_drewN ?_ _ | refine blk_drew ?_ | refine blk_alloc ?_ _)); exact BK649.out) hb); have n4_ := Aside0.mk (blk_below (g := gb650) (o := .cells #[.int .i64 a2_0, .int .i64 a2_1, .string a2_2] 23 (0, 0)) (by (with_reducible repeat (first | refine blk_drewN ?_ _ | refine blk_drew ?_ | refine blk_alloc ?_ _)); exact BK650.out) hb); have n5_ := Aside0.mk (below_step (by repeat (first | (with_reducible first | exact HB.out | apply below_alloc | apply pw_below_drewN | apply below_drew1 | refine below_set ?_ GE648.out | refine below_set ?_ GE649.out | refine below_set ?_ GE650.out) | exact HB.out)) hb); clear HO718; clear BK648; clear BK649; clear BK650; clear HB; have HO718 := n0_; have HO721 := n1_; have BK648 := n2_; have BK649 := n3_; have BK650 := n4_; have HB := n5_; clear n0_ n1_ n2_ n3_ n4_ n5_; clear hb ho192; obtain ⟨Ao193, co193, eo193⟩ := Kd.R_slice HO718.out; subst eo193; obtain ⟨Ao194, co194, eo194⟩ := Kd.R_slice HO721.out; subst eo194) | (go_at_call 31; (with_reducible refine (value_CompareRows.calls kj38 _ _ y716 _ _ y719 t722 _ ?side1 ?side2 ?side3 ?side4 A178.out).mono ?_); (case side1 => repeat (first | exact (Kd.R_reads' HO718.out).2.2 | (with_reducible refine Kd.C_alloc ?_ _) | (with_reducible refine Kd.C_drewN ?_ _) | (with_reducible refine Kd.C_drew ?_))); (case side2 => exact (Kd.R_reads' HO718.out).2.1); (case side3 => repeat (first | exact (Kd.R_reads' HO721.out).2.2 | (with_reducible refine Kd.C_alloc ?_ _) | (with_reducible refine Kd.C_drewN ?_ _) | (with_reducible refine Kd.C_drew ?_))); (case side4 => exact (Kd.R_reads' HO721.out).2.1); rintro e w195 ⟨rfl, hb⟩; have n0_ := Aside0.mk (Kd.R_below (by (with_reducible repeat (first | apply Kd.R_alloc | apply Kd.R_drewN | apply Kd.R_drew)); exact HO718.out) hb); have n1_ := Aside0.mk (Kd.R_below (by (with_reducible repeat (first | apply Kd.R_alloc | apply Kd.R_drewN | apply Kd.R_drew)); exact HO721.out) hb); have n2_ := Aside0.mk (blk_below (g := gb648) (o := .cells #[.int .i64 a0_0, .int .i64 a0_1, .string a0_2] 23 (0, 0)) (by (with_reducible repeat (first | refine blk_drewN ?_ _ | refine blk_drew ?_ | refine blk_alloc ?_ _)); exact BK648.out) hb); have n3_ := Aside0.mk (blk_below (g := gb649) (o := .cells #[.int .i64 a1_0, .int .i64 a1_1, .string a1_2] 23 (0, 0)) (by (with_reducible repeat (first | refine blk_drewN ?_ _ | refine blk_drew ?_ | refine blk_alloc ?_ _)); exact BK649.out) hb); have n4_ := Aside0.mk (blk_below (g := gb650) (o := .cells #[.int .i64 a2_0, .int .i64 a2_1, .string a2_2] 23 (0, 0)) (by (with_reducible repeat (first | refine blk_drewN ?_ _ | refine blk_drew ?_ | refine blk_alloc ?_ _)); exact BK650.out) hb); have n5_ := Aside0.mk (below_step (by repeat (first | (with_reducible first | exact HB.out | apply below_alloc | apply pw_below_drewN | apply below_drew1 | refine below_set ?_ GE648.out | refine below_set ?_ GE649.out | refine below_set ?_ GE650.out) | exact HB.out)) hb); clear HO718; clear HO721; clear BK648; clear BK649; clear BK650; clear HB; have HO718 := n0_; have HO721 := n1_; have BK648 := n2_; have BK649 := n3_; have BK650 := n4_; have HB := n5_; clear n0_ n1_ n2_ n3_ n4_ n5_; (try clear hb); (try clear hb2); (try clear hk); (try clear hi); have hcz196_0 : w195.cell? ⟨gb648, 0, none⟩ = some (.int .i64 a0_0) := (blk_cell BK648.out 0).trans rfl; have hcz196_1 : w195.cell? ⟨gb648, 1, none⟩ = some (.int .i64 a0_1) := (blk_cell BK648.out 1).trans rfl; have hcz196_2 : w195.cell? ⟨gb648, 2, none⟩ = some (.string a0_2) := (blk_cell BK648.out 2).trans rfl; have hfz196_0 := blk_frozen BK648.out 0; have hfz196_1 := blk_frozen BK648.out 1; have hfz196_2 := blk_frozen BK648.out 2) | ((with_reducible refine gate_dst (N := 93) rfl ?_); (try (refine gate_guard (by rfl) ?_; dsimp only)); refine Kd.R_lit k23 _ 23 ?hg (N := 93) ?hd (xs := ([(⟨a0_0, a0_1, a0_2⟩ : S23)] : List (S23))) (inner := [.int .i64 a0_0, .int .i64 a0_1, .string a0_2]) (ok := fun _ => True) (okp := fun _ => True) ?hr ?hp (fun _ hk => hk) trivial (Below.refl _ _) (Nat.le_refl _) (by simp) ?_; (case hd => rfl); (case hg => rfl); (case hr => first | (go_simp; done) | (go_simp; rfl)); (case hp => exact (Reps.c3 (show Kd.M k23 _ _ _ (⟨a0_0, a0_1, a0_2⟩ : S23) [.int .i64 a0_0, .int .i64 a0_1, .string a0_2] from (k23_mkM _ _ _ (⟨a0_0, a0_1, a0_2⟩ : S23) )) (Reps.none _ _))); intro v724 w197 ho198 hb hg_ hnew_; clear hg_ hnew_; (first | rw [← Ny723.out] at ho198 | (simp only [Int.reduceToNat] at ho198; rw [← Ny723.out] at ho198)); have n0_ := Aside0.mk (Kd.R_elder' (by (with_reducible repeat (first | apply Kd.R_alloc | apply Kd.R_drewN | apply Kd.R_drew)); exact HO718.out) (Kd.R_base ho198) hb); have n1_ := Aside0.mk (Kd.R_elder' (by (with_reducible repeat (first | apply Kd.R_alloc | apply Kd.R_drewN | apply Kd.R_drew)); exact HO721.out) (Kd.R_base ho198) hb); have n2_ := Aside0.mk (Kd.R_lower (Kd.R_newB (Kd.R_newB (Kd.R_newB (Kd.R_new' (Kd.R_new' ho198 (Kd.R_lt (by (with_reducible repeat (first | apply Kd.R_alloc | apply Kd.R_drewN | apply Kd.R_drew)); exact HO718.out))) (Kd.R_lt (by (with_reducible repeat (first | apply Kd.R_alloc | apply Kd.R_drewN | apply Kd.R_drew)); exact HO721.out))) (g := gb648) (o := .cells #[.int .i64 a0_0, .int .i64 a0_1, .string a0_2] 23 (0, 0)) (by (with_reducible repeat (first | refine blk_drewN ?_ _ | refine blk_drew ?_ | refine blk_alloc ?_ _)); exact BK648.out)) (g := gb649) (o := .cells #[.int .i64 a1_0, .int .i64 a1_1, .string a1_2] 23 (0, 0)) (by (with_reducible repeat (first | refine blk_drewN ?_ _ | refine blk_drew ?_ | refine blk_alloc ?_ _)); exact BK649.out)) (g := gb650) (o := .cells #[.int .i64 a2_0, .int .i64 a2_1, .string a2_2] 23 (0, 0)) (by (with_reducible repeat (first | refine blk_drewN ?_ _ | refine blk_drew ?_ | refine blk_alloc ?_ _)); exact BK650.out)) (below_size (by repeat (first | (with_reducible first | exact HB.out | apply below_alloc | apply pw_below_drewN | apply below_drew1 | refine below_set ?_ GE648.out | refine below_set ?_ GE649.out | refine below_set ?_ GE650.out) | exact HB.out)))); have n3_ := Aside0.mk (blk_below (g := gb648) (o := .cells #[.int .i64 a0_0, .int .i64 a0_1, .string a0_2] 23 (0, 0)) (by (with_reducible repeat (first | refine blk_drewN ?_ _ | refine blk_drew ?_ | refine blk_alloc ?_ _)); exact BK648.out) hb); have n4_ := Aside0.mk (blk_below (g := gb649) (o := .cells #[.int .i64 a1_0, .int .i64 a1_1, .string a1_2] 23 (0, 0)) (by (with_reducible repeat (first | refine blk_drewN ?_ _ | refine blk_drew ?_ | refine blk_alloc ?_ _)); exact BK649.out) hb); have n5_ := Aside0.mk (blk_below (g := gb650) (o := .cells #[.int .i64 a2_0, .int .i64 a2_1, .string a2_2] 23 (0, 0)) (by (with_reducible repeat (first | refine blk_drewN ?_ _ | refine blk_drew ?_ | refine blk_alloc ?_ _)); exact BK650.out) hb); have n6_ := Aside0.mk (below_step (by repeat (first | (with_reducible first | exact HB.out | apply below_alloc | apply pw_below_drewN | apply below_drew1 | refine below_set ?_ GE648.out | refine below_set ?_ GE649.out | refine below_set ?_ GE650.out) | exact HB.out)) hb); clear HO718; clear HO721; clear BK648; clear BK649; clear BK650; clear HB; have HO718 := n0_; have HO721 := n1_; have HO725 := n2_; have BK648 := n3_; have BK649 := n4_; have BK650 := n5_; have HB := n6_; clear n0_ n1_ n2_ n3_ n4_ n5_ n6_; clear hb ho198; have hcz199_0 : w197.cell? ⟨gb648, 0, none⟩ = some (.int .i64 a0_0) := (blk_cell BK648.out 0).trans rfl; have hcz199_1 : w197.cell? ⟨gb648, 1, none⟩ = some (.int .i64 a0_1) := (blk_cell BK648.out 1).trans rfl; have hcz199_2 : w197.cell? ⟨gb648, 2, none⟩ = some (.string a0_2) := (blk_cell BK648.out 2).trans rfl; have hfz199_0 := blk_frozen BK648.out 0; have hfz199_1 := blk_frozen BK648.out 1; have hfz199_2 := blk_frozen BK648.out 2; have hcz200_0 : w197.cell? ⟨gb649, 0, none⟩ = some (.int .i64 a1_0) := (blk_cell BK649.out 0).trans rfl; have hcz200_1 : w197.cell? ⟨gb649, 1, none⟩ = some (.int .i64 a1_1) := (blk_cell BK649.out 1).trans rfl; have hcz200_2 : w197.cell? ⟨gb649, 2, none⟩ = some (.string a1_2) := (blk_cell BK649.out 2).trans rfl; have hfz200_0 := blk_frozen BK649.out 0; have hfz200_1 := blk_frozen BK649.out 1; have hfz200_2 := blk_frozen BK649.out 2) | ((with_reducible refine gate_dst (N := 96) rfl ?_); (try (refine gate_guard (by rfl) ?_; dsimp only)); refine Kd.R_lit k23 _ 23 ?hg (N := 96) ?hd (xs := ([(⟨a0_0, a0_1, a0_2⟩ : S23), (⟨a1_0, a1_1, a1_2⟩ : S23)] : List (S23))) (inner := [.int .i64 a0_0, .int .i64 a0_1, .string a0_2, .int .i64 a1_0, .int .i64 a1_1, .string a1_2]) (ok := fun _ => True) (okp := fun _ => True) ?hr ?hp (fun _ hk => hk) trivial (Below.refl _ _) (Nat.le_refl _) (by simp) ?_; (case hd => rfl); (case hg => rfl); (case hr => first | (go_simp; done) | (go_simp; rfl)); (case hp => exact (Reps.c3 (show Kd.M k23 _ _ _ (⟨a0_0, a0_1, a0_2⟩ : S23) [.int .i64 a0_0, .int .i64 a0_1, .string a0_2] from (k23_mkM _ _ _ (⟨a0_0, a0_1, a0_2⟩ : S23) )) (Reps.c3 (show Kd.M k23 _ _ _ (⟨a1_0, a1_1, a1_2⟩ : S23) [.int .i64 a1_0, .int .i64 a1_1, .string a1_2] from (k23_mkM _ _ _ (⟨a1_0, a1_1, a1_2⟩ : S23) )) (Reps.none _ _)))); intro v727 w201 ho202 hb hg_ hnew_; clear hg_ hnew_; (first | rw [← Ny726.out] at ho202 | (simp only [Int.reduceToNat] at ho202; rw [← Ny726.out] at ho202)); have n0_ := Aside0.mk (Kd.R_elder' (by (with_reducible repeat (first | apply Kd.R_alloc | apply Kd.R_drewN | apply Kd.R_drew)); exact HO718.out) (Kd.R_base ho202) hb); have n1_ := Aside0.mk (Kd.R_elder' (by (with_reducible repeat (first | apply Kd.R_alloc | apply Kd.R_drewN | apply Kd.R_drew)); exact HO721.out) (Kd.R_base ho202) hb); have n2_ := Aside0.mk (Kd.R_elder' (by (with_reducible repeat (first | apply Kd.R_alloc | apply Kd.R_drewN | apply Kd.R_drew)); exact HO725.out) (Kd.R_base ho202) hb); have n3_ := Aside0.mk (Kd.R_lower (Kd.R_newB (Kd.R_newB (Kd.R_newB (Kd.R_new' (Kd.R_new' (Kd.R_new' ho202 (Kd.R_lt (by (with_reducible repeat (first | apply Kd.R_alloc | apply Kd.R_drewN | apply Kd.R_drew)); exact HO718.out))) (Kd.R_lt (by (with_reducible repeat (first | apply Kd.R_alloc | apply Kd.R_drewN | apply Kd.R_drew)); exact HO721.out))) (Kd.R_lt (by (with_reducible repeat (first | apply Kd.R_alloc | apply Kd.R_drewN | apply Kd.R_drew)); exact HO725.out))) (g := gb648) (o := .cells #[.int .i64 a0_0, .int .i64 a0_1, .string a0_2] 23 (0, 0)) (by (with_reducible repeat (first | refine blk_drewN ?_ _ | refine blk_drew ?_ | refine blk_alloc ?_ _)); exact BK648.out)) (g := gb649) (o := .cells #[.int .i64 a1_0, .int .i64 a1_1, .string a1_2] 23 (0, 0)) (by (with_reducible repeat (first | refine blk_drewN ?_ _ | refine blk_drew ?_ | refine blk_alloc ?_ _)); exact BK649.out)) (g := gb650) (o := .cells #[.int .i64 a2_0, .int .i64 a2_1, .string a2_2] 23 (0, 0)) (by (with_reducible repeat (first | refine blk_drewN ?_ _ | refine blk_drew ?_ | refine blk_alloc ?_ _)); exact BK650.out)) (below_size (by repeat (first | (with_reducible first | exact HB.out | apply below_alloc | apply pw_below_drewN | apply below_drew1 | refine below_set ?_ GE648.out | refine below_set ?_ GE649.out | refine below_set ?_ GE650.out) | exact HB.out)))); have n4_ := Aside0.mk (blk_below (g := gb648) (o := .cells #[.int .i64 a0_0, .int .i64 a0_1, .string a0_2] 23 (0, 0)) (by (with_reducible repeat (first | refine blk_drewN ?_ _ | refine blk_drew ?_ | refine blk_alloc ?_ _)); exact BK648.out) hb); have n5_ := Aside0.mk (blk_below (g := gb649) (o := .cells #[.int .i64 a1_0, .int .i64 a1_1, .string a1_2] 23 (0, 0)) (by (with_reducible repeat (first | refine blk_drewN ?_ _ | refine blk_drew ?_ | refine blk_alloc ?_ _)); exact BK649.out) hb); have n6_ := Aside0.mk (blk_below (g := gb650) (o := .cells #[.int .i64 a2_0, .int .i64 a2_1, .string a2_2] 23 (0, 0)) (by (with_reducible repeat (first | refine blk_drewN ?_ _ | refine blk_drew ?_ | refine blk_alloc ?_ _)); exact BK650.out) hb); have n7_ := Aside0.mk (below_step (by repeat (first | (with_reducible first | exact HB.out | apply below_alloc | apply pw_below_drewN | apply below_drew1 | refine below_set ?_ GE648.out | refine below_set ?_ GE649.out | refine below_set ?_ GE650.out) | exact HB.out)) hb); clear HO718; clear HO721; clear HO725; clear BK648; clear BK649; clear BK650; clear HB; have HO718 := n0_; have HO721 := n1_; have HO725 := n2_; have HO728 := n3_; have BK648 := n4_; have BK649 := n5_; have BK650 := n6_; have HB := n7_; clear n0_ n1_ n2_ n3_ n4_ n5_ n6_ n7_; clear hb ho202; obtain ⟨Ao203, co203, eo203⟩ := Kd.R_slice HO725.out; subst eo203; obtain ⟨Ao204, co204, eo204⟩ := Kd.R_slice HO728.out; subst eo204) | (go_at_call 31; (with_reducible refine (value_CompareRows.calls kj38 _ _ y723 _ _ y726 t729 _ ?side1 ?side2 ?side3 ?side4 A180.out).mono ?_); (case side1 => repeat (first | exact (Kd.R_reads' HO725.out).2.2 | (with_reducible refine Kd.C_alloc ?_ _) | (with_reducible refine Kd.C_drewN ?_ _) | (with_reducible refine Kd.C_drew ?_))); (case side2 => exact (Kd.R_reads' HO725.out).2.1); (case side3 => repeat (first | exact (Kd.R_reads' HO728.out).2.2 | (with_reducible refine Kd.C_alloc ?_ _) | (with_reducible refine Kd.C_drewN ?_ _) | (with_reducible refine Kd.C_drew ?_))); (case side4 => exact (Kd.R_reads' HO728.out).2.1); rintro e w205 ⟨rfl, hb⟩; have n0_ := Aside0.mk (Kd.R_below (by (with_reducible repeat (first | apply Kd.R_alloc | apply Kd.R_drewN | apply Kd.R_drew)); exact HO718.out) hb); have n1_ := Aside0.mk (Kd.R_below (by (with_reducible repeat (first | apply Kd.R_alloc | apply Kd.R_drewN | apply Kd.R_drew)); exact HO721.out) hb); have n2_ := Aside0.mk (Kd.R_below (by (with_reducible repeat (first | apply Kd.R_alloc | apply Kd.R_drewN | apply Kd.R_drew)); exact HO725.out) hb); have n3_ := Aside0.mk (Kd.R_below (by (with_reducible repeat (first | apply Kd.R_alloc | apply Kd.R_drewN | apply Kd.R_drew)); exact HO728.out) hb); have n4_ := Aside0.mk (blk_below (g := gb648) (o := .cells #[.int .i64 a0_0, .int .i64 a0_1, .string a0_2] 23 (0, 0)) (by (with_reducible repeat (first | refine blk_drewN ?_ _ | refine blk_drew ?_ | refine blk_alloc ?_ _)); exact BK648.out) hb); have n5_ := Aside0.mk (blk_below (g := gb649) (o := .cells #[.int .i64 a1_0, .int .i64 a1_1, .string a1_2] 23 (0, 0)) (by (with_reducible repeat (first | refine blk_drewN ?_ _ | refine blk_drew ?_ | refine blk_alloc ?_ _)); exact BK649.out) hb); have n6_ := Aside0.mk (blk_below (g := gb650) (o := .cells #[.int .i64 a2_0, .int .i64 a2_1, .string a2_2] 23 (0, 0)) (by (with_reducible repeat (first | refine blk_drewN ?_ _ | refine blk_drew ?_ | refine blk_alloc ?_ _)); exact BK650.out) hb); have n7_ := Aside0.mk (below_step (by repeat (first | (with_reducible first | exact HB.out | apply below_alloc | apply pw_below_drewN | apply below_drew1 | refine below_set ?_ GE648.out | refine below_set ?_ GE649.out | refine below_set ?_ GE650.out) | exact HB.out)) hb); clear HO718; clear HO721; clear HO725; clear HO728; clear BK648; clear BK649; clear BK650; clear HB; have HO718 := n0_; have HO721 := n1_; have HO725 := n2_; have HO728 := n3_; have BK648 := n4_; have BK649 := n5_; have BK650 := n6_; have HB := n7_; clear n0_ n1_ n2_ n3_ n4_ n5_ n6_ n7_; (try clear hb); (try clear hb2); (try clear hk); (try clear hi)))
                            go_ret
                            exact ⟨by first | rfl | (simp [errW_none, errW_some] <;> rfl) | (simp [*, errW_none, errW_some] <;> rfl), by repeat (first | (with_reducible first | exact HB.out | apply below_alloc | apply pw_below_drewN | apply below_drew1 | refine below_set ?_ GE648.out | refine below_set ?_ GE649.out | refine below_set ?_ GE650.out) | exact HB.out)⟩
                          · rw [if_neg c179] at H
                            exact absurd H (by simp)
                        · rw [if_neg c177] at H
                          exact absurd H (by simp)
                    · rw [if_neg c117] at H
                      exact absurd H (by simp)
              · replace c58 := Bool.eq_false_iff.mpr c58
                subst c58
                have H1 : (none) = some r := by rw [if_neg (show ¬ (false = true) by decide)] at H; exact H
                clear H
                have H := H1
                clear H1
                exact absurd H (by simp)
end Go.Proofs.YtmhnfdgegejlkaaDoor.P
end

section
namespace Go.Proofs.YtmhnfdgegejlkaaDoor.P
open Go.RowKit Go.Proofs.YtmhnfdgegejlkaaDoorW.PrintWords
section
variable {H : Type} {enc : TypeId × Value → H} {P : Program} {W : World}
def Opens {α : Type} (enc : TypeId × Value → H) (P : Program) (W : World) (d : Kd α) (t : TypeId) (good : α → Prop) : Prop :=
  P.cellsOf t = d.sz ∧ ∀ (fuel : Nat) (cs : List Value) (x : DataW H) (ps : List MemPlace), DataW.trod enc P W 0 (fun _ => true) true fuel t cs = some (x, ps) → (∀ n ∈ x.weights P t, n ≤ reachBytes) → ∃ a : α, d.K W a cs ∧ good a
theorem opens_int {t : TypeId} {k : IntKind} (hu : P.underlying t = some (.int k)) (hc : P.cellsOf t = 1) : Opens enc P W (Kd.int k) t (fun a => (Lit.int k a).wf = true) := by
  refine ⟨hc, fun fuel cs x ps h _ => ?_⟩
  obtain ⟨n, rfl, _, hw⟩ := DataW.trod_int hu h
  exact ⟨n, rfl, hw⟩
theorem opens_string {t : TypeId} (hu : P.underlying t = some .string) (hc : P.cellsOf t = 1) : Opens enc P W Kd.string t (fun s => s.size ≤ 140737488351232) := by
  refine ⟨hc, fun fuel cs x ps h hw => ?_⟩
  obtain ⟨s, rfl, hx, _⟩ := DataW.trod_string hu h
  obtain ⟨rfl, rfl⟩ := Prod.mk.inj hx
  refine ⟨s, rfl, ?_⟩
  have := hw s.data.toList.length (by simp [DataW.weights])
  rw [Array.length_toList] at this
  exact this
def OpensFs {α : Type} (enc : TypeId × Value → H) (P : Program) (W : World) (d : Kd α) (fs : List Field) (o : Nat) (good : α → Prop) : Prop :=
  ∀ (n : Nat) (cs : List Value) (xs : List (DataW H × List MemPlace)), xs.length = fs.length → cs.length = o + d.sz →
    (∀ (i : Nat) (f : Field), fs[i]? = some f → DataW.trod enc P W 0 (fun _ => true) true n f.type ((cs.drop f.offset).take (P.cellsOf f.type)) = xs[i]?) →
    (∀ m ∈ DataW.weightsEach P (fs.map (·.type)) (xs.map (·.1)), m ≤ reachBytes) → ∃ a : α, d.K W a (cs.drop o) ∧ good a
theorem opensFs_one {α : Type} {d : Kd α} {f : Field} {o : Nat} {good : α → Prop} (ho : f.offset = o) (hf : Opens enc P W d f.type good) : OpensFs enc P W d [f] o good := by
  intro n cs xs hl hcs h hw
  match xs, hl with
  | [x], _ =>
    have h0 := h 0 f rfl
    rw [ho, hf.1, List.take_of_length_le (by simp; omega)] at h0
    exact hf.2 n _ x.1 x.2 h0 (fun m hm => hw m (by simpa [DataW.weightsEach] using hm))
theorem opensFs_cons {α β : Type} {d : Kd α} {e : Kd β} {f : Field} {fs : List Field} {o o' : Nat} {good : α → Prop} {good' : β → Prop} (ho : f.offset = o) (hf : Opens enc P W d f.type good) (ho' : o + d.sz = o') (hfs : OpensFs enc P W e fs o' good') :
    OpensFs enc P W (Kd.pair d e) (f :: fs) o (fun p => good p.1 ∧ good' p.2) := by
  intro n cs xs hl hcs h hw
  match xs, hl with
  | x :: xs, hl =>
    have hsz : (Kd.pair d e).sz = d.sz + e.sz := rfl
    have h0 := h 0 f rfl
    rw [ho, hf.1] at h0
    obtain ⟨a, ha, ga⟩ := hf.2 n _ x.1 x.2 h0 (fun m hm => hw m (by simp [DataW.weightsEach]; exact Or.inl hm))
    obtain ⟨b, hb, gb⟩ := hfs n cs xs (by simpa using hl) (by omega) (fun i g hg => h (i + 1) g (by simpa using hg)) (fun m hm => hw m (by simp [DataW.weightsEach]; exact Or.inr (by simpa using hm)))
    refine ⟨(a, b), ⟨(cs.drop o).take d.sz, cs.drop o', ?_, ha, hb⟩, ga, gb⟩
    rw [← ho', ← List.drop_drop, List.take_append_drop]
theorem opens_struct {α : Type} {d : Kd α} {t : TypeId} {fs : Array Field} {good : α → Prop} (hu : P.underlying t = some (.struct fs)) (hc : P.cellsOf t = d.sz) (h : OpensFs enc P W d fs.toList 0 good) : Opens enc P W d t good := by
  refine ⟨hc, fun fuel cs x ps hx hw => ?_⟩
  obtain ⟨xs, n, _, he, hl, hn, hf⟩ := DataW.trod_struct hu hx
  obtain ⟨rfl, rfl⟩ := Prod.mk.inj he
  have := h n cs xs (by simpa using hn) (by omega) (fun i f hi => hf i f (by simpa using hi)) (fun m hm => hw m (by simp only [DataW.weights, hu]; exact hm))
  simpa using this
theorem opens_iso {α β : Type} {d : Kd α} {t : TypeId} {good : α → Prop} (f : β → α) (g : α → β) (hfg : ∀ a, f (g a) = a) (h : Opens enc P W d t good) : Opens enc P W (Kd.iso d f) t (fun b => good (f b)) := by
  refine ⟨h.1, fun fuel cs x ps hx hw => ?_⟩
  obtain ⟨a, ha, ga⟩ := h.2 fuel cs x ps hx hw
  exact ⟨g a, by show d.K W (f (g a)) cs; rw [hfg]; exact ha, by show good (f (g a)); rw [hfg]; exact ga⟩
end
end Go.Proofs.YtmhnfdgegejlkaaDoor.P
end

section
namespace Go.Proofs.YtmhnfdgegejlkaaDoor.P
open Go Go.RowKit Go.Proofs.YtmhnfdgegejlkaaDoorW.PrintWords
set_option linter.unusedVariables false
theorem op3 {H : Type} (enc : TypeId × Value → H) (W : World) : Opens enc Tryd.prog W (Kd.int .i64) 3 (fun a => (Lit.int .i64 a).wf = true) := opens_int Tryd.underlying3 (by kernel_rfl)
theorem op9 {H : Type} (enc : TypeId × Value → H) (W : World) : Opens enc Tryd.prog W Kd.string 9 (fun s => s.size ≤ 140737488351232) := opens_string Tryd.underlying9 (by kernel_rfl)
def G23 (x : S23) : Prop := (Lit.int .i64 x.f0).wf = true ∧ (Lit.int .i64 x.f1).wf = true ∧ x.f2.size ≤ 140737488351232
theorem op23 {H : Type} (enc : TypeId × Value → H) (W : World) : Opens enc Tryd.prog W k23 23 G23 := opens_iso (fun x : S23 => (x.f0, x.f1, x.f2)) (fun p => ⟨p.1, p.2.1, p.2.2⟩) (fun _ => rfl) (opens_struct Tryd.underlying23 (by kernel_rfl) (opensFs_cons rfl (op3 enc W) rfl (opensFs_cons rfl (op3 enc W) rfl (opensFs_one rfl (op9 enc W)))))
def alumlaw19_ValueOrders.Pure : Prop := ∀ (x0 : S23) (x1 : S23) (x2 : S23), G23 x0 → G23 x1 → G23 x2 → ∃ k, alumlaw19_ValueOrders.f k x0.f0 x0.f1 x0.f2 x1.f0 x1.f1 x1.f2 x2.f0 x2.f1 x2.f2 = some true
end Go.Proofs.YtmhnfdgegejlkaaDoor.P
end

section
namespace Go.Proofs.YtmhnfdgegejlkaaDoor.V
open Go
set_option linter.unusedSimpArgs false
set_option linter.unusedVariables false
structure TC {α : Type} (f : α → α → Int) : Prop where
  rng : ∀ a b, f a b = -1 ∨ f a b = 0 ∨ f a b = 1
  eq0 : ∀ a b, f a b = 0 ↔ a = b
  sym : ∀ a b, f b a = - f a b
  tr : ∀ a b c, f a b = -1 → f b c = -1 → f a c = -1
namespace TC
variable {α : Type} {f : α → α → Int} (h : TC f)
include h
theorem refl (a : α) : f a a = 0 := (h.eq0 a a).2 rfl
theorem le_trans {a b c : α} (h1 : f a b ≤ 0) (h2 : f b c ≤ 0) : f a c ≤ 0 := by
  have r1 := h.rng a b; have r2 := h.rng b c
  rcases r1 with r1 | r1 | r1
  · rcases r2 with r2 | r2 | r2
    · have := h.tr a b c r1 r2; omega
    · rw [h.eq0] at r2; subst r2; omega
    · omega
  · rw [h.eq0] at r1; subst r1; exact h2
  · omega
theorem lt_le_trans {a b c : α} (h1 : f a b < 0) (h2 : f b c ≤ 0) : f a c < 0 := by
  have r1 := h.rng a b; have r2 := h.rng b c
  rcases r2 with r2 | r2 | r2
  · have := h.tr a b c (by omega) r2; omega
  · rw [h.eq0] at r2; subst r2; exact h1
  · omega
theorem le_lt_trans {a b c : α} (h1 : f a b ≤ 0) (h2 : f b c < 0) : f a c < 0 := by
  have r1 := h.rng a b; have r2 := h.rng b c
  rcases r1 with r1 | r1 | r1
  · have := h.tr a b c r1 (by omega); omega
  · rw [h.eq0] at r1; subst r1; exact h2
  · omega
theorem bound (a b : α) : -1 ≤ f a b ∧ f a b ≤ 1 := by have := h.rng a b; omega
end TC
def cmpI (a b : Int) : Int := if a < b then -1 else if b < a then 1 else 0
theorem tcI : TC cmpI where
  rng a b := by unfold cmpI; split; · omega
                split <;> omega
  eq0 a b := by unfold cmpI; split; · omega
                split <;> omega
  sym a b := by unfold cmpI; split <;> split <;> (try split) <;> omega
  tr a b c := by
    unfold cmpI
    intro h1 h2
    have h3 : a < b := by
      split at h1
      · assumption
      · split at h1 <;> omega
    have h4 : b < c := by
      split at h2
      · assumption
      · split at h2 <;> omega
    rw [if_pos (by omega)]
def lcmp {α : Type} (f : α → α → Int) : List α → List α → Int
  | [], [] => 0
  | [], _ :: _ => -1
  | _ :: _, [] => 1
  | a :: x, b :: y => if f a b = 0 then lcmp f x y else f a b
theorem tcL {α : Type} {f : α → α → Int} (h : TC f) : TC (lcmp f) where
  rng a := by
    induction a with
    | nil => intro b; cases b <;> simp [lcmp]
    | cons x a ih =>
      intro b
      cases b with
      | nil => simp [lcmp]
      | cons y b => unfold lcmp; split; exact ih b; exact h.rng x y
  eq0 a := by
    induction a with
    | nil => intro b; cases b <;> simp [lcmp]
    | cons x a ih =>
      intro b
      cases b with
      | nil => simp [lcmp]
      | cons y b =>
        unfold lcmp
        split
        · rename_i h0
          rw [ih, List.cons.injEq, (h.eq0 x y).1 h0]
          simp
        · rename_i h0
          refine ⟨fun e => absurd e h0, fun e => ?_⟩
          rw [List.cons.injEq] at e
          exact absurd ((h.eq0 x y).2 e.1) h0
  sym a := by
    induction a with
    | nil => intro b; cases b <;> simp [lcmp]
    | cons x a ih =>
      intro b
      cases b with
      | nil => simp [lcmp]
      | cons y b =>
        unfold lcmp
        have := h.sym x y
        by_cases h0 : f x y = 0
        · rw [if_pos h0, if_pos (by omega), ih]
        · rw [if_neg h0, if_neg (by omega), this]
  tr a := by
    induction a with
    | nil => intro b c h1 h2; cases c <;> cases b <;> simp_all [lcmp]
    | cons x a ih =>
      intro b c h1 h2
      cases b with
      | nil => simp [lcmp] at h1
      | cons y b =>
        cases c with
        | nil => simp [lcmp] at h2
        | cons z c =>
          unfold lcmp at h1 h2 ⊢
          by_cases h3 : f x y = 0
          · have := (h.eq0 x y).1 h3
            subst this
            rw [if_pos h3] at h1
            by_cases h4 : f x z = 0
            · rw [if_pos h4] at h2 ⊢; exact ih b c h1 h2
            · rw [if_neg h4] at h2 ⊢; exact h2
          · rw [if_neg h3] at h1
            by_cases h4 : f y z = 0
            · have := (h.eq0 y z).1 h4
              subst this
              rw [if_neg h3]; exact h1
            · rw [if_neg h4] at h2
              have := h.tr x y z h1 h2
              rw [if_neg (by omega)]; exact this
def cmpU (a b : UInt8) : Int := if a < b then -1 else if b < a then 1 else 0
theorem tcU : TC cmpU where
  rng a b := by unfold cmpU; split; · omega
                split <;> omega
  eq0 a b := by
    unfold cmpU
    constructor
    · intro h0
      split at h0
      · omega
      · split at h0
        · omega
        · exact UInt8.le_antisymm (UInt8.not_lt.1 ‹¬ b < a›) (UInt8.not_lt.1 ‹¬ a < b›)
    · rintro rfl
      rw [if_neg (UInt8.lt_irrefl a), if_neg (UInt8.lt_irrefl a)]
  sym a b := by
    unfold cmpU
    by_cases h1 : a < b
    · rw [if_pos h1, if_neg (UInt8.lt_asymm h1), if_pos h1]; rfl
    · by_cases h2 : b < a
      · rw [if_pos h2, if_neg h1, if_pos h2]
      · rw [if_neg h1, if_neg h2, if_neg h2, if_neg h1]; rfl
  tr a b c := by
    unfold cmpU
    intro h1 h2
    have h3 : a < b := by
      split at h1
      · assumption
      · split at h1 <;> omega
    have h4 : b < c := by
      split at h2
      · assumption
      · split at h2 <;> omega
    rw [if_pos (UInt8.lt_trans h3 h4)]
theorem compareBytes_eq : ∀ a b : List UInt8, Lib.compareBytes a b = lcmp cmpU a b
  | [], [] => rfl
  | [], _ :: _ => rfl
  | _ :: _, [] => rfl
  | x :: a, y :: b => by
    have ih := compareBytes_eq a b
    unfold Lib.compareBytes lcmp
    have hU : cmpU x y = if x < y then -1 else if y < x then 1 else 0 := rfl
    rw [hU]
    by_cases h1 : x < y
    · simp [h1]
    · by_cases h2 : y < x
      · simp [h1, h2]
      · simp [h1, h2, ih]
def cmpS (a b : ByteArray) : Int := Lib.compareBytes a.data.toList b.data.toList
theorem bytes_ext {a b : ByteArray} (h : a.data.toList = b.data.toList) : a = b := ByteArray.ext (Array.toList_inj.1 h)
theorem tcS : TC cmpS where
  rng a b := by unfold cmpS; rw [compareBytes_eq]; exact (tcL tcU).rng _ _
  eq0 a b := by
    unfold cmpS; rw [compareBytes_eq, (tcL tcU).eq0]
    exact ⟨bytes_ext, fun h => by rw [h]⟩
  sym a b := by unfold cmpS; rw [compareBytes_eq, compareBytes_eq]; exact (tcL tcU).sym _ _
  tr a b c := by unfold cmpS; simp only [compareBytes_eq]; exact (tcL tcU).tr _ _ _
theorem toList_beq (a b : ByteArray) : (a.toList == b.toList) = decide (a = b) := by
  rw [Bool.eq_iff_iff, beq_iff_eq, decide_eq_true_eq, ByteArray.toList_eq, ByteArray.toList_eq]
  exact ⟨bytes_ext, fun h => by rw [h]⟩
def cmp2 {α β : Type} (f : α → α → Int) (g : β → β → Int) (a b : α × β) : Int := if f a.1 b.1 = 0 then g a.2 b.2 else f a.1 b.1
theorem tc2 {α β : Type} {f : α → α → Int} {g : β → β → Int} (hf : TC f) (hg : TC g) : TC (cmp2 f g) where
  rng a b := by unfold cmp2; split; exact hg.rng _ _; exact hf.rng _ _
  eq0 a b := by
    unfold cmp2
    split
    · rename_i h; rw [hg.eq0, Prod.ext_iff, (hf.eq0 _ _).1 h]; simp
    · rename_i h
      refine ⟨fun e => absurd e h, fun e => ?_⟩
      subst e
      exact absurd (hf.refl _) h
  sym a b := by
    unfold cmp2
    have := hf.sym a.1 b.1
    by_cases h0 : f a.1 b.1 = 0
    · rw [if_pos h0, if_pos (by omega), hg.sym]
    · rw [if_neg h0, if_neg (by omega), this]
  tr a b c := by
    unfold cmp2
    intro h1 h2
    by_cases h3 : f a.1 b.1 = 0
    · have e := (hf.eq0 _ _).1 h3
      rw [if_pos h3] at h1
      by_cases h4 : f b.1 c.1 = 0
      · rw [if_pos h4] at h2
        rw [e, if_pos h4]; exact hg.tr _ _ _ h1 h2
      · rw [if_neg h4] at h2
        rw [e, if_neg h4]; exact h2
    · rw [if_neg h3] at h1
      by_cases h4 : f b.1 c.1 = 0
      · have e := (hf.eq0 _ _).1 h4
        rw [← e, if_neg h3]; exact h1
      · rw [if_neg h4] at h2
        have := hf.tr _ _ _ h1 h2
        rw [if_neg (by omega)]; exact this
theorem tcOf {α β : Type} {f : α → α → Int} (h : TC f) (g : β → α) (hg : ∀ x y, g x = g y → x = y) : TC fun x y => f (g x) (g y) where
  rng _ _ := h.rng _ _
  eq0 x y := (h.eq0 _ _).trans ⟨hg x y, fun e => by rw [e]⟩
  sym _ _ := h.sym _ _
  tr _ _ _ := h.tr _ _ _
end Go.Proofs.YtmhnfdgegejlkaaDoor.V
end

section
namespace Go.Proofs.YtmhnfdgegejlkaaDoor.V
open Go Go.RowKit Go.Proofs.YtmhnfdgegejlkaaDoor.P Go.Proofs.YtmhnfdgegejlkaaDoorW.PrintWords
set_option linter.unusedSimpArgs false
set_option linter.unusedVariables false
abbrev V := S23
abbrev e0 : ByteArray := ⟨#[]⟩
theorem V_ext {a b : V} (h0 : a.f0 = b.f0) (h1 : a.f1 = b.f1) (h2 : a.f2 = b.f2) : a = b := by cases a; cases b; simp_all
instance : DecidableEq V := fun a b => decidable_of_iff (a.f0 = b.f0 ∧ a.f1 = b.f1 ∧ a.f2 = b.f2) ⟨fun h => V_ext h.1 h.2.1 h.2.2, fun h => by rw [h]; exact ⟨rfl, rfl, rfl⟩⟩
theorem veq_iff (a b : V) : (a.f0 == b.f0 && (a.f1 == b.f1 && (a.f2.toList == b.f2.toList))) = decide (a = b) := by
  rw [toList_beq, Bool.eq_iff_iff]
  simp only [Bool.and_eq_true, beq_iff_eq, decide_eq_true_eq]
  exact ⟨fun h => V_ext h.1 h.2.1 h.2.2, fun h => by rw [h]; simp⟩
theorem wrap64_id {x : Int} (h1 : -9223372036854775808 ≤ x) (h2 : x ≤ 9223372036854775807) : wrap64 x = x := by unfold wrap64; omega
def vcmp (a b : V) : Int := cmp2 cmpI (cmp2 cmpI cmpS) (a.f0, a.f1, a.f2) (b.f0, b.f1, b.f2)
theorem tcV : TC vcmp := tcOf (tc2 tcI (tc2 tcI tcS)) (fun a : V => (a.f0, a.f1, a.f2)) (fun x y h => by simp only [Prod.mk.injEq] at h; exact V_ext h.1 h.2.1 h.2.2)
theorem ev_cmpInt (a b : Int) : cmp_Compare_int.f a b = some (cmpI a b) := by
  unfold cmp_Compare_int.f cmp_isNaN_int.f cmpI
  simp only [bne_self_eq_false, Option.bind_some, Bool.false_eq_true, if_false]
  split
  · rfl
  · split <;> rfl
theorem ev_Or (k : Nat) (x y z : Int) : cmp_Or_int.f (k + 4) [x, y, z] = some (if x = 0 then if y = 0 then z else y else x) := by
  have r0 : rd [x, y, z] 0 = x := rfl
  have r1 : rd [x, y, z] 1 = y := rfl
  have r2 : rd [x, y, z] 2 = z := rfl
  have w1 : wrap64 (0 + 1) = 1 := wrap64_id (by omega) (by omega)
  have w2 : wrap64 (1 + 1) = 2 := wrap64_id (by omega) (by omega)
  have w3 : wrap64 (2 + 1) = 3 := wrap64_id (by omega) (by omega)
  unfold cmp_Or_int.f
  simp only [cmp_Or_int.l0, r0, r1, r2, w1, w2, w3, List.length_cons, List.length_nil]
  by_cases hx : x = 0 <;> by_cases hy : y = 0 <;> by_cases hz : z = 0 <;> simp [hx, hy, hz]
theorem ev_Compare (k : Nat) (a b : V) : value_Compare.f (k + 4) a.f0 a.f1 a.f2 b.f0 b.f1 b.f2 = some (vcmp a b) := by
  unfold value_Compare.f
  simp only [ev_cmpInt, Option.bind_some, strings_Compare.f, ev_Or, vcmp, cmp2]
  by_cases h0 : cmpI a.f0 b.f0 = 0 <;> by_cases h1 : cmpI a.f1 b.f1 = 0 <;> simp [h0, h1, cmpS]
theorem ev_Compare' (k : Nat) (hk : 4 ≤ k) (a b : V) : value_Compare.f k a.f0 a.f1 a.f2 b.f0 b.f1 b.f2 = some (vcmp a b) := by
  obtain ⟨k, rfl⟩ : ∃ m, k = m + 4 := ⟨k - 4, by omega⟩
  exact ev_Compare k a b
end Go.Proofs.YtmhnfdgegejlkaaDoor.V
end

section
namespace Go.Proofs.YtmhnfdgegejlkaaDoor.V
open Go Go.RowKit Go.Proofs.YtmhnfdgegejlkaaDoor.P Go.Proofs.YtmhnfdgegejlkaaDoorW.PrintWords
set_option linter.unusedSimpArgs false
set_option linter.unusedVariables false
def Rt (v : V) : Prop := (v.f0 = 0 ∧ v.f1 = 0 ∧ v.f2 = e0) ∨ (v.f0 = 1 ∧ -549755813888 ≤ v.f1 ∧ v.f1 ≤ 549755813887 ∧ v.f2 = e0) ∨ (v.f0 = 2 ∧ v.f1 = 0 ∧ v.f2.size ≤ 40) ∨ (v.f0 = 3 ∧ (v.f1 = 0 ∨ v.f1 = 1) ∧ v.f2 = e0)
theorem empty_beq (s : ByteArray) : (s.toList == ([] : List UInt8)) = true ↔ s = e0 := by
  rw [beq_iff_eq, ByteArray.toList_eq]
  constructor
  · intro h; exact bytes_ext h
  · rintro rfl; rfl
theorem refRight_some (v : V) : ∃ b, alumref19_Right.f v.f0 v.f1 v.f2 = some b ∧ (b = true ↔ Rt v) := by
  unfold alumref19_Right.f Rt
  by_cases h0 : v.f0 = 0
  · rw [if_pos h0]
    by_cases h1 : v.f1 = 0
    · rw [if_pos h1]; exact ⟨_, rfl, by rw [empty_beq]; simp [h0, h1]⟩
    · rw [if_neg h1]; exact ⟨_, rfl, by simp [h0, h1]⟩
  · rw [if_neg h0]
    by_cases h1 : v.f0 = 1
    · rw [if_pos h1]
      by_cases h2 : v.f1 ≥ -549755813888
      · rw [if_pos h2]
        by_cases h3 : v.f1 ≤ 549755813887
        · rw [if_pos h3]; exact ⟨_, rfl, by rw [empty_beq]; simp [h1, h3]; omega⟩
        · rw [if_neg h3]; exact ⟨_, rfl, by simp [h1, h3]⟩
      · rw [if_neg h2]; exact ⟨_, rfl, by simp [h1]; omega⟩
    · rw [if_neg h1]
      by_cases h2 : v.f0 = 2
      · rw [if_pos h2]
        by_cases h3 : v.f1 = 0
        · rw [if_pos h3]; exact ⟨_, rfl, by simp [h2, h3]; omega⟩
        · rw [if_neg h3]; exact ⟨_, rfl, by simp [h2, h3]⟩
      · rw [if_neg h2]
        by_cases h3 : v.f0 = 3
        · rw [if_pos h3]
          by_cases h4 : v.f1 = 0
          · rw [if_pos h4]; exact ⟨_, rfl, by rw [empty_beq]; simp [h3, h4]⟩
          · rw [if_neg h4]
            by_cases h5 : v.f1 = 1
            · rw [if_pos h5]; exact ⟨_, rfl, by rw [empty_beq]; simp [h3, h4, h5]⟩
            · rw [if_neg h5]; exact ⟨_, rfl, by simp [h3, h4, h5]⟩
        · rw [if_neg h3]; exact ⟨_, rfl, by simp [h0, h1, h2, h3]⟩
theorem refRight_yes {v : V} (h : Rt v) : alumref19_Right.f v.f0 v.f1 v.f2 = some true := by
  obtain ⟨b, hb, hi⟩ := refRight_some v
  rw [hb, hi.2 h]
theorem refRight_no {v : V} (h : ¬ Rt v) : alumref19_Right.f v.f0 v.f1 v.f2 = some false := by
  obtain ⟨b, hb, hi⟩ := refRight_some v
  rw [hb]
  cases b with
  | false => rfl
  | true => exact absurd (hi.1 rfl) h
end Go.Proofs.YtmhnfdgegejlkaaDoor.V
end

section
namespace Go.Proofs.YtmhnfdgegejlkaaDoor.V
open Go Go.RowKit Go.Proofs.YtmhnfdgegejlkaaDoor.P Go.Proofs.YtmhnfdgegejlkaaDoorW.PrintWords
theorem sanity_at : alumlaw19_sanity.f 40 = some true := by kernel_rfl
theorem ev_sanity (k : Nat) (hk : 40 ≤ k) : alumlaw19_sanity.f k = some true := at_rounds (fun k => alumlaw19_sanity.mono k) hk sanity_at
end Go.Proofs.YtmhnfdgegejlkaaDoor.V
end

section
namespace Go.Proofs.YtmhnfdgegejlkaaDoor.V
open Go Go.RowKit Go.Proofs.YtmhnfdgegejlkaaDoor.P Go.Proofs.YtmhnfdgegejlkaaDoorW.PrintWords
set_option linter.unusedSimpArgs false
set_option linter.unusedVariables false
theorem rdV (l : List V) (i : Nat) (h : i < l.length) : rd_T23 l (i : Int) = l[i] := by
  unfold rd_T23
  rw [Int.toNat_natCast, List.getD_eq_getElem?_getD, List.getElem?_eq_getElem h]
  rfl
theorem wrap_succ (i : Nat) (h : i < 9223372036854775807) : wrap64 ((i : Int) + 1) = ((i + 1 : Nat) : Int) := by rw [wrap64_id (by omega) (by omega)]; rfl
theorem rows_loop (x y : List V) (hx : x.length ≤ 9223372036854775807) (d : Nat) : ∀ (k i : Nat), x.length - i = d → i ≤ x.length → i ≤ y.length → d + 6 ≤ k →
    slices_CompareFunc_Row_Row_Value_Value_value_Compare.l0 k x y x x.length i = some (lcmp vcmp (x.drop i) (y.drop i)) := by
  induction d with
  | zero =>
    intro k i hd h1 h2 hk
    obtain ⟨k, rfl⟩ : ∃ m, k = m + 1 := ⟨k - 1, by omega⟩
    have hi : i = x.length := by omega
    simp only [slices_CompareFunc_Row_Row_Value_Value_value_Compare.l0]
    rw [if_neg (by omega), hi, List.drop_length]
    by_cases hl : x.length < y.length
    · rw [if_pos (by omega)]
      have : y.drop x.length ≠ [] := by simp; omega
      match h : y.drop x.length, this with
      | a :: l, _ => rfl
    · rw [if_neg (by omega), List.drop_eq_nil_of_le (by omega)]; rfl
  | succ d ih =>
    intro k i hd h1 h2 hk
    obtain ⟨k, rfl⟩ : ∃ m, k = m + 1 := ⟨k - 1, by omega⟩
    have hi : i < x.length := by omega
    simp only [slices_CompareFunc_Row_Row_Value_Value_value_Compare.l0]
    rw [if_pos (by omega), if_pos (by omega), if_pos (by omega)]
    by_cases hy : i < y.length
    · rw [if_neg (by omega), if_pos (by omega), rdV x i hi, rdV y i hy, ev_Compare' k (by omega)]
      simp only [Option.bind_some]
      rw [List.drop_eq_getElem_cons hi, List.drop_eq_getElem_cons hy]
      unfold lcmp
      by_cases hc : vcmp x[i] y[i] = 0
      · rw [if_pos hc, if_pos hc, wrap_succ i (by omega)]
        exact ih k (i + 1) (by omega) (by omega) (by omega) (by omega)
      · rw [if_neg hc, if_neg hc]
    · rw [if_pos (by omega), List.drop_eq_getElem_cons hi, show y.drop i = [] from List.drop_eq_nil_of_le (by omega)]; rfl
theorem ev_CompareRows (k : Nat) (x y : List V) (hx : x.length ≤ 9223372036854775807) (hk : x.length + 6 ≤ k) : value_CompareRows.f k x y = some (lcmp vcmp x y) := by
  unfold value_CompareRows.f slices_CompareFunc_Row_Row_Value_Value_value_Compare.f
  have := rows_loop x y hx x.length k 0 (by omega) (by omega) (by omega) hk
  rw [Int.natCast_zero] at this
  rw [this]
  rfl
end Go.Proofs.YtmhnfdgegejlkaaDoor.V
end

section
namespace Go.Proofs.YtmhnfdgegejlkaaDoor.V
open Go Go.RowKit Go.Proofs.YtmhnfdgegejlkaaDoor.P Go.Proofs.YtmhnfdgegejlkaaDoorW.PrintWords
set_option linter.unusedSimpArgs false
set_option linter.unusedVariables false
theorem rows_ab (k : Nat) (hk : 20 ≤ k) (a b c : V) : value_CompareRows.f k [a, b] [a, c] = some (vcmp b c) := by
  rw [ev_CompareRows k _ _ (by simp) (by simp; omega)]
  have := tcV.refl a
  unfold lcmp
  rw [if_pos this]
  unfold lcmp
  by_cases h : vcmp b c = 0
  · rw [if_pos h, h]; rfl
  · rw [if_neg h]
theorem rows_a (k : Nat) (hk : 20 ≤ k) (a b : V) : value_CompareRows.f k [a] [a, b] = some (-1) := by
  rw [ev_CompareRows k _ _ (by simp) (by simp; omega)]
  have := tcV.refl a
  unfold lcmp
  rw [if_pos this]
  rfl
theorem ValueOrders : alumlaw19_ValueOrders.Pure := by
  intro a b c ga gb gc
  refine ⟨80, ?_⟩
  unfold alumlaw19_ValueOrders.f
  by_cases ra : Rt a
  · rw [refRight_yes ra]
    simp only [Option.bind_some, if_true]
    by_cases rb : Rt b
    · rw [refRight_yes rb]
      simp only [Option.bind_some, if_true]
      by_cases rc : Rt c
      · rw [refRight_yes rc]
        simp only [Option.bind_some, Bool.not_true, alumlaw19_ValueOrders.j0, Bool.false_eq_true, if_false]
        rw [ev_Compare' _ (by omega) a b, ev_Compare' _ (by omega) b c, ev_Compare' _ (by omega) a c, ev_Compare' _ (by omega) b a]
        simp only [Option.bind_some]
        have b1 := tcV.bound a b
        have s1 := tcV.sym a b
        have e1 := tcV.eq0 a b
        have e2 := tcV.eq0 b c
        have t1 := @TC.le_trans _ _ tcV a b c
        have t2 := @TC.lt_le_trans _ _ tcV a b c
        have t3 := @TC.le_lt_trans _ _ tcV a b c
        rw [s1, Int.neg_neg, wrap64_id (by omega) (by omega), if_pos rfl, if_neg (by omega), if_neg (by omega), veq_iff]
        have hq : ((vcmp a b == 0) != decide (a = b)) = false := by
          by_cases h : a = b
          · simp [h, tcV.refl]
          · have : vcmp a b ≠ 0 := fun h' => h (e1.1 h')
            simp [h, this]
        rw [hq]
        simp only [alumlaw19_ValueOrders.j1, Bool.false_eq_true, if_false, ev_sanity _ (show 40 ≤ 78 by omega), Option.bind_some, if_true]
        rw [rows_ab _ (by omega) a b c, rows_a _ (by omega) a b]
        simp only [Option.bind_some, if_true]
        generalize vcmp a b = p at *
        generalize vcmp b c = q at *
        generalize vcmp a c = r at *
        by_cases h1 : p > 0
        · rw [if_pos h1]; rfl
        · rw [if_neg h1]
          by_cases h2 : q > 0
          · rw [if_pos h2]; rfl
          · rw [if_neg h2, if_pos (by have := t1 (by omega) (by omega); omega)]
            by_cases h3 : p = 0
            · rw [if_pos h3]
              by_cases h4 : q = 0
              · rw [if_pos h4]; rfl
              · rw [if_neg h4, if_pos (by have := t3 (by omega) (by omega); omega)]; rfl
            · rw [if_neg h3, if_pos (by have := t2 (by omega) (by omega); omega)]; rfl
      · rw [refRight_no rc]; simp [alumlaw19_ValueOrders.j0, ev_sanity]
    · rw [refRight_no rb]; simp [alumlaw19_ValueOrders.j0, ev_sanity]
  · rw [refRight_no ra]; simp [alumlaw19_ValueOrders.j0, ev_sanity]
end Go.Proofs.YtmhnfdgegejlkaaDoor.V
end

section
namespace Go.Proofs.YtmhnfdgegejlkaaDoor.valueOrders
open Go Go.ChangeShapes Go.WideShapes Go.ChangeAt Go.RowKit Go.Proofs.YtmhnfdgegejlkaaDoor.P Go.Proofs.YtmhnfdgegejlkaaDoorW.PrintWords
open Go.ChangeMaps (open_string shut_string)
set_option linter.unusedVariables false
theorem own : ownKnob Tryd.prog.godebug = none := by kernel_rfl
theorem laidOut : laidOutB Tryd.prog = true := by kernel_rfl
theorem door_met (os : Os) (args : Array Value) : laidMetH Tryd.prog Rows.valueOrdersRow.laid ((World.doorLaid Tryd.prog 72 os).forCall (fun _ _ => 0) ⟨#[], args, []⟩).memory :=
  laidMetH_of_parts3 (fuel := 8) (laidMet_of_run' 8 (by kernel_rfl) (by kernel_rfl)) (by kernel_rfl) (by kernel_rfl)
set_option maxRecDepth 100000 in
set_option maxHeartbeats 4000000 in
theorem lifted (os : Os) (started : os.Started) (H : Type) (enc : TypeId × Value → H) :
    ReturnsInHanded {} Tryd.checked os 6 .any (fun w args => (Rows.valueOrdersSpec.pre enc Tryd.prog Tryd.f6 [] false w args ∧ laidMetH Tryd.prog Rows.valueOrdersRow.laid w) ∧ sizedMet enc Tryd.prog Tryd.f6 (OpenSpec.ofChange Rows.valueOrdersSpec) false w args)
      (Rows.valueOrdersSpec.post enc Tryd.prog Tryd.f6 false true false false) := by
  refine returnsInHanded_of_change_and (C := Tryd.checked) (X := fun w _ => laidMetH Tryd.prog Rows.valueOrdersRow.laid w) (fun _ _ _ hh h => h.of_heap hh) own started (by kernel_rfl) Tryd.func6
    (ChangeSpec.witness_shaped (enc := enc) (C := Tryd.checked) (os := os) (X := fun w _ => laidMetH Tryd.prog Rows.valueOrdersRow.laid w) false (World.doorLaid Tryd.prog 72 os) #[.agg #[.int .i64 0, .int .i64 0, .string ByteArray.empty], .agg #[.int .i64 0, .int .i64 0, .string ByteArray.empty], .agg #[.int .i64 0, .int .i64 0, .string ByteArray.empty]] 8 rfl (World.shaped_of_RefB (by kernel_rfl) (by kernel_rfl)) (by kernel_rfl) (by kernel_rfl) (by kernel_rfl) (door_met os _)) ?_
  intro W base args ds gs before hval0 hW hcnd hsz0 hL _
  have hsz : (DataW.weightsEach Tryd.prog (Tryd.f6.params.toList ++ Rows.valueOrdersSpec.plain.varTypes Tryd.prog) (ds ++ gs)).all (· ≤ reachBytes) = true := hsz0
  have hval : ∀ (j : Nat) t v, Tryd.f6.params[j]? = some t → args[j]? = some v → Value.okWide Tryd.prog W .any base t v := hval0
  have hW' := hW
  obtain ⟨p, q, hA0, hV, rfl, hfz, hnd⟩ := hW
  have hA : DataW.TrodAll enc Tryd.prog W 0 (fun _ => true) true Tryd.f6.params.toList args.toList ds p := hA0
  rw [Tryd.params6] at hA hval hsz
  obtain ⟨v0, vs0, d0, ds0, p0, q0, hargs, rfl, rfl, h0, r0⟩ := trodAll_cons hA
  obtain ⟨v1, vs1, d1, ds1, p1, q1, rfl, rfl, rfl, h1, r1⟩ := trodAll_cons r0
  obtain ⟨v2, vs2, d2, ds2, p2, q2, rfl, rfl, rfl, h2, r2⟩ := trodAll_cons r1
  obtain ⟨rfl, rfl, rfl⟩ := trodAll_nil r2
  obtain rfl : args = #[v0, v1, v2] := by cases args; simp_all
  obtain ⟨rfl, rfl⟩ := trodVars_none hV
  have wt0 : ∀ m ∈ d0.weights Tryd.prog 23, m ≤ reachBytes := fun m hm => of_decide_eq_true (List.all_eq_true.1 hsz m (DataW.weights_mem_each (j := 0) rfl rfl m hm))
  have k0 := h0
  have lt0 : ∀ x ∈ p0, x.block < W.heap.size := by obtain ⟨m, hm⟩ := k0; exact DataW.trod_lt m _ _ _ hm
  obtain ⟨cs0, rfl, hcs0⟩ := okWide_struct Tryd.underlying23 (hval 0 23 v0 rfl rfl)
  obtain ⟨fu0, hf0⟩ := h0
  obtain ⟨x0, K0, g0⟩ := (op23 enc W).2 fu0 _ _ _ hf0 wt0
  obtain rfl : cs0 = #[.int .i64 x0.f0, .int .i64 x0.f1, .string x0.f2] := Array.toList_inj.1 (k23_open K0)
  have wt1 : ∀ m ∈ d1.weights Tryd.prog 23, m ≤ reachBytes := fun m hm => of_decide_eq_true (List.all_eq_true.1 hsz m (DataW.weights_mem_each (j := 1) rfl rfl m hm))
  have k1 := h1
  have lt1 : ∀ x ∈ p1, x.block < W.heap.size := by obtain ⟨m, hm⟩ := k1; exact DataW.trod_lt m _ _ _ hm
  obtain ⟨cs1, rfl, hcs1⟩ := okWide_struct Tryd.underlying23 (hval 1 23 v1 rfl rfl)
  obtain ⟨fu1, hf1⟩ := h1
  obtain ⟨x1, K1, g1⟩ := (op23 enc W).2 fu1 _ _ _ hf1 wt1
  obtain rfl : cs1 = #[.int .i64 x1.f0, .int .i64 x1.f1, .string x1.f2] := Array.toList_inj.1 (k23_open K1)
  have wt2 : ∀ m ∈ d2.weights Tryd.prog 23, m ≤ reachBytes := fun m hm => of_decide_eq_true (List.all_eq_true.1 hsz m (DataW.weights_mem_each (j := 2) rfl rfl m hm))
  have k2 := h2
  have lt2 : ∀ x ∈ p2, x.block < W.heap.size := by obtain ⟨m, hm⟩ := k2; exact DataW.trod_lt m _ _ _ hm
  obtain ⟨cs2, rfl, hcs2⟩ := okWide_struct Tryd.underlying23 (hval 2 23 v2 rfl rfl)
  obtain ⟨fu2, hf2⟩ := h2
  obtain ⟨x2, K2, g2⟩ := (op23 enc W).2 fu2 _ _ _ hf2 wt2
  obtain rfl : cs2 = #[.int .i64 x2.f0, .int .i64 x2.f1, .string x2.f2] := Array.toList_inj.1 (k23_open K2)
  clear hA0 hval0 hsz0 hsz
  obtain ⟨k, h⟩ := V.ValueOrders x0 x1 x2 g0 g1 g2
  refine (alumlaw19_ValueOrders.calls k x0.f0 x0.f1 x0.f2 x1.f0 x1.f1 x1.f2 x2.f0 x2.f1 x2.f2 true W h).mono fun e W' ⟨he, bel⟩ => ?_
  subst he
  exact ⟨_, rfl, _, _, _, [], _, [], hW', trodAll_mk1 (shut_bool Tryd.underlying4 _), (trodAll_cons_mk (Below.trod laidOut (by kernel_rfl) (of_decide_eq_true (by kernel_rfl)) k0 bel lt0) (trodAll_cons_mk (Below.trod laidOut (by kernel_rfl) (of_decide_eq_true (by kernel_rfl)) k1 bel lt1) (trodAll_cons_mk (Below.trod laidOut (by kernel_rfl) (of_decide_eq_true (by kernel_rfl)) k2 bel lt2) trodAll_mk0))), rfl, bel.frame _, fun h => by cases h⟩
theorem over : Rows.valueOrdersRow.holds Tryd.pinned (OpenSpec.ofChange Rows.valueOrdersSpec) :=
  OpenClaim.holds_of_wide 6 Tryd.f6 rfl rfl rfl rfl rfl rfl rfl ⟨rfl, rfl, rfl, rfl, rfl⟩ rfl rfl rfl rfl rfl (by kernel_rfl) Tryd.func6 (by kernel_rfl)
    (of_decide_eq_true (by kernel_rfl)) (by unfold Func.isWrapper; first | (rw [if_pos (by decide +kernel)]; kernel_rfl) | (rw [if_neg (by decide +kernel)]; exact ⟨rfl, rfl⟩))
    (fun os started H enc _ => lifted os started H enc)
theorem proved : Rows.ValueOrdersSaid := over
theorem card : Rows.ValueOrdersCardSaid :=
  Claim7.holds_tied_plain_at .later [] [.data, .data, .data] true (true, "eaa6d28c6d451e0ea154fbe0a4847d0661ee0ec78c71484efcf210b047928753") true
    proved (fun _ h => by cases h) (by kernel_rfl) (fun _ h => by cases h) valueOrders_row_tie rfl ⟨rfl, rfl⟩ (by kernel_rfl) rfl
    (fun f fn hf hfn => by
      obtain rfl : f = 6 := Option.some.inj ((show Tryd.prog.funcNamed "alum/alumlaw19.ValueOrders" = some 6 by kernel_rfl).symm.trans hf) |>.symm
      obtain rfl : fn = Tryd.f6 := (Option.some.inj (Tryd.func6.symm.trans hfn)).symm
      exact ⟨by kernel_rfl, fun j t ht => by
        rw [Tryd.params6] at ht
        have hm : t ∈ [23, 23, 23] := by simpa using Array.mem_of_getElem? ht
        have hall : ([23, 23, 23].all fun u => !Tryd.prog.wantsStandIn u) = true := by kernel_rfl
        exact (show Tryd.prog.wantsStandIn t = false by simpa using List.all_eq_true.1 hall t hm)⟩)
    (by kernel_rfl)
#print axioms card
end Go.Proofs.YtmhnfdgegejlkaaDoor.valueOrders
end
