/- For any three right values that are null or boolean, And and Or are commutative and associative and distribute over each other, Not is its own inverse and exchanges them, and what is told of unknown values holds whatever they are. -/
import Derived.Test.YtmhnfdgegejlkaaDoorBValueLogic0
import Derived.Test.YtmhnfdgegejlkaaDoorBValueLogic1
import Derived.Test.YtmhnfdgegejlkaaDoorBValueLogic2
import Derived.Test.YtmhnfdgegejlkaaDoorRows
import Derived.WalkKit
import Derived.ProofKit
import Derived.OpenShut
import Derived.ShutString
import Derived.ChangeOld
import Derived.Below
import Derived.SizedLaws
import Derived.LaidMore
import Derived.Stop.Joined
import Derived.Test.YtmhnfdgegejlkaaDoorCards
import Derived.Test.YtmhnfdgegejlkaaDoorTie
import Derived.SevenTiedAt
section
namespace Go.Proofs.YtmhnfdgegejlkaaDoor.P
open Go.RowKit Go.Proofs.YtmhnfdgegejlkaaDoorW.PrintWords Go.Proofs.YtmhnfdgegejlkaaDoorW.PrintLast Go.Proofs.YtmhnfdgegejlkaaDoorW.PrintMore
attribute [local go_sem] max2_int min2_int max_two min_two max_three min_three max_four min_four
set_option linter.unusedVariables false
set_option linter.unusedSimpArgs false
attribute [local go_sem high] eqA23
set_option maxHeartbeats 8000000 in
set_option maxRecDepth 100000 in
theorem alumlaw19_ValueLogic.calls (k : Nat) (a0_0 : Int) (a0_1 : Int) (a0_2 : ByteArray) (a1_0 : Int) (a1_1 : Int) (a1_2 : ByteArray) (a2_0 : Int) (a2_1 : Int) (a2_2 : ByteArray) (r : Bool) (w : World) (h : alumlaw19_ValueLogic.f k a0_0 a0_1 a0_2 a1_0 a1_1 a1_2 a2_0 a2_1 a2_2 = some r) :
  Calls Tryd.prog 4 #[.agg #[.int .i64 a0_0, .int .i64 a0_1, .string a0_2], .agg #[.int .i64 a1_0, .int .i64 a1_1, .string a1_2], .agg #[.int .i64 a2_0, .int .i64 a2_1, .string a2_2]] w fun e w' => e = .returned (.bool r) ∧ Below w.heap.size w w' := by
 have hu23 := Tryd.underlying23
 have HB := Aside0.mk (Below.refl w.heap.size w)
 have H : ((some (([(⟨a0_0, a0_1, a0_2⟩ : S23), (⟨a1_0, a1_1, a1_2⟩ : S23), (⟨a2_0, a2_1, a2_2⟩ : S23)] : List (S23)) : List (S23))).bind fun y376 => (alumlaw19_ValueLogic.l0 k true y376 (y376.length : Int) 0 a0_0 a0_1 a0_2 a1_0 a1_1 a1_2 a2_0 a2_1 a2_2)) = some r := h
 clear h
 obtain ⟨y376, hy376⟩ : ∃ y_ : List (S23), y_ = (([(⟨a0_0, a0_1, a0_2⟩ : S23), (⟨a1_0, a1_1, a1_2⟩ : S23), (⟨a2_0, a2_1, a2_2⟩ : S23)] : List (S23))) := ⟨_, rfl⟩
 replace H : (alumlaw19_ValueLogic.l0 k true y376 (y376.length : Int) 0 a0_0 a0_1 a0_2 a1_0 a1_1 a1_2 a2_0 a2_1 a2_2) = some r := by first | (rw [hy376]; with_reducible exact H) | (have H2_ := (Option.bind_some _ _).symm.trans H; rw [hy376]; with_reducible exact H2_) | (have H2_ := (Option.bind_some _ _).symm.trans H; with_reducible exact H2_) | with_reducible exact H | (rw [hy376]; exact H) | exact H
 have Ny376 := Aside0.mk hy376
 clear hy376
 have H' := Aside0.mk H
 clear H
 go_enter Tryd.func4, Tryd.ntmps4
 go_wp2_with (first | ((with_reducible refine gate_dst (N := 3) rfl ?_); refine box_event ?hg (N := 3) ?hd (cs := #[.int .i64 a0_0, .int .i64 a0_1, .string a0_2]) (t := 23) ?hr ?_; (case hd => rfl); (case hg => rfl); (case hr => first | (go_simp; done) | (go_simp; rfl)); intro gb373 hg w4 hbox hb; have BK373 := Aside0.mk (hbox); have GW373 := (sizeB HB hg : Aside0 (w.heap.size ≤ gb373)); have GE373 := (sizeB HB hg : Aside0 (w.heap.size ≤ gb373)); replace HB := stepB HB hb; clear hb hbox hg) | ((with_reducible refine gate_dst (N := 4) rfl ?_); refine box_event ?hg (N := 4) ?hd (cs := #[.int .i64 a1_0, .int .i64 a1_1, .string a1_2]) (t := 23) ?hr ?_; (case hd => rfl); (case hg => rfl); (case hr => first | (go_simp; done) | (go_simp; rfl)); intro gb374 hg w5 hbox hb; have BK374 := Aside0.mk (hbox); have GW374 := (sizeB HB hg : Aside0 (w.heap.size ≤ gb374)); have GE374 := (sizeB HB hg : Aside0 (w.heap.size ≤ gb374)); have NB373_374 := neB BK373 hg; have NB374_373 := neC BK373 hg; replace BK373 := blkB BK373 hb; replace HB := stepB HB hb; clear hb hbox hg) | ((with_reducible refine gate_dst (N := 5) rfl ?_); refine box_event ?hg (N := 5) ?hd (cs := #[.int .i64 a2_0, .int .i64 a2_1, .string a2_2]) (t := 23) ?hr ?_; (case hd => rfl); (case hg => rfl); (case hr => first | (go_simp; done) | (go_simp; rfl)); intro gb375 hg w6 hbox hb; have BK375 := Aside0.mk (hbox); have GW375 := (sizeB HB hg : Aside0 (w.heap.size ≤ gb375)); have GE375 := (sizeB HB hg : Aside0 (w.heap.size ≤ gb375)); have NB373_375 := neB BK373 hg; have NB375_373 := neC BK373 hg; have NB374_375 := neB BK374 hg; have NB375_374 := neC BK374 hg; replace BK373 := blkB BK373 hb; replace BK374 := blkB BK374 hb; replace HB := stepB HB hb; clear hb hbox hg; have hnb7 := NB373_374.out; have hnc7 := NB374_373.out; have hnb8 := NB373_375.out; have hnc8 := NB375_373.out; have hcz9_0 : w6.cell? ⟨gb373, 0, none⟩ = some (.int .i64 a0_0) := bc BK373 0; have hcz9_1 : w6.cell? ⟨gb373, 1, none⟩ = some (.int .i64 a0_1) := bc BK373 1; have hcz9_2 : w6.cell? ⟨gb373, 2, none⟩ = some (.string a0_2) := bc BK373 2; have hfz9_0 := blk_frozen BK373.out 0; have hfz9_1 := blk_frozen BK373.out 1; have hfz9_2 := blk_frozen BK373.out 2; have hnb10 := NB374_375.out; have hnc10 := NB375_374.out; have hcz11_0 : w6.cell? ⟨gb374, 0, none⟩ = some (.int .i64 a1_0) := bc BK374 0; have hcz11_1 : w6.cell? ⟨gb374, 1, none⟩ = some (.int .i64 a1_1) := bc BK374 1; have hcz11_2 : w6.cell? ⟨gb374, 2, none⟩ = some (.string a1_2) := bc BK374 2; have hfz11_0 := blk_frozen BK374.out 0; have hfz11_1 := blk_frozen BK374.out 1; have hfz11_2 := blk_frozen BK374.out 2; have hcz12_0 : w6.cell? ⟨gb375, 0, none⟩ = some (.int .i64 a2_0) := bc BK375 0; have hcz12_1 : w6.cell? ⟨gb375, 1, none⟩ = some (.int .i64 a2_1) := bc BK375 1; have hcz12_2 : w6.cell? ⟨gb375, 2, none⟩ = some (.string a2_2) := bc BK375 2; have hfz12_0 := blk_frozen BK375.out 0; have hfz12_1 := blk_frozen BK375.out 1; have hfz12_2 := blk_frozen BK375.out 2) | ((with_reducible refine gate_dst (N := 17) rfl ?_); refine Kd.R_lit k23 _ 23 ?hg (N := 17) ?hd (xs := ([(⟨a0_0, a0_1, a0_2⟩ : S23), (⟨a1_0, a1_1, a1_2⟩ : S23), (⟨a2_0, a2_1, a2_2⟩ : S23)] : List (S23))) (inner := [.int .i64 a0_0, .int .i64 a0_1, .string a0_2, .int .i64 a1_0, .int .i64 a1_1, .string a1_2, .int .i64 a2_0, .int .i64 a2_1, .string a2_2]) (ok := fun _ => True) (okp := fun _ => True) ?hr ?hp (fun _ hk => hk) trivial (Below.refl _ _) (Nat.le_refl _) (by simp) ?_; (case hd => rfl); (case hg => rfl); (case hr => first | (go_simp; done) | (go_simp; rfl)); (case hp => exact (Reps.c3 (show Kd.M k23 _ _ _ (⟨a0_0, a0_1, a0_2⟩ : S23) [.int .i64 a0_0, .int .i64 a0_1, .string a0_2] from (k23_mkM _ _ _ (⟨a0_0, a0_1, a0_2⟩ : S23) )) (Reps.c3 (show Kd.M k23 _ _ _ (⟨a1_0, a1_1, a1_2⟩ : S23) [.int .i64 a1_0, .int .i64 a1_1, .string a1_2] from (k23_mkM _ _ _ (⟨a1_0, a1_1, a1_2⟩ : S23) )) (Reps.c3 (show Kd.M k23 _ _ _ (⟨a2_0, a2_1, a2_2⟩ : S23) [.int .i64 a2_0, .int .i64 a2_1, .string a2_2] from (k23_mkM _ _ _ (⟨a2_0, a2_1, a2_2⟩ : S23) )) (Reps.none _ _))))); intro v377 w13 ho14 hb hg_ hnew_; clear hg_ hnew_; (first | rw [← Ny376.out] at ho14 | (simp only [Int.reduceToNat] at ho14; rw [← Ny376.out] at ho14)); have HO378 := Aside0.mk (Kd.R_lower (Kd.R_newB (Kd.R_newB (Kd.R_newB ho14 (g := gb373) (o := .cells #[.int .i64 a0_0, .int .i64 a0_1, .string a0_2] 23 (0, 0)) (by (with_reducible repeat (first | refine blk_drewN ?_ _ | refine blk_drew ?_ | refine blk_alloc ?_ _)); exact BK373.out)) (g := gb374) (o := .cells #[.int .i64 a1_0, .int .i64 a1_1, .string a1_2] 23 (0, 0)) (by (with_reducible repeat (first | refine blk_drewN ?_ _ | refine blk_drew ?_ | refine blk_alloc ?_ _)); exact BK374.out)) (g := gb375) (o := .cells #[.int .i64 a2_0, .int .i64 a2_1, .string a2_2] 23 (0, 0)) (by (with_reducible repeat (first | refine blk_drewN ?_ _ | refine blk_drew ?_ | refine blk_alloc ?_ _)); exact BK375.out)) (below_size (by repeat (first | (with_reducible first | exact HB.out | apply below_alloc | apply pw_below_drewN | apply below_drew1 | refine below_set ?_ GE373.out | refine below_set ?_ GE374.out | refine below_set ?_ GE375.out) | exact HB.out)))); replace BK373 := blkB BK373 hb; replace BK374 := blkB BK374 hb; replace BK375 := blkB BK375 hb; replace HB := stepB HB hb; clear hb ho14; obtain ⟨Ao15, co15, eo15⟩ := Kd.R_slice HO378.out; subst eo15))
 go_loopg [7, 19] k (fun kq v7 v19 w' => ∃ (x7_1 : Bool) (x19_1 : Int), v7 = .bool x7_1 ∧ v19 = .int .i64 x19_1 ∧ Aside0 (alumlaw19_ValueLogic.l0 kq x7_1 y376 (y376.length : Int) x19_1 a0_0 a0_1 a0_2 a1_0 a1_1 a1_2 a2_0 a2_1 a2_2 = some r) ∧ Aside0 (kq ≤ k) ∧ Aside0 (Kd.R k23 23 w' w.heap.size (fun k_ => k_ ≠ gb373 ∧ k_ ≠ gb374 ∧ k_ ≠ gb375) (.slice Ao15 y376.length co15) y376) ∧ Aside0 (w'.heap[gb373]? = some (.cells #[.int .i64 a0_0, .int .i64 a0_1, .string a0_2] 23 (0, 0))) ∧ Aside0 (w'.heap[gb374]? = some (.cells #[.int .i64 a1_0, .int .i64 a1_1, .string a1_2] 23 (0, 0))) ∧ Aside0 (w'.heap[gb375]? = some (.cells #[.int .i64 a2_0, .int .i64 a2_1, .string a2_2] 23 (0, 0))) ∧ Aside0 (Below w.heap.size w w'))
 case atStart => exact ⟨(true), (0), (by first | rfl | (simp; done) | (simp [*]; done)), (by first | rfl | (simp; done) | (simp [*]; done)), H', ⟨Nat.le_refl _⟩, ⟨by (with_reducible repeat (first | apply Kd.R_alloc | apply Kd.R_drewN | apply Kd.R_drew)); exact Kd.R_mono HO378.out (fun _ hk => ⟨hk.1.1.2, ⟨hk.1.2, hk.2⟩⟩)⟩, ⟨by (with_reducible repeat (first | refine blk_drewN ?_ _ | refine blk_drew ?_ | refine blk_alloc ?_ _)); exact BK373.out⟩, ⟨by (with_reducible repeat (first | refine blk_drewN ?_ _ | refine blk_drew ?_ | refine blk_alloc ?_ _)); exact BK374.out⟩, ⟨by (with_reducible repeat (first | refine blk_drewN ?_ _ | refine blk_drew ?_ | refine blk_alloc ?_ _)); exact BK375.out⟩, ⟨by repeat (first | (with_reducible first | exact HB.out | apply below_alloc | apply pw_below_drewN | apply below_drew1 | refine below_set ?_ GE373.out | refine below_set ?_ GE374.out | refine below_set ?_ GE375.out) | exact HB.out)⟩⟩
 case round =>
  clear H'
  try clear c1
  try clear p2
  try clear c3
  try clear c4
  try clear c7
  try clear c8
  try clear c10
  try clear hcz11_0
  try clear hcz11_1
  try clear hcz11_2
  try clear hcz12_0
  try clear hcz12_1
  try clear hcz12_2
  try clear hcz9_0
  try clear hcz9_1
  try clear hcz9_2
  try clear hfz11_0
  try clear hfz11_1
  try clear hfz11_2
  try clear hfz12_0
  try clear hfz12_1
  try clear hfz12_2
  try clear hfz9_0
  try clear hfz9_1
  try clear hfz9_2
  obtain ⟨x7_1, x19_1, rfl, rfl, HA, HK1, HO_17, BK373, BK374, BK375, HB⟩ := hrel
  cases gk with
  | zero => exact absurd HA.out (by simp [alumlaw19_ValueLogic.l0])
  | succ k1 =>
   have H := HA.out
   clear HA
   simp only [alumlaw19_ValueLogic.l0] at H
   by_cases c16 : x19_1 < (y376.length : Int)
   ·rw [if_pos c16] at H
    have c16b0 : decide (x19_1 < (y376.length : Int)) = true := decide_eq_true c16
    clear c16
    by_cases c17 : 0 ≤ x19_1
    ·rw [if_pos c17] at H
     have c17b0 : decide (0 ≤ x19_1) = true := decide_eq_true c17
     clear c17
     by_cases c18 : x19_1 < (y376.length : Int)
     ·rw [if_pos c18] at H
      have c18b0 : decide (x19_1 < (y376.length : Int)) = true := decide_eq_true c18
      clear c18
      by_cases c19 : x7_1 = true
      ·subst c19
       have H1 : ((alumref19_Right.f ((rd_T23 y376 x19_1).f0) ((rd_T23 y376 x19_1).f1) ((rd_T23 y376 x19_1).f2)).bind fun t381 => (if t381 = true then (if ((rd_T23 y376 x19_1).f0) = 0 then (alumlaw19_ValueLogic.l0 k1 true y376 (y376.length : Int) (wrap64 (x19_1 + 1)) a0_0 a0_1 a0_2 a1_0 a1_1 a1_2 a2_0 a2_1 a2_2) else (alumlaw19_ValueLogic.l0 k1 (((rd_T23 y376 x19_1).f0) == 3) y376 (y376.length : Int) (wrap64 (x19_1 + 1)) a0_0 a0_1 a0_2 a1_0 a1_1 a1_2 a2_0 a2_1 a2_2)) else (alumlaw19_ValueLogic.l0 k1 false y376 (y376.length : Int) (wrap64 (x19_1 + 1)) a0_0 a0_1 a0_2 a1_0 a1_1 a1_2 a2_0 a2_1 a2_2))) = some r := by rw [if_pos rfl] at H; exact H
       clear H
       have H := H1
       clear H1
       replace H := Option.bind_eq_some_iff.mp H
       obtain ⟨t381, A200, H⟩ := H
       replace H : (if t381 = true then (if ((rd_T23 y376 x19_1).f0) = 0 then (alumlaw19_ValueLogic.l0 k1 true y376 (y376.length : Int) (wrap64 (x19_1 + 1)) a0_0 a0_1 a0_2 a1_0 a1_1 a1_2 a2_0 a2_1 a2_2) else (alumlaw19_ValueLogic.l0 k1 (((rd_T23 y376 x19_1).f0) == 3) y376 (y376.length : Int) (wrap64 (x19_1 + 1)) a0_0 a0_1 a0_2 a1_0 a1_1 a1_2 a2_0 a2_1 a2_2)) else (alumlaw19_ValueLogic.l0 k1 false y376 (y376.length : Int) (wrap64 (x19_1 + 1)) a0_0 a0_1 a0_2 a1_0 a1_1 a1_2 a2_0 a2_1 a2_2)) = some r := H
       have A20 := Aside0.mk A200
       clear A200
       by_cases c21 : t381 = true
       ·subst c21
        have H1 : (if ((rd_T23 y376 x19_1).f0) = 0 then (alumlaw19_ValueLogic.l0 k1 true y376 (y376.length : Int) (wrap64 (x19_1 + 1)) a0_0 a0_1 a0_2 a1_0 a1_1 a1_2 a2_0 a2_1 a2_2) else (alumlaw19_ValueLogic.l0 k1 (((rd_T23 y376 x19_1).f0) == 3) y376 (y376.length : Int) (wrap64 (x19_1 + 1)) a0_0 a0_1 a0_2 a1_0 a1_1 a1_2 a2_0 a2_1 a2_2)) = some r := by rw [if_pos rfl] at H; exact H
        clear H
        have H := H1
        clear H1
        by_cases c22 : ((rd_T23 y376 x19_1).f0) = 0
        ·rw [if_pos c22] at H
         have c22b0 : (((rd_T23 y376 x19_1).f0) == 0) = true := beq_iff_eq.mpr c22
         have c22b1 : (((rd_T23 y376 x19_1).f0) != 0) = false := bne_eq_false_iff_eq.mpr c22
         clear c22
         have H' := Aside0.mk H
         clear H
         have p379 : 0 ≤ (x19_1 : Int) := of_decide_eq_true (by first | (with_reducible assumption) | assumption)
         have q379 : x19_1 < (y376.length : Int) := of_decide_eq_true (by first | (with_reducible assumption) | assumption)
         obtain ⟨ad379, e379, hx379_0, hx379_1, hx379_2⟩ := at_T23 (Kd.R_reads' HO_17.out).2.2 x19_1 p379 q379
         cases e379
         replace p379 := eq_true p379
         replace q379 := eq_true q379
         go_wp2_with (first | ((with_reducible refine gate_dst (N := 9) rfl ?_); refine box_event ?hg (N := 9) ?hd (cs := #[.int .i64 0, .int .i64 0, .string (⟨#[]⟩ : ByteArray)]) (t := 23) ?hr ?_; (case hd => rfl); (case hg => rfl); (case hr => first | (go_simp; done) | (go_simp; rfl)); intro gb380 hg w23 hbox hb; have BK380 := Aside0.mk (hbox); have GW380 := (sizeB HB hg : Aside0 (w.heap.size ≤ gb380)); have GE380 := (sizeB HB hg : Aside0 (w.heap.size ≤ gb380)); have NB373_380 := neB BK373 hg; have NB380_373 := neC BK373 hg; have NB374_380 := neB BK374 hg; have NB380_374 := neC BK374 hg; have NB375_380 := neB BK375 hg; have NB380_375 := neC BK375 hg; replace HO_17 := Aside0.mk (Kd.R_below (Kd.R_elderB (by (with_reducible repeat (first | apply Kd.R_alloc | apply Kd.R_drewN | apply Kd.R_drew)); exact HO_17.out) gb380 (Nat.le_of_eq hg.symm)) hb); replace BK373 := blkB BK373 hb; replace BK374 := blkB BK374 hb; replace BK375 := blkB BK375 hb; replace HB := stepB HB hb; clear hb hbox hg; have hnb24 := NB380_373.out; have hnc24 := NB373_380.out; have hnb25 := NB380_374.out; have hnc25 := NB374_380.out; have hnb26 := NB380_375.out; have hnc26 := NB375_380.out; have hcz27_0 : w23.cell? ⟨gb380, 0, none⟩ = some (.int .i64 0) := bc BK380 0; have hcz27_1 : w23.cell? ⟨gb380, 1, none⟩ = some (.int .i64 0) := bc BK380 1; have hcz27_2 : w23.cell? ⟨gb380, 2, none⟩ = some (.string (⟨#[]⟩ : ByteArray)) := bc BK380 2; have hfz27_0 := blk_frozen BK380.out 0; have hfz27_1 := blk_frozen BK380.out 1; have hfz27_2 := blk_frozen BK380.out 2) | (go_at_call 11; (with_reducible refine (alumref19_Right.calls ((rd_T23 y376 x19_1).f0) ((rd_T23 y376 x19_1).f1) ((rd_T23 y376 x19_1).f2) true _ A20.out).mono ?_); rintro e w28 ⟨rfl, hb⟩; replace HO_17 := Aside0.mk (Kd.R_below (by (with_reducible repeat (first | apply Kd.R_alloc | apply Kd.R_drewN | apply Kd.R_drew)); exact (Kd.R_mono (Kd.R_far (p := ⟨gb380, 2, none⟩) (Kd.R_far (p := ⟨gb380, 1, none⟩) (Kd.R_far (p := ⟨gb380, 0, none⟩) (Kd.R_mono HO_17.out (fun k_ hk => (⟨hk, hk.2⟩ : _ ∧ k_ ≠ gb380))) (fun _ hk => hk.2) (.int .i64 ((rd_T23 y376 x19_1).f0))) (fun _ hk => hk.2) (.int .i64 ((rd_T23 y376 x19_1).f1))) (fun _ hk => hk.2) (.string ((rd_T23 y376 x19_1).f2))) (fun _ h_ => h_.1))) hb); replace BK373 := Aside0.mk (blk_below (g := gb373) (o := .cells #[.int .i64 a0_0, .int .i64 a0_1, .string a0_2] 23 (0, 0)) (by (with_reducible repeat (first | refine blk_drewN ?_ _ | refine blk_drew ?_ | refine blk_alloc ?_ _)); refine blk_far ?_ NB373_380.out _; (with_reducible repeat (first | refine blk_drewN ?_ _ | refine blk_drew ?_ | refine blk_alloc ?_ _)); refine blk_far ?_ NB373_380.out _; (with_reducible repeat (first | refine blk_drewN ?_ _ | refine blk_drew ?_ | refine blk_alloc ?_ _)); refine blk_far ?_ NB373_380.out _; (with_reducible repeat (first | refine blk_drewN ?_ _ | refine blk_drew ?_ | refine blk_alloc ?_ _)); exact BK373.out) hb); replace BK374 := Aside0.mk (blk_below (g := gb374) (o := .cells #[.int .i64 a1_0, .int .i64 a1_1, .string a1_2] 23 (0, 0)) (by (with_reducible repeat (first | refine blk_drewN ?_ _ | refine blk_drew ?_ | refine blk_alloc ?_ _)); refine blk_far ?_ NB374_380.out _; (with_reducible repeat (first | refine blk_drewN ?_ _ | refine blk_drew ?_ | refine blk_alloc ?_ _)); refine blk_far ?_ NB374_380.out _; (with_reducible repeat (first | refine blk_drewN ?_ _ | refine blk_drew ?_ | refine blk_alloc ?_ _)); refine blk_far ?_ NB374_380.out _; (with_reducible repeat (first | refine blk_drewN ?_ _ | refine blk_drew ?_ | refine blk_alloc ?_ _)); exact BK374.out) hb); replace BK375 := Aside0.mk (blk_below (g := gb375) (o := .cells #[.int .i64 a2_0, .int .i64 a2_1, .string a2_2] 23 (0, 0)) (by (with_reducible repeat (first | refine blk_drewN ?_ _ | refine blk_drew ?_ | refine blk_alloc ?_ _)); refine blk_far ?_ NB375_380.out _; (with_reducible repeat (first | refine blk_drewN ?_ _ | refine blk_drew ?_ | refine blk_alloc ?_ _)); refine blk_far ?_ NB375_380.out _; (with_reducible repeat (first | refine blk_drewN ?_ _ | refine blk_drew ?_ | refine blk_alloc ?_ _)); refine blk_far ?_ NB375_380.out _; (with_reducible repeat (first | refine blk_drewN ?_ _ | refine blk_drew ?_ | refine blk_alloc ?_ _)); exact BK375.out) hb); replace BK380 := Aside0.mk (blk_below (g := gb380) (o := .cells #[.int .i64 ((rd_T23 y376 x19_1).f0), .int .i64 ((rd_T23 y376 x19_1).f1), .string ((rd_T23 y376 x19_1).f2)] 23 (0, 0)) (by (with_reducible repeat (first | refine blk_drewN ?_ _ | refine blk_drew ?_ | refine blk_alloc ?_ _)); refine blk_put (cs := #[.int .i64 ((rd_T23 y376 x19_1).f0), .int .i64 ((rd_T23 y376 x19_1).f1), .string (⟨#[]⟩ : ByteArray)]) ?_ 2 _ rfl; (with_reducible repeat (first | refine blk_drewN ?_ _ | refine blk_drew ?_ | refine blk_alloc ?_ _)); refine blk_put (cs := #[.int .i64 ((rd_T23 y376 x19_1).f0), .int .i64 0, .string (⟨#[]⟩ : ByteArray)]) ?_ 1 _ rfl; (with_reducible repeat (first | refine blk_drewN ?_ _ | refine blk_drew ?_ | refine blk_alloc ?_ _)); refine blk_put (cs := #[.int .i64 0, .int .i64 0, .string (⟨#[]⟩ : ByteArray)]) ?_ 0 _ rfl; (with_reducible repeat (first | refine blk_drewN ?_ _ | refine blk_drew ?_ | refine blk_alloc ?_ _)); exact BK380.out) hb); replace HB := stepB HB hb; (try clear hb); (try clear hb2); (try clear hk); (try clear hi); have hcz29_0 : w28.cell? ⟨gb380, 0, none⟩ = some (.int .i64 ((rd_T23 y376 x19_1).f0)) := bc BK380 0; have hcz29_1 : w28.cell? ⟨gb380, 1, none⟩ = some (.int .i64 ((rd_T23 y376 x19_1).f1)) := bc BK380 1; have hcz29_2 : w28.cell? ⟨gb380, 2, none⟩ = some (.string ((rd_T23 y376 x19_1).f2)) := bc BK380 2; have hfz29_0 := blk_frozen BK380.out 0; have hfz29_1 := blk_frozen BK380.out 1; have hfz29_2 := blk_frozen BK380.out 2))
         go_roundg k1
         case measure => have := HK1.out; omega
         case rel => exact ⟨(true), (wrap64 (x19_1 + 1)), (by first | rfl | (simp; done) | (simp [*]; done)), (by first | rfl | (simp; done) | (simp [*]; done)), H', ⟨by have := HK1.out; omega⟩, ⟨by (with_reducible repeat (first | apply Kd.R_alloc | apply Kd.R_drewN | apply Kd.R_drew)); exact Kd.R_mono HO_17.out (fun _ hk => ⟨hk.1.1, ⟨hk.1.2.1, hk.1.2.2⟩⟩)⟩, ⟨by (with_reducible repeat (first | refine blk_drewN ?_ _ | refine blk_drew ?_ | refine blk_alloc ?_ _)); exact BK373.out⟩, ⟨by (with_reducible repeat (first | refine blk_drewN ?_ _ | refine blk_drew ?_ | refine blk_alloc ?_ _)); exact BK374.out⟩, ⟨by (with_reducible repeat (first | refine blk_drewN ?_ _ | refine blk_drew ?_ | refine blk_alloc ?_ _)); exact BK375.out⟩, ⟨by repeat (first | (with_reducible first | exact HB.out | apply below_alloc | apply pw_below_drewN | apply below_drew1 | refine below_set ?_ GE373.out | refine below_set ?_ GE374.out | refine below_set ?_ GE375.out | refine below_set ?_ GE380.out) | exact HB.out)⟩⟩
        ·rw [if_neg c22] at H
         have c22b0 : (((rd_T23 y376 x19_1).f0) == 0) = false := beq_eq_false_iff_ne.mpr c22
         have c22b1 : (((rd_T23 y376 x19_1).f0) != 0) = true := bne_iff_ne.mpr c22
         have H' := Aside0.mk H
         clear H
         have p379 : 0 ≤ (x19_1 : Int) := of_decide_eq_true (by first | (with_reducible assumption) | assumption)
         have q379 : x19_1 < (y376.length : Int) := of_decide_eq_true (by first | (with_reducible assumption) | assumption)
         obtain ⟨ad379, e379, hx379_0, hx379_1, hx379_2⟩ := at_T23 (Kd.R_reads' HO_17.out).2.2 x19_1 p379 q379
         cases e379
         replace p379 := eq_true p379
         replace q379 := eq_true q379
         go_wp2_with (first | ((with_reducible refine gate_dst (N := 9) rfl ?_); refine box_event ?hg (N := 9) ?hd (cs := #[.int .i64 0, .int .i64 0, .string (⟨#[]⟩ : ByteArray)]) (t := 23) ?hr ?_; (case hd => rfl); (case hg => rfl); (case hr => first | (go_simp; done) | (go_simp; rfl)); intro gb380 hg w30 hbox hb; have BK380 := Aside0.mk (hbox); have GW380 := (sizeB HB hg : Aside0 (w.heap.size ≤ gb380)); have GE380 := (sizeB HB hg : Aside0 (w.heap.size ≤ gb380)); have NB373_380 := neB BK373 hg; have NB380_373 := neC BK373 hg; have NB374_380 := neB BK374 hg; have NB380_374 := neC BK374 hg; have NB375_380 := neB BK375 hg; have NB380_375 := neC BK375 hg; replace HO_17 := Aside0.mk (Kd.R_below (Kd.R_elderB (by (with_reducible repeat (first | apply Kd.R_alloc | apply Kd.R_drewN | apply Kd.R_drew)); exact HO_17.out) gb380 (Nat.le_of_eq hg.symm)) hb); replace BK373 := blkB BK373 hb; replace BK374 := blkB BK374 hb; replace BK375 := blkB BK375 hb; replace HB := stepB HB hb; clear hb hbox hg; have hnb31 := NB380_373.out; have hnc31 := NB373_380.out; have hnb32 := NB380_374.out; have hnc32 := NB374_380.out; have hnb33 := NB380_375.out; have hnc33 := NB375_380.out; have hcz34_0 : w30.cell? ⟨gb380, 0, none⟩ = some (.int .i64 0) := bc BK380 0; have hcz34_1 : w30.cell? ⟨gb380, 1, none⟩ = some (.int .i64 0) := bc BK380 1; have hcz34_2 : w30.cell? ⟨gb380, 2, none⟩ = some (.string (⟨#[]⟩ : ByteArray)) := bc BK380 2; have hfz34_0 := blk_frozen BK380.out 0; have hfz34_1 := blk_frozen BK380.out 1; have hfz34_2 := blk_frozen BK380.out 2) | (go_at_call 11; (with_reducible refine (alumref19_Right.calls ((rd_T23 y376 x19_1).f0) ((rd_T23 y376 x19_1).f1) ((rd_T23 y376 x19_1).f2) true _ A20.out).mono ?_); rintro e w35 ⟨rfl, hb⟩; replace HO_17 := Aside0.mk (Kd.R_below (by (with_reducible repeat (first | apply Kd.R_alloc | apply Kd.R_drewN | apply Kd.R_drew)); exact (Kd.R_mono (Kd.R_far (p := ⟨gb380, 2, none⟩) (Kd.R_far (p := ⟨gb380, 1, none⟩) (Kd.R_far (p := ⟨gb380, 0, none⟩) (Kd.R_mono HO_17.out (fun k_ hk => (⟨hk, hk.2⟩ : _ ∧ k_ ≠ gb380))) (fun _ hk => hk.2) (.int .i64 ((rd_T23 y376 x19_1).f0))) (fun _ hk => hk.2) (.int .i64 ((rd_T23 y376 x19_1).f1))) (fun _ hk => hk.2) (.string ((rd_T23 y376 x19_1).f2))) (fun _ h_ => h_.1))) hb); replace BK373 := Aside0.mk (blk_below (g := gb373) (o := .cells #[.int .i64 a0_0, .int .i64 a0_1, .string a0_2] 23 (0, 0)) (by (with_reducible repeat (first | refine blk_drewN ?_ _ | refine blk_drew ?_ | refine blk_alloc ?_ _)); refine blk_far ?_ NB373_380.out _; (with_reducible repeat (first | refine blk_drewN ?_ _ | refine blk_drew ?_ | refine blk_alloc ?_ _)); refine blk_far ?_ NB373_380.out _; (with_reducible repeat (first | refine blk_drewN ?_ _ | refine blk_drew ?_ | refine blk_alloc ?_ _)); refine blk_far ?_ NB373_380.out _; (with_reducible repeat (first | refine blk_drewN ?_ _ | refine blk_drew ?_ | refine blk_alloc ?_ _)); exact BK373.out) hb); replace BK374 := Aside0.mk (blk_below (g := gb374) (o := .cells #[.int .i64 a1_0, .int .i64 a1_1, .string a1_2] 23 (0, 0)) (by (with_reducible repeat (first | refine blk_drewN ?_ _ | refine blk_drew ?_ | refine blk_alloc ?_ _)); refine blk_far ?_ NB374_380.out _; (with_reducible repeat (first | refine blk_drewN ?_ _ | refine blk_drew ?_ | refine blk_alloc ?_ _)); refine blk_far ?_ NB374_380.out _; (with_reducible repeat (first | refine blk_drewN ?_ _ | refine blk_drew ?_ | refine blk_alloc ?_ _)); refine blk_far ?_ NB374_380.out _; (with_reducible repeat (first | refine blk_drewN ?_ _ | refine blk_drew ?_ | refine blk_alloc ?_ _)); exact BK374.out) hb); replace BK375 := Aside0.mk (blk_below (g := gb375) (o := .cells #[.int .i64 a2_0, .int .i64 a2_1, .string a2_2] 23 (0, 0)) (by (with_reducible repeat (first | refine blk_drewN ?_ _ | refine blk_drew ?_ | refine blk_alloc ?_ _)); refine blk_far ?_ NB375_380.out _; (with_reducible repeat (first | refine blk_drewN ?_ _ | refine blk_drew ?_ | refine blk_alloc ?_ _)); refine blk_far ?_ NB375_380.out _; (with_reducible repeat (first | refine blk_drewN ?_ _ | refine blk_drew ?_ | refine blk_alloc ?_ _)); refine blk_far ?_ NB375_380.out _; (with_reducible repeat (first | refine blk_drewN ?_ _ | refine blk_drew ?_ | refine blk_alloc ?_ _)); exact BK375.out) hb); replace BK380 := Aside0.mk (blk_below (g := gb380) (o := .cells #[.int .i64 ((rd_T23 y376 x19_1).f0), .int .i64 ((rd_T23 y376 x19_1).f1), .string ((rd_T23 y376 x19_1).f2)] 23 (0, 0)) (by (with_reducible repeat (first | refine blk_drewN ?_ _ | refine blk_drew ?_ | refine blk_alloc ?_ _)); refine blk_put (cs := #[.int .i64 ((rd_T23 y376 x19_1).f0), .int .i64 ((rd_T23 y376 x19_1).f1), .string (⟨#[]⟩ : ByteArray)]) ?_ 2 _ rfl; (with_reducible repeat (first | refine blk_drewN ?_ _ | refine blk_drew ?_ | refine blk_alloc ?_ _)); refine blk_put (cs := #[.int .i64 ((rd_T23 y376 x19_1).f0), .int .i64 0, .string (⟨#[]⟩ : ByteArray)]) ?_ 1 _ rfl; (with_reducible repeat (first | refine blk_drewN ?_ _ | refine blk_drew ?_ | refine blk_alloc ?_ _)); refine blk_put (cs := #[.int .i64 0, .int .i64 0, .string (⟨#[]⟩ : ByteArray)]) ?_ 0 _ rfl; (with_reducible repeat (first | refine blk_drewN ?_ _ | refine blk_drew ?_ | refine blk_alloc ?_ _)); exact BK380.out) hb); replace HB := stepB HB hb; (try clear hb); (try clear hb2); (try clear hk); (try clear hi); have hcz36_0 : w35.cell? ⟨gb380, 0, none⟩ = some (.int .i64 ((rd_T23 y376 x19_1).f0)) := bc BK380 0; have hcz36_1 : w35.cell? ⟨gb380, 1, none⟩ = some (.int .i64 ((rd_T23 y376 x19_1).f1)) := bc BK380 1; have hcz36_2 : w35.cell? ⟨gb380, 2, none⟩ = some (.string ((rd_T23 y376 x19_1).f2)) := bc BK380 2; have hfz36_0 := blk_frozen BK380.out 0; have hfz36_1 := blk_frozen BK380.out 1; have hfz36_2 := blk_frozen BK380.out 2))
         go_roundg k1
         case measure => have := HK1.out; omega
         case rel => exact ⟨((((rd_T23 y376 x19_1).f0) == 3)), (wrap64 (x19_1 + 1)), (by first | rfl | (simp; done) | (simp [*]; done)), (by first | rfl | (simp; done) | (simp [*]; done)), H', ⟨by have := HK1.out; omega⟩, ⟨by (with_reducible repeat (first | apply Kd.R_alloc | apply Kd.R_drewN | apply Kd.R_drew)); exact Kd.R_mono HO_17.out (fun _ hk => ⟨hk.1.1, ⟨hk.1.2.1, hk.1.2.2⟩⟩)⟩, ⟨by (with_reducible repeat (first | refine blk_drewN ?_ _ | refine blk_drew ?_ | refine blk_alloc ?_ _)); exact BK373.out⟩, ⟨by (with_reducible repeat (first | refine blk_drewN ?_ _ | refine blk_drew ?_ | refine blk_alloc ?_ _)); exact BK374.out⟩, ⟨by (with_reducible repeat (first | refine blk_drewN ?_ _ | refine blk_drew ?_ | refine blk_alloc ?_ _)); exact BK375.out⟩, ⟨by repeat (first | (with_reducible first | exact HB.out | apply below_alloc | apply pw_below_drewN | apply below_drew1 | refine below_set ?_ GE373.out | refine below_set ?_ GE374.out | refine below_set ?_ GE375.out | refine below_set ?_ GE380.out) | exact HB.out)⟩⟩
       ·replace c21 := Bool.eq_false_iff.mpr c21
        subst c21
        have H1 : (alumlaw19_ValueLogic.l0 k1 false y376 (y376.length : Int) (wrap64 (x19_1 + 1)) a0_0 a0_1 a0_2 a1_0 a1_1 a1_2 a2_0 a2_1 a2_2) = some r := by rw [if_neg (show ¬ (false = true) by decide)] at H; exact H
        clear H
        have H := H1
        clear H1
        have H' := Aside0.mk H
        clear H
        have p379 : 0 ≤ (x19_1 : Int) := of_decide_eq_true (by first | (with_reducible assumption) | assumption)
        have q379 : x19_1 < (y376.length : Int) := of_decide_eq_true (by first | (with_reducible assumption) | assumption)
        obtain ⟨ad379, e379, hx379_0, hx379_1, hx379_2⟩ := at_T23 (Kd.R_reads' HO_17.out).2.2 x19_1 p379 q379
        cases e379
        replace p379 := eq_true p379
        replace q379 := eq_true q379
        go_wp2_with (first | ((with_reducible refine gate_dst (N := 9) rfl ?_); refine box_event ?hg (N := 9) ?hd (cs := #[.int .i64 0, .int .i64 0, .string (⟨#[]⟩ : ByteArray)]) (t := 23) ?hr ?_; (case hd => rfl); (case hg => rfl); (case hr => first | (go_simp; done) | (go_simp; rfl)); intro gb380 hg w37 hbox hb; have BK380 := Aside0.mk (hbox); have GW380 := (sizeB HB hg : Aside0 (w.heap.size ≤ gb380)); have GE380 := (sizeB HB hg : Aside0 (w.heap.size ≤ gb380)); have NB373_380 := neB BK373 hg; have NB380_373 := neC BK373 hg; have NB374_380 := neB BK374 hg; have NB380_374 := neC BK374 hg; have NB375_380 := neB BK375 hg; have NB380_375 := neC BK375 hg; replace HO_17 := Aside0.mk (Kd.R_below (Kd.R_elderB (by (with_reducible repeat (first | apply Kd.R_alloc | apply Kd.R_drewN | apply Kd.R_drew)); exact HO_17.out) gb380 (Nat.le_of_eq hg.symm)) hb); replace BK373 := blkB BK373 hb; replace BK374 := blkB BK374 hb; replace BK375 := blkB BK375 hb; replace HB := stepB HB hb; clear hb hbox hg; have hnb38 := NB380_373.out; have hnc38 := NB373_380.out; have hnb39 := NB380_374.out; have hnc39 := NB374_380.out; have hnb40 := NB380_375.out; have hnc40 := NB375_380.out; have hcz41_0 : w37.cell? ⟨gb380, 0, none⟩ = some (.int .i64 0) := bc BK380 0; have hcz41_1 : w37.cell? ⟨gb380, 1, none⟩ = some (.int .i64 0) := bc BK380 1; have hcz41_2 : w37.cell? ⟨gb380, 2, none⟩ = some (.string (⟨#[]⟩ : ByteArray)) := bc BK380 2; have hfz41_0 := blk_frozen BK380.out 0; have hfz41_1 := blk_frozen BK380.out 1; have hfz41_2 := blk_frozen BK380.out 2) | (go_at_call 11; (with_reducible refine (alumref19_Right.calls ((rd_T23 y376 x19_1).f0) ((rd_T23 y376 x19_1).f1) ((rd_T23 y376 x19_1).f2) false _ A20.out).mono ?_); rintro e w42 ⟨rfl, hb⟩; replace HO_17 := Aside0.mk (Kd.R_below (by (with_reducible repeat (first | apply Kd.R_alloc | apply Kd.R_drewN | apply Kd.R_drew)); exact (Kd.R_mono (Kd.R_far (p := ⟨gb380, 2, none⟩) (Kd.R_far (p := ⟨gb380, 1, none⟩) (Kd.R_far (p := ⟨gb380, 0, none⟩) (Kd.R_mono HO_17.out (fun k_ hk => (⟨hk, hk.2⟩ : _ ∧ k_ ≠ gb380))) (fun _ hk => hk.2) (.int .i64 ((rd_T23 y376 x19_1).f0))) (fun _ hk => hk.2) (.int .i64 ((rd_T23 y376 x19_1).f1))) (fun _ hk => hk.2) (.string ((rd_T23 y376 x19_1).f2))) (fun _ h_ => h_.1))) hb); replace BK373 := Aside0.mk (blk_below (g := gb373) (o := .cells #[.int .i64 a0_0, .int .i64 a0_1, .string a0_2] 23 (0, 0)) (by (with_reducible repeat (first | refine blk_drewN ?_ _ | refine blk_drew ?_ | refine blk_alloc ?_ _)); refine blk_far ?_ NB373_380.out _; (with_reducible repeat (first | refine blk_drewN ?_ _ | refine blk_drew ?_ | refine blk_alloc ?_ _)); refine blk_far ?_ NB373_380.out _; (with_reducible repeat (first | refine blk_drewN ?_ _ | refine blk_drew ?_ | refine blk_alloc ?_ _)); refine blk_far ?_ NB373_380.out _; (with_reducible repeat (first | refine blk_drewN ?_ _ | refine blk_drew ?_ | refine blk_alloc ?_ _)); exact BK373.out) hb); replace BK374 := Aside0.mk (blk_below (g := gb374) (o := .cells #[.int .i64 a1_0, .int .i64 a1_1, .string a1_2] 23 (0, 0)) (by (with_reducible repeat (first | refine blk_drewN ?_ _ | refine blk_drew ?_ | refine blk_alloc ?_ _)); refine blk_far ?_ NB374_380.out _; (with_reducible repeat (first | refine blk_drewN ?_ _ | refine blk_drew ?_ | refine blk_alloc ?_ _)); refine blk_far ?_ NB374_380.out _; (with_reducible repeat (first | refine blk_drewN ?_ _ | refine blk_drew ?_ | refine blk_alloc ?_ _)); refine blk_far ?_ NB374_380.out _; (with_reducible repeat (first | refine blk_drewN ?_ _ | refine blk_drew ?_ | refine blk_alloc ?_ _)); exact BK374.out) hb); replace BK375 := Aside0.mk (blk_below (g := gb375) (o := .cells #[.int .i64 a2_0, .int .i64 a2_1, .string a2_2] 23 (0, 0)) (by (with_reducible repeat (first | refine blk_drewN ?_ _ | refine blk_drew ?_ | refine blk_alloc ?_ _)); refine blk_far ?_ NB375_380.out _; (with_reducible repeat (first | refine blk_drewN ?_ _ | refine blk_drew ?_ | refine blk_alloc ?_ _)); refine blk_far ?_ NB375_380.out _; (with_reducible repeat (first | refine blk_drewN ?_ _ | refine blk_drew ?_ | refine blk_alloc ?_ _)); refine blk_far ?_ NB375_380.out _; (with_reducible repeat (first | refine blk_drewN ?_ _ | refine blk_drew ?_ | refine blk_alloc ?_ _)); exact BK375.out) hb); replace BK380 := Aside0.mk (blk_below (g := gb380) (o := .cells #[.int .i64 ((rd_T23 y376 x19_1).f0), .int .i64 ((rd_T23 y376 x19_1).f1), .string ((rd_T23 y376 x19_1).f2)] 23 (0, 0)) (by (with_reducible repeat (first | refine blk_drewN ?_ _ | refine blk_drew ?_ | refine blk_alloc ?_ _)); refine blk_put (cs := #[.int .i64 ((rd_T23 y376 x19_1).f0), .int .i64 ((rd_T23 y376 x19_1).f1), .string (⟨#[]⟩ : ByteArray)]) ?_ 2 _ rfl; (with_reducible repeat (first | refine blk_drewN ?_ _ | refine blk_drew ?_ | refine blk_alloc ?_ _)); refine blk_put (cs := #[.int .i64 ((rd_T23 y376 x19_1).f0), .int .i64 0, .string (⟨#[]⟩ : ByteArray)]) ?_ 1 _ rfl; (with_reducible repeat (first | refine blk_drewN ?_ _ | refine blk_drew ?_ | refine blk_alloc ?_ _)); refine blk_put (cs := #[.int .i64 0, .int .i64 0, .string (⟨#[]⟩ : ByteArray)]) ?_ 0 _ rfl; (with_reducible repeat (first | refine blk_drewN ?_ _ | refine blk_drew ?_ | refine blk_alloc ?_ _)); exact BK380.out) hb); replace HB := stepB HB hb; (try clear hb); (try clear hb2); (try clear hk); (try clear hi)))
        go_roundg k1
        case measure => have := HK1.out; omega
        case rel => exact ⟨(false), (wrap64 (x19_1 + 1)), (by first | rfl | (simp; done) | (simp [*]; done)), (by first | rfl | (simp; done) | (simp [*]; done)), H', ⟨by have := HK1.out; omega⟩, ⟨by (with_reducible repeat (first | apply Kd.R_alloc | apply Kd.R_drewN | apply Kd.R_drew)); exact Kd.R_mono HO_17.out (fun _ hk => ⟨hk.1.1, ⟨hk.1.2.1, hk.1.2.2⟩⟩)⟩, ⟨by (with_reducible repeat (first | refine blk_drewN ?_ _ | refine blk_drew ?_ | refine blk_alloc ?_ _)); exact BK373.out⟩, ⟨by (with_reducible repeat (first | refine blk_drewN ?_ _ | refine blk_drew ?_ | refine blk_alloc ?_ _)); exact BK374.out⟩, ⟨by (with_reducible repeat (first | refine blk_drewN ?_ _ | refine blk_drew ?_ | refine blk_alloc ?_ _)); exact BK375.out⟩, ⟨by repeat (first | (with_reducible first | exact HB.out | apply below_alloc | apply pw_below_drewN | apply below_drew1 | refine below_set ?_ GE373.out | refine below_set ?_ GE374.out | refine below_set ?_ GE375.out | refine below_set ?_ GE380.out) | exact HB.out)⟩⟩
      ·replace c19 := Bool.eq_false_iff.mpr c19
       subst c19
       have H1 : (alumlaw19_ValueLogic.l0 k1 false y376 (y376.length : Int) (wrap64 (x19_1 + 1)) a0_0 a0_1 a0_2 a1_0 a1_1 a1_2 a2_0 a2_1 a2_2) = some r := by rw [if_neg (show ¬ (false = true) by decide)] at H; exact H
       clear H
       have H := H1
       clear H1
       have H' := Aside0.mk H
       clear H
       have p379 : 0 ≤ (x19_1 : Int) := of_decide_eq_true (by first | (with_reducible assumption) | assumption)
       have q379 : x19_1 < (y376.length : Int) := of_decide_eq_true (by first | (with_reducible assumption) | assumption)
       obtain ⟨ad379, e379, hx379_0, hx379_1, hx379_2⟩ := at_T23 (Kd.R_reads' HO_17.out).2.2 x19_1 p379 q379
       cases e379
       replace p379 := eq_true p379
       replace q379 := eq_true q379
       go_wp2_with (first | ((with_reducible refine gate_dst (N := 9) rfl ?_); refine box_event ?hg (N := 9) ?hd (cs := #[.int .i64 0, .int .i64 0, .string (⟨#[]⟩ : ByteArray)]) (t := 23) ?hr ?_; (case hd => rfl); (case hg => rfl); (case hr => first | (go_simp; done) | (go_simp; rfl)); intro gb380 hg w43 hbox hb; have BK380 := Aside0.mk (hbox); have GW380 := (sizeB HB hg : Aside0 (w.heap.size ≤ gb380)); have GE380 := (sizeB HB hg : Aside0 (w.heap.size ≤ gb380)); have NB373_380 := neB BK373 hg; have NB380_373 := neC BK373 hg; have NB374_380 := neB BK374 hg; have NB380_374 := neC BK374 hg; have NB375_380 := neB BK375 hg; have NB380_375 := neC BK375 hg; replace HO_17 := Aside0.mk (Kd.R_below (Kd.R_elderB (by (with_reducible repeat (first | apply Kd.R_alloc | apply Kd.R_drewN | apply Kd.R_drew)); exact HO_17.out) gb380 (Nat.le_of_eq hg.symm)) hb); replace BK373 := blkB BK373 hb; replace BK374 := blkB BK374 hb; replace BK375 := blkB BK375 hb; replace HB := stepB HB hb; clear hb hbox hg; have hnb44 := NB380_373.out; have hnc44 := NB373_380.out; have hnb45 := NB380_374.out; have hnc45 := NB374_380.out; have hnb46 := NB380_375.out; have hnc46 := NB375_380.out; have hcz47_0 : w43.cell? ⟨gb380, 0, none⟩ = some (.int .i64 0) := bc BK380 0; have hcz47_1 : w43.cell? ⟨gb380, 1, none⟩ = some (.int .i64 0) := bc BK380 1; have hcz47_2 : w43.cell? ⟨gb380, 2, none⟩ = some (.string (⟨#[]⟩ : ByteArray)) := bc BK380 2; have hfz47_0 := blk_frozen BK380.out 0; have hfz47_1 := blk_frozen BK380.out 1; have hfz47_2 := blk_frozen BK380.out 2))
       go_roundg k1
       case measure => have := HK1.out; omega
       case rel => exact ⟨(false), (wrap64 (x19_1 + 1)), (by first | rfl | (simp; done) | (simp [*]; done)), (by first | rfl | (simp; done) | (simp [*]; done)), H', ⟨by have := HK1.out; omega⟩, ⟨by (with_reducible repeat (first | apply Kd.R_alloc | apply Kd.R_drewN | apply Kd.R_drew)); exact Kd.R_mono (Kd.R_far (p := ⟨gb380, 2, none⟩) (Kd.R_far (p := ⟨gb380, 1, none⟩) (Kd.R_far (p := ⟨gb380, 0, none⟩) (Kd.R_mono HO_17.out (fun k_ hk => (⟨hk, hk.2⟩ : _ ∧ k_ ≠ gb380))) (fun _ hk => hk.2) (.int .i64 ((rd_T23 y376 x19_1).f0))) (fun _ hk => hk.2) (.int .i64 ((rd_T23 y376 x19_1).f1))) (fun _ hk => hk.2) (.string ((rd_T23 y376 x19_1).f2))) (fun _ hk => ⟨hk.1.1.1, ⟨hk.1.1.2.1, hk.1.1.2.2⟩⟩)⟩, ⟨by (with_reducible repeat (first | refine blk_drewN ?_ _ | refine blk_drew ?_ | refine blk_alloc ?_ _)); refine blk_far ?_ NB373_380.out _; (with_reducible repeat (first | refine blk_drewN ?_ _ | refine blk_drew ?_ | refine blk_alloc ?_ _)); refine blk_far ?_ NB373_380.out _; (with_reducible repeat (first | refine blk_drewN ?_ _ | refine blk_drew ?_ | refine blk_alloc ?_ _)); refine blk_far ?_ NB373_380.out _; (with_reducible repeat (first | refine blk_drewN ?_ _ | refine blk_drew ?_ | refine blk_alloc ?_ _)); exact BK373.out⟩, ⟨by (with_reducible repeat (first | refine blk_drewN ?_ _ | refine blk_drew ?_ | refine blk_alloc ?_ _)); refine blk_far ?_ NB374_380.out _; (with_reducible repeat (first | refine blk_drewN ?_ _ | refine blk_drew ?_ | refine blk_alloc ?_ _)); refine blk_far ?_ NB374_380.out _; (with_reducible repeat (first | refine blk_drewN ?_ _ | refine blk_drew ?_ | refine blk_alloc ?_ _)); refine blk_far ?_ NB374_380.out _; (with_reducible repeat (first | refine blk_drewN ?_ _ | refine blk_drew ?_ | refine blk_alloc ?_ _)); exact BK374.out⟩, ⟨by (with_reducible repeat (first | refine blk_drewN ?_ _ | refine blk_drew ?_ | refine blk_alloc ?_ _)); refine blk_far ?_ NB375_380.out _; (with_reducible repeat (first | refine blk_drewN ?_ _ | refine blk_drew ?_ | refine blk_alloc ?_ _)); refine blk_far ?_ NB375_380.out _; (with_reducible repeat (first | refine blk_drewN ?_ _ | refine blk_drew ?_ | refine blk_alloc ?_ _)); refine blk_far ?_ NB375_380.out _; (with_reducible repeat (first | refine blk_drewN ?_ _ | refine blk_drew ?_ | refine blk_alloc ?_ _)); exact BK375.out⟩, ⟨by repeat (first | (with_reducible first | exact HB.out | apply below_alloc | apply pw_below_drewN | apply below_drew1 | refine below_set ?_ GE373.out | refine below_set ?_ GE374.out | refine below_set ?_ GE375.out | refine below_set ?_ GE380.out) | exact HB.out)⟩⟩
     ·rw [if_neg c18] at H
      exact absurd H (by simp)
    ·rw [if_neg c17] at H
     exact absurd H (by simp)
   ·rw [if_neg c16] at H
    have c16b0 : decide (x19_1 < (y376.length : Int)) = false := decide_eq_false c16
    clear c16
    by_cases c48 : x7_1 = true
    ·subst c48
     have H1 : ((alumlaw19_and.f k1 a0_0 a0_1 a0_2 a1_0 a1_1 a1_2).bind fun bt383 => ((alumlaw19_and.f k1 a1_0 a1_1 a1_2 a0_0 a0_1 a0_2).bind fun bt386 => (if (!(bt383.1 == bt386.1) || (!(bt383.2.1 == bt386.2.1) || (!(bt383.2.2.toList == bt386.2.2.toList)))) = true then (none) else ((alumlaw19_or.f k1 a0_0 a0_1 a0_2 a1_0 a1_1 a1_2).bind fun bt389 => ((alumlaw19_or.f k1 a1_0 a1_1 a1_2 a0_0 a0_1 a0_2).bind fun bt392 => (if (!(bt389.1 == bt392.1) || (!(bt389.2.1 == bt392.2.1) || (!(bt389.2.2.toList == bt392.2.2.toList)))) = true then (none) else ((alumlaw19_and.f k1 a1_0 a1_1 a1_2 a2_0 a2_1 a2_2).bind fun bt395 => ((alumlaw19_and.f k1 a0_0 a0_1 a0_2 bt395.1 bt395.2.1 bt395.2.2).bind fun bt398 => ((alumlaw19_and.f k1 a0_0 a0_1 a0_2 a1_0 a1_1 a1_2).bind fun bt401 => ((alumlaw19_and.f k1 bt401.1 bt401.2.1 bt401.2.2 a2_0 a2_1 a2_2).bind fun bt404 => (if (!(bt398.1 == bt404.1) || (!(bt398.2.1 == bt404.2.1) || (!(bt398.2.2.toList == bt404.2.2.toList)))) = true then (none) else ((alumlaw19_or.f k1 a1_0 a1_1 a1_2 a2_0 a2_1 a2_2).bind fun bt407 => ((alumlaw19_or.f k1 a0_0 a0_1 a0_2 bt407.1 bt407.2.1 bt407.2.2).bind fun bt410 => ((alumlaw19_or.f k1 a0_0 a0_1 a0_2 a1_0 a1_1 a1_2).bind fun bt413 => ((alumlaw19_or.f k1 bt413.1 bt413.2.1 bt413.2.2 a2_0 a2_1 a2_2).bind fun bt416 => (alumlaw19_ValueLogic.j1 k1 (!(bt410.1 == bt416.1) || (!(bt410.2.1 == bt416.2.1) || (!(bt410.2.2.toList == bt416.2.2.toList)))) a0_0 a0_1 a0_2 a1_0 a1_1 a1_2 a2_0 a2_1 a2_2)))))))))))))))) = some r := by rw [if_pos rfl] at H; exact H
     clear H
     have H := H1
     clear H1
     have HC49 := Aside0.mk H
     clear H
     go_upto_region 9 with (fail)
     go_cut [83] (fun v83 wc => ∃ (kq : Nat) (x83_48 : Bool), v83 = .bool x83_48 ∧ Aside0 (alumlaw19_ValueLogic.j1 kq x83_48 a0_0 a0_1 a0_2 a1_0 a1_1 a1_2 a2_0 a2_1 a2_2 = some r) ∧ Aside0 (kq ≤ k1) ∧ Aside0 (wc.heap[gb373]? = some (.cells #[.int .i64 a0_0, .int .i64 a0_1, .string a0_2] 23 (0, 0))) ∧ Aside0 (wc.heap[gb374]? = some (.cells #[.int .i64 a1_0, .int .i64 a1_1, .string a1_2] 23 (0, 0))) ∧ Aside0 (wc.heap[gb375]? = some (.cells #[.int .i64 a2_0, .int .i64 a2_1, .string a2_2] 23 (0, 0))) ∧ Aside0 (Below w.heap.size w wc))
     case first =>
      have H := HC49.out
      clear HC49
      replace H := Option.bind_eq_some_iff.mp H
      obtain ⟨⟨t383, t384, t385⟩, A500, H⟩ := H
      replace H : ((alumlaw19_and.f k1 a1_0 a1_1 a1_2 a0_0 a0_1 a0_2).bind fun bt386 => (if (!(t383 == bt386.1) || (!(t384 == bt386.2.1) || (!(t385.toList == bt386.2.2.toList)))) = true then (none) else ((alumlaw19_or.f k1 a0_0 a0_1 a0_2 a1_0 a1_1 a1_2).bind fun bt389 => ((alumlaw19_or.f k1 a1_0 a1_1 a1_2 a0_0 a0_1 a0_2).bind fun bt392 => (if (!(bt389.1 == bt392.1) || (!(bt389.2.1 == bt392.2.1) || (!(bt389.2.2.toList == bt392.2.2.toList)))) = true then (none) else ((alumlaw19_and.f k1 a1_0 a1_1 a1_2 a2_0 a2_1 a2_2).bind fun bt395 => ((alumlaw19_and.f k1 a0_0 a0_1 a0_2 bt395.1 bt395.2.1 bt395.2.2).bind fun bt398 => ((alumlaw19_and.f k1 a0_0 a0_1 a0_2 a1_0 a1_1 a1_2).bind fun bt401 => ((alumlaw19_and.f k1 bt401.1 bt401.2.1 bt401.2.2 a2_0 a2_1 a2_2).bind fun bt404 => (if (!(bt398.1 == bt404.1) || (!(bt398.2.1 == bt404.2.1) || (!(bt398.2.2.toList == bt404.2.2.toList)))) = true then (none) else ((alumlaw19_or.f k1 a1_0 a1_1 a1_2 a2_0 a2_1 a2_2).bind fun bt407 => ((alumlaw19_or.f k1 a0_0 a0_1 a0_2 bt407.1 bt407.2.1 bt407.2.2).bind fun bt410 => ((alumlaw19_or.f k1 a0_0 a0_1 a0_2 a1_0 a1_1 a1_2).bind fun bt413 => ((alumlaw19_or.f k1 bt413.1 bt413.2.1 bt413.2.2 a2_0 a2_1 a2_2).bind fun bt416 => (alumlaw19_ValueLogic.j1 k1 (!(bt410.1 == bt416.1) || (!(bt410.2.1 == bt416.2.1) || (!(bt410.2.2.toList == bt416.2.2.toList)))) a0_0 a0_1 a0_2 a1_0 a1_1 a1_2 a2_0 a2_1 a2_2))))))))))))))) = some r := H
      have A50 := Aside0.mk A500
      clear A500
      replace H := Option.bind_eq_some_iff.mp H
      obtain ⟨⟨t386, t387, t388⟩, A510, H⟩ := H
      replace H : (if (!(t383 == t386) || (!(t384 == t387) || (!(t385.toList == t388.toList)))) = true then (none) else ((alumlaw19_or.f k1 a0_0 a0_1 a0_2 a1_0 a1_1 a1_2).bind fun bt389 => ((alumlaw19_or.f k1 a1_0 a1_1 a1_2 a0_0 a0_1 a0_2).bind fun bt392 => (if (!(bt389.1 == bt392.1) || (!(bt389.2.1 == bt392.2.1) || (!(bt389.2.2.toList == bt392.2.2.toList)))) = true then (none) else ((alumlaw19_and.f k1 a1_0 a1_1 a1_2 a2_0 a2_1 a2_2).bind fun bt395 => ((alumlaw19_and.f k1 a0_0 a0_1 a0_2 bt395.1 bt395.2.1 bt395.2.2).bind fun bt398 => ((alumlaw19_and.f k1 a0_0 a0_1 a0_2 a1_0 a1_1 a1_2).bind fun bt401 => ((alumlaw19_and.f k1 bt401.1 bt401.2.1 bt401.2.2 a2_0 a2_1 a2_2).bind fun bt404 => (if (!(bt398.1 == bt404.1) || (!(bt398.2.1 == bt404.2.1) || (!(bt398.2.2.toList == bt404.2.2.toList)))) = true then (none) else ((alumlaw19_or.f k1 a1_0 a1_1 a1_2 a2_0 a2_1 a2_2).bind fun bt407 => ((alumlaw19_or.f k1 a0_0 a0_1 a0_2 bt407.1 bt407.2.1 bt407.2.2).bind fun bt410 => ((alumlaw19_or.f k1 a0_0 a0_1 a0_2 a1_0 a1_1 a1_2).bind fun bt413 => ((alumlaw19_or.f k1 bt413.1 bt413.2.1 bt413.2.2 a2_0 a2_1 a2_2).bind fun bt416 => (alumlaw19_ValueLogic.j1 k1 (!(bt410.1 == bt416.1) || (!(bt410.2.1 == bt416.2.1) || (!(bt410.2.2.toList == bt416.2.2.toList)))) a0_0 a0_1 a0_2 a1_0 a1_1 a1_2 a2_0 a2_1 a2_2)))))))))))))) = some r := H
      have A51 := Aside0.mk A510
      clear A510
      by_cases c52 : (!(t383 == t386) || (!(t384 == t387) || (!(t385.toList == t388.toList)))) = true
      ·rw [if_pos c52] at H
       exact absurd H (by simp)
      ·rw [if_neg c52] at H
       have c52b0 : (!(t383 == t386) || (!(t384 == t387) || (!(t385.toList == t388.toList)))) = false := by simpa using c52
       clear c52
       (first | rw [c52b0] | (simp only [i64_w, i32_w]; rw [c52b0]) | skip)
       replace H := Option.bind_eq_some_iff.mp H
       obtain ⟨⟨t389, t390, t391⟩, A530, H⟩ := H
       replace H : ((alumlaw19_or.f k1 a1_0 a1_1 a1_2 a0_0 a0_1 a0_2).bind fun bt392 => (if (!(t389 == bt392.1) || (!(t390 == bt392.2.1) || (!(t391.toList == bt392.2.2.toList)))) = true then (none) else ((alumlaw19_and.f k1 a1_0 a1_1 a1_2 a2_0 a2_1 a2_2).bind fun bt395 => ((alumlaw19_and.f k1 a0_0 a0_1 a0_2 bt395.1 bt395.2.1 bt395.2.2).bind fun bt398 => ((alumlaw19_and.f k1 a0_0 a0_1 a0_2 a1_0 a1_1 a1_2).bind fun bt401 => ((alumlaw19_and.f k1 bt401.1 bt401.2.1 bt401.2.2 a2_0 a2_1 a2_2).bind fun bt404 => (if (!(bt398.1 == bt404.1) || (!(bt398.2.1 == bt404.2.1) || (!(bt398.2.2.toList == bt404.2.2.toList)))) = true then (none) else ((alumlaw19_or.f k1 a1_0 a1_1 a1_2 a2_0 a2_1 a2_2).bind fun bt407 => ((alumlaw19_or.f k1 a0_0 a0_1 a0_2 bt407.1 bt407.2.1 bt407.2.2).bind fun bt410 => ((alumlaw19_or.f k1 a0_0 a0_1 a0_2 a1_0 a1_1 a1_2).bind fun bt413 => ((alumlaw19_or.f k1 bt413.1 bt413.2.1 bt413.2.2 a2_0 a2_1 a2_2).bind fun bt416 => (alumlaw19_ValueLogic.j1 k1 (!(bt410.1 == bt416.1) || (!(bt410.2.1 == bt416.2.1) || (!(bt410.2.2.toList == bt416.2.2.toList)))) a0_0 a0_1 a0_2 a1_0 a1_1 a1_2 a2_0 a2_1 a2_2)))))))))))) = some r := H
       have A53 := Aside0.mk A530
       clear A530
       replace H := Option.bind_eq_some_iff.mp H
       obtain ⟨⟨t392, t393, t394⟩, A540, H⟩ := H
       replace H : (if (!(t389 == t392) || (!(t390 == t393) || (!(t391.toList == t394.toList)))) = true then (none) else ((alumlaw19_and.f k1 a1_0 a1_1 a1_2 a2_0 a2_1 a2_2).bind fun bt395 => ((alumlaw19_and.f k1 a0_0 a0_1 a0_2 bt395.1 bt395.2.1 bt395.2.2).bind fun bt398 => ((alumlaw19_and.f k1 a0_0 a0_1 a0_2 a1_0 a1_1 a1_2).bind fun bt401 => ((alumlaw19_and.f k1 bt401.1 bt401.2.1 bt401.2.2 a2_0 a2_1 a2_2).bind fun bt404 => (if (!(bt398.1 == bt404.1) || (!(bt398.2.1 == bt404.2.1) || (!(bt398.2.2.toList == bt404.2.2.toList)))) = true then (none) else ((alumlaw19_or.f k1 a1_0 a1_1 a1_2 a2_0 a2_1 a2_2).bind fun bt407 => ((alumlaw19_or.f k1 a0_0 a0_1 a0_2 bt407.1 bt407.2.1 bt407.2.2).bind fun bt410 => ((alumlaw19_or.f k1 a0_0 a0_1 a0_2 a1_0 a1_1 a1_2).bind fun bt413 => ((alumlaw19_or.f k1 bt413.1 bt413.2.1 bt413.2.2 a2_0 a2_1 a2_2).bind fun bt416 => (alumlaw19_ValueLogic.j1 k1 (!(bt410.1 == bt416.1) || (!(bt410.2.1 == bt416.2.1) || (!(bt410.2.2.toList == bt416.2.2.toList)))) a0_0 a0_1 a0_2 a1_0 a1_1 a1_2 a2_0 a2_1 a2_2))))))))))) = some r := H
       have A54 := Aside0.mk A540
       clear A540
       by_cases c55 : (!(t389 == t392) || (!(t390 == t393) || (!(t391.toList == t394.toList)))) = true
       ·rw [if_pos c55] at H
        exact absurd H (by simp)
       ·rw [if_neg c55] at H
        have c55b0 : (!(t389 == t392) || (!(t390 == t393) || (!(t391.toList == t394.toList)))) = false := by simpa using c55
        clear c55
        replace H := Option.bind_eq_some_iff.mp H
        obtain ⟨⟨t395, t396, t397⟩, A560, H⟩ := H
        replace H : ((alumlaw19_and.f k1 a0_0 a0_1 a0_2 t395 t396 t397).bind fun bt398 => ((alumlaw19_and.f k1 a0_0 a0_1 a0_2 a1_0 a1_1 a1_2).bind fun bt401 => ((alumlaw19_and.f k1 bt401.1 bt401.2.1 bt401.2.2 a2_0 a2_1 a2_2).bind fun bt404 => (if (!(bt398.1 == bt404.1) || (!(bt398.2.1 == bt404.2.1) || (!(bt398.2.2.toList == bt404.2.2.toList)))) = true then (none) else ((alumlaw19_or.f k1 a1_0 a1_1 a1_2 a2_0 a2_1 a2_2).bind fun bt407 => ((alumlaw19_or.f k1 a0_0 a0_1 a0_2 bt407.1 bt407.2.1 bt407.2.2).bind fun bt410 => ((alumlaw19_or.f k1 a0_0 a0_1 a0_2 a1_0 a1_1 a1_2).bind fun bt413 => ((alumlaw19_or.f k1 bt413.1 bt413.2.1 bt413.2.2 a2_0 a2_1 a2_2).bind fun bt416 => (alumlaw19_ValueLogic.j1 k1 (!(bt410.1 == bt416.1) || (!(bt410.2.1 == bt416.2.1) || (!(bt410.2.2.toList == bt416.2.2.toList)))) a0_0 a0_1 a0_2 a1_0 a1_1 a1_2 a2_0 a2_1 a2_2))))))))) = some r := H
        have A56 := Aside0.mk A560
        clear A560
        replace H := Option.bind_eq_some_iff.mp H
        obtain ⟨⟨t398, t399, t400⟩, A570, H⟩ := H
        replace H : ((alumlaw19_and.f k1 a0_0 a0_1 a0_2 a1_0 a1_1 a1_2).bind fun bt401 => ((alumlaw19_and.f k1 bt401.1 bt401.2.1 bt401.2.2 a2_0 a2_1 a2_2).bind fun bt404 => (if (!(t398 == bt404.1) || (!(t399 == bt404.2.1) || (!(t400.toList == bt404.2.2.toList)))) = true then (none) else ((alumlaw19_or.f k1 a1_0 a1_1 a1_2 a2_0 a2_1 a2_2).bind fun bt407 => ((alumlaw19_or.f k1 a0_0 a0_1 a0_2 bt407.1 bt407.2.1 bt407.2.2).bind fun bt410 => ((alumlaw19_or.f k1 a0_0 a0_1 a0_2 a1_0 a1_1 a1_2).bind fun bt413 => ((alumlaw19_or.f k1 bt413.1 bt413.2.1 bt413.2.2 a2_0 a2_1 a2_2).bind fun bt416 => (alumlaw19_ValueLogic.j1 k1 (!(bt410.1 == bt416.1) || (!(bt410.2.1 == bt416.2.1) || (!(bt410.2.2.toList == bt416.2.2.toList)))) a0_0 a0_1 a0_2 a1_0 a1_1 a1_2 a2_0 a2_1 a2_2)))))))) = some r := H
        have A57 := Aside0.mk A570
        clear A570
        replace H := Option.bind_eq_some_iff.mp H
        obtain ⟨⟨t401, t402, t403⟩, A580, H⟩ := H
        replace H : ((alumlaw19_and.f k1 t401 t402 t403 a2_0 a2_1 a2_2).bind fun bt404 => (if (!(t398 == bt404.1) || (!(t399 == bt404.2.1) || (!(t400.toList == bt404.2.2.toList)))) = true then (none) else ((alumlaw19_or.f k1 a1_0 a1_1 a1_2 a2_0 a2_1 a2_2).bind fun bt407 => ((alumlaw19_or.f k1 a0_0 a0_1 a0_2 bt407.1 bt407.2.1 bt407.2.2).bind fun bt410 => ((alumlaw19_or.f k1 a0_0 a0_1 a0_2 a1_0 a1_1 a1_2).bind fun bt413 => ((alumlaw19_or.f k1 bt413.1 bt413.2.1 bt413.2.2 a2_0 a2_1 a2_2).bind fun bt416 => (alumlaw19_ValueLogic.j1 k1 (!(bt410.1 == bt416.1) || (!(bt410.2.1 == bt416.2.1) || (!(bt410.2.2.toList == bt416.2.2.toList)))) a0_0 a0_1 a0_2 a1_0 a1_1 a1_2 a2_0 a2_1 a2_2))))))) = some r := H
        have A58 := Aside0.mk A580
        clear A580
        replace H := Option.bind_eq_some_iff.mp H
        obtain ⟨⟨t404, t405, t406⟩, A590, H⟩ := H
        replace H : (if (!(t398 == t404) || (!(t399 == t405) || (!(t400.toList == t406.toList)))) = true then (none) else ((alumlaw19_or.f k1 a1_0 a1_1 a1_2 a2_0 a2_1 a2_2).bind fun bt407 => ((alumlaw19_or.f k1 a0_0 a0_1 a0_2 bt407.1 bt407.2.1 bt407.2.2).bind fun bt410 => ((alumlaw19_or.f k1 a0_0 a0_1 a0_2 a1_0 a1_1 a1_2).bind fun bt413 => ((alumlaw19_or.f k1 bt413.1 bt413.2.1 bt413.2.2 a2_0 a2_1 a2_2).bind fun bt416 => (alumlaw19_ValueLogic.j1 k1 (!(bt410.1 == bt416.1) || (!(bt410.2.1 == bt416.2.1) || (!(bt410.2.2.toList == bt416.2.2.toList)))) a0_0 a0_1 a0_2 a1_0 a1_1 a1_2 a2_0 a2_1 a2_2)))))) = some r := H
        have A59 := Aside0.mk A590
        clear A590
        by_cases c60 : (!(t398 == t404) || (!(t399 == t405) || (!(t400.toList == t406.toList)))) = true
        ·rw [if_pos c60] at H
         exact absurd H (by simp)
        ·rw [if_neg c60] at H
         have c60b0 : (!(t398 == t404) || (!(t399 == t405) || (!(t400.toList == t406.toList)))) = false := by simpa using c60
         clear c60
         replace H := Option.bind_eq_some_iff.mp H
         obtain ⟨⟨t407, t408, t409⟩, A610, H⟩ := H
         replace H : ((alumlaw19_or.f k1 a0_0 a0_1 a0_2 t407 t408 t409).bind fun bt410 => ((alumlaw19_or.f k1 a0_0 a0_1 a0_2 a1_0 a1_1 a1_2).bind fun bt413 => ((alumlaw19_or.f k1 bt413.1 bt413.2.1 bt413.2.2 a2_0 a2_1 a2_2).bind fun bt416 => (alumlaw19_ValueLogic.j1 k1 (!(bt410.1 == bt416.1) || (!(bt410.2.1 == bt416.2.1) || (!(bt410.2.2.toList == bt416.2.2.toList)))) a0_0 a0_1 a0_2 a1_0 a1_1 a1_2 a2_0 a2_1 a2_2)))) = some r := H
         have A61 := Aside0.mk A610
         clear A610
         replace H := Option.bind_eq_some_iff.mp H
         obtain ⟨⟨t410, t411, t412⟩, A620, H⟩ := H
         replace H : ((alumlaw19_or.f k1 a0_0 a0_1 a0_2 a1_0 a1_1 a1_2).bind fun bt413 => ((alumlaw19_or.f k1 bt413.1 bt413.2.1 bt413.2.2 a2_0 a2_1 a2_2).bind fun bt416 => (alumlaw19_ValueLogic.j1 k1 (!(t410 == bt416.1) || (!(t411 == bt416.2.1) || (!(t412.toList == bt416.2.2.toList)))) a0_0 a0_1 a0_2 a1_0 a1_1 a1_2 a2_0 a2_1 a2_2))) = some r := H
         have A62 := Aside0.mk A620
         clear A620
         replace H := Option.bind_eq_some_iff.mp H
         obtain ⟨⟨t413, t414, t415⟩, A630, H⟩ := H
         replace H : ((alumlaw19_or.f k1 t413 t414 t415 a2_0 a2_1 a2_2).bind fun bt416 => (alumlaw19_ValueLogic.j1 k1 (!(t410 == bt416.1) || (!(t411 == bt416.2.1) || (!(t412.toList == bt416.2.2.toList)))) a0_0 a0_1 a0_2 a1_0 a1_1 a1_2 a2_0 a2_1 a2_2)) = some r := H
         have A63 := Aside0.mk A630
         clear A630
         replace H := Option.bind_eq_some_iff.mp H
         obtain ⟨⟨t416, t417, t418⟩, A640, H⟩ := H
         replace H : (alumlaw19_ValueLogic.j1 k1 (!(t410 == t416) || (!(t411 == t417) || (!(t412.toList == t418.toList)))) a0_0 a0_1 a0_2 a1_0 a1_1 a1_2 a2_0 a2_1 a2_2) = some r := H
         have A64 := Aside0.mk A640
         clear A640
         have H' := Aside0.mk H
         clear H
         try go_wp2
         replace HO_17 := Aside0.mk (Kd.R_drew HO_17.out)
         replace BK373 := Aside0.mk (blk_drew BK373.out)
         replace BK374 := Aside0.mk (blk_drew BK374.out)
         replace BK375 := Aside0.mk (blk_drew BK375.out)
         replace HB := Aside0.mk (below_drew1 HB.out)
         refine start_ (n := 42) (S := fun w' => w'.cell? ⟨gb373, 0, none⟩ = some (.int .i64 a0_0) ∧ w'.cell? ⟨gb373, 1, none⟩ = some (.int .i64 a0_1) ∧ w'.cell? ⟨gb373, 2, none⟩ = some (.string a0_2) ∧ w'.cell? ⟨gb374, 0, none⟩ = some (.int .i64 a1_0) ∧ w'.cell? ⟨gb374, 1, none⟩ = some (.int .i64 a1_1) ∧ w'.cell? ⟨gb374, 2, none⟩ = some (.string a1_2) ∧ w'.cell? ⟨gb375, 0, none⟩ = some (.int .i64 a2_0) ∧ w'.cell? ⟨gb375, 1, none⟩ = some (.int .i64 a2_1) ∧ w'.cell? ⟨gb375, 2, none⟩ = some (.string a2_2)) (ds := []) #[false, false, false, false, false, false, false, false, false, false, false, false, false, false, false, false, false, false, false, false, false, false, false, false, false, false, false, false, false, false, false, false, false, false, false, false, false, false, false, false, false, false] (by kernel_rfl) rfl rfl ⟨bc BK373 0, bc BK373 1, bc BK373 2, bc BK374 0, bc BK374 1, bc BK374 2, bc BK375 0, bc BK375 1, bc BK375 2⟩ (fun hHeld => ?_); refine with_tabW alumlaw19_ValueLogic.tab9 alumlaw19_ValueLogic.bits9 (fun HT_ HW_ => ?_)
         generalize wr.drew = w65 at HO_17 BK373 BK374 BK375 HB hHeld ⊢
         refine takeA 0 42 #[true, false, false, false, false, false, false, false, false, false, false, false, false, false, false, false, false, false, false, false, false, false, false, false, false, false, false, false, false, false, false, false, false, false, false, false, false, false, false, false, false, false] HT_ HW_ hHeld ?_
         refine takeA 1 43 #[true, true, false, false, false, false, false, false, false, false, false, false, false, false, false, false, false, false, false, false, false, false, false, false, false, false, false, false, false, false, false, false, false, false, false, false, false, false, false, false, false, false] HT_ HW_ hHeld ?_
         refine takeA 3 45 #[true, true, false, true, false, false, false, false, false, false, false, false, false, false, false, false, false, false, false, false, false, false, false, false, false, false, false, false, false, false, false, false, false, false, false, false, false, false, false, false, false, false] HT_ HW_ hHeld ?_
         refine takeA 4 46 #[true, true, false, true, true, false, false, false, false, false, false, false, false, false, false, false, false, false, false, false, false, false, false, false, false, false, false, false, false, false, false, false, false, false, false, false, false, false, false, false, false, false] HT_ HW_ hHeld ?_
         refine one_ (i := 2) (N := some 44) #[true, true, true, true, true, false, false, false, false, false, false, false, false, false, false, false, false, false, false, false, false, false, false, false, false, false, false, false, false, false, false, false, false, false, false, false, false, false, false, false, false, false] rfl rfl (one_of HT_.out (by kernel_rfl)) (by decide) (fun K hK => ?_)
         refine goes_ Tryd.func16 (by kernel_rfl) rfl #[.agg #[.int .i64 a0_0, .int .i64 a0_1, .string a0_2], .agg #[.int .i64 a1_0, .int .i64 a1_1, .string a1_2]] (by rfl) rfl rfl (by (try simp only [List.map_toArray, List.map_cons, List.map_nil]); first | done | rfl | (simp only [List.length_drop, List.length_take]; rfl)) ?_
         with_reducible refine (alumlaw19_and.calls k1 a0_0 a0_1 a0_2 a1_0 a1_1 a1_2 t383 t384 t385 _ A50.out).mono ?_
         rintro e w66 ⟨rfl, hb⟩
         refine ⟨_, rfl, ?_⟩
         replace HO_17 := Aside0.mk (Kd.R_below (by (with_reducible repeat (first | apply Kd.R_alloc | apply Kd.R_drewN | apply Kd.R_drew)); exact HO_17.out) hb)
         replace BK373 := blkB BK373 hb
         replace BK374 := blkB BK374 hb
         replace BK375 := blkB BK375 hb
         replace HB := stepB HB hb
         (try clear hb)
         (try clear hb2)
         (try clear hk)
         (try clear hi)
         refine hK.out _ _ ⟨bc BK373 0, bc BK373 1, bc BK373 2, bc BK374 0, bc BK374 1, bc BK374 2, bc BK375 0, bc BK375 1, bc BK375 2⟩ (fun hHeld => ?_)
         clear hK K
         refine normA 44 ?_
         refine one_ (i := 5) (N := some 47) #[true, true, true, true, true, true, false, false, false, false, false, false, false, false, false, false, false, false, false, false, false, false, false, false, false, false, false, false, false, false, false, false, false, false, false, false, false, false, false, false, false, false] rfl rfl (one_of HT_.out (by kernel_rfl)) (by decide) (fun K hK => ?_)
         refine goes_ Tryd.func16 (by kernel_rfl) rfl #[.agg #[.int .i64 a1_0, .int .i64 a1_1, .string a1_2], .agg #[.int .i64 a0_0, .int .i64 a0_1, .string a0_2]] (by rfl) rfl rfl (by (try simp only [List.map_toArray, List.map_cons, List.map_nil]); first | done | rfl | (simp only [List.length_drop, List.length_take]; rfl)) ?_
         with_reducible refine (alumlaw19_and.calls k1 a1_0 a1_1 a1_2 a0_0 a0_1 a0_2 t386 t387 t388 _ A51.out).mono ?_
         rintro e w67 ⟨rfl, hb⟩
         refine ⟨_, rfl, ?_⟩
         replace HO_17 := Aside0.mk (Kd.R_below (by (with_reducible repeat (first | apply Kd.R_alloc | apply Kd.R_drewN | apply Kd.R_drew)); exact HO_17.out) hb)
         replace BK373 := blkB BK373 hb
         replace BK374 := blkB BK374 hb
         replace BK375 := blkB BK375 hb
         replace HB := stepB HB hb
         (try clear hb)
         (try clear hb2)
         (try clear hk)
         (try clear hi)
         refine hK.out _ _ ⟨bc BK373 0, bc BK373 1, bc BK373 2, bc BK374 0, bc BK374 1, bc BK374 2, bc BK375 0, bc BK375 1, bc BK375 2⟩ (fun hHeld => ?_)
         clear hK K
         refine normA 47 ?_
         refine pureA 6 48 #[true, true, true, true, true, true, true, false, false, false, false, false, false, false, false, false, false, false, false, false, false, false, false, false, false, false, false, false, false, false, false, false, false, false, false, false, false, false, false, false, false, false] HT_ ?_
         refine pureA 7 49 #[true, true, true, true, true, true, true, true, false, false, false, false, false, false, false, false, false, false, false, false, false, false, false, false, false, false, false, false, false, false, false, false, false, false, false, false, false, false, false, false, false, false] HT_ ?_
         refine takeA 8 50 #[true, true, true, true, true, true, true, true, true, false, false, false, false, false, false, false, false, false, false, false, false, false, false, false, false, false, false, false, false, false, false, false, false, false, false, false, false, false, false, false, false, false] HT_ HW_ hHeld ?_
         refine takeA 9 51 #[true, true, true, true, true, true, true, true, true, true, false, false, false, false, false, false, false, false, false, false, false, false, false, false, false, false, false, false, false, false, false, false, false, false, false, false, false, false, false, false, false, false] HT_ HW_ hHeld ?_
         refine takeA 11 53 #[true, true, true, true, true, true, true, true, true, true, false, true, false, false, false, false, false, false, false, false, false, false, false, false, false, false, false, false, false, false, false, false, false, false, false, false, false, false, false, false, false, false] HT_ HW_ hHeld ?_
         refine takeA 12 54 #[true, true, true, true, true, true, true, true, true, true, false, true, true, false, false, false, false, false, false, false, false, false, false, false, false, false, false, false, false, false, false, false, false, false, false, false, false, false, false, false, false, false] HT_ HW_ hHeld ?_
         refine one_ (i := 10) (N := some 52) #[true, true, true, true, true, true, true, true, true, true, true, true, true, false, false, false, false, false, false, false, false, false, false, false, false, false, false, false, false, false, false, false, false, false, false, false, false, false, false, false, false, false] rfl rfl (one_of HT_.out (by kernel_rfl)) (by decide) (fun K hK => ?_)
         refine goes_ Tryd.func17 (by kernel_rfl) rfl #[.agg #[.int .i64 a0_0, .int .i64 a0_1, .string a0_2], .agg #[.int .i64 a1_0, .int .i64 a1_1, .string a1_2]] (by rfl) rfl rfl (by (try simp only [List.map_toArray, List.map_cons, List.map_nil]); first | done | rfl | (simp only [List.length_drop, List.length_take]; rfl)) ?_
         with_reducible refine (alumlaw19_or.calls k1 a0_0 a0_1 a0_2 a1_0 a1_1 a1_2 t389 t390 t391 _ A53.out).mono ?_
         rintro e w68 ⟨rfl, hb⟩
         refine ⟨_, rfl, ?_⟩
         replace HO_17 := Aside0.mk (Kd.R_below (by (with_reducible repeat (first | apply Kd.R_alloc | apply Kd.R_drewN | apply Kd.R_drew)); exact HO_17.out) hb)
         replace BK373 := blkB BK373 hb
         replace BK374 := blkB BK374 hb
         replace BK375 := blkB BK375 hb
         replace HB := stepB HB hb
         (try clear hb)
         (try clear hb2)
         (try clear hk)
         (try clear hi)
         refine hK.out _ _ ⟨bc BK373 0, bc BK373 1, bc BK373 2, bc BK374 0, bc BK374 1, bc BK374 2, bc BK375 0, bc BK375 1, bc BK375 2⟩ (fun hHeld => ?_)
         clear hK K
         refine normA 52 ?_
         refine one_ (i := 13) (N := some 55) #[true, true, true, true, true, true, true, true, true, true, true, true, true, true, false, false, false, false, false, false, false, false, false, false, false, false, false, false, false, false, false, false, false, false, false, false, false, false, false, false, false, false] rfl rfl (one_of HT_.out (by kernel_rfl)) (by decide) (fun K hK => ?_)
         refine goes_ Tryd.func17 (by kernel_rfl) rfl #[.agg #[.int .i64 a1_0, .int .i64 a1_1, .string a1_2], .agg #[.int .i64 a0_0, .int .i64 a0_1, .string a0_2]] (by rfl) rfl rfl (by (try simp only [List.map_toArray, List.map_cons, List.map_nil]); first | done | rfl | (simp only [List.length_drop, List.length_take]; rfl)) ?_
         with_reducible refine (alumlaw19_or.calls k1 a1_0 a1_1 a1_2 a0_0 a0_1 a0_2 t392 t393 t394 _ A54.out).mono ?_
         rintro e w69 ⟨rfl, hb⟩
         refine ⟨_, rfl, ?_⟩
         replace HO_17 := Aside0.mk (Kd.R_below (by (with_reducible repeat (first | apply Kd.R_alloc | apply Kd.R_drewN | apply Kd.R_drew)); exact HO_17.out) hb)
         replace BK373 := blkB BK373 hb
         replace BK374 := blkB BK374 hb
         replace BK375 := blkB BK375 hb
         replace HB := stepB HB hb
         (try clear hb)
         (try clear hb2)
         (try clear hk)
         (try clear hi)
         refine hK.out _ _ ⟨bc BK373 0, bc BK373 1, bc BK373 2, bc BK374 0, bc BK374 1, bc BK374 2, bc BK375 0, bc BK375 1, bc BK375 2⟩ (fun hHeld => ?_)
         clear hK K
         refine normA 55 ?_
         refine pureA 14 56 #[true, true, true, true, true, true, true, true, true, true, true, true, true, true, true, false, false, false, false, false, false, false, false, false, false, false, false, false, false, false, false, false, false, false, false, false, false, false, false, false, false, false] HT_ ?_
         refine pureA 15 57 #[true, true, true, true, true, true, true, true, true, true, true, true, true, true, true, true, false, false, false, false, false, false, false, false, false, false, false, false, false, false, false, false, false, false, false, false, false, false, false, false, false, false] HT_ ?_
         refine pureA 16 58 #[true, true, true, true, true, true, true, true, true, true, true, true, true, true, true, true, true, false, false, false, false, false, false, false, false, false, false, false, false, false, false, false, false, false, false, false, false, false, false, false, false, false] HT_ ?_
         refine takeA 17 59 #[true, true, true, true, true, true, true, true, true, true, true, true, true, true, true, true, true, true, false, false, false, false, false, false, false, false, false, false, false, false, false, false, false, false, false, false, false, false, false, false, false, false] HT_ HW_ hHeld ?_
         refine takeA 18 60 #[true, true, true, true, true, true, true, true, true, true, true, true, true, true, true, true, true, true, true, false, false, false, false, false, false, false, false, false, false, false, false, false, false, false, false, false, false, false, false, false, false, false] HT_ HW_ hHeld ?_
         refine takeA 19 61 #[true, true, true, true, true, true, true, true, true, true, true, true, true, true, true, true, true, true, true, true, false, false, false, false, false, false, false, false, false, false, false, false, false, false, false, false, false, false, false, false, false, false] HT_ HW_ hHeld ?_
         refine takeA 22 64 #[true, true, true, true, true, true, true, true, true, true, true, true, true, true, true, true, true, true, true, true, false, false, true, false, false, false, false, false, false, false, false, false, false, false, false, false, false, false, false, false, false, false] HT_ HW_ hHeld ?_
         refine takeA 23 65 #[true, true, true, true, true, true, true, true, true, true, true, true, true, true, true, true, true, true, true, true, false, false, true, true, false, false, false, false, false, false, false, false, false, false, false, false, false, false, false, false, false, false] HT_ HW_ hHeld ?_
         refine takeA 25 67 #[true, true, true, true, true, true, true, true, true, true, true, true, true, true, true, true, true, true, true, true, false, false, true, true, false, true, false, false, false, false, false, false, false, false, false, false, false, false, false, false, false, false] HT_ HW_ hHeld ?_
         refine one_ (i := 20) (N := some 62) #[true, true, true, true, true, true, true, true, true, true, true, true, true, true, true, true, true, true, true, true, true, false, true, true, false, true, false, false, false, false, false, false, false, false, false, false, false, false, false, false, false, false] rfl rfl (one_of HT_.out (by kernel_rfl)) (by decide) (fun K hK => ?_)
         refine goes_ Tryd.func16 (by kernel_rfl) rfl #[.agg #[.int .i64 a1_0, .int .i64 a1_1, .string a1_2], .agg #[.int .i64 a2_0, .int .i64 a2_1, .string a2_2]] (by rfl) rfl rfl (by (try simp only [List.map_toArray, List.map_cons, List.map_nil]); first | done | rfl | (simp only [List.length_drop, List.length_take]; rfl)) ?_
         with_reducible refine (alumlaw19_and.calls k1 a1_0 a1_1 a1_2 a2_0 a2_1 a2_2 t395 t396 t397 _ A56.out).mono ?_
         rintro e w70 ⟨rfl, hb⟩
         refine ⟨_, rfl, ?_⟩
         replace HO_17 := Aside0.mk (Kd.R_below (by (with_reducible repeat (first | apply Kd.R_alloc | apply Kd.R_drewN | apply Kd.R_drew)); exact HO_17.out) hb)
         replace BK373 := blkB BK373 hb
         replace BK374 := blkB BK374 hb
         replace BK375 := blkB BK375 hb
         replace HB := stepB HB hb
         (try clear hb)
         (try clear hb2)
         (try clear hk)
         (try clear hi)
         refine hK.out _ _ ⟨bc BK373 0, bc BK373 1, bc BK373 2, bc BK374 0, bc BK374 1, bc BK374 2, bc BK375 0, bc BK375 1, bc BK375 2⟩ (fun hHeld => ?_)
         clear hK K
         refine normA 62 ?_
         refine one_ (i := 21) (N := some 63) #[true, true, true, true, true, true, true, true, true, true, true, true, true, true, true, true, true, true, true, true, true, true, true, true, false, true, false, false, false, false, false, false, false, false, false, false, false, false, false, false, false, false] rfl rfl (one_of HT_.out (by kernel_rfl)) (by decide) (fun K hK => ?_)
         refine goes_ Tryd.func16 (by kernel_rfl) rfl #[.agg #[.int .i64 a0_0, .int .i64 a0_1, .string a0_2], .agg #[.int .i64 t395, .int .i64 t396, .string t397]] (by rfl) rfl rfl (by (try simp only [List.map_toArray, List.map_cons, List.map_nil]); first | done | rfl | (simp only [List.length_drop, List.length_take]; rfl)) ?_
         with_reducible refine (alumlaw19_and.calls k1 a0_0 a0_1 a0_2 t395 t396 t397 t398 t399 t400 _ A57.out).mono ?_
         rintro e w71 ⟨rfl, hb⟩
         refine ⟨_, rfl, ?_⟩
         replace HO_17 := Aside0.mk (Kd.R_below (by (with_reducible repeat (first | apply Kd.R_alloc | apply Kd.R_drewN | apply Kd.R_drew)); exact HO_17.out) hb)
         replace BK373 := blkB BK373 hb
         replace BK374 := blkB BK374 hb
         replace BK375 := blkB BK375 hb
         replace HB := stepB HB hb
         (try clear hb)
         (try clear hb2)
         (try clear hk)
         (try clear hi)
         refine hK.out _ _ ⟨bc BK373 0, bc BK373 1, bc BK373 2, bc BK374 0, bc BK374 1, bc BK374 2, bc BK375 0, bc BK375 1, bc BK375 2⟩ (fun hHeld => ?_)
         clear hK K
         refine normA 63 ?_
         refine one_ (i := 24) (N := some 66) #[true, true, true, true, true, true, true, true, true, true, true, true, true, true, true, true, true, true, true, true, true, true, true, true, true, true, false, false, false, false, false, false, false, false, false, false, false, false, false, false, false, false] rfl rfl (one_of HT_.out (by kernel_rfl)) (by decide) (fun K hK => ?_)
         refine goes_ Tryd.func16 (by kernel_rfl) rfl #[.agg #[.int .i64 a0_0, .int .i64 a0_1, .string a0_2], .agg #[.int .i64 a1_0, .int .i64 a1_1, .string a1_2]] (by rfl) rfl rfl (by (try simp only [List.map_toArray, List.map_cons, List.map_nil]); first | done | rfl | (simp only [List.length_drop, List.length_take]; rfl)) ?_
         with_reducible refine (alumlaw19_and.calls k1 a0_0 a0_1 a0_2 a1_0 a1_1 a1_2 t401 t402 t403 _ A58.out).mono ?_
         rintro e w72 ⟨rfl, hb⟩
         refine ⟨_, rfl, ?_⟩
         replace HO_17 := Aside0.mk (Kd.R_below (by (with_reducible repeat (first | apply Kd.R_alloc | apply Kd.R_drewN | apply Kd.R_drew)); exact HO_17.out) hb)
         replace BK373 := blkB BK373 hb
         replace BK374 := blkB BK374 hb
         replace BK375 := blkB BK375 hb
         replace HB := stepB HB hb
         (try clear hb)
         (try clear hb2)
         (try clear hk)
         (try clear hi)
         refine hK.out _ _ ⟨bc BK373 0, bc BK373 1, bc BK373 2, bc BK374 0, bc BK374 1, bc BK374 2, bc BK375 0, bc BK375 1, bc BK375 2⟩ (fun hHeld => ?_)
         clear hK K
         refine normA 66 ?_
         refine one_ (i := 26) (N := some 68) #[true, true, true, true, true, true, true, true, true, true, true, true, true, true, true, true, true, true, true, true, true, true, true, true, true, true, true, false, false, false, false, false, false, false, false, false, false, false, false, false, false, false] rfl rfl (one_of HT_.out (by kernel_rfl)) (by decide) (fun K hK => ?_)
         refine goes_ Tryd.func16 (by kernel_rfl) rfl #[.agg #[.int .i64 t401, .int .i64 t402, .string t403], .agg #[.int .i64 a2_0, .int .i64 a2_1, .string a2_2]] (by rfl) rfl rfl (by (try simp only [List.map_toArray, List.map_cons, List.map_nil]); first | done | rfl | (simp only [List.length_drop, List.length_take]; rfl)) ?_
         with_reducible refine (alumlaw19_and.calls k1 t401 t402 t403 a2_0 a2_1 a2_2 t404 t405 t406 _ A59.out).mono ?_
         rintro e w73 ⟨rfl, hb⟩
         refine ⟨_, rfl, ?_⟩
         replace HO_17 := Aside0.mk (Kd.R_below (by (with_reducible repeat (first | apply Kd.R_alloc | apply Kd.R_drewN | apply Kd.R_drew)); exact HO_17.out) hb)
         replace BK373 := blkB BK373 hb
         replace BK374 := blkB BK374 hb
         replace BK375 := blkB BK375 hb
         replace HB := stepB HB hb
         (try clear hb)
         (try clear hb2)
         (try clear hk)
         (try clear hi)
         refine hK.out _ _ ⟨bc BK373 0, bc BK373 1, bc BK373 2, bc BK374 0, bc BK374 1, bc BK374 2, bc BK375 0, bc BK375 1, bc BK375 2⟩ (fun hHeld => ?_)
         clear hK K
         refine normA 68 ?_
         refine pureA 27 69 #[true, true, true, true, true, true, true, true, true, true, true, true, true, true, true, true, true, true, true, true, true, true, true, true, true, true, true, true, false, false, false, false, false, false, false, false, false, false, false, false, false, false] HT_ ?_
         refine pureA 28 70 #[true, true, true, true, true, true, true, true, true, true, true, true, true, true, true, true, true, true, true, true, true, true, true, true, true, true, true, true, true, false, false, false, false, false, false, false, false, false, false, false, false, false] HT_ ?_
         refine pureA 29 71 #[true, true, true, true, true, true, true, true, true, true, true, true, true, true, true, true, true, true, true, true, true, true, true, true, true, true, true, true, true, true, false, false, false, false, false, false, false, false, false, false, false, false] HT_ ?_
         refine takeA 30 72 #[true, true, true, true, true, true, true, true, true, true, true, true, true, true, true, true, true, true, true, true, true, true, true, true, true, true, true, true, true, true, true, false, false, false, false, false, false, false, false, false, false, false] HT_ HW_ hHeld ?_
         refine takeA 31 73 #[true, true, true, true, true, true, true, true, true, true, true, true, true, true, true, true, true, true, true, true, true, true, true, true, true, true, true, true, true, true, true, true, false, false, false, false, false, false, false, false, false, false] HT_ HW_ hHeld ?_
         refine takeA 32 74 #[true, true, true, true, true, true, true, true, true, true, true, true, true, true, true, true, true, true, true, true, true, true, true, true, true, true, true, true, true, true, true, true, true, false, false, false, false, false, false, false, false, false] HT_ HW_ hHeld ?_
         refine takeA 35 77 #[true, true, true, true, true, true, true, true, true, true, true, true, true, true, true, true, true, true, true, true, true, true, true, true, true, true, true, true, true, true, true, true, true, false, false, true, false, false, false, false, false, false] HT_ HW_ hHeld ?_
         refine takeA 36 78 #[true, true, true, true, true, true, true, true, true, true, true, true, true, true, true, true, true, true, true, true, true, true, true, true, true, true, true, true, true, true, true, true, true, false, false, true, true, false, false, false, false, false] HT_ HW_ hHeld ?_
         refine takeA 38 80 #[true, true, true, true, true, true, true, true, true, true, true, true, true, true, true, true, true, true, true, true, true, true, true, true, true, true, true, true, true, true, true, true, true, false, false, true, true, false, true, false, false, false] HT_ HW_ hHeld ?_
         refine one_ (i := 33) (N := some 75) #[true, true, true, true, true, true, true, true, true, true, true, true, true, true, true, true, true, true, true, true, true, true, true, true, true, true, true, true, true, true, true, true, true, true, false, true, true, false, true, false, false, false] rfl rfl (one_of HT_.out (by kernel_rfl)) (by decide) (fun K hK => ?_)
         refine goes_ Tryd.func17 (by kernel_rfl) rfl #[.agg #[.int .i64 a1_0, .int .i64 a1_1, .string a1_2], .agg #[.int .i64 a2_0, .int .i64 a2_1, .string a2_2]] (by rfl) rfl rfl (by (try simp only [List.map_toArray, List.map_cons, List.map_nil]); first | done | rfl | (simp only [List.length_drop, List.length_take]; rfl)) ?_
         with_reducible refine (alumlaw19_or.calls k1 a1_0 a1_1 a1_2 a2_0 a2_1 a2_2 t407 t408 t409 _ A61.out).mono ?_
         rintro e w74 ⟨rfl, hb⟩
         refine ⟨_, rfl, ?_⟩
         replace HO_17 := Aside0.mk (Kd.R_below (by (with_reducible repeat (first | apply Kd.R_alloc | apply Kd.R_drewN | apply Kd.R_drew)); exact HO_17.out) hb)
         replace BK373 := blkB BK373 hb
         replace BK374 := blkB BK374 hb
         replace BK375 := blkB BK375 hb
         replace HB := stepB HB hb
         (try clear hb)
         (try clear hb2)
         (try clear hk)
         (try clear hi)
         refine hK.out _ _ ⟨bc BK373 0, bc BK373 1, bc BK373 2, bc BK374 0, bc BK374 1, bc BK374 2, bc BK375 0, bc BK375 1, bc BK375 2⟩ (fun hHeld => ?_)
         clear hK K
         refine normA 75 ?_
         refine one_ (i := 34) (N := some 76) #[true, true, true, true, true, true, true, true, true, true, true, true, true, true, true, true, true, true, true, true, true, true, true, true, true, true, true, true, true, true, true, true, true, true, true, true, true, false, true, false, false, false] rfl rfl (one_of HT_.out (by kernel_rfl)) (by decide) (fun K hK => ?_)
         refine goes_ Tryd.func17 (by kernel_rfl) rfl #[.agg #[.int .i64 a0_0, .int .i64 a0_1, .string a0_2], .agg #[.int .i64 t407, .int .i64 t408, .string t409]] (by rfl) rfl rfl (by (try simp only [List.map_toArray, List.map_cons, List.map_nil]); first | done | rfl | (simp only [List.length_drop, List.length_take]; rfl)) ?_
         with_reducible refine (alumlaw19_or.calls k1 a0_0 a0_1 a0_2 t407 t408 t409 t410 t411 t412 _ A62.out).mono ?_
         rintro e w75 ⟨rfl, hb⟩
         refine ⟨_, rfl, ?_⟩
         replace HO_17 := Aside0.mk (Kd.R_below (by (with_reducible repeat (first | apply Kd.R_alloc | apply Kd.R_drewN | apply Kd.R_drew)); exact HO_17.out) hb)
         replace BK373 := blkB BK373 hb
         replace BK374 := blkB BK374 hb
         replace BK375 := blkB BK375 hb
         replace HB := stepB HB hb
         (try clear hb)
         (try clear hb2)
         (try clear hk)
         (try clear hi)
         refine hK.out _ _ ⟨bc BK373 0, bc BK373 1, bc BK373 2, bc BK374 0, bc BK374 1, bc BK374 2, bc BK375 0, bc BK375 1, bc BK375 2⟩ (fun hHeld => ?_)
         clear hK K
         refine normA 76 ?_
         refine one_ (i := 37) (N := some 79) #[true, true, true, true, true, true, true, true, true, true, true, true, true, true, true, true, true, true, true, true, true, true, true, true, true, true, true, true, true, true, true, true, true, true, true, true, true, true, true, false, false, false] rfl rfl (one_of HT_.out (by kernel_rfl)) (by decide) (fun K hK => ?_)
         refine goes_ Tryd.func17 (by kernel_rfl) rfl #[.agg #[.int .i64 a0_0, .int .i64 a0_1, .string a0_2], .agg #[.int .i64 a1_0, .int .i64 a1_1, .string a1_2]] (by rfl) rfl rfl (by (try simp only [List.map_toArray, List.map_cons, List.map_nil]); first | done | rfl | (simp only [List.length_drop, List.length_take]; rfl)) ?_
         with_reducible refine (alumlaw19_or.calls k1 a0_0 a0_1 a0_2 a1_0 a1_1 a1_2 t413 t414 t415 _ A63.out).mono ?_
         rintro e w76 ⟨rfl, hb⟩
         refine ⟨_, rfl, ?_⟩
         replace HO_17 := Aside0.mk (Kd.R_below (by (with_reducible repeat (first | apply Kd.R_alloc | apply Kd.R_drewN | apply Kd.R_drew)); exact HO_17.out) hb)
         replace BK373 := blkB BK373 hb
         replace BK374 := blkB BK374 hb
         replace BK375 := blkB BK375 hb
         replace HB := stepB HB hb
         (try clear hb)
         (try clear hb2)
         (try clear hk)
         (try clear hi)
         refine hK.out _ _ ⟨bc BK373 0, bc BK373 1, bc BK373 2, bc BK374 0, bc BK374 1, bc BK374 2, bc BK375 0, bc BK375 1, bc BK375 2⟩ (fun hHeld => ?_)
         clear hK K
         refine normA 79 ?_
         refine one_ (i := 39) (N := some 81) #[true, true, true, true, true, true, true, true, true, true, true, true, true, true, true, true, true, true, true, true, true, true, true, true, true, true, true, true, true, true, true, true, true, true, true, true, true, true, true, true, false, false] rfl rfl (one_of HT_.out (by kernel_rfl)) (by decide) (fun K hK => ?_)
         refine goes_ Tryd.func17 (by kernel_rfl) rfl #[.agg #[.int .i64 t413, .int .i64 t414, .string t415], .agg #[.int .i64 a2_0, .int .i64 a2_1, .string a2_2]] (by rfl) rfl rfl (by (try simp only [List.map_toArray, List.map_cons, List.map_nil]); first | done | rfl | (simp only [List.length_drop, List.length_take]; rfl)) ?_
         with_reducible refine (alumlaw19_or.calls k1 t413 t414 t415 a2_0 a2_1 a2_2 t416 t417 t418 _ A64.out).mono ?_
         rintro e w77 ⟨rfl, hb⟩
         refine ⟨_, rfl, ?_⟩
         replace HO_17 := Aside0.mk (Kd.R_below (by (with_reducible repeat (first | apply Kd.R_alloc | apply Kd.R_drewN | apply Kd.R_drew)); exact HO_17.out) hb)
         replace BK373 := blkB BK373 hb
         replace BK374 := blkB BK374 hb
         replace BK375 := blkB BK375 hb
         replace HB := stepB HB hb
         (try clear hb)
         (try clear hb2)
         (try clear hk)
         (try clear hi)
         refine hK.out _ _ ⟨bc BK373 0, bc BK373 1, bc BK373 2, bc BK374 0, bc BK374 1, bc BK374 2, bc BK375 0, bc BK375 1, bc BK375 2⟩ (fun hHeld => ?_)
         clear hK K
         refine normA 81 ?_
         refine pureA 40 82 #[true, true, true, true, true, true, true, true, true, true, true, true, true, true, true, true, true, true, true, true, true, true, true, true, true, true, true, true, true, true, true, true, true, true, true, true, true, true, true, true, true, false] HT_ ?_
         refine pureA 41 83 #[true, true, true, true, true, true, true, true, true, true, true, true, true, true, true, true, true, true, true, true, true, true, true, true, true, true, true, true, true, true, true, true, true, true, true, true, true, true, true, true, true, true] HT_ ?_
         refine done_ (done_of HT_.out (by kernel_rfl)) ?_
         try go_wp2
         go_meet
         case rel => exact ⟨_, ((!(t410 == t416) || (!(t411 == t417) || (!(t412.toList == t418.toList))))), (by first | rfl | (simp; done) | (simp [*]; done)), H', ⟨by have := HK1.out; first | omega | exact Nat.le_refl _⟩, ⟨by (with_reducible repeat (first | refine blk_drewN ?_ _ | refine blk_drew ?_ | refine blk_alloc ?_ _)); exact BK373.out⟩, ⟨by (with_reducible repeat (first | refine blk_drewN ?_ _ | refine blk_drew ?_ | refine blk_alloc ?_ _)); exact BK374.out⟩, ⟨by (with_reducible repeat (first | refine blk_drewN ?_ _ | refine blk_drew ?_ | refine blk_alloc ?_ _)); exact BK375.out⟩, ⟨by repeat (first | (with_reducible first | exact HB.out | apply below_alloc | apply pw_below_drewN | apply below_drew1 | refine below_set ?_ GE373.out | refine below_set ?_ GE374.out | refine below_set ?_ GE375.out) | exact HB.out)⟩⟩
     case rest =>
      clear HC49
      try clear c1
      try clear p2
      try clear c16
      try clear c17
      obtain ⟨kq, x83_48, rfl, HA, HJ48, BK373, BK374, BK375, HB⟩ := hcut
      cases kq with
      | zero => exact absurd HA.out (by simp [alumlaw19_ValueLogic.j1])
      | succ kj48 =>
       have H := HA.out
       clear HA
       simp only [alumlaw19_ValueLogic.j1] at H
       by_cases c78 : x83_48 = true
       ·subst c78
        have H1 : (none) = some r := by rw [if_pos rfl] at H; exact H
        clear H
        have H := H1
        clear H1
        exact absurd H (by simp)
       ·replace c78 := Bool.eq_false_iff.mpr c78
        subst c78
        have H1 : ((alumlaw19_or.f kj48 a1_0 a1_1 a1_2 a2_0 a2_1 a2_2).bind fun bt419 => ((alumlaw19_and.f kj48 a0_0 a0_1 a0_2 bt419.1 bt419.2.1 bt419.2.2).bind fun bt422 => ((alumlaw19_and.f kj48 a0_0 a0_1 a0_2 a1_0 a1_1 a1_2).bind fun bt425 => ((alumlaw19_and.f kj48 a0_0 a0_1 a0_2 a2_0 a2_1 a2_2).bind fun bt428 => ((alumlaw19_or.f kj48 bt425.1 bt425.2.1 bt425.2.2 bt428.1 bt428.2.1 bt428.2.2).bind fun bt431 => (if (!(bt422.1 == bt431.1) || (!(bt422.2.1 == bt431.2.1) || (!(bt422.2.2.toList == bt431.2.2.toList)))) = true then (none) else ((alumlaw19_and.f kj48 a1_0 a1_1 a1_2 a2_0 a2_1 a2_2).bind fun bt434 => ((alumlaw19_or.f kj48 a0_0 a0_1 a0_2 bt434.1 bt434.2.1 bt434.2.2).bind fun bt437 => ((alumlaw19_or.f kj48 a0_0 a0_1 a0_2 a1_0 a1_1 a1_2).bind fun bt440 => ((alumlaw19_or.f kj48 a0_0 a0_1 a0_2 a2_0 a2_1 a2_2).bind fun bt443 => ((alumlaw19_and.f kj48 bt440.1 bt440.2.1 bt440.2.2 bt443.1 bt443.2.1 bt443.2.2).bind fun bt446 => (if (!(bt437.1 == bt446.1) || (!(bt437.2.1 == bt446.2.1) || (!(bt437.2.2.toList == bt446.2.2.toList)))) = true then (none) else ((alumlaw19_not.f kj48 a0_0 a0_1 a0_2).bind fun bt449 => ((alumlaw19_not.f kj48 bt449.1 bt449.2.1 bt449.2.2).bind fun bt452 => (if (!(bt452.1 == a0_0) || (!(bt452.2.1 == a0_1) || (!(bt452.2.2.toList == a0_2.toList)))) = true then (none) else ((alumlaw19_and.f kj48 a0_0 a0_1 a0_2 a1_0 a1_1 a1_2).bind fun bt455 => ((alumlaw19_not.f kj48 bt455.1 bt455.2.1 bt455.2.2).bind fun bt458 => ((alumlaw19_not.f kj48 a0_0 a0_1 a0_2).bind fun bt461 => ((alumlaw19_not.f kj48 a1_0 a1_1 a1_2).bind fun bt464 => ((alumlaw19_or.f kj48 bt461.1 bt461.2.1 bt461.2.2 bt464.1 bt464.2.1 bt464.2.2).bind fun bt467 => (alumlaw19_ValueLogic.j2 kj48 (!(bt458.1 == bt467.1) || (!(bt458.2.1 == bt467.2.1) || (!(bt458.2.2.toList == bt467.2.2.toList)))) a0_0 a0_1 a0_2 a1_0 a1_1 a1_2 a2_0 a2_1 a2_2))))))))))))))))))))) = some r := by rw [if_neg (show ¬ (false = true) by decide)] at H; exact H
        clear H
        have H := H1
        clear H1
        have HC79 := Aside0.mk H
        clear H
        go_upto_region 11 with (fail)
        go_cut [130] (fun v130 wc => ∃ (kq : Nat) (x130_78 : Bool), v130 = .bool x130_78 ∧ Aside0 (alumlaw19_ValueLogic.j2 kq x130_78 a0_0 a0_1 a0_2 a1_0 a1_1 a1_2 a2_0 a2_1 a2_2 = some r) ∧ Aside0 (kq ≤ kj48) ∧ Aside0 (wc.heap[gb373]? = some (.cells #[.int .i64 a0_0, .int .i64 a0_1, .string a0_2] 23 (0, 0))) ∧ Aside0 (wc.heap[gb374]? = some (.cells #[.int .i64 a1_0, .int .i64 a1_1, .string a1_2] 23 (0, 0))) ∧ Aside0 (wc.heap[gb375]? = some (.cells #[.int .i64 a2_0, .int .i64 a2_1, .string a2_2] 23 (0, 0))) ∧ Aside0 (Below w.heap.size w wc))
        case first =>
         have H := HC79.out
         clear HC79
         replace H := Option.bind_eq_some_iff.mp H
         obtain ⟨⟨t419, t420, t421⟩, A800, H⟩ := H
         replace H : ((alumlaw19_and.f kj48 a0_0 a0_1 a0_2 t419 t420 t421).bind fun bt422 => ((alumlaw19_and.f kj48 a0_0 a0_1 a0_2 a1_0 a1_1 a1_2).bind fun bt425 => ((alumlaw19_and.f kj48 a0_0 a0_1 a0_2 a2_0 a2_1 a2_2).bind fun bt428 => ((alumlaw19_or.f kj48 bt425.1 bt425.2.1 bt425.2.2 bt428.1 bt428.2.1 bt428.2.2).bind fun bt431 => (if (!(bt422.1 == bt431.1) || (!(bt422.2.1 == bt431.2.1) || (!(bt422.2.2.toList == bt431.2.2.toList)))) = true then (none) else ((alumlaw19_and.f kj48 a1_0 a1_1 a1_2 a2_0 a2_1 a2_2).bind fun bt434 => ((alumlaw19_or.f kj48 a0_0 a0_1 a0_2 bt434.1 bt434.2.1 bt434.2.2).bind fun bt437 => ((alumlaw19_or.f kj48 a0_0 a0_1 a0_2 a1_0 a1_1 a1_2).bind fun bt440 => ((alumlaw19_or.f kj48 a0_0 a0_1 a0_2 a2_0 a2_1 a2_2).bind fun bt443 => ((alumlaw19_and.f kj48 bt440.1 bt440.2.1 bt440.2.2 bt443.1 bt443.2.1 bt443.2.2).bind fun bt446 => (if (!(bt437.1 == bt446.1) || (!(bt437.2.1 == bt446.2.1) || (!(bt437.2.2.toList == bt446.2.2.toList)))) = true then (none) else ((alumlaw19_not.f kj48 a0_0 a0_1 a0_2).bind fun bt449 => ((alumlaw19_not.f kj48 bt449.1 bt449.2.1 bt449.2.2).bind fun bt452 => (if (!(bt452.1 == a0_0) || (!(bt452.2.1 == a0_1) || (!(bt452.2.2.toList == a0_2.toList)))) = true then (none) else ((alumlaw19_and.f kj48 a0_0 a0_1 a0_2 a1_0 a1_1 a1_2).bind fun bt455 => ((alumlaw19_not.f kj48 bt455.1 bt455.2.1 bt455.2.2).bind fun bt458 => ((alumlaw19_not.f kj48 a0_0 a0_1 a0_2).bind fun bt461 => ((alumlaw19_not.f kj48 a1_0 a1_1 a1_2).bind fun bt464 => ((alumlaw19_or.f kj48 bt461.1 bt461.2.1 bt461.2.2 bt464.1 bt464.2.1 bt464.2.2).bind fun bt467 => (alumlaw19_ValueLogic.j2 kj48 (!(bt458.1 == bt467.1) || (!(bt458.2.1 == bt467.2.1) || (!(bt458.2.2.toList == bt467.2.2.toList)))) a0_0 a0_1 a0_2 a1_0 a1_1 a1_2 a2_0 a2_1 a2_2)))))))))))))))))))) = some r := H
         have A80 := Aside0.mk A800
         clear A800
         replace H := Option.bind_eq_some_iff.mp H
         obtain ⟨⟨t422, t423, t424⟩, A810, H⟩ := H
         replace H : ((alumlaw19_and.f kj48 a0_0 a0_1 a0_2 a1_0 a1_1 a1_2).bind fun bt425 => ((alumlaw19_and.f kj48 a0_0 a0_1 a0_2 a2_0 a2_1 a2_2).bind fun bt428 => ((alumlaw19_or.f kj48 bt425.1 bt425.2.1 bt425.2.2 bt428.1 bt428.2.1 bt428.2.2).bind fun bt431 => (if (!(t422 == bt431.1) || (!(t423 == bt431.2.1) || (!(t424.toList == bt431.2.2.toList)))) = true then (none) else ((alumlaw19_and.f kj48 a1_0 a1_1 a1_2 a2_0 a2_1 a2_2).bind fun bt434 => ((alumlaw19_or.f kj48 a0_0 a0_1 a0_2 bt434.1 bt434.2.1 bt434.2.2).bind fun bt437 => ((alumlaw19_or.f kj48 a0_0 a0_1 a0_2 a1_0 a1_1 a1_2).bind fun bt440 => ((alumlaw19_or.f kj48 a0_0 a0_1 a0_2 a2_0 a2_1 a2_2).bind fun bt443 => ((alumlaw19_and.f kj48 bt440.1 bt440.2.1 bt440.2.2 bt443.1 bt443.2.1 bt443.2.2).bind fun bt446 => (if (!(bt437.1 == bt446.1) || (!(bt437.2.1 == bt446.2.1) || (!(bt437.2.2.toList == bt446.2.2.toList)))) = true then (none) else ((alumlaw19_not.f kj48 a0_0 a0_1 a0_2).bind fun bt449 => ((alumlaw19_not.f kj48 bt449.1 bt449.2.1 bt449.2.2).bind fun bt452 => (if (!(bt452.1 == a0_0) || (!(bt452.2.1 == a0_1) || (!(bt452.2.2.toList == a0_2.toList)))) = true then (none) else ((alumlaw19_and.f kj48 a0_0 a0_1 a0_2 a1_0 a1_1 a1_2).bind fun bt455 => ((alumlaw19_not.f kj48 bt455.1 bt455.2.1 bt455.2.2).bind fun bt458 => ((alumlaw19_not.f kj48 a0_0 a0_1 a0_2).bind fun bt461 => ((alumlaw19_not.f kj48 a1_0 a1_1 a1_2).bind fun bt464 => ((alumlaw19_or.f kj48 bt461.1 bt461.2.1 bt461.2.2 bt464.1 bt464.2.1 bt464.2.2).bind fun bt467 => (alumlaw19_ValueLogic.j2 kj48 (!(bt458.1 == bt467.1) || (!(bt458.2.1 == bt467.2.1) || (!(bt458.2.2.toList == bt467.2.2.toList)))) a0_0 a0_1 a0_2 a1_0 a1_1 a1_2 a2_0 a2_1 a2_2))))))))))))))))))) = some r := H
         have A81 := Aside0.mk A810
         clear A810
         replace H := Option.bind_eq_some_iff.mp H
         obtain ⟨⟨t425, t426, t427⟩, A820, H⟩ := H
         replace H : ((alumlaw19_and.f kj48 a0_0 a0_1 a0_2 a2_0 a2_1 a2_2).bind fun bt428 => ((alumlaw19_or.f kj48 t425 t426 t427 bt428.1 bt428.2.1 bt428.2.2).bind fun bt431 => (if (!(t422 == bt431.1) || (!(t423 == bt431.2.1) || (!(t424.toList == bt431.2.2.toList)))) = true then (none) else ((alumlaw19_and.f kj48 a1_0 a1_1 a1_2 a2_0 a2_1 a2_2).bind fun bt434 => ((alumlaw19_or.f kj48 a0_0 a0_1 a0_2 bt434.1 bt434.2.1 bt434.2.2).bind fun bt437 => ((alumlaw19_or.f kj48 a0_0 a0_1 a0_2 a1_0 a1_1 a1_2).bind fun bt440 => ((alumlaw19_or.f kj48 a0_0 a0_1 a0_2 a2_0 a2_1 a2_2).bind fun bt443 => ((alumlaw19_and.f kj48 bt440.1 bt440.2.1 bt440.2.2 bt443.1 bt443.2.1 bt443.2.2).bind fun bt446 => (if (!(bt437.1 == bt446.1) || (!(bt437.2.1 == bt446.2.1) || (!(bt437.2.2.toList == bt446.2.2.toList)))) = true then (none) else ((alumlaw19_not.f kj48 a0_0 a0_1 a0_2).bind fun bt449 => ((alumlaw19_not.f kj48 bt449.1 bt449.2.1 bt449.2.2).bind fun bt452 => (if (!(bt452.1 == a0_0) || (!(bt452.2.1 == a0_1) || (!(bt452.2.2.toList == a0_2.toList)))) = true then (none) else ((alumlaw19_and.f kj48 a0_0 a0_1 a0_2 a1_0 a1_1 a1_2).bind fun bt455 => ((alumlaw19_not.f kj48 bt455.1 bt455.2.1 bt455.2.2).bind fun bt458 => ((alumlaw19_not.f kj48 a0_0 a0_1 a0_2).bind fun bt461 => ((alumlaw19_not.f kj48 a1_0 a1_1 a1_2).bind fun bt464 => ((alumlaw19_or.f kj48 bt461.1 bt461.2.1 bt461.2.2 bt464.1 bt464.2.1 bt464.2.2).bind fun bt467 => (alumlaw19_ValueLogic.j2 kj48 (!(bt458.1 == bt467.1) || (!(bt458.2.1 == bt467.2.1) || (!(bt458.2.2.toList == bt467.2.2.toList)))) a0_0 a0_1 a0_2 a1_0 a1_1 a1_2 a2_0 a2_1 a2_2)))))))))))))))))) = some r := H
         have A82 := Aside0.mk A820
         clear A820
         replace H := Option.bind_eq_some_iff.mp H
         obtain ⟨⟨t428, t429, t430⟩, A830, H⟩ := H
         replace H : ((alumlaw19_or.f kj48 t425 t426 t427 t428 t429 t430).bind fun bt431 => (if (!(t422 == bt431.1) || (!(t423 == bt431.2.1) || (!(t424.toList == bt431.2.2.toList)))) = true then (none) else ((alumlaw19_and.f kj48 a1_0 a1_1 a1_2 a2_0 a2_1 a2_2).bind fun bt434 => ((alumlaw19_or.f kj48 a0_0 a0_1 a0_2 bt434.1 bt434.2.1 bt434.2.2).bind fun bt437 => ((alumlaw19_or.f kj48 a0_0 a0_1 a0_2 a1_0 a1_1 a1_2).bind fun bt440 => ((alumlaw19_or.f kj48 a0_0 a0_1 a0_2 a2_0 a2_1 a2_2).bind fun bt443 => ((alumlaw19_and.f kj48 bt440.1 bt440.2.1 bt440.2.2 bt443.1 bt443.2.1 bt443.2.2).bind fun bt446 => (if (!(bt437.1 == bt446.1) || (!(bt437.2.1 == bt446.2.1) || (!(bt437.2.2.toList == bt446.2.2.toList)))) = true then (none) else ((alumlaw19_not.f kj48 a0_0 a0_1 a0_2).bind fun bt449 => ((alumlaw19_not.f kj48 bt449.1 bt449.2.1 bt449.2.2).bind fun bt452 => (if (!(bt452.1 == a0_0) || (!(bt452.2.1 == a0_1) || (!(bt452.2.2.toList == a0_2.toList)))) = true then (none) else ((alumlaw19_and.f kj48 a0_0 a0_1 a0_2 a1_0 a1_1 a1_2).bind fun bt455 => ((alumlaw19_not.f kj48 bt455.1 bt455.2.1 bt455.2.2).bind fun bt458 => ((alumlaw19_not.f kj48 a0_0 a0_1 a0_2).bind fun bt461 => ((alumlaw19_not.f kj48 a1_0 a1_1 a1_2).bind fun bt464 => ((alumlaw19_or.f kj48 bt461.1 bt461.2.1 bt461.2.2 bt464.1 bt464.2.1 bt464.2.2).bind fun bt467 => (alumlaw19_ValueLogic.j2 kj48 (!(bt458.1 == bt467.1) || (!(bt458.2.1 == bt467.2.1) || (!(bt458.2.2.toList == bt467.2.2.toList)))) a0_0 a0_1 a0_2 a1_0 a1_1 a1_2 a2_0 a2_1 a2_2))))))))))))))))) = some r := H
         have A83 := Aside0.mk A830
         clear A830
         replace H := Option.bind_eq_some_iff.mp H
         obtain ⟨⟨t431, t432, t433⟩, A840, H⟩ := H
         replace H : (if (!(t422 == t431) || (!(t423 == t432) || (!(t424.toList == t433.toList)))) = true then (none) else ((alumlaw19_and.f kj48 a1_0 a1_1 a1_2 a2_0 a2_1 a2_2).bind fun bt434 => ((alumlaw19_or.f kj48 a0_0 a0_1 a0_2 bt434.1 bt434.2.1 bt434.2.2).bind fun bt437 => ((alumlaw19_or.f kj48 a0_0 a0_1 a0_2 a1_0 a1_1 a1_2).bind fun bt440 => ((alumlaw19_or.f kj48 a0_0 a0_1 a0_2 a2_0 a2_1 a2_2).bind fun bt443 => ((alumlaw19_and.f kj48 bt440.1 bt440.2.1 bt440.2.2 bt443.1 bt443.2.1 bt443.2.2).bind fun bt446 => (if (!(bt437.1 == bt446.1) || (!(bt437.2.1 == bt446.2.1) || (!(bt437.2.2.toList == bt446.2.2.toList)))) = true then (none) else ((alumlaw19_not.f kj48 a0_0 a0_1 a0_2).bind fun bt449 => ((alumlaw19_not.f kj48 bt449.1 bt449.2.1 bt449.2.2).bind fun bt452 => (if (!(bt452.1 == a0_0) || (!(bt452.2.1 == a0_1) || (!(bt452.2.2.toList == a0_2.toList)))) = true then (none) else ((alumlaw19_and.f kj48 a0_0 a0_1 a0_2 a1_0 a1_1 a1_2).bind fun bt455 => ((alumlaw19_not.f kj48 bt455.1 bt455.2.1 bt455.2.2).bind fun bt458 => ((alumlaw19_not.f kj48 a0_0 a0_1 a0_2).bind fun bt461 => ((alumlaw19_not.f kj48 a1_0 a1_1 a1_2).bind fun bt464 => ((alumlaw19_or.f kj48 bt461.1 bt461.2.1 bt461.2.2 bt464.1 bt464.2.1 bt464.2.2).bind fun bt467 => (alumlaw19_ValueLogic.j2 kj48 (!(bt458.1 == bt467.1) || (!(bt458.2.1 == bt467.2.1) || (!(bt458.2.2.toList == bt467.2.2.toList)))) a0_0 a0_1 a0_2 a1_0 a1_1 a1_2 a2_0 a2_1 a2_2)))))))))))))))) = some r := H
         have A84 := Aside0.mk A840
         clear A840
         by_cases c85 : (!(t422 == t431) || (!(t423 == t432) || (!(t424.toList == t433.toList)))) = true
         ·rw [if_pos c85] at H
          exact absurd H (by simp)
         ·rw [if_neg c85] at H
          have c85b0 : (!(t422 == t431) || (!(t423 == t432) || (!(t424.toList == t433.toList)))) = false := by simpa using c85
          clear c85
          (first | rw [c85b0] | (simp only [i64_w, i32_w]; rw [c85b0]) | skip)
          replace H := Option.bind_eq_some_iff.mp H
          obtain ⟨⟨t434, t435, t436⟩, A860, H⟩ := H
          replace H : ((alumlaw19_or.f kj48 a0_0 a0_1 a0_2 t434 t435 t436).bind fun bt437 => ((alumlaw19_or.f kj48 a0_0 a0_1 a0_2 a1_0 a1_1 a1_2).bind fun bt440 => ((alumlaw19_or.f kj48 a0_0 a0_1 a0_2 a2_0 a2_1 a2_2).bind fun bt443 => ((alumlaw19_and.f kj48 bt440.1 bt440.2.1 bt440.2.2 bt443.1 bt443.2.1 bt443.2.2).bind fun bt446 => (if (!(bt437.1 == bt446.1) || (!(bt437.2.1 == bt446.2.1) || (!(bt437.2.2.toList == bt446.2.2.toList)))) = true then (none) else ((alumlaw19_not.f kj48 a0_0 a0_1 a0_2).bind fun bt449 => ((alumlaw19_not.f kj48 bt449.1 bt449.2.1 bt449.2.2).bind fun bt452 => (if (!(bt452.1 == a0_0) || (!(bt452.2.1 == a0_1) || (!(bt452.2.2.toList == a0_2.toList)))) = true then (none) else ((alumlaw19_and.f kj48 a0_0 a0_1 a0_2 a1_0 a1_1 a1_2).bind fun bt455 => ((alumlaw19_not.f kj48 bt455.1 bt455.2.1 bt455.2.2).bind fun bt458 => ((alumlaw19_not.f kj48 a0_0 a0_1 a0_2).bind fun bt461 => ((alumlaw19_not.f kj48 a1_0 a1_1 a1_2).bind fun bt464 => ((alumlaw19_or.f kj48 bt461.1 bt461.2.1 bt461.2.2 bt464.1 bt464.2.1 bt464.2.2).bind fun bt467 => (alumlaw19_ValueLogic.j2 kj48 (!(bt458.1 == bt467.1) || (!(bt458.2.1 == bt467.2.1) || (!(bt458.2.2.toList == bt467.2.2.toList)))) a0_0 a0_1 a0_2 a1_0 a1_1 a1_2 a2_0 a2_1 a2_2)))))))))))))) = some r := H
          have A86 := Aside0.mk A860
          clear A860
          replace H := Option.bind_eq_some_iff.mp H
          obtain ⟨⟨t437, t438, t439⟩, A870, H⟩ := H
          replace H : ((alumlaw19_or.f kj48 a0_0 a0_1 a0_2 a1_0 a1_1 a1_2).bind fun bt440 => ((alumlaw19_or.f kj48 a0_0 a0_1 a0_2 a2_0 a2_1 a2_2).bind fun bt443 => ((alumlaw19_and.f kj48 bt440.1 bt440.2.1 bt440.2.2 bt443.1 bt443.2.1 bt443.2.2).bind fun bt446 => (if (!(t437 == bt446.1) || (!(t438 == bt446.2.1) || (!(t439.toList == bt446.2.2.toList)))) = true then (none) else ((alumlaw19_not.f kj48 a0_0 a0_1 a0_2).bind fun bt449 => ((alumlaw19_not.f kj48 bt449.1 bt449.2.1 bt449.2.2).bind fun bt452 => (if (!(bt452.1 == a0_0) || (!(bt452.2.1 == a0_1) || (!(bt452.2.2.toList == a0_2.toList)))) = true then (none) else ((alumlaw19_and.f kj48 a0_0 a0_1 a0_2 a1_0 a1_1 a1_2).bind fun bt455 => ((alumlaw19_not.f kj48 bt455.1 bt455.2.1 bt455.2.2).bind fun bt458 => ((alumlaw19_not.f kj48 a0_0 a0_1 a0_2).bind fun bt461 => ((alumlaw19_not.f kj48 a1_0 a1_1 a1_2).bind fun bt464 => ((alumlaw19_or.f kj48 bt461.1 bt461.2.1 bt461.2.2 bt464.1 bt464.2.1 bt464.2.2).bind fun bt467 => (alumlaw19_ValueLogic.j2 kj48 (!(bt458.1 == bt467.1) || (!(bt458.2.1 == bt467.2.1) || (!(bt458.2.2.toList == bt467.2.2.toList)))) a0_0 a0_1 a0_2 a1_0 a1_1 a1_2 a2_0 a2_1 a2_2))))))))))))) = some r := H
          have A87 := Aside0.mk A870
          clear A870
          replace H := Option.bind_eq_some_iff.mp H
          obtain ⟨⟨t440, t441, t442⟩, A880, H⟩ := H
          replace H : ((alumlaw19_or.f kj48 a0_0 a0_1 a0_2 a2_0 a2_1 a2_2).bind fun bt443 => ((alumlaw19_and.f kj48 t440 t441 t442 bt443.1 bt443.2.1 bt443.2.2).bind fun bt446 => (if (!(t437 == bt446.1) || (!(t438 == bt446.2.1) || (!(t439.toList == bt446.2.2.toList)))) = true then (none) else ((alumlaw19_not.f kj48 a0_0 a0_1 a0_2).bind fun bt449 => ((alumlaw19_not.f kj48 bt449.1 bt449.2.1 bt449.2.2).bind fun bt452 => (if (!(bt452.1 == a0_0) || (!(bt452.2.1 == a0_1) || (!(bt452.2.2.toList == a0_2.toList)))) = true then (none) else ((alumlaw19_and.f kj48 a0_0 a0_1 a0_2 a1_0 a1_1 a1_2).bind fun bt455 => ((alumlaw19_not.f kj48 bt455.1 bt455.2.1 bt455.2.2).bind fun bt458 => ((alumlaw19_not.f kj48 a0_0 a0_1 a0_2).bind fun bt461 => ((alumlaw19_not.f kj48 a1_0 a1_1 a1_2).bind fun bt464 => ((alumlaw19_or.f kj48 bt461.1 bt461.2.1 bt461.2.2 bt464.1 bt464.2.1 bt464.2.2).bind fun bt467 => (alumlaw19_ValueLogic.j2 kj48 (!(bt458.1 == bt467.1) || (!(bt458.2.1 == bt467.2.1) || (!(bt458.2.2.toList == bt467.2.2.toList)))) a0_0 a0_1 a0_2 a1_0 a1_1 a1_2 a2_0 a2_1 a2_2)))))))))))) = some r := H
          have A88 := Aside0.mk A880
          clear A880
          replace H := Option.bind_eq_some_iff.mp H
          obtain ⟨⟨t443, t444, t445⟩, A890, H⟩ := H
          replace H : ((alumlaw19_and.f kj48 t440 t441 t442 t443 t444 t445).bind fun bt446 => (if (!(t437 == bt446.1) || (!(t438 == bt446.2.1) || (!(t439.toList == bt446.2.2.toList)))) = true then (none) else ((alumlaw19_not.f kj48 a0_0 a0_1 a0_2).bind fun bt449 => ((alumlaw19_not.f kj48 bt449.1 bt449.2.1 bt449.2.2).bind fun bt452 => (if (!(bt452.1 == a0_0) || (!(bt452.2.1 == a0_1) || (!(bt452.2.2.toList == a0_2.toList)))) = true then (none) else ((alumlaw19_and.f kj48 a0_0 a0_1 a0_2 a1_0 a1_1 a1_2).bind fun bt455 => ((alumlaw19_not.f kj48 bt455.1 bt455.2.1 bt455.2.2).bind fun bt458 => ((alumlaw19_not.f kj48 a0_0 a0_1 a0_2).bind fun bt461 => ((alumlaw19_not.f kj48 a1_0 a1_1 a1_2).bind fun bt464 => ((alumlaw19_or.f kj48 bt461.1 bt461.2.1 bt461.2.2 bt464.1 bt464.2.1 bt464.2.2).bind fun bt467 => (alumlaw19_ValueLogic.j2 kj48 (!(bt458.1 == bt467.1) || (!(bt458.2.1 == bt467.2.1) || (!(bt458.2.2.toList == bt467.2.2.toList)))) a0_0 a0_1 a0_2 a1_0 a1_1 a1_2 a2_0 a2_1 a2_2))))))))))) = some r := H
          have A89 := Aside0.mk A890
          clear A890
          replace H := Option.bind_eq_some_iff.mp H
          obtain ⟨⟨t446, t447, t448⟩, A900, H⟩ := H
          replace H : (if (!(t437 == t446) || (!(t438 == t447) || (!(t439.toList == t448.toList)))) = true then (none) else ((alumlaw19_not.f kj48 a0_0 a0_1 a0_2).bind fun bt449 => ((alumlaw19_not.f kj48 bt449.1 bt449.2.1 bt449.2.2).bind fun bt452 => (if (!(bt452.1 == a0_0) || (!(bt452.2.1 == a0_1) || (!(bt452.2.2.toList == a0_2.toList)))) = true then (none) else ((alumlaw19_and.f kj48 a0_0 a0_1 a0_2 a1_0 a1_1 a1_2).bind fun bt455 => ((alumlaw19_not.f kj48 bt455.1 bt455.2.1 bt455.2.2).bind fun bt458 => ((alumlaw19_not.f kj48 a0_0 a0_1 a0_2).bind fun bt461 => ((alumlaw19_not.f kj48 a1_0 a1_1 a1_2).bind fun bt464 => ((alumlaw19_or.f kj48 bt461.1 bt461.2.1 bt461.2.2 bt464.1 bt464.2.1 bt464.2.2).bind fun bt467 => (alumlaw19_ValueLogic.j2 kj48 (!(bt458.1 == bt467.1) || (!(bt458.2.1 == bt467.2.1) || (!(bt458.2.2.toList == bt467.2.2.toList)))) a0_0 a0_1 a0_2 a1_0 a1_1 a1_2 a2_0 a2_1 a2_2)))))))))) = some r := H
          have A90 := Aside0.mk A900
          clear A900
          by_cases c91 : (!(t437 == t446) || (!(t438 == t447) || (!(t439.toList == t448.toList)))) = true
          ·rw [if_pos c91] at H
           exact absurd H (by simp)
          ·rw [if_neg c91] at H
           have c91b0 : (!(t437 == t446) || (!(t438 == t447) || (!(t439.toList == t448.toList)))) = false := by simpa using c91
           clear c91
           replace H := Option.bind_eq_some_iff.mp H
           obtain ⟨⟨t449, t450, t451⟩, A920, H⟩ := H
           replace H : ((alumlaw19_not.f kj48 t449 t450 t451).bind fun bt452 => (if (!(bt452.1 == a0_0) || (!(bt452.2.1 == a0_1) || (!(bt452.2.2.toList == a0_2.toList)))) = true then (none) else ((alumlaw19_and.f kj48 a0_0 a0_1 a0_2 a1_0 a1_1 a1_2).bind fun bt455 => ((alumlaw19_not.f kj48 bt455.1 bt455.2.1 bt455.2.2).bind fun bt458 => ((alumlaw19_not.f kj48 a0_0 a0_1 a0_2).bind fun bt461 => ((alumlaw19_not.f kj48 a1_0 a1_1 a1_2).bind fun bt464 => ((alumlaw19_or.f kj48 bt461.1 bt461.2.1 bt461.2.2 bt464.1 bt464.2.1 bt464.2.2).bind fun bt467 => (alumlaw19_ValueLogic.j2 kj48 (!(bt458.1 == bt467.1) || (!(bt458.2.1 == bt467.2.1) || (!(bt458.2.2.toList == bt467.2.2.toList)))) a0_0 a0_1 a0_2 a1_0 a1_1 a1_2 a2_0 a2_1 a2_2)))))))) = some r := H
           have A92 := Aside0.mk A920
           clear A920
           replace H := Option.bind_eq_some_iff.mp H
           obtain ⟨⟨t452, t453, t454⟩, A930, H⟩ := H
           replace H : (if (!(t452 == a0_0) || (!(t453 == a0_1) || (!(t454.toList == a0_2.toList)))) = true then (none) else ((alumlaw19_and.f kj48 a0_0 a0_1 a0_2 a1_0 a1_1 a1_2).bind fun bt455 => ((alumlaw19_not.f kj48 bt455.1 bt455.2.1 bt455.2.2).bind fun bt458 => ((alumlaw19_not.f kj48 a0_0 a0_1 a0_2).bind fun bt461 => ((alumlaw19_not.f kj48 a1_0 a1_1 a1_2).bind fun bt464 => ((alumlaw19_or.f kj48 bt461.1 bt461.2.1 bt461.2.2 bt464.1 bt464.2.1 bt464.2.2).bind fun bt467 => (alumlaw19_ValueLogic.j2 kj48 (!(bt458.1 == bt467.1) || (!(bt458.2.1 == bt467.2.1) || (!(bt458.2.2.toList == bt467.2.2.toList)))) a0_0 a0_1 a0_2 a1_0 a1_1 a1_2 a2_0 a2_1 a2_2))))))) = some r := H
           have A93 := Aside0.mk A930
           clear A930
           by_cases c94 : (!(t452 == a0_0) || (!(t453 == a0_1) || (!(t454.toList == a0_2.toList)))) = true
           ·rw [if_pos c94] at H
            exact absurd H (by simp)
           ·rw [if_neg c94] at H
            have c94b0 : (!(t452 == a0_0) || (!(t453 == a0_1) || (!(t454.toList == a0_2.toList)))) = false := by simpa using c94
            clear c94
            replace H := Option.bind_eq_some_iff.mp H
            obtain ⟨⟨t455, t456, t457⟩, A950, H⟩ := H
            replace H : ((alumlaw19_not.f kj48 t455 t456 t457).bind fun bt458 => ((alumlaw19_not.f kj48 a0_0 a0_1 a0_2).bind fun bt461 => ((alumlaw19_not.f kj48 a1_0 a1_1 a1_2).bind fun bt464 => ((alumlaw19_or.f kj48 bt461.1 bt461.2.1 bt461.2.2 bt464.1 bt464.2.1 bt464.2.2).bind fun bt467 => (alumlaw19_ValueLogic.j2 kj48 (!(bt458.1 == bt467.1) || (!(bt458.2.1 == bt467.2.1) || (!(bt458.2.2.toList == bt467.2.2.toList)))) a0_0 a0_1 a0_2 a1_0 a1_1 a1_2 a2_0 a2_1 a2_2))))) = some r := H
            have A95 := Aside0.mk A950
            clear A950
            replace H := Option.bind_eq_some_iff.mp H
            obtain ⟨⟨t458, t459, t460⟩, A960, H⟩ := H
            replace H : ((alumlaw19_not.f kj48 a0_0 a0_1 a0_2).bind fun bt461 => ((alumlaw19_not.f kj48 a1_0 a1_1 a1_2).bind fun bt464 => ((alumlaw19_or.f kj48 bt461.1 bt461.2.1 bt461.2.2 bt464.1 bt464.2.1 bt464.2.2).bind fun bt467 => (alumlaw19_ValueLogic.j2 kj48 (!(t458 == bt467.1) || (!(t459 == bt467.2.1) || (!(t460.toList == bt467.2.2.toList)))) a0_0 a0_1 a0_2 a1_0 a1_1 a1_2 a2_0 a2_1 a2_2)))) = some r := H
            have A96 := Aside0.mk A960
            clear A960
            replace H := Option.bind_eq_some_iff.mp H
            obtain ⟨⟨t461, t462, t463⟩, A970, H⟩ := H
            replace H : ((alumlaw19_not.f kj48 a1_0 a1_1 a1_2).bind fun bt464 => ((alumlaw19_or.f kj48 t461 t462 t463 bt464.1 bt464.2.1 bt464.2.2).bind fun bt467 => (alumlaw19_ValueLogic.j2 kj48 (!(t458 == bt467.1) || (!(t459 == bt467.2.1) || (!(t460.toList == bt467.2.2.toList)))) a0_0 a0_1 a0_2 a1_0 a1_1 a1_2 a2_0 a2_1 a2_2))) = some r := H
            have A97 := Aside0.mk A970
            clear A970
            replace H := Option.bind_eq_some_iff.mp H
            obtain ⟨⟨t464, t465, t466⟩, A980, H⟩ := H
            replace H : ((alumlaw19_or.f kj48 t461 t462 t463 t464 t465 t466).bind fun bt467 => (alumlaw19_ValueLogic.j2 kj48 (!(t458 == bt467.1) || (!(t459 == bt467.2.1) || (!(t460.toList == bt467.2.2.toList)))) a0_0 a0_1 a0_2 a1_0 a1_1 a1_2 a2_0 a2_1 a2_2)) = some r := H
            have A98 := Aside0.mk A980
            clear A980
            replace H := Option.bind_eq_some_iff.mp H
            obtain ⟨⟨t467, t468, t469⟩, A990, H⟩ := H
            replace H : (alumlaw19_ValueLogic.j2 kj48 (!(t458 == t467) || (!(t459 == t468) || (!(t460.toList == t469.toList)))) a0_0 a0_1 a0_2 a1_0 a1_1 a1_2 a2_0 a2_1 a2_2) = some r := H
            have A99 := Aside0.mk A990
            clear A990
            have H' := Aside0.mk H
            clear H
            try go_wp2
            replace BK373 := Aside0.mk (blk_drew BK373.out)
            replace BK374 := Aside0.mk (blk_drew BK374.out)
            replace BK375 := Aside0.mk (blk_drew BK375.out)
            replace HB := Aside0.mk (below_drew1 HB.out)
            refine start_ (n := 47) (S := fun w' => w'.cell? ⟨gb373, 0, none⟩ = some (.int .i64 a0_0) ∧ w'.cell? ⟨gb373, 1, none⟩ = some (.int .i64 a0_1) ∧ w'.cell? ⟨gb373, 2, none⟩ = some (.string a0_2) ∧ w'.cell? ⟨gb374, 0, none⟩ = some (.int .i64 a1_0) ∧ w'.cell? ⟨gb374, 1, none⟩ = some (.int .i64 a1_1) ∧ w'.cell? ⟨gb374, 2, none⟩ = some (.string a1_2) ∧ w'.cell? ⟨gb375, 0, none⟩ = some (.int .i64 a2_0) ∧ w'.cell? ⟨gb375, 1, none⟩ = some (.int .i64 a2_1) ∧ w'.cell? ⟨gb375, 2, none⟩ = some (.string a2_2)) (ds := []) #[false, false, false, false, false, false, false, false, false, false, false, false, false, false, false, false, false, false, false, false, false, false, false, false, false, false, false, false, false, false, false, false, false, false, false, false, false, false, false, false, false, false, false, false, false, false, false] (by kernel_rfl) rfl rfl ⟨bc BK373 0, bc BK373 1, bc BK373 2, bc BK374 0, bc BK374 1, bc BK374 2, bc BK375 0, bc BK375 1, bc BK375 2⟩ (fun hHeld => ?_); refine with_tabW alumlaw19_ValueLogic.tab11 alumlaw19_ValueLogic.bits11 (fun HT_ HW_ => ?_)
            generalize wc.drew = w100 at BK373 BK374 BK375 HB hHeld ⊢
            refine takeA 0 84 #[true, false, false, false, false, false, false, false, false, false, false, false, false, false, false, false, false, false, false, false, false, false, false, false, false, false, false, false, false, false, false, false, false, false, false, false, false, false, false, false, false, false, false, false, false, false, false] HT_ HW_ hHeld ?_
            refine takeA 1 85 #[true, true, false, false, false, false, false, false, false, false, false, false, false, false, false, false, false, false, false, false, false, false, false, false, false, false, false, false, false, false, false, false, false, false, false, false, false, false, false, false, false, false, false, false, false, false, false] HT_ HW_ hHeld ?_
            refine takeA 2 86 #[true, true, true, false, false, false, false, false, false, false, false, false, false, false, false, false, false, false, false, false, false, false, false, false, false, false, false, false, false, false, false, false, false, false, false, false, false, false, false, false, false, false, false, false, false, false, false] HT_ HW_ hHeld ?_
            refine takeA 5 89 #[true, true, true, false, false, true, false, false, false, false, false, false, false, false, false, false, false, false, false, false, false, false, false, false, false, false, false, false, false, false, false, false, false, false, false, false, false, false, false, false, false, false, false, false, false, false, false] HT_ HW_ hHeld ?_
            refine takeA 6 90 #[true, true, true, false, false, true, true, false, false, false, false, false, false, false, false, false, false, false, false, false, false, false, false, false, false, false, false, false, false, false, false, false, false, false, false, false, false, false, false, false, false, false, false, false, false, false, false] HT_ HW_ hHeld ?_
            refine takeA 8 92 #[true, true, true, false, false, true, true, false, true, false, false, false, false, false, false, false, false, false, false, false, false, false, false, false, false, false, false, false, false, false, false, false, false, false, false, false, false, false, false, false, false, false, false, false, false, false, false] HT_ HW_ hHeld ?_
            refine takeA 9 93 #[true, true, true, false, false, true, true, false, true, true, false, false, false, false, false, false, false, false, false, false, false, false, false, false, false, false, false, false, false, false, false, false, false, false, false, false, false, false, false, false, false, false, false, false, false, false, false] HT_ HW_ hHeld ?_
            refine one_ (i := 3) (N := some 87) #[true, true, true, true, false, true, true, false, true, true, false, false, false, false, false, false, false, false, false, false, false, false, false, false, false, false, false, false, false, false, false, false, false, false, false, false, false, false, false, false, false, false, false, false, false, false, false] rfl rfl (one_of HT_.out (by kernel_rfl)) (by decide) (fun K hK => ?_)
            refine goes_ Tryd.func17 (by kernel_rfl) rfl #[.agg #[.int .i64 a1_0, .int .i64 a1_1, .string a1_2], .agg #[.int .i64 a2_0, .int .i64 a2_1, .string a2_2]] (by rfl) rfl rfl (by (try simp only [List.map_toArray, List.map_cons, List.map_nil]); first | done | rfl | (simp only [List.length_drop, List.length_take]; rfl)) ?_
            with_reducible refine (alumlaw19_or.calls kj48 a1_0 a1_1 a1_2 a2_0 a2_1 a2_2 t419 t420 t421 _ A80.out).mono ?_
            rintro e w101 ⟨rfl, hb⟩
            refine ⟨_, rfl, ?_⟩
            replace BK373 := blkB BK373 hb
            replace BK374 := blkB BK374 hb
            replace BK375 := blkB BK375 hb
            replace HB := stepB HB hb
            (try clear hb)
            (try clear hb2)
            (try clear hk)
            (try clear hi)
            refine hK.out _ _ ⟨bc BK373 0, bc BK373 1, bc BK373 2, bc BK374 0, bc BK374 1, bc BK374 2, bc BK375 0, bc BK375 1, bc BK375 2⟩ (fun hHeld => ?_)
            clear hK K
            refine normA 87 ?_
            refine one_ (i := 4) (N := some 88) #[true, true, true, true, true, true, true, false, true, true, false, false, false, false, false, false, false, false, false, false, false, false, false, false, false, false, false, false, false, false, false, false, false, false, false, false, false, false, false, false, false, false, false, false, false, false, false] rfl rfl (one_of HT_.out (by kernel_rfl)) (by decide) (fun K hK => ?_)
            refine goes_ Tryd.func16 (by kernel_rfl) rfl #[.agg #[.int .i64 a0_0, .int .i64 a0_1, .string a0_2], .agg #[.int .i64 t419, .int .i64 t420, .string t421]] (by rfl) rfl rfl (by (try simp only [List.map_toArray, List.map_cons, List.map_nil]); first | done | rfl | (simp only [List.length_drop, List.length_take]; rfl)) ?_
            with_reducible refine (alumlaw19_and.calls kj48 a0_0 a0_1 a0_2 t419 t420 t421 t422 t423 t424 _ A81.out).mono ?_
            rintro e w102 ⟨rfl, hb⟩
            refine ⟨_, rfl, ?_⟩
            replace BK373 := blkB BK373 hb
            replace BK374 := blkB BK374 hb
            replace BK375 := blkB BK375 hb
            replace HB := stepB HB hb
            (try clear hb)
            (try clear hb2)
            (try clear hk)
            (try clear hi)
            refine hK.out _ _ ⟨bc BK373 0, bc BK373 1, bc BK373 2, bc BK374 0, bc BK374 1, bc BK374 2, bc BK375 0, bc BK375 1, bc BK375 2⟩ (fun hHeld => ?_)
            clear hK K
            refine normA 88 ?_
            refine one_ (i := 7) (N := some 91) #[true, true, true, true, true, true, true, true, true, true, false, false, false, false, false, false, false, false, false, false, false, false, false, false, false, false, false, false, false, false, false, false, false, false, false, false, false, false, false, false, false, false, false, false, false, false, false] rfl rfl (one_of HT_.out (by kernel_rfl)) (by decide) (fun K hK => ?_)
            refine goes_ Tryd.func16 (by kernel_rfl) rfl #[.agg #[.int .i64 a0_0, .int .i64 a0_1, .string a0_2], .agg #[.int .i64 a1_0, .int .i64 a1_1, .string a1_2]] (by rfl) rfl rfl (by (try simp only [List.map_toArray, List.map_cons, List.map_nil]); first | done | rfl | (simp only [List.length_drop, List.length_take]; rfl)) ?_
            with_reducible refine (alumlaw19_and.calls kj48 a0_0 a0_1 a0_2 a1_0 a1_1 a1_2 t425 t426 t427 _ A82.out).mono ?_
            rintro e w103 ⟨rfl, hb⟩
            refine ⟨_, rfl, ?_⟩
            replace BK373 := blkB BK373 hb
            replace BK374 := blkB BK374 hb
            replace BK375 := blkB BK375 hb
            replace HB := stepB HB hb
            (try clear hb)
            (try clear hb2)
            (try clear hk)
            (try clear hi)
            refine hK.out _ _ ⟨bc BK373 0, bc BK373 1, bc BK373 2, bc BK374 0, bc BK374 1, bc BK374 2, bc BK375 0, bc BK375 1, bc BK375 2⟩ (fun hHeld => ?_)
            clear hK K
            refine normA 91 ?_
            refine one_ (i := 10) (N := some 94) #[true, true, true, true, true, true, true, true, true, true, true, false, false, false, false, false, false, false, false, false, false, false, false, false, false, false, false, false, false, false, false, false, false, false, false, false, false, false, false, false, false, false, false, false, false, false, false] rfl rfl (one_of HT_.out (by kernel_rfl)) (by decide) (fun K hK => ?_)
            refine goes_ Tryd.func16 (by kernel_rfl) rfl #[.agg #[.int .i64 a0_0, .int .i64 a0_1, .string a0_2], .agg #[.int .i64 a2_0, .int .i64 a2_1, .string a2_2]] (by rfl) rfl rfl (by (try simp only [List.map_toArray, List.map_cons, List.map_nil]); first | done | rfl | (simp only [List.length_drop, List.length_take]; rfl)) ?_
            with_reducible refine (alumlaw19_and.calls kj48 a0_0 a0_1 a0_2 a2_0 a2_1 a2_2 t428 t429 t430 _ A83.out).mono ?_
            rintro e w104 ⟨rfl, hb⟩
            refine ⟨_, rfl, ?_⟩
            replace BK373 := blkB BK373 hb
            replace BK374 := blkB BK374 hb
            replace BK375 := blkB BK375 hb
            replace HB := stepB HB hb
            (try clear hb)
            (try clear hb2)
            (try clear hk)
            (try clear hi)
            refine hK.out _ _ ⟨bc BK373 0, bc BK373 1, bc BK373 2, bc BK374 0, bc BK374 1, bc BK374 2, bc BK375 0, bc BK375 1, bc BK375 2⟩ (fun hHeld => ?_)
            clear hK K
            refine normA 94 ?_
            refine one_ (i := 11) (N := some 95) #[true, true, true, true, true, true, true, true, true, true, true, true, false, false, false, false, false, false, false, false, false, false, false, false, false, false, false, false, false, false, false, false, false, false, false, false, false, false, false, false, false, false, false, false, false, false, false] rfl rfl (one_of HT_.out (by kernel_rfl)) (by decide) (fun K hK => ?_)
            refine goes_ Tryd.func17 (by kernel_rfl) rfl #[.agg #[.int .i64 t425, .int .i64 t426, .string t427], .agg #[.int .i64 t428, .int .i64 t429, .string t430]] (by rfl) rfl rfl (by (try simp only [List.map_toArray, List.map_cons, List.map_nil]); first | done | rfl | (simp only [List.length_drop, List.length_take]; rfl)) ?_
            with_reducible refine (alumlaw19_or.calls kj48 t425 t426 t427 t428 t429 t430 t431 t432 t433 _ A84.out).mono ?_
            rintro e w105 ⟨rfl, hb⟩
            refine ⟨_, rfl, ?_⟩
            replace BK373 := blkB BK373 hb
            replace BK374 := blkB BK374 hb
            replace BK375 := blkB BK375 hb
            replace HB := stepB HB hb
            (try clear hb)
            (try clear hb2)
            (try clear hk)
            (try clear hi)
            refine hK.out _ _ ⟨bc BK373 0, bc BK373 1, bc BK373 2, bc BK374 0, bc BK374 1, bc BK374 2, bc BK375 0, bc BK375 1, bc BK375 2⟩ (fun hHeld => ?_)
            clear hK K
            refine normA 95 ?_
            refine pureA 12 96 #[true, true, true, true, true, true, true, true, true, true, true, true, true, false, false, false, false, false, false, false, false, false, false, false, false, false, false, false, false, false, false, false, false, false, false, false, false, false, false, false, false, false, false, false, false, false, false] HT_ ?_
            refine pureA 13 97 #[true, true, true, true, true, true, true, true, true, true, true, true, true, true, false, false, false, false, false, false, false, false, false, false, false, false, false, false, false, false, false, false, false, false, false, false, false, false, false, false, false, false, false, false, false, false, false] HT_ ?_
            refine takeA 14 98 #[true, true, true, true, true, true, true, true, true, true, true, true, true, true, true, false, false, false, false, false, false, false, false, false, false, false, false, false, false, false, false, false, false, false, false, false, false, false, false, false, false, false, false, false, false, false, false] HT_ HW_ hHeld ?_
            refine takeA 15 99 #[true, true, true, true, true, true, true, true, true, true, true, true, true, true, true, true, false, false, false, false, false, false, false, false, false, false, false, false, false, false, false, false, false, false, false, false, false, false, false, false, false, false, false, false, false, false, false] HT_ HW_ hHeld ?_
            refine takeA 16 100 #[true, true, true, true, true, true, true, true, true, true, true, true, true, true, true, true, true, false, false, false, false, false, false, false, false, false, false, false, false, false, false, false, false, false, false, false, false, false, false, false, false, false, false, false, false, false, false] HT_ HW_ hHeld ?_
            refine takeA 19 103 #[true, true, true, true, true, true, true, true, true, true, true, true, true, true, true, true, true, false, false, true, false, false, false, false, false, false, false, false, false, false, false, false, false, false, false, false, false, false, false, false, false, false, false, false, false, false, false] HT_ HW_ hHeld ?_
            refine takeA 20 104 #[true, true, true, true, true, true, true, true, true, true, true, true, true, true, true, true, true, false, false, true, true, false, false, false, false, false, false, false, false, false, false, false, false, false, false, false, false, false, false, false, false, false, false, false, false, false, false] HT_ HW_ hHeld ?_
            refine takeA 22 106 #[true, true, true, true, true, true, true, true, true, true, true, true, true, true, true, true, true, false, false, true, true, false, true, false, false, false, false, false, false, false, false, false, false, false, false, false, false, false, false, false, false, false, false, false, false, false, false] HT_ HW_ hHeld ?_
            refine takeA 23 107 #[true, true, true, true, true, true, true, true, true, true, true, true, true, true, true, true, true, false, false, true, true, false, true, true, false, false, false, false, false, false, false, false, false, false, false, false, false, false, false, false, false, false, false, false, false, false, false] HT_ HW_ hHeld ?_
            refine one_ (i := 17) (N := some 101) #[true, true, true, true, true, true, true, true, true, true, true, true, true, true, true, true, true, true, false, true, true, false, true, true, false, false, false, false, false, false, false, false, false, false, false, false, false, false, false, false, false, false, false, false, false, false, false] rfl rfl (one_of HT_.out (by kernel_rfl)) (by decide) (fun K hK => ?_)
            refine goes_ Tryd.func16 (by kernel_rfl) rfl #[.agg #[.int .i64 a1_0, .int .i64 a1_1, .string a1_2], .agg #[.int .i64 a2_0, .int .i64 a2_1, .string a2_2]] (by rfl) rfl rfl (by (try simp only [List.map_toArray, List.map_cons, List.map_nil]); first | done | rfl | (simp only [List.length_drop, List.length_take]; rfl)) ?_
            with_reducible refine (alumlaw19_and.calls kj48 a1_0 a1_1 a1_2 a2_0 a2_1 a2_2 t434 t435 t436 _ A86.out).mono ?_
            rintro e w106 ⟨rfl, hb⟩
            refine ⟨_, rfl, ?_⟩
            replace BK373 := blkB BK373 hb
            replace BK374 := blkB BK374 hb
            replace BK375 := blkB BK375 hb
            replace HB := stepB HB hb
            (try clear hb)
            (try clear hb2)
            (try clear hk)
            (try clear hi)
            refine hK.out _ _ ⟨bc BK373 0, bc BK373 1, bc BK373 2, bc BK374 0, bc BK374 1, bc BK374 2, bc BK375 0, bc BK375 1, bc BK375 2⟩ (fun hHeld => ?_)
            clear hK K
            refine normA 101 ?_
            refine one_ (i := 18) (N := some 102) #[true, true, true, true, true, true, true, true, true, true, true, true, true, true, true, true, true, true, true, true, true, false, true, true, false, false, false, false, false, false, false, false, false, false, false, false, false, false, false, false, false, false, false, false, false, false, false] rfl rfl (one_of HT_.out (by kernel_rfl)) (by decide) (fun K hK => ?_)
            refine goes_ Tryd.func17 (by kernel_rfl) rfl #[.agg #[.int .i64 a0_0, .int .i64 a0_1, .string a0_2], .agg #[.int .i64 t434, .int .i64 t435, .string t436]] (by rfl) rfl rfl (by (try simp only [List.map_toArray, List.map_cons, List.map_nil]); first | done | rfl | (simp only [List.length_drop, List.length_take]; rfl)) ?_
            with_reducible refine (alumlaw19_or.calls kj48 a0_0 a0_1 a0_2 t434 t435 t436 t437 t438 t439 _ A87.out).mono ?_
            rintro e w107 ⟨rfl, hb⟩
            refine ⟨_, rfl, ?_⟩
            replace BK373 := blkB BK373 hb
            replace BK374 := blkB BK374 hb
            replace BK375 := blkB BK375 hb
            replace HB := stepB HB hb
            (try clear hb)
            (try clear hb2)
            (try clear hk)
            (try clear hi)
            refine hK.out _ _ ⟨bc BK373 0, bc BK373 1, bc BK373 2, bc BK374 0, bc BK374 1, bc BK374 2, bc BK375 0, bc BK375 1, bc BK375 2⟩ (fun hHeld => ?_)
            clear hK K
            refine normA 102 ?_
            refine one_ (i := 21) (N := some 105) #[true, true, true, true, true, true, true, true, true, true, true, true, true, true, true, true, true, true, true, true, true, true, true, true, false, false, false, false, false, false, false, false, false, false, false, false, false, false, false, false, false, false, false, false, false, false, false] rfl rfl (one_of HT_.out (by kernel_rfl)) (by decide) (fun K hK => ?_)
            refine goes_ Tryd.func17 (by kernel_rfl) rfl #[.agg #[.int .i64 a0_0, .int .i64 a0_1, .string a0_2], .agg #[.int .i64 a1_0, .int .i64 a1_1, .string a1_2]] (by rfl) rfl rfl (by (try simp only [List.map_toArray, List.map_cons, List.map_nil]); first | done | rfl | (simp only [List.length_drop, List.length_take]; rfl)) ?_
            with_reducible refine (alumlaw19_or.calls kj48 a0_0 a0_1 a0_2 a1_0 a1_1 a1_2 t440 t441 t442 _ A88.out).mono ?_
            rintro e w108 ⟨rfl, hb⟩
            refine ⟨_, rfl, ?_⟩
            replace BK373 := blkB BK373 hb
            replace BK374 := blkB BK374 hb
            replace BK375 := blkB BK375 hb
            replace HB := stepB HB hb
            (try clear hb)
            (try clear hb2)
            (try clear hk)
            (try clear hi)
            refine hK.out _ _ ⟨bc BK373 0, bc BK373 1, bc BK373 2, bc BK374 0, bc BK374 1, bc BK374 2, bc BK375 0, bc BK375 1, bc BK375 2⟩ (fun hHeld => ?_)
            clear hK K
            refine normA 105 ?_
            refine one_ (i := 24) (N := some 108) #[true, true, true, true, true, true, true, true, true, true, true, true, true, true, true, true, true, true, true, true, true, true, true, true, true, false, false, false, false, false, false, false, false, false, false, false, false, false, false, false, false, false, false, false, false, false, false] rfl rfl (one_of HT_.out (by kernel_rfl)) (by decide) (fun K hK => ?_)
            refine goes_ Tryd.func17 (by kernel_rfl) rfl #[.agg #[.int .i64 a0_0, .int .i64 a0_1, .string a0_2], .agg #[.int .i64 a2_0, .int .i64 a2_1, .string a2_2]] (by rfl) rfl rfl (by (try simp only [List.map_toArray, List.map_cons, List.map_nil]); first | done | rfl | (simp only [List.length_drop, List.length_take]; rfl)) ?_
            with_reducible refine (alumlaw19_or.calls kj48 a0_0 a0_1 a0_2 a2_0 a2_1 a2_2 t443 t444 t445 _ A89.out).mono ?_
            rintro e w109 ⟨rfl, hb⟩
            refine ⟨_, rfl, ?_⟩
            replace BK373 := blkB BK373 hb
            replace BK374 := blkB BK374 hb
            replace BK375 := blkB BK375 hb
            replace HB := stepB HB hb
            (try clear hb)
            (try clear hb2)
            (try clear hk)
            (try clear hi)
            refine hK.out _ _ ⟨bc BK373 0, bc BK373 1, bc BK373 2, bc BK374 0, bc BK374 1, bc BK374 2, bc BK375 0, bc BK375 1, bc BK375 2⟩ (fun hHeld => ?_)
            clear hK K
            refine normA 108 ?_
            refine one_ (i := 25) (N := some 109) #[true, true, true, true, true, true, true, true, true, true, true, true, true, true, true, true, true, true, true, true, true, true, true, true, true, true, false, false, false, false, false, false, false, false, false, false, false, false, false, false, false, false, false, false, false, false, false] rfl rfl (one_of HT_.out (by kernel_rfl)) (by decide) (fun K hK => ?_)
            refine goes_ Tryd.func16 (by kernel_rfl) rfl #[.agg #[.int .i64 t440, .int .i64 t441, .string t442], .agg #[.int .i64 t443, .int .i64 t444, .string t445]] (by rfl) rfl rfl (by (try simp only [List.map_toArray, List.map_cons, List.map_nil]); first | done | rfl | (simp only [List.length_drop, List.length_take]; rfl)) ?_
            with_reducible refine (alumlaw19_and.calls kj48 t440 t441 t442 t443 t444 t445 t446 t447 t448 _ A90.out).mono ?_
            rintro e w110 ⟨rfl, hb⟩
            refine ⟨_, rfl, ?_⟩
            replace BK373 := blkB BK373 hb
            replace BK374 := blkB BK374 hb
            replace BK375 := blkB BK375 hb
            replace HB := stepB HB hb
            (try clear hb)
            (try clear hb2)
            (try clear hk)
            (try clear hi)
            refine hK.out _ _ ⟨bc BK373 0, bc BK373 1, bc BK373 2, bc BK374 0, bc BK374 1, bc BK374 2, bc BK375 0, bc BK375 1, bc BK375 2⟩ (fun hHeld => ?_)
            clear hK K
            refine normA 109 ?_
            refine pureA 26 110 #[true, true, true, true, true, true, true, true, true, true, true, true, true, true, true, true, true, true, true, true, true, true, true, true, true, true, true, false, false, false, false, false, false, false, false, false, false, false, false, false, false, false, false, false, false, false, false] HT_ ?_
            refine pureA 27 111 #[true, true, true, true, true, true, true, true, true, true, true, true, true, true, true, true, true, true, true, true, true, true, true, true, true, true, true, true, false, false, false, false, false, false, false, false, false, false, false, false, false, false, false, false, false, false, false] HT_ ?_
            refine pureA 28 112 #[true, true, true, true, true, true, true, true, true, true, true, true, true, true, true, true, true, true, true, true, true, true, true, true, true, true, true, true, true, false, false, false, false, false, false, false, false, false, false, false, false, false, false, false, false, false, false] HT_ ?_
            refine takeA 29 113 #[true, true, true, true, true, true, true, true, true, true, true, true, true, true, true, true, true, true, true, true, true, true, true, true, true, true, true, true, true, true, false, false, false, false, false, false, false, false, false, false, false, false, false, false, false, false, false] HT_ HW_ hHeld ?_
            refine takeA 32 116 #[true, true, true, true, true, true, true, true, true, true, true, true, true, true, true, true, true, true, true, true, true, true, true, true, true, true, true, true, true, true, false, false, true, false, false, false, false, false, false, false, false, false, false, false, false, false, false] HT_ HW_ hHeld ?_
            refine one_ (i := 30) (N := some 114) #[true, true, true, true, true, true, true, true, true, true, true, true, true, true, true, true, true, true, true, true, true, true, true, true, true, true, true, true, true, true, true, false, true, false, false, false, false, false, false, false, false, false, false, false, false, false, false] rfl rfl (one_of HT_.out (by kernel_rfl)) (by decide) (fun K hK => ?_)
            refine goes_ Tryd.func18 (by kernel_rfl) rfl #[.agg #[.int .i64 a0_0, .int .i64 a0_1, .string a0_2]] (by rfl) rfl rfl (by (try simp only [List.map_toArray, List.map_cons, List.map_nil]); first | done | rfl | (simp only [List.length_drop, List.length_take]; rfl)) ?_
            with_reducible refine (alumlaw19_not.calls kj48 a0_0 a0_1 a0_2 t449 t450 t451 _ A92.out).mono ?_
            rintro e w111 ⟨rfl, hb⟩
            refine ⟨_, rfl, ?_⟩
            replace BK373 := blkB BK373 hb
            replace BK374 := blkB BK374 hb
            replace BK375 := blkB BK375 hb
            replace HB := stepB HB hb
            (try clear hb)
            (try clear hb2)
            (try clear hk)
            (try clear hi)
            refine hK.out _ _ ⟨bc BK373 0, bc BK373 1, bc BK373 2, bc BK374 0, bc BK374 1, bc BK374 2, bc BK375 0, bc BK375 1, bc BK375 2⟩ (fun hHeld => ?_)
            clear hK K
            refine normA 114 ?_
            refine one_ (i := 31) (N := some 115) #[true, true, true, true, true, true, true, true, true, true, true, true, true, true, true, true, true, true, true, true, true, true, true, true, true, true, true, true, true, true, true, true, true, false, false, false, false, false, false, false, false, false, false, false, false, false, false] rfl rfl (one_of HT_.out (by kernel_rfl)) (by decide) (fun K hK => ?_)
            refine goes_ Tryd.func18 (by kernel_rfl) rfl #[.agg #[.int .i64 t449, .int .i64 t450, .string t451]] (by rfl) rfl rfl (by (try simp only [List.map_toArray, List.map_cons, List.map_nil]); first | done | rfl | (simp only [List.length_drop, List.length_take]; rfl)) ?_
            with_reducible refine (alumlaw19_not.calls kj48 t449 t450 t451 t452 t453 t454 _ A93.out).mono ?_
            rintro e w112 ⟨rfl, hb⟩
            refine ⟨_, rfl, ?_⟩
            replace BK373 := blkB BK373 hb
            replace BK374 := blkB BK374 hb
            replace BK375 := blkB BK375 hb
            replace HB := stepB HB hb
            (try clear hb)
            (try clear hb2)
            (try clear hk)
            (try clear hi)
            refine hK.out _ _ ⟨bc BK373 0, bc BK373 1, bc BK373 2, bc BK374 0, bc BK374 1, bc BK374 2, bc BK375 0, bc BK375 1, bc BK375 2⟩ (fun hHeld => ?_)
            clear hK K
            refine normA 115 ?_
            refine pureA 33 117 #[true, true, true, true, true, true, true, true, true, true, true, true, true, true, true, true, true, true, true, true, true, true, true, true, true, true, true, true, true, true, true, true, true, true, false, false, false, false, false, false, false, false, false, false, false, false, false] HT_ ?_
            refine pureA 34 118 #[true, true, true, true, true, true, true, true, true, true, true, true, true, true, true, true, true, true, true, true, true, true, true, true, true, true, true, true, true, true, true, true, true, true, true, false, false, false, false, false, false, false, false, false, false, false, false] HT_ ?_
            refine pureA 35 119 #[true, true, true, true, true, true, true, true, true, true, true, true, true, true, true, true, true, true, true, true, true, true, true, true, true, true, true, true, true, true, true, true, true, true, true, true, false, false, false, false, false, false, false, false, false, false, false] HT_ ?_
            refine takeA 36 120 #[true, true, true, true, true, true, true, true, true, true, true, true, true, true, true, true, true, true, true, true, true, true, true, true, true, true, true, true, true, true, true, true, true, true, true, true, true, false, false, false, false, false, false, false, false, false, false] HT_ HW_ hHeld ?_
            refine takeA 37 121 #[true, true, true, true, true, true, true, true, true, true, true, true, true, true, true, true, true, true, true, true, true, true, true, true, true, true, true, true, true, true, true, true, true, true, true, true, true, true, false, false, false, false, false, false, false, false, false] HT_ HW_ hHeld ?_
            refine takeA 40 124 #[true, true, true, true, true, true, true, true, true, true, true, true, true, true, true, true, true, true, true, true, true, true, true, true, true, true, true, true, true, true, true, true, true, true, true, true, true, true, false, false, true, false, false, false, false, false, false] HT_ HW_ hHeld ?_
            refine takeA 42 126 #[true, true, true, true, true, true, true, true, true, true, true, true, true, true, true, true, true, true, true, true, true, true, true, true, true, true, true, true, true, true, true, true, true, true, true, true, true, true, false, false, true, false, true, false, false, false, false] HT_ HW_ hHeld ?_
            refine one_ (i := 38) (N := some 122) #[true, true, true, true, true, true, true, true, true, true, true, true, true, true, true, true, true, true, true, true, true, true, true, true, true, true, true, true, true, true, true, true, true, true, true, true, true, true, true, false, true, false, true, false, false, false, false] rfl rfl (one_of HT_.out (by kernel_rfl)) (by decide) (fun K hK => ?_)
            refine goes_ Tryd.func16 (by kernel_rfl) rfl #[.agg #[.int .i64 a0_0, .int .i64 a0_1, .string a0_2], .agg #[.int .i64 a1_0, .int .i64 a1_1, .string a1_2]] (by rfl) rfl rfl (by (try simp only [List.map_toArray, List.map_cons, List.map_nil]); first | done | rfl | (simp only [List.length_drop, List.length_take]; rfl)) ?_
            with_reducible refine (alumlaw19_and.calls kj48 a0_0 a0_1 a0_2 a1_0 a1_1 a1_2 t455 t456 t457 _ A95.out).mono ?_
            rintro e w113 ⟨rfl, hb⟩
            refine ⟨_, rfl, ?_⟩
            replace BK373 := blkB BK373 hb
            replace BK374 := blkB BK374 hb
            replace BK375 := blkB BK375 hb
            replace HB := stepB HB hb
            (try clear hb)
            (try clear hb2)
            (try clear hk)
            (try clear hi)
            refine hK.out _ _ ⟨bc BK373 0, bc BK373 1, bc BK373 2, bc BK374 0, bc BK374 1, bc BK374 2, bc BK375 0, bc BK375 1, bc BK375 2⟩ (fun hHeld => ?_)
            clear hK K
            refine normA 122 ?_
            refine one_ (i := 39) (N := some 123) #[true, true, true, true, true, true, true, true, true, true, true, true, true, true, true, true, true, true, true, true, true, true, true, true, true, true, true, true, true, true, true, true, true, true, true, true, true, true, true, true, true, false, true, false, false, false, false] rfl rfl (one_of HT_.out (by kernel_rfl)) (by decide) (fun K hK => ?_)
            refine goes_ Tryd.func18 (by kernel_rfl) rfl #[.agg #[.int .i64 t455, .int .i64 t456, .string t457]] (by rfl) rfl rfl (by (try simp only [List.map_toArray, List.map_cons, List.map_nil]); first | done | rfl | (simp only [List.length_drop, List.length_take]; rfl)) ?_
            with_reducible refine (alumlaw19_not.calls kj48 t455 t456 t457 t458 t459 t460 _ A96.out).mono ?_
            rintro e w114 ⟨rfl, hb⟩
            refine ⟨_, rfl, ?_⟩
            replace BK373 := blkB BK373 hb
            replace BK374 := blkB BK374 hb
            replace BK375 := blkB BK375 hb
            replace HB := stepB HB hb
            (try clear hb)
            (try clear hb2)
            (try clear hk)
            (try clear hi)
            refine hK.out _ _ ⟨bc BK373 0, bc BK373 1, bc BK373 2, bc BK374 0, bc BK374 1, bc BK374 2, bc BK375 0, bc BK375 1, bc BK375 2⟩ (fun hHeld => ?_)
            clear hK K
            refine normA 123 ?_
            refine one_ (i := 41) (N := some 125) #[true, true, true, true, true, true, true, true, true, true, true, true, true, true, true, true, true, true, true, true, true, true, true, true, true, true, true, true, true, true, true, true, true, true, true, true, true, true, true, true, true, true, true, false, false, false, false] rfl rfl (one_of HT_.out (by kernel_rfl)) (by decide) (fun K hK => ?_)
            refine goes_ Tryd.func18 (by kernel_rfl) rfl #[.agg #[.int .i64 a0_0, .int .i64 a0_1, .string a0_2]] (by rfl) rfl rfl (by (try simp only [List.map_toArray, List.map_cons, List.map_nil]); first | done | rfl | (simp only [List.length_drop, List.length_take]; rfl)) ?_
            with_reducible refine (alumlaw19_not.calls kj48 a0_0 a0_1 a0_2 t461 t462 t463 _ A97.out).mono ?_
            rintro e w115 ⟨rfl, hb⟩
            refine ⟨_, rfl, ?_⟩
            replace BK373 := blkB BK373 hb
            replace BK374 := blkB BK374 hb
            replace BK375 := blkB BK375 hb
            replace HB := stepB HB hb
            (try clear hb)
            (try clear hb2)
            (try clear hk)
            (try clear hi)
            refine hK.out _ _ ⟨bc BK373 0, bc BK373 1, bc BK373 2, bc BK374 0, bc BK374 1, bc BK374 2, bc BK375 0, bc BK375 1, bc BK375 2⟩ (fun hHeld => ?_)
            clear hK K
            refine normA 125 ?_
            refine one_ (i := 43) (N := some 127) #[true, true, true, true, true, true, true, true, true, true, true, true, true, true, true, true, true, true, true, true, true, true, true, true, true, true, true, true, true, true, true, true, true, true, true, true, true, true, true, true, true, true, true, true, false, false, false] rfl rfl (one_of HT_.out (by kernel_rfl)) (by decide) (fun K hK => ?_)
            refine goes_ Tryd.func18 (by kernel_rfl) rfl #[.agg #[.int .i64 a1_0, .int .i64 a1_1, .string a1_2]] (by rfl) rfl rfl (by (try simp only [List.map_toArray, List.map_cons, List.map_nil]); first | done | rfl | (simp only [List.length_drop, List.length_take]; rfl)) ?_
            with_reducible refine (alumlaw19_not.calls kj48 a1_0 a1_1 a1_2 t464 t465 t466 _ A98.out).mono ?_
            rintro e w116 ⟨rfl, hb⟩
            refine ⟨_, rfl, ?_⟩
            replace BK373 := blkB BK373 hb
            replace BK374 := blkB BK374 hb
            replace BK375 := blkB BK375 hb
            replace HB := stepB HB hb
            (try clear hb)
            (try clear hb2)
            (try clear hk)
            (try clear hi)
            refine hK.out _ _ ⟨bc BK373 0, bc BK373 1, bc BK373 2, bc BK374 0, bc BK374 1, bc BK374 2, bc BK375 0, bc BK375 1, bc BK375 2⟩ (fun hHeld => ?_)
            clear hK K
            refine normA 127 ?_
            refine one_ (i := 44) (N := some 128) #[true, true, true, true, true, true, true, true, true, true, true, true, true, true, true, true, true, true, true, true, true, true, true, true, true, true, true, true, true, true, true, true, true, true, true, true, true, true, true, true, true, true, true, true, true, false, false] rfl rfl (one_of HT_.out (by kernel_rfl)) (by decide) (fun K hK => ?_)
            refine goes_ Tryd.func17 (by kernel_rfl) rfl #[.agg #[.int .i64 t461, .int .i64 t462, .string t463], .agg #[.int .i64 t464, .int .i64 t465, .string t466]] (by rfl) rfl rfl (by (try simp only [List.map_toArray, List.map_cons, List.map_nil]); first | done | rfl | (simp only [List.length_drop, List.length_take]; rfl)) ?_
            with_reducible refine (alumlaw19_or.calls kj48 t461 t462 t463 t464 t465 t466 t467 t468 t469 _ A99.out).mono ?_
            rintro e w117 ⟨rfl, hb⟩
            refine ⟨_, rfl, ?_⟩
            replace BK373 := blkB BK373 hb
            replace BK374 := blkB BK374 hb
            replace BK375 := blkB BK375 hb
            replace HB := stepB HB hb
            (try clear hb)
            (try clear hb2)
            (try clear hk)
            (try clear hi)
            refine hK.out _ _ ⟨bc BK373 0, bc BK373 1, bc BK373 2, bc BK374 0, bc BK374 1, bc BK374 2, bc BK375 0, bc BK375 1, bc BK375 2⟩ (fun hHeld => ?_)
            clear hK K
            refine normA 128 ?_
            refine pureA 45 129 #[true, true, true, true, true, true, true, true, true, true, true, true, true, true, true, true, true, true, true, true, true, true, true, true, true, true, true, true, true, true, true, true, true, true, true, true, true, true, true, true, true, true, true, true, true, true, false] HT_ ?_
            refine pureA 46 130 #[true, true, true, true, true, true, true, true, true, true, true, true, true, true, true, true, true, true, true, true, true, true, true, true, true, true, true, true, true, true, true, true, true, true, true, true, true, true, true, true, true, true, true, true, true, true, true] HT_ ?_
            refine done_ (done_of HT_.out (by kernel_rfl)) ?_
            try go_wp2
            go_meet
            case rel => exact ⟨_, ((!(t458 == t467) || (!(t459 == t468) || (!(t460.toList == t469.toList))))), (by first | rfl | (simp; done) | (simp [*]; done)), H', ⟨by have := HK1.out; have := HJ48.out; first | omega | exact Nat.le_refl _⟩, ⟨by (with_reducible repeat (first | refine blk_drewN ?_ _ | refine blk_drew ?_ | refine blk_alloc ?_ _)); exact BK373.out⟩, ⟨by (with_reducible repeat (first | refine blk_drewN ?_ _ | refine blk_drew ?_ | refine blk_alloc ?_ _)); exact BK374.out⟩, ⟨by (with_reducible repeat (first | refine blk_drewN ?_ _ | refine blk_drew ?_ | refine blk_alloc ?_ _)); exact BK375.out⟩, ⟨by repeat (first | (with_reducible first | exact HB.out | apply below_alloc | apply pw_below_drewN | apply below_drew1 | refine below_set ?_ GE373.out | refine below_set ?_ GE374.out | refine below_set ?_ GE375.out) | exact HB.out)⟩⟩
        case rest =>
         clear HC79
         try clear c1
         try clear p2
         try clear c16
         try clear c17
         try clear c18
         obtain ⟨kq, x130_78, rfl, HA, HJ78, BK373, BK374, BK375, HB⟩ := hcut
         cases kq with
         | zero => exact absurd HA.out (by simp [alumlaw19_ValueLogic.j2])
         | succ kj78 =>
          have H := HA.out
          clear HA
          simp only [alumlaw19_ValueLogic.j2] at H
          by_cases c118 : x130_78 = true
          ·subst c118
           have H1 : (none) = some r := by rw [if_pos rfl] at H; exact H
           clear H
           have H := H1
           clear H1
           exact absurd H (by simp)
          ·replace c118 := Bool.eq_false_iff.mpr c118
           subst c118
           have H1 : (if a0_0 = 0 then (alumlaw19_ValueLogic.j3 kj78 a0_0 a0_1 a0_2 a1_0 a1_1 a1_2 a2_0 a2_1 a2_2 a2_0 a2_1 a2_2 a1_0 a1_1 a1_2) else (alumlaw19_ValueLogic.j3 kj78 a0_0 a0_1 a0_2 a1_0 a1_1 a1_2 a2_0 a2_1 a2_2 a0_0 a0_1 a0_2 a1_0 a1_1 a1_2)) = some r := by rw [if_neg (show ¬ (false = true) by decide)] at H; exact H
           clear H
           have H := H1
           clear H1
           have HC119 := Aside0.mk H
           clear H
           try go_wp2
           replace BK373 := Aside0.mk (blk_drew BK373.out)
           replace BK374 := Aside0.mk (blk_drew BK374.out)
           replace BK375 := Aside0.mk (blk_drew BK375.out)
           replace HB := Aside0.mk (below_drew1 HB.out)
           refine start_ (n := 6) (S := fun w' => w'.cell? ⟨gb373, 0, none⟩ = some (.int .i64 a0_0) ∧ w'.cell? ⟨gb373, 1, none⟩ = some (.int .i64 a0_1) ∧ w'.cell? ⟨gb373, 2, none⟩ = some (.string a0_2) ∧ w'.cell? ⟨gb374, 0, none⟩ = some (.int .i64 a1_0) ∧ w'.cell? ⟨gb374, 1, none⟩ = some (.int .i64 a1_1) ∧ w'.cell? ⟨gb374, 2, none⟩ = some (.string a1_2)) (ds := []) #[false, false, false, false, false, false] (by kernel_rfl) rfl rfl ⟨bc BK373 0, bc BK373 1, bc BK373 2, bc BK374 0, bc BK374 1, bc BK374 2⟩ (fun hHeld => ?_)
           generalize wc.drew = w120 at BK373 BK374 BK375 HB hHeld ⊢
           refine take_ (i := 0) (N := some 131) (v := ?_) (a' := ?_) #[true, false, false, false, false, false] rfl rfl (by kernel_rfl) (fun _ _ _ h => h) (Or.inl ⟨by rfl, ?_⟩) hHeld ?_ ?_
           rotate_left
           ·rintro w' ⟨s0, s1, s2, s3, s4, s5⟩
            go_simp
            with_reducible rfl
           rotate_left
           ·simp only [Act.put, List.setIfInBounds_toArray, List.set_cons_zero, List.set_cons_succ, i64_w, i32_w]
            rfl
           refine take_ (i := 1) (N := some 132) (v := ?_) (a' := ?_) #[true, true, false, false, false, false] rfl rfl (by kernel_rfl) (fun _ _ _ h => h) (Or.inl ⟨by rfl, ?_⟩) hHeld ?_ ?_
           rotate_left
           ·rintro w' ⟨s0, s1, s2, s3, s4, s5⟩
            go_simp
            with_reducible rfl
           rotate_left
           ·simp only [Act.put, List.setIfInBounds_toArray, List.set_cons_zero, List.set_cons_succ, i64_w, i32_w]
            rfl
           refine join_ (σ := Nat × Nat) 2 #[true, true, true, true, false, false] (fun s_ => [(10, .pointer (some ⟨s_.1, 0, none⟩)), (11, .pointer (some ⟨s_.2, 0, none⟩))]) (fun s_ w' => (w'.cell? ⟨gb373, 0, none⟩ = some (.int .i64 a0_0) ∧ w'.cell? ⟨gb373, 1, none⟩ = some (.int .i64 a0_1) ∧ w'.cell? ⟨gb373, 2, none⟩ = some (.string a0_2) ∧ w'.cell? ⟨gb374, 0, none⟩ = some (.int .i64 a1_0) ∧ w'.cell? ⟨gb374, 1, none⟩ = some (.int .i64 a1_1) ∧ w'.cell? ⟨gb374, 2, none⟩ = some (.string a1_2)) ∧ (w'.heap[gb373]? = some (.cells #[.int .i64 a0_0, .int .i64 a0_1, .string a0_2] 23 (0, 0))) ∧ (w'.heap[gb374]? = some (.cells #[.int .i64 a1_0, .int .i64 a1_1, .string a1_2] 23 (0, 0))) ∧ (w'.heap[gb375]? = some (.cells #[.int .i64 a2_0, .int .i64 a2_1, .string a2_2] 23 (0, 0))) ∧ (w'.heap[s_.1]? = some (.cells #[.int .i64 0, .int .i64 0, .string (⟨#[]⟩ : ByteArray)] 23 (0, 0))) ∧ (w'.heap[s_.2]? = some (.cells #[.int .i64 0, .int .i64 0, .string (⟨#[]⟩ : ByteArray)] 23 (0, 0))) ∧ (w.heap.size ≤ s_.1) ∧ (w.heap.size ≤ s_.1) ∧ (gb373 ≠ s_.1) ∧ (s_.1 ≠ gb373) ∧ (gb374 ≠ s_.1) ∧ (s_.1 ≠ gb374) ∧ (gb375 ≠ s_.1) ∧ (s_.1 ≠ gb375) ∧ (s_.2 ≠ s_.1) ∧ (s_.1 ≠ s_.2) ∧ (w.heap.size ≤ s_.2) ∧ (w.heap.size ≤ s_.2) ∧ (gb373 ≠ s_.2) ∧ (s_.2 ≠ gb373) ∧ (gb374 ≠ s_.2) ∧ (s_.2 ≠ gb374) ∧ (gb375 ≠ s_.2) ∧ (s_.2 ≠ gb375) ∧ (Below w.heap.size w w')) ?_ ?_
           rotate_left
           ·intro hCont
            refine two_ (i := 2) (j := 3) (Ni := some 10) (Nj := some 11) #[true, true, true, false, false, false] #[true, true, false, true, false, false] rfl rfl rfl rfl (by kernel_rfl) (by decide) (by decide) (fun K hK => ?_) (fun K hK => ?_)
            ·skip
             refine box_step ?hg (N := 10) ?hd (cs := #[.int .i64 0, .int .i64 0, .string (⟨#[]⟩ : ByteArray)]) (t := 23) ?hr ?_; (case hd => rfl); (case hg => rfl); (case hr => first | (go_simp; done) | (go_simp; rfl))
             intro gb470 hg w121 hbox hb
             have BK470 := Aside0.mk (hbox)
             have GW470 := (sizeB HB hg : Aside0 (w.heap.size ≤ gb470))
             have GE470 := (sizeB HB hg : Aside0 (w.heap.size ≤ gb470))
             have NB373_470 := neB BK373 hg
             have NB470_373 := neC BK373 hg
             have NB374_470 := neB BK374 hg
             have NB470_374 := neC BK374 hg
             have NB375_470 := neB BK375 hg
             have NB470_375 := neC BK375 hg
             replace BK373 := blkB BK373 hb
             replace BK374 := blkB BK374 hb
             replace BK375 := blkB BK375 hb
             replace HB := stepB HB hb
             clear hb hbox hg
             refine hK.out _ _ ⟨bc BK373 0, bc BK373 1, bc BK373 2, bc BK374 0, bc BK374 1, bc BK374 2⟩ (fun hHeld => ?_)
             clear hK K
             refine normA 10 ?_
             refine one_ (i := 3) (N := some 11) #[true, true, true, true, false, false] rfl rfl (by kernel_rfl) (by decide) (fun K hK => ?_)
             refine box_step ?hg (N := 11) ?hd (cs := #[.int .i64 0, .int .i64 0, .string (⟨#[]⟩ : ByteArray)]) (t := 23) ?hr ?_; (case hd => rfl); (case hg => rfl); (case hr => first | (go_simp; done) | (go_simp; rfl))
             intro gb471 hg w122 hbox hb
             have BK471 := Aside0.mk (hbox)
             have GW471 := (sizeB HB hg : Aside0 (w.heap.size ≤ gb471))
             have GE471 := (sizeB HB hg : Aside0 (w.heap.size ≤ gb471))
             have NB373_471 := neB BK373 hg
             have NB471_373 := neC BK373 hg
             have NB374_471 := neB BK374 hg
             have NB471_374 := neC BK374 hg
             have NB375_471 := neB BK375 hg
             have NB471_375 := neC BK375 hg
             have NB470_471 := neB BK470 hg
             have NB471_470 := neC BK470 hg
             replace BK373 := blkB BK373 hb
             replace BK374 := blkB BK374 hb
             replace BK375 := blkB BK375 hb
             replace BK470 := blkB BK470 hb
             replace HB := stepB HB hb
             clear hb hbox hg
             refine hK.out _ _ ⟨bc BK373 0, bc BK373 1, bc BK373 2, bc BK374 0, bc BK374 1, bc BK374 2⟩ (fun hHeld => ?_)
             clear hK K
             refine normA 11 ?_
             exact norm_ (by simp only [putAll, Act.put, List.setIfInBounds_toArray, List.set_cons_zero, List.set_cons_succ]) (hCont (gb470, gb471) _ ⟨hHeld, (by (with_reducible repeat (first | refine blk_drewN ?_ _ | refine blk_drew ?_ | refine blk_alloc ?_ _)); exact BK373.out), (by (with_reducible repeat (first | refine blk_drewN ?_ _ | refine blk_drew ?_ | refine blk_alloc ?_ _)); exact BK374.out), (by (with_reducible repeat (first | refine blk_drewN ?_ _ | refine blk_drew ?_ | refine blk_alloc ?_ _)); exact BK375.out), (by (with_reducible repeat (first | refine blk_drewN ?_ _ | refine blk_drew ?_ | refine blk_alloc ?_ _)); exact BK470.out), (by (with_reducible repeat (first | refine blk_drewN ?_ _ | refine blk_drew ?_ | refine blk_alloc ?_ _)); exact BK471.out), GW470.out, GE470.out, NB373_470.out, NB470_373.out, NB374_470.out, NB470_374.out, NB375_470.out, NB470_375.out, NB471_470.out, NB470_471.out, GW471.out, GE471.out, NB373_471.out, NB471_373.out, NB374_471.out, NB471_374.out, NB375_471.out, NB471_375.out, (by repeat (first | (with_reducible first | exact HB.out | apply below_alloc | apply pw_below_drewN | apply below_drew1 | refine below_set ?_ GE373.out | refine below_set ?_ GE374.out | refine below_set ?_ GE375.out | refine below_set ?_ GE470.out | refine below_set ?_ GE471.out) | exact HB.out))⟩)
            ·skip
             refine box_step ?hg (N := 11) ?hd (cs := #[.int .i64 0, .int .i64 0, .string (⟨#[]⟩ : ByteArray)]) (t := 23) ?hr ?_; (case hd => rfl); (case hg => rfl); (case hr => first | (go_simp; done) | (go_simp; rfl))
             intro gb471 hg w121 hbox hb
             have BK471 := Aside0.mk (hbox)
             have GW471 := (sizeB HB hg : Aside0 (w.heap.size ≤ gb471))
             have GE471 := (sizeB HB hg : Aside0 (w.heap.size ≤ gb471))
             have NB373_471 := neB BK373 hg
             have NB471_373 := neC BK373 hg
             have NB374_471 := neB BK374 hg
             have NB471_374 := neC BK374 hg
             have NB375_471 := neB BK375 hg
             have NB471_375 := neC BK375 hg
             replace BK373 := blkB BK373 hb
             replace BK374 := blkB BK374 hb
             replace BK375 := blkB BK375 hb
             replace HB := stepB HB hb
             clear hb hbox hg
             refine hK.out _ _ ⟨bc BK373 0, bc BK373 1, bc BK373 2, bc BK374 0, bc BK374 1, bc BK374 2⟩ (fun hHeld => ?_)
             clear hK K
             refine normA 11 ?_
             refine one_ (i := 2) (N := some 10) #[true, true, true, true, false, false] rfl rfl (by kernel_rfl) (by decide) (fun K hK => ?_)
             refine box_step ?hg (N := 10) ?hd (cs := #[.int .i64 0, .int .i64 0, .string (⟨#[]⟩ : ByteArray)]) (t := 23) ?hr ?_; (case hd => rfl); (case hg => rfl); (case hr => first | (go_simp; done) | (go_simp; rfl))
             intro gb470 hg w122 hbox hb
             have BK470 := Aside0.mk (hbox)
             have GW470 := (sizeB HB hg : Aside0 (w.heap.size ≤ gb470))
             have GE470 := (sizeB HB hg : Aside0 (w.heap.size ≤ gb470))
             have NB373_470 := neB BK373 hg
             have NB470_373 := neC BK373 hg
             have NB374_470 := neB BK374 hg
             have NB470_374 := neC BK374 hg
             have NB375_470 := neB BK375 hg
             have NB470_375 := neC BK375 hg
             have NB471_470 := neB BK471 hg
             have NB470_471 := neC BK471 hg
             replace BK373 := blkB BK373 hb
             replace BK374 := blkB BK374 hb
             replace BK375 := blkB BK375 hb
             replace BK471 := blkB BK471 hb
             replace HB := stepB HB hb
             clear hb hbox hg
             refine hK.out _ _ ⟨bc BK373 0, bc BK373 1, bc BK373 2, bc BK374 0, bc BK374 1, bc BK374 2⟩ (fun hHeld => ?_)
             clear hK K
             refine normA 10 ?_
             exact norm_ (by simp only [putAll, Act.put, List.setIfInBounds_toArray, List.set_cons_zero, List.set_cons_succ]) (hCont (gb470, gb471) _ ⟨hHeld, (by (with_reducible repeat (first | refine blk_drewN ?_ _ | refine blk_drew ?_ | refine blk_alloc ?_ _)); exact BK373.out), (by (with_reducible repeat (first | refine blk_drewN ?_ _ | refine blk_drew ?_ | refine blk_alloc ?_ _)); exact BK374.out), (by (with_reducible repeat (first | refine blk_drewN ?_ _ | refine blk_drew ?_ | refine blk_alloc ?_ _)); exact BK375.out), (by (with_reducible repeat (first | refine blk_drewN ?_ _ | refine blk_drew ?_ | refine blk_alloc ?_ _)); exact BK470.out), (by (with_reducible repeat (first | refine blk_drewN ?_ _ | refine blk_drew ?_ | refine blk_alloc ?_ _)); exact BK471.out), GW470.out, GE470.out, NB373_470.out, NB470_373.out, NB374_470.out, NB470_374.out, NB375_470.out, NB470_375.out, NB471_470.out, NB470_471.out, GW471.out, GE471.out, NB373_471.out, NB471_373.out, NB374_471.out, NB471_374.out, NB375_471.out, NB471_375.out, (by repeat (first | (with_reducible first | exact HB.out | apply below_alloc | apply pw_below_drewN | apply below_drew1 | refine below_set ?_ GE373.out | refine below_set ?_ GE374.out | refine below_set ?_ GE375.out | refine below_set ?_ GE471.out | refine below_set ?_ GE470.out) | exact HB.out))⟩)
           rintro ⟨gb470, gb471⟩ w123 ⟨hS_, h0_, h1_, h2_, h3_, h4_, h5_, h6_, h7_, h8_, h9_, h10_, h11_, h12_, h13_, h14_, h15_, h16_, h17_, h18_, h19_, h20_, h21_, h22_, h23_⟩
           have BK470 : Aside0 (w123.heap[gb470]? = some (.cells #[.int .i64 0, .int .i64 0, .string (⟨#[]⟩ : ByteArray)] 23 (0, 0))) := ⟨h3_⟩
           have BK471 : Aside0 (w123.heap[gb471]? = some (.cells #[.int .i64 0, .int .i64 0, .string (⟨#[]⟩ : ByteArray)] 23 (0, 0))) := ⟨h4_⟩
           have GW470 : Aside0 (w.heap.size ≤ gb470) := ⟨h5_⟩
           have GE470 : Aside0 (w.heap.size ≤ gb470) := ⟨h6_⟩
           have NB373_470 : Aside0 (gb373 ≠ gb470) := ⟨h7_⟩
           have NB470_373 : Aside0 (gb470 ≠ gb373) := ⟨h8_⟩
           have NB374_470 : Aside0 (gb374 ≠ gb470) := ⟨h9_⟩
           have NB470_374 : Aside0 (gb470 ≠ gb374) := ⟨h10_⟩
           have NB375_470 : Aside0 (gb375 ≠ gb470) := ⟨h11_⟩
           have NB470_375 : Aside0 (gb470 ≠ gb375) := ⟨h12_⟩
           have NB471_470 : Aside0 (gb471 ≠ gb470) := ⟨h13_⟩
           have NB470_471 : Aside0 (gb470 ≠ gb471) := ⟨h14_⟩
           have GW471 : Aside0 (w.heap.size ≤ gb471) := ⟨h15_⟩
           have GE471 : Aside0 (w.heap.size ≤ gb471) := ⟨h16_⟩
           have NB373_471 : Aside0 (gb373 ≠ gb471) := ⟨h17_⟩
           have NB471_373 : Aside0 (gb471 ≠ gb373) := ⟨h18_⟩
           have NB374_471 : Aside0 (gb374 ≠ gb471) := ⟨h19_⟩
           have NB471_374 : Aside0 (gb471 ≠ gb374) := ⟨h20_⟩
           have NB375_471 : Aside0 (gb375 ≠ gb471) := ⟨h21_⟩
           have NB471_375 : Aside0 (gb471 ≠ gb375) := ⟨h22_⟩
           replace BK373 : Aside0 (w123.heap[gb373]? = some (.cells #[.int .i64 a0_0, .int .i64 a0_1, .string a0_2] 23 (0, 0))) := ⟨h0_⟩
           replace BK374 : Aside0 (w123.heap[gb374]? = some (.cells #[.int .i64 a1_0, .int .i64 a1_1, .string a1_2] 23 (0, 0))) := ⟨h1_⟩
           replace BK375 : Aside0 (w123.heap[gb375]? = some (.cells #[.int .i64 a2_0, .int .i64 a2_1, .string a2_2] 23 (0, 0))) := ⟨h2_⟩
           replace HB : Aside0 (Below w.heap.size w w123) := ⟨h23_⟩
           clear h0_ h1_ h2_ h3_ h4_ h5_ h6_ h7_ h8_ h9_ h10_ h11_ h12_ h13_ h14_ h15_ h16_ h17_ h18_ h19_ h20_ h21_ h22_ h23_
           have hHeld : w123.cell? ⟨gb373, 0, none⟩ = some (.int .i64 a0_0) ∧ w123.cell? ⟨gb373, 1, none⟩ = some (.int .i64 a0_1) ∧ w123.cell? ⟨gb373, 2, none⟩ = some (.string a0_2) ∧ w123.cell? ⟨gb374, 0, none⟩ = some (.int .i64 a1_0) ∧ w123.cell? ⟨gb374, 1, none⟩ = some (.int .i64 a1_1) ∧ w123.cell? ⟨gb374, 2, none⟩ = some (.string a1_2) := hS_
           refine norm_ (a' := ?_) ?_ ?_
           rotate_left
           ·simp only [putAll, Act.put, List.setIfInBounds_toArray, List.set_cons_zero, List.set_cons_succ]
            rfl
           refine one_ (i := 4) (N := none) #[true, true, true, true, true, false] rfl rfl (by kernel_rfl) (by decide) (fun K hK => ?_)
           have hs124 : w123.cell? ⟨gb470, 0, none⟩ = some (.int .i64 0) := bc BK470 0
           have hfs124 := blk_frozen BK470.out 0
           have hns124_0 := NB373_470.out
           have hns124_1 := NB374_470.out
           have hns124_2 := NB375_470.out
           have hns124_4 := NB471_470.out
           have hms124_0 := NB470_373.out
           have hms124_1 := NB470_374.out
           have hms124_2 := NB470_375.out
           have hms124_4 := NB470_471.out
           have hs125 : w123.cell? ⟨gb470, 1, none⟩ = some (.int .i64 0) := bc BK470 1
           have hfs125 := blk_frozen BK470.out 1
           have hns125_0 := NB373_470.out
           have hns125_1 := NB374_470.out
           have hns125_2 := NB375_470.out
           have hns125_4 := NB471_470.out
           have hms125_0 := NB470_373.out
           have hms125_1 := NB470_374.out
           have hms125_2 := NB470_375.out
           have hms125_4 := NB470_471.out
           have hs126 : w123.cell? ⟨gb470, 2, none⟩ = some (.string (⟨#[]⟩ : ByteArray)) := bc BK470 2
           have hfs126 := blk_frozen BK470.out 2
           have hns126_0 := NB373_470.out
           have hns126_1 := NB374_470.out
           have hns126_2 := NB375_470.out
           have hns126_4 := NB471_470.out
           have hms126_0 := NB470_373.out
           have hms126_1 := NB470_374.out
           have hms126_2 := NB470_375.out
           have hms126_4 := NB470_471.out
           refine skip_ (w1 := ?_) (by rfl) rfl ?_ ?_
           rotate_left
           ·go_simp
            rfl
           refine hK.out _ _ ⟨((cell_far (p := ⟨gb470, _, none⟩) NB373_470.out _).trans (((cell_far (p := ⟨gb470, _, none⟩) NB373_470.out _).trans (((cell_far (p := ⟨gb470, _, none⟩) NB373_470.out _).trans (hHeld.1)))))), ((cell_far (p := ⟨gb470, _, none⟩) NB373_470.out _).trans (((cell_far (p := ⟨gb470, _, none⟩) NB373_470.out _).trans (((cell_far (p := ⟨gb470, _, none⟩) NB373_470.out _).trans (hHeld.2.1)))))), ((cell_far (p := ⟨gb470, _, none⟩) NB373_470.out _).trans (((cell_far (p := ⟨gb470, _, none⟩) NB373_470.out _).trans (((cell_far (p := ⟨gb470, _, none⟩) NB373_470.out _).trans (hHeld.2.2.1)))))), ((cell_far (p := ⟨gb470, _, none⟩) NB374_470.out _).trans (((cell_far (p := ⟨gb470, _, none⟩) NB374_470.out _).trans (((cell_far (p := ⟨gb470, _, none⟩) NB374_470.out _).trans (hHeld.2.2.2.1)))))), ((cell_far (p := ⟨gb470, _, none⟩) NB374_470.out _).trans (((cell_far (p := ⟨gb470, _, none⟩) NB374_470.out _).trans (((cell_far (p := ⟨gb470, _, none⟩) NB374_470.out _).trans (hHeld.2.2.2.2.1)))))), ((cell_far (p := ⟨gb470, _, none⟩) NB374_470.out _).trans (((cell_far (p := ⟨gb470, _, none⟩) NB374_470.out _).trans (((cell_far (p := ⟨gb470, _, none⟩) NB374_470.out _).trans (hHeld.2.2.2.2.2))))))⟩ (fun hHeld => ?_)
           clear hK K
           refine one_ (i := 5) (N := none) #[true, true, true, true, true, true] rfl rfl (by kernel_rfl) (by decide) (fun K hK => ?_)
           have hs127 : w123.cell? ⟨gb471, 0, none⟩ = some (.int .i64 0) := bc BK471 0
           have hfs127 := blk_frozen BK471.out 0
           have hns127_0 := NB373_471.out
           have hns127_1 := NB374_471.out
           have hns127_2 := NB375_471.out
           have hns127_3 := NB470_471.out
           have hms127_0 := NB471_373.out
           have hms127_1 := NB471_374.out
           have hms127_2 := NB471_375.out
           have hms127_3 := NB471_470.out
           have hs128 : w123.cell? ⟨gb471, 1, none⟩ = some (.int .i64 0) := bc BK471 1
           have hfs128 := blk_frozen BK471.out 1
           have hns128_0 := NB373_471.out
           have hns128_1 := NB374_471.out
           have hns128_2 := NB375_471.out
           have hns128_3 := NB470_471.out
           have hms128_0 := NB471_373.out
           have hms128_1 := NB471_374.out
           have hms128_2 := NB471_375.out
           have hms128_3 := NB471_470.out
           have hs129 : w123.cell? ⟨gb471, 2, none⟩ = some (.string (⟨#[]⟩ : ByteArray)) := bc BK471 2
           have hfs129 := blk_frozen BK471.out 2
           have hns129_0 := NB373_471.out
           have hns129_1 := NB374_471.out
           have hns129_2 := NB375_471.out
           have hns129_3 := NB470_471.out
           have hms129_0 := NB471_373.out
           have hms129_1 := NB471_374.out
           have hms129_2 := NB471_375.out
           have hms129_3 := NB471_470.out
           refine skip_ (w1 := ?_) (by rfl) rfl ?_ ?_
           rotate_left
           ·go_simp
            rfl
           refine hK.out _ _ ⟨((cell_far (p := ⟨gb471, _, none⟩) NB373_471.out _).trans (((cell_far (p := ⟨gb471, _, none⟩) NB373_471.out _).trans (((cell_far (p := ⟨gb471, _, none⟩) NB373_471.out _).trans (hHeld.1)))))), ((cell_far (p := ⟨gb471, _, none⟩) NB373_471.out _).trans (((cell_far (p := ⟨gb471, _, none⟩) NB373_471.out _).trans (((cell_far (p := ⟨gb471, _, none⟩) NB373_471.out _).trans (hHeld.2.1)))))), ((cell_far (p := ⟨gb471, _, none⟩) NB373_471.out _).trans (((cell_far (p := ⟨gb471, _, none⟩) NB373_471.out _).trans (((cell_far (p := ⟨gb471, _, none⟩) NB373_471.out _).trans (hHeld.2.2.1)))))), ((cell_far (p := ⟨gb471, _, none⟩) NB374_471.out _).trans (((cell_far (p := ⟨gb471, _, none⟩) NB374_471.out _).trans (((cell_far (p := ⟨gb471, _, none⟩) NB374_471.out _).trans (hHeld.2.2.2.1)))))), ((cell_far (p := ⟨gb471, _, none⟩) NB374_471.out _).trans (((cell_far (p := ⟨gb471, _, none⟩) NB374_471.out _).trans (((cell_far (p := ⟨gb471, _, none⟩) NB374_471.out _).trans (hHeld.2.2.2.2.1)))))), ((cell_far (p := ⟨gb471, _, none⟩) NB374_471.out _).trans (((cell_far (p := ⟨gb471, _, none⟩) NB374_471.out _).trans (((cell_far (p := ⟨gb471, _, none⟩) NB374_471.out _).trans (hHeld.2.2.2.2.2))))))⟩ (fun hHeld => ?_)
           clear hK K
           refine done_ (by kernel_rfl) ?_
           have hnb130 := NB470_373.out
           have hnc130 := NB373_470.out
           have hnb131 := NB470_374.out
           have hnc131 := NB374_470.out
           have hnb132 := NB470_375.out
           have hnc132 := NB375_470.out
           have hnb133 := NB470_471.out
           have hnc133 := NB471_470.out
           have hcz134_0 : w123.cell? ⟨gb470, 0, none⟩ = some (.int .i64 0) := bc BK470 0
           have hcz134_1 : w123.cell? ⟨gb470, 1, none⟩ = some (.int .i64 0) := bc BK470 1
           have hcz134_2 : w123.cell? ⟨gb470, 2, none⟩ = some (.string (⟨#[]⟩ : ByteArray)) := bc BK470 2
           have hfz134_0 := blk_frozen BK470.out 0
           have hfz134_1 := blk_frozen BK470.out 1
           have hfz134_2 := blk_frozen BK470.out 2
           go_upto_if 135 with (fail)
           go_cut [] (fun wc => ∃ (kq : Nat) (x471000_118 : Int) (x471001_118 : Int) (x471002_118 : ByteArray), Aside0 (alumlaw19_ValueLogic.j3 kq a0_0 a0_1 a0_2 a1_0 a1_1 a1_2 a2_0 a2_1 a2_2 x471000_118 x471001_118 x471002_118 a1_0 a1_1 a1_2 = some r) ∧ Aside0 (kq ≤ kj78) ∧ Aside0 (wc.heap[gb373]? = some (.cells #[.int .i64 a0_0, .int .i64 a0_1, .string a0_2] 23 (0, 0))) ∧ Aside0 (wc.heap[gb374]? = some (.cells #[.int .i64 a1_0, .int .i64 a1_1, .string a1_2] 23 (0, 0))) ∧ Aside0 (wc.heap[gb375]? = some (.cells #[.int .i64 a2_0, .int .i64 a2_1, .string a2_2] 23 (0, 0))) ∧ Aside0 (wc.heap[gb470]? = some (.cells #[.int .i64 x471000_118, .int .i64 x471001_118, .string x471002_118] 23 (0, 0))) ∧ Aside0 (wc.heap[gb471]? = some (.cells #[.int .i64 a1_0, .int .i64 a1_1, .string a1_2] 23 (0, 0))) ∧ Aside0 (Below w.heap.size w wc))
           case first =>
            have H := HC119.out
            clear HC119
            by_cases c135 : a0_0 = 0
            ·rw [if_pos c135] at H
             have c135b0 : (a0_0 == 0) = true := beq_iff_eq.mpr c135
             have c135b1 : (a0_0 != 0) = false := bne_eq_false_iff_eq.mpr c135
             clear c135
             (first | rw [c135b0] | (simp only [i64_w, i32_w]; rw [c135b0]) | skip)
             have H' := Aside0.mk H
             clear H
             have hnb136 := NB375_373.out
             have hnc136 := NB373_375.out
             have hnb137 := NB375_374.out
             have hnc137 := NB374_375.out
             have hnb138 := NB375_470.out
             have hnc138 := NB470_375.out
             have hnb139 := NB375_471.out
             have hnc139 := NB471_375.out
             have hcz140_0 : w123.cell? ⟨gb375, 0, none⟩ = some (.int .i64 a2_0) := bc BK375 0
             have hcz140_1 : w123.cell? ⟨gb375, 1, none⟩ = some (.int .i64 a2_1) := bc BK375 1
             have hcz140_2 : w123.cell? ⟨gb375, 2, none⟩ = some (.string a2_2) := bc BK375 2
             have hfz140_0 := blk_frozen BK375.out 0
             have hfz140_1 := blk_frozen BK375.out 1
             have hfz140_2 := blk_frozen BK375.out 2
             have hnb141 := NB470_373.out
             have hnc141 := NB373_470.out
             have hnb142 := NB470_374.out
             have hnc142 := NB374_470.out
             have hnb143 := NB470_471.out
             have hnc143 := NB471_470.out
             have hcz144_0 : w123.cell? ⟨gb470, 0, none⟩ = some (.int .i64 0) := bc BK470 0
             have hcz144_1 : w123.cell? ⟨gb470, 1, none⟩ = some (.int .i64 0) := bc BK470 1
             have hcz144_2 : w123.cell? ⟨gb470, 2, none⟩ = some (.string (⟨#[]⟩ : ByteArray)) := bc BK470 2
             have hfz144_0 := blk_frozen BK470.out 0
             have hfz144_1 := blk_frozen BK470.out 1
             have hfz144_2 := blk_frozen BK470.out 2
             go_wp2
             go_meet
             case rel => exact ⟨_, (a2_0), (a2_1), (a2_2), H', ⟨by have := HK1.out; have := HJ48.out; have := HJ78.out; first | omega | exact Nat.le_refl _⟩, ⟨by (with_reducible repeat (first | refine blk_drewN ?_ _ | refine blk_drew ?_ | refine blk_alloc ?_ _)); refine blk_far ?_ NB373_470.out _; (with_reducible repeat (first | refine blk_drewN ?_ _ | refine blk_drew ?_ | refine blk_alloc ?_ _)); refine blk_far ?_ NB373_470.out _; (with_reducible repeat (first | refine blk_drewN ?_ _ | refine blk_drew ?_ | refine blk_alloc ?_ _)); refine blk_far ?_ NB373_470.out _; (with_reducible repeat (first | refine blk_drewN ?_ _ | refine blk_drew ?_ | refine blk_alloc ?_ _)); refine blk_far ?_ NB373_471.out _; (with_reducible repeat (first | refine blk_drewN ?_ _ | refine blk_drew ?_ | refine blk_alloc ?_ _)); refine blk_far ?_ NB373_471.out _; (with_reducible repeat (first | refine blk_drewN ?_ _ | refine blk_drew ?_ | refine blk_alloc ?_ _)); refine blk_far ?_ NB373_471.out _; (with_reducible repeat (first | refine blk_drewN ?_ _ | refine blk_drew ?_ | refine blk_alloc ?_ _)); refine blk_far ?_ NB373_470.out _; (with_reducible repeat (first | refine blk_drewN ?_ _ | refine blk_drew ?_ | refine blk_alloc ?_ _)); refine blk_far ?_ NB373_470.out _; (with_reducible repeat (first | refine blk_drewN ?_ _ | refine blk_drew ?_ | refine blk_alloc ?_ _)); refine blk_far ?_ NB373_470.out _; (with_reducible repeat (first | refine blk_drewN ?_ _ | refine blk_drew ?_ | refine blk_alloc ?_ _)); exact BK373.out⟩, ⟨by (with_reducible repeat (first | refine blk_drewN ?_ _ | refine blk_drew ?_ | refine blk_alloc ?_ _)); refine blk_far ?_ NB374_470.out _; (with_reducible repeat (first | refine blk_drewN ?_ _ | refine blk_drew ?_ | refine blk_alloc ?_ _)); refine blk_far ?_ NB374_470.out _; (with_reducible repeat (first | refine blk_drewN ?_ _ | refine blk_drew ?_ | refine blk_alloc ?_ _)); refine blk_far ?_ NB374_470.out _; (with_reducible repeat (first | refine blk_drewN ?_ _ | refine blk_drew ?_ | refine blk_alloc ?_ _)); refine blk_far ?_ NB374_471.out _; (with_reducible repeat (first | refine blk_drewN ?_ _ | refine blk_drew ?_ | refine blk_alloc ?_ _)); refine blk_far ?_ NB374_471.out _; (with_reducible repeat (first | refine blk_drewN ?_ _ | refine blk_drew ?_ | refine blk_alloc ?_ _)); refine blk_far ?_ NB374_471.out _; (with_reducible repeat (first | refine blk_drewN ?_ _ | refine blk_drew ?_ | refine blk_alloc ?_ _)); refine blk_far ?_ NB374_470.out _; (with_reducible repeat (first | refine blk_drewN ?_ _ | refine blk_drew ?_ | refine blk_alloc ?_ _)); refine blk_far ?_ NB374_470.out _; (with_reducible repeat (first | refine blk_drewN ?_ _ | refine blk_drew ?_ | refine blk_alloc ?_ _)); refine blk_far ?_ NB374_470.out _; (with_reducible repeat (first | refine blk_drewN ?_ _ | refine blk_drew ?_ | refine blk_alloc ?_ _)); exact BK374.out⟩, ⟨by (with_reducible repeat (first | refine blk_drewN ?_ _ | refine blk_drew ?_ | refine blk_alloc ?_ _)); refine blk_far ?_ NB375_470.out _; (with_reducible repeat (first | refine blk_drewN ?_ _ | refine blk_drew ?_ | refine blk_alloc ?_ _)); refine blk_far ?_ NB375_470.out _; (with_reducible repeat (first | refine blk_drewN ?_ _ | refine blk_drew ?_ | refine blk_alloc ?_ _)); refine blk_far ?_ NB375_470.out _; (with_reducible repeat (first | refine blk_drewN ?_ _ | refine blk_drew ?_ | refine blk_alloc ?_ _)); refine blk_far ?_ NB375_471.out _; (with_reducible repeat (first | refine blk_drewN ?_ _ | refine blk_drew ?_ | refine blk_alloc ?_ _)); refine blk_far ?_ NB375_471.out _; (with_reducible repeat (first | refine blk_drewN ?_ _ | refine blk_drew ?_ | refine blk_alloc ?_ _)); refine blk_far ?_ NB375_471.out _; (with_reducible repeat (first | refine blk_drewN ?_ _ | refine blk_drew ?_ | refine blk_alloc ?_ _)); refine blk_far ?_ NB375_470.out _; (with_reducible repeat (first | refine blk_drewN ?_ _ | refine blk_drew ?_ | refine blk_alloc ?_ _)); refine blk_far ?_ NB375_470.out _; (with_reducible repeat (first | refine blk_drewN ?_ _ | refine blk_drew ?_ | refine blk_alloc ?_ _)); refine blk_far ?_ NB375_470.out _; (with_reducible repeat (first | refine blk_drewN ?_ _ | refine blk_drew ?_ | refine blk_alloc ?_ _)); exact BK375.out⟩, ⟨by (with_reducible repeat (first | refine blk_drewN ?_ _ | refine blk_drew ?_ | refine blk_alloc ?_ _)); refine blk_put (cs := #[.int .i64 a2_0, .int .i64 a2_1, .string a0_2]) ?_ 2 _ rfl; (with_reducible repeat (first | refine blk_drewN ?_ _ | refine blk_drew ?_ | refine blk_alloc ?_ _)); refine blk_put (cs := #[.int .i64 a2_0, .int .i64 a0_1, .string a0_2]) ?_ 1 _ rfl; (with_reducible repeat (first | refine blk_drewN ?_ _ | refine blk_drew ?_ | refine blk_alloc ?_ _)); refine blk_put (cs := #[.int .i64 a0_0, .int .i64 a0_1, .string a0_2]) ?_ 0 _ rfl; (with_reducible repeat (first | refine blk_drewN ?_ _ | refine blk_drew ?_ | refine blk_alloc ?_ _)); refine blk_far ?_ NB470_471.out _; (with_reducible repeat (first | refine blk_drewN ?_ _ | refine blk_drew ?_ | refine blk_alloc ?_ _)); refine blk_far ?_ NB470_471.out _; (with_reducible repeat (first | refine blk_drewN ?_ _ | refine blk_drew ?_ | refine blk_alloc ?_ _)); refine blk_far ?_ NB470_471.out _; (with_reducible repeat (first | refine blk_drewN ?_ _ | refine blk_drew ?_ | refine blk_alloc ?_ _)); refine blk_put (cs := #[.int .i64 a0_0, .int .i64 a0_1, .string (⟨#[]⟩ : ByteArray)]) ?_ 2 _ rfl; (with_reducible repeat (first | refine blk_drewN ?_ _ | refine blk_drew ?_ | refine blk_alloc ?_ _)); refine blk_put (cs := #[.int .i64 a0_0, .int .i64 0, .string (⟨#[]⟩ : ByteArray)]) ?_ 1 _ rfl; (with_reducible repeat (first | refine blk_drewN ?_ _ | refine blk_drew ?_ | refine blk_alloc ?_ _)); refine blk_put (cs := #[.int .i64 0, .int .i64 0, .string (⟨#[]⟩ : ByteArray)]) ?_ 0 _ rfl; (with_reducible repeat (first | refine blk_drewN ?_ _ | refine blk_drew ?_ | refine blk_alloc ?_ _)); exact BK470.out⟩, ⟨by (with_reducible repeat (first | refine blk_drewN ?_ _ | refine blk_drew ?_ | refine blk_alloc ?_ _)); refine blk_far ?_ NB471_470.out _; (with_reducible repeat (first | refine blk_drewN ?_ _ | refine blk_drew ?_ | refine blk_alloc ?_ _)); refine blk_far ?_ NB471_470.out _; (with_reducible repeat (first | refine blk_drewN ?_ _ | refine blk_drew ?_ | refine blk_alloc ?_ _)); refine blk_far ?_ NB471_470.out _; (with_reducible repeat (first | refine blk_drewN ?_ _ | refine blk_drew ?_ | refine blk_alloc ?_ _)); refine blk_put (cs := #[.int .i64 a1_0, .int .i64 a1_1, .string (⟨#[]⟩ : ByteArray)]) ?_ 2 _ rfl; (with_reducible repeat (first | refine blk_drewN ?_ _ | refine blk_drew ?_ | refine blk_alloc ?_ _)); refine blk_put (cs := #[.int .i64 a1_0, .int .i64 0, .string (⟨#[]⟩ : ByteArray)]) ?_ 1 _ rfl; (with_reducible repeat (first | refine blk_drewN ?_ _ | refine blk_drew ?_ | refine blk_alloc ?_ _)); refine blk_put (cs := #[.int .i64 0, .int .i64 0, .string (⟨#[]⟩ : ByteArray)]) ?_ 0 _ rfl; (with_reducible repeat (first | refine blk_drewN ?_ _ | refine blk_drew ?_ | refine blk_alloc ?_ _)); refine blk_far ?_ NB471_470.out _; (with_reducible repeat (first | refine blk_drewN ?_ _ | refine blk_drew ?_ | refine blk_alloc ?_ _)); refine blk_far ?_ NB471_470.out _; (with_reducible repeat (first | refine blk_drewN ?_ _ | refine blk_drew ?_ | refine blk_alloc ?_ _)); refine blk_far ?_ NB471_470.out _; (with_reducible repeat (first | refine blk_drewN ?_ _ | refine blk_drew ?_ | refine blk_alloc ?_ _)); exact BK471.out⟩, ⟨by repeat (first | (with_reducible first | exact HB.out | apply below_alloc | apply pw_below_drewN | apply below_drew1 | refine below_set ?_ GE373.out | refine below_set ?_ GE374.out | refine below_set ?_ GE375.out | refine below_set ?_ GE470.out | refine below_set ?_ GE471.out) | exact HB.out)⟩⟩
            ·rw [if_neg c135] at H
             have c135b0 : (a0_0 == 0) = false := beq_eq_false_iff_ne.mpr c135
             have c135b1 : (a0_0 != 0) = true := bne_iff_ne.mpr c135
             (first | rw [c135b0] | (simp only [i64_w, i32_w]; rw [c135b0]) | skip)
             have H' := Aside0.mk H
             clear H
             go_wp2
             go_meet
             case rel => exact ⟨_, (a0_0), (a0_1), (a0_2), H', ⟨by have := HK1.out; have := HJ48.out; have := HJ78.out; first | omega | exact Nat.le_refl _⟩, ⟨by (with_reducible repeat (first | refine blk_drewN ?_ _ | refine blk_drew ?_ | refine blk_alloc ?_ _)); refine blk_far ?_ NB373_471.out _; (with_reducible repeat (first | refine blk_drewN ?_ _ | refine blk_drew ?_ | refine blk_alloc ?_ _)); refine blk_far ?_ NB373_471.out _; (with_reducible repeat (first | refine blk_drewN ?_ _ | refine blk_drew ?_ | refine blk_alloc ?_ _)); refine blk_far ?_ NB373_471.out _; (with_reducible repeat (first | refine blk_drewN ?_ _ | refine blk_drew ?_ | refine blk_alloc ?_ _)); refine blk_far ?_ NB373_470.out _; (with_reducible repeat (first | refine blk_drewN ?_ _ | refine blk_drew ?_ | refine blk_alloc ?_ _)); refine blk_far ?_ NB373_470.out _; (with_reducible repeat (first | refine blk_drewN ?_ _ | refine blk_drew ?_ | refine blk_alloc ?_ _)); refine blk_far ?_ NB373_470.out _; (with_reducible repeat (first | refine blk_drewN ?_ _ | refine blk_drew ?_ | refine blk_alloc ?_ _)); exact BK373.out⟩, ⟨by (with_reducible repeat (first | refine blk_drewN ?_ _ | refine blk_drew ?_ | refine blk_alloc ?_ _)); refine blk_far ?_ NB374_471.out _; (with_reducible repeat (first | refine blk_drewN ?_ _ | refine blk_drew ?_ | refine blk_alloc ?_ _)); refine blk_far ?_ NB374_471.out _; (with_reducible repeat (first | refine blk_drewN ?_ _ | refine blk_drew ?_ | refine blk_alloc ?_ _)); refine blk_far ?_ NB374_471.out _; (with_reducible repeat (first | refine blk_drewN ?_ _ | refine blk_drew ?_ | refine blk_alloc ?_ _)); refine blk_far ?_ NB374_470.out _; (with_reducible repeat (first | refine blk_drewN ?_ _ | refine blk_drew ?_ | refine blk_alloc ?_ _)); refine blk_far ?_ NB374_470.out _; (with_reducible repeat (first | refine blk_drewN ?_ _ | refine blk_drew ?_ | refine blk_alloc ?_ _)); refine blk_far ?_ NB374_470.out _; (with_reducible repeat (first | refine blk_drewN ?_ _ | refine blk_drew ?_ | refine blk_alloc ?_ _)); exact BK374.out⟩, ⟨by (with_reducible repeat (first | refine blk_drewN ?_ _ | refine blk_drew ?_ | refine blk_alloc ?_ _)); refine blk_far ?_ NB375_471.out _; (with_reducible repeat (first | refine blk_drewN ?_ _ | refine blk_drew ?_ | refine blk_alloc ?_ _)); refine blk_far ?_ NB375_471.out _; (with_reducible repeat (first | refine blk_drewN ?_ _ | refine blk_drew ?_ | refine blk_alloc ?_ _)); refine blk_far ?_ NB375_471.out _; (with_reducible repeat (first | refine blk_drewN ?_ _ | refine blk_drew ?_ | refine blk_alloc ?_ _)); refine blk_far ?_ NB375_470.out _; (with_reducible repeat (first | refine blk_drewN ?_ _ | refine blk_drew ?_ | refine blk_alloc ?_ _)); refine blk_far ?_ NB375_470.out _; (with_reducible repeat (first | refine blk_drewN ?_ _ | refine blk_drew ?_ | refine blk_alloc ?_ _)); refine blk_far ?_ NB375_470.out _; (with_reducible repeat (first | refine blk_drewN ?_ _ | refine blk_drew ?_ | refine blk_alloc ?_ _)); exact BK375.out⟩, ⟨by (with_reducible repeat (first | refine blk_drewN ?_ _ | refine blk_drew ?_ | refine blk_alloc ?_ _)); refine blk_far ?_ NB470_471.out _; (with_reducible repeat (first | refine blk_drewN ?_ _ | refine blk_drew ?_ | refine blk_alloc ?_ _)); refine blk_far ?_ NB470_471.out _; (with_reducible repeat (first | refine blk_drewN ?_ _ | refine blk_drew ?_ | refine blk_alloc ?_ _)); refine blk_far ?_ NB470_471.out _; (with_reducible repeat (first | refine blk_drewN ?_ _ | refine blk_drew ?_ | refine blk_alloc ?_ _)); refine blk_put (cs := #[.int .i64 a0_0, .int .i64 a0_1, .string (⟨#[]⟩ : ByteArray)]) ?_ 2 _ rfl; (with_reducible repeat (first | refine blk_drewN ?_ _ | refine blk_drew ?_ | refine blk_alloc ?_ _)); refine blk_put (cs := #[.int .i64 a0_0, .int .i64 0, .string (⟨#[]⟩ : ByteArray)]) ?_ 1 _ rfl; (with_reducible repeat (first | refine blk_drewN ?_ _ | refine blk_drew ?_ | refine blk_alloc ?_ _)); refine blk_put (cs := #[.int .i64 0, .int .i64 0, .string (⟨#[]⟩ : ByteArray)]) ?_ 0 _ rfl; (with_reducible repeat (first | refine blk_drewN ?_ _ | refine blk_drew ?_ | refine blk_alloc ?_ _)); exact BK470.out⟩, ⟨by (with_reducible repeat (first | refine blk_drewN ?_ _ | refine blk_drew ?_ | refine blk_alloc ?_ _)); refine blk_put (cs := #[.int .i64 a1_0, .int .i64 a1_1, .string (⟨#[]⟩ : ByteArray)]) ?_ 2 _ rfl; (with_reducible repeat (first | refine blk_drewN ?_ _ | refine blk_drew ?_ | refine blk_alloc ?_ _)); refine blk_put (cs := #[.int .i64 a1_0, .int .i64 0, .string (⟨#[]⟩ : ByteArray)]) ?_ 1 _ rfl; (with_reducible repeat (first | refine blk_drewN ?_ _ | refine blk_drew ?_ | refine blk_alloc ?_ _)); refine blk_put (cs := #[.int .i64 0, .int .i64 0, .string (⟨#[]⟩ : ByteArray)]) ?_ 0 _ rfl; (with_reducible repeat (first | refine blk_drewN ?_ _ | refine blk_drew ?_ | refine blk_alloc ?_ _)); refine blk_far ?_ NB471_470.out _; (with_reducible repeat (first | refine blk_drewN ?_ _ | refine blk_drew ?_ | refine blk_alloc ?_ _)); refine blk_far ?_ NB471_470.out _; (with_reducible repeat (first | refine blk_drewN ?_ _ | refine blk_drew ?_ | refine blk_alloc ?_ _)); refine blk_far ?_ NB471_470.out _; (with_reducible repeat (first | refine blk_drewN ?_ _ | refine blk_drew ?_ | refine blk_alloc ?_ _)); exact BK471.out⟩, ⟨by repeat (first | (with_reducible first | exact HB.out | apply below_alloc | apply pw_below_drewN | apply below_drew1 | refine below_set ?_ GE373.out | refine below_set ?_ GE374.out | refine below_set ?_ GE375.out | refine below_set ?_ GE470.out | refine below_set ?_ GE471.out) | exact HB.out)⟩⟩
           case rest =>
            clear HC119
            try clear c1
            try clear p2
            try clear c11
            try clear c13
            try clear c14
            try clear c16
            try clear c17
            try clear c18
            try clear c118
            try clear c130
            try clear c131
            try clear c132
            try clear c133
            try clear c135
            try clear c135b0
            try clear c135b1
            try clear c136
            try clear c137
            try clear c138
            try clear c139
            try clear c141
            try clear c142
            try clear c143
            try clear hcz134_0
            try clear hcz134_1
            try clear hcz134_2
            try clear hcz140_0
            try clear hcz140_1
            try clear hcz140_2
            try clear hcz144_0
            try clear hcz144_1
            try clear hcz144_2
            try clear hfz134_0
            try clear hfz134_1
            try clear hfz134_2
            try clear hfz140_0
            try clear hfz140_1
            try clear hfz140_2
            try clear hfz144_0
            try clear hfz144_1
            try clear hfz144_2
            try clear p2
            obtain ⟨kq, x471000_118, x471001_118, x471002_118, HA, HJ118, BK373, BK374, BK375, BK470, BK471, HB⟩ := hcut
            cases kq with
            | zero => exact absurd HA.out (by simp [alumlaw19_ValueLogic.j3])
            | succ kj118 =>
             have H := HA.out
             clear HA
             simp only [alumlaw19_ValueLogic.j3] at H
             have HC145 := Aside0.mk H
             clear H
             have hnb146 := NB471_373.out
             have hnc146 := NB373_471.out
             have hnb147 := NB471_374.out
             have hnc147 := NB374_471.out
             have hnb148 := NB471_375.out
             have hnc148 := NB375_471.out
             have hnb149 := NB471_470.out
             have hnc149 := NB470_471.out
             have hcz150_0 : wc.cell? ⟨gb471, 0, none⟩ = some (.int .i64 a1_0) := bc BK471 0
             have hcz150_1 : wc.cell? ⟨gb471, 1, none⟩ = some (.int .i64 a1_1) := bc BK471 1
             have hcz150_2 : wc.cell? ⟨gb471, 2, none⟩ = some (.string a1_2) := bc BK471 2
             have hfz150_0 := blk_frozen BK471.out 0
             have hfz150_1 := blk_frozen BK471.out 1
             have hfz150_2 := blk_frozen BK471.out 2
             go_upto_if 139 with (fail)
             go_cut [] (fun wc => ∃ (kq : Nat) (x472000_144 : Int) (x472001_144 : Int) (x472002_144 : ByteArray), Aside0 (alumlaw19_ValueLogic.j4 kq a0_0 a0_1 a0_2 a1_0 a1_1 a1_2 a2_0 a2_1 a2_2 x471000_118 x471001_118 x471002_118 x472000_144 x472001_144 x472002_144 = some r) ∧ Aside0 (kq ≤ kj118) ∧ Aside0 (wc.heap[gb373]? = some (.cells #[.int .i64 a0_0, .int .i64 a0_1, .string a0_2] 23 (0, 0))) ∧ Aside0 (wc.heap[gb374]? = some (.cells #[.int .i64 a1_0, .int .i64 a1_1, .string a1_2] 23 (0, 0))) ∧ Aside0 (wc.heap[gb375]? = some (.cells #[.int .i64 a2_0, .int .i64 a2_1, .string a2_2] 23 (0, 0))) ∧ Aside0 (wc.heap[gb470]? = some (.cells #[.int .i64 x471000_118, .int .i64 x471001_118, .string x471002_118] 23 (0, 0))) ∧ Aside0 (wc.heap[gb471]? = some (.cells #[.int .i64 x472000_144, .int .i64 x472001_144, .string x472002_144] 23 (0, 0))) ∧ Aside0 (Below w.heap.size w wc))
             case first =>
              have H := HC145.out
              clear HC145
              by_cases c151 : a1_0 = 0
              ·rw [if_pos c151] at H
               have c151b0 : (a1_0 == 0) = true := beq_iff_eq.mpr c151
               have c151b1 : (a1_0 != 0) = false := bne_eq_false_iff_eq.mpr c151
               clear c151
               (first | rw [c151b0] | (simp only [i64_w, i32_w]; rw [c151b0]) | skip)
               have H' := Aside0.mk H
               clear H
               have hnb152 := NB375_373.out
               have hnc152 := NB373_375.out
               have hnb153 := NB375_374.out
               have hnc153 := NB374_375.out
               have hnb154 := NB375_470.out
               have hnc154 := NB470_375.out
               have hnb155 := NB375_471.out
               have hnc155 := NB471_375.out
               have hcz156_0 : wc.cell? ⟨gb375, 0, none⟩ = some (.int .i64 a2_0) := bc BK375 0
               have hcz156_1 : wc.cell? ⟨gb375, 1, none⟩ = some (.int .i64 a2_1) := bc BK375 1
               have hcz156_2 : wc.cell? ⟨gb375, 2, none⟩ = some (.string a2_2) := bc BK375 2
               have hfz156_0 := blk_frozen BK375.out 0
               have hfz156_1 := blk_frozen BK375.out 1
               have hfz156_2 := blk_frozen BK375.out 2
               have hnb157 := NB471_373.out
               have hnc157 := NB373_471.out
               have hnb158 := NB471_374.out
               have hnc158 := NB374_471.out
               have hnb159 := NB471_470.out
               have hnc159 := NB470_471.out
               have hcz160_0 : wc.cell? ⟨gb471, 0, none⟩ = some (.int .i64 a1_0) := bc BK471 0
               have hcz160_1 : wc.cell? ⟨gb471, 1, none⟩ = some (.int .i64 a1_1) := bc BK471 1
               have hcz160_2 : wc.cell? ⟨gb471, 2, none⟩ = some (.string a1_2) := bc BK471 2
               have hfz160_0 := blk_frozen BK471.out 0
               have hfz160_1 := blk_frozen BK471.out 1
               have hfz160_2 := blk_frozen BK471.out 2
               go_wp2
               go_meet
               case rel => exact ⟨_, (a2_0), (a2_1), (a2_2), H', ⟨by have := HK1.out; have := HJ48.out; have := HJ78.out; have := HJ118.out; first | omega | exact Nat.le_refl _⟩, ⟨by (with_reducible repeat (first | refine blk_drewN ?_ _ | refine blk_drew ?_ | refine blk_alloc ?_ _)); refine blk_far ?_ NB373_471.out _; (with_reducible repeat (first | refine blk_drewN ?_ _ | refine blk_drew ?_ | refine blk_alloc ?_ _)); refine blk_far ?_ NB373_471.out _; (with_reducible repeat (first | refine blk_drewN ?_ _ | refine blk_drew ?_ | refine blk_alloc ?_ _)); refine blk_far ?_ NB373_471.out _; (with_reducible repeat (first | refine blk_drewN ?_ _ | refine blk_drew ?_ | refine blk_alloc ?_ _)); exact BK373.out⟩, ⟨by (with_reducible repeat (first | refine blk_drewN ?_ _ | refine blk_drew ?_ | refine blk_alloc ?_ _)); refine blk_far ?_ NB374_471.out _; (with_reducible repeat (first | refine blk_drewN ?_ _ | refine blk_drew ?_ | refine blk_alloc ?_ _)); refine blk_far ?_ NB374_471.out _; (with_reducible repeat (first | refine blk_drewN ?_ _ | refine blk_drew ?_ | refine blk_alloc ?_ _)); refine blk_far ?_ NB374_471.out _; (with_reducible repeat (first | refine blk_drewN ?_ _ | refine blk_drew ?_ | refine blk_alloc ?_ _)); exact BK374.out⟩, ⟨by (with_reducible repeat (first | refine blk_drewN ?_ _ | refine blk_drew ?_ | refine blk_alloc ?_ _)); refine blk_far ?_ NB375_471.out _; (with_reducible repeat (first | refine blk_drewN ?_ _ | refine blk_drew ?_ | refine blk_alloc ?_ _)); refine blk_far ?_ NB375_471.out _; (with_reducible repeat (first | refine blk_drewN ?_ _ | refine blk_drew ?_ | refine blk_alloc ?_ _)); refine blk_far ?_ NB375_471.out _; (with_reducible repeat (first | refine blk_drewN ?_ _ | refine blk_drew ?_ | refine blk_alloc ?_ _)); exact BK375.out⟩, ⟨by (with_reducible repeat (first | refine blk_drewN ?_ _ | refine blk_drew ?_ | refine blk_alloc ?_ _)); refine blk_far ?_ NB470_471.out _; (with_reducible repeat (first | refine blk_drewN ?_ _ | refine blk_drew ?_ | refine blk_alloc ?_ _)); refine blk_far ?_ NB470_471.out _; (with_reducible repeat (first | refine blk_drewN ?_ _ | refine blk_drew ?_ | refine blk_alloc ?_ _)); refine blk_far ?_ NB470_471.out _; (with_reducible repeat (first | refine blk_drewN ?_ _ | refine blk_drew ?_ | refine blk_alloc ?_ _)); exact BK470.out⟩, ⟨by (with_reducible repeat (first | refine blk_drewN ?_ _ | refine blk_drew ?_ | refine blk_alloc ?_ _)); refine blk_put (cs := #[.int .i64 a2_0, .int .i64 a2_1, .string a1_2]) ?_ 2 _ rfl; (with_reducible repeat (first | refine blk_drewN ?_ _ | refine blk_drew ?_ | refine blk_alloc ?_ _)); refine blk_put (cs := #[.int .i64 a2_0, .int .i64 a1_1, .string a1_2]) ?_ 1 _ rfl; (with_reducible repeat (first | refine blk_drewN ?_ _ | refine blk_drew ?_ | refine blk_alloc ?_ _)); refine blk_put (cs := #[.int .i64 a1_0, .int .i64 a1_1, .string a1_2]) ?_ 0 _ rfl; (with_reducible repeat (first | refine blk_drewN ?_ _ | refine blk_drew ?_ | refine blk_alloc ?_ _)); exact BK471.out⟩, ⟨by repeat (first | (with_reducible first | exact HB.out | apply below_alloc | apply pw_below_drewN | apply below_drew1 | refine below_set ?_ GE373.out | refine below_set ?_ GE374.out | refine below_set ?_ GE375.out | refine below_set ?_ GE470.out | refine below_set ?_ GE471.out) | exact HB.out)⟩⟩
              ·rw [if_neg c151] at H
               have c151b0 : (a1_0 == 0) = false := beq_eq_false_iff_ne.mpr c151
               have c151b1 : (a1_0 != 0) = true := bne_iff_ne.mpr c151
               (first | rw [c151b0] | (simp only [i64_w, i32_w]; rw [c151b0]) | skip)
               have H' := Aside0.mk H
               clear H
               go_wp2
               go_meet
               case rel => exact ⟨_, (a1_0), (a1_1), (a1_2), H', ⟨by have := HK1.out; have := HJ48.out; have := HJ78.out; have := HJ118.out; first | omega | exact Nat.le_refl _⟩, ⟨by (with_reducible repeat (first | refine blk_drewN ?_ _ | refine blk_drew ?_ | refine blk_alloc ?_ _)); exact BK373.out⟩, ⟨by (with_reducible repeat (first | refine blk_drewN ?_ _ | refine blk_drew ?_ | refine blk_alloc ?_ _)); exact BK374.out⟩, ⟨by (with_reducible repeat (first | refine blk_drewN ?_ _ | refine blk_drew ?_ | refine blk_alloc ?_ _)); exact BK375.out⟩, ⟨by (with_reducible repeat (first | refine blk_drewN ?_ _ | refine blk_drew ?_ | refine blk_alloc ?_ _)); exact BK470.out⟩, ⟨by (with_reducible repeat (first | refine blk_drewN ?_ _ | refine blk_drew ?_ | refine blk_alloc ?_ _)); exact BK471.out⟩, ⟨by repeat (first | (with_reducible first | exact HB.out | apply below_alloc | apply pw_below_drewN | apply below_drew1 | refine below_set ?_ GE373.out | refine below_set ?_ GE374.out | refine below_set ?_ GE375.out | refine below_set ?_ GE470.out | refine below_set ?_ GE471.out) | exact HB.out)⟩⟩
             case rest =>
              clear HC145
              try clear c1
              try clear p2
              try clear c11
              try clear c13
              try clear c14
              try clear c15
              try clear c16
              try clear c17
              try clear c18
              try clear c118
              try clear c130
              try clear c131
              try clear c132
              try clear c133
              try clear c135
              try clear c135b0
              try clear c135b1
              try clear c136
              try clear c137
              try clear c138
              try clear c139
              try clear c141
              try clear c142
              try clear c143
              try clear c146
              try clear c147
              try clear c148
              try clear c149
              try clear c151
              try clear c151b0
              try clear c151b1
              try clear c152
              try clear c153
              try clear c154
              try clear c155
              try clear c157
              try clear c158
              try clear c159
              try clear hcz134_0
              try clear hcz134_1
              try clear hcz134_2
              try clear hcz140_0
              try clear hcz140_1
              try clear hcz140_2
              try clear hcz144_0
              try clear hcz144_1
              try clear hcz144_2
              try clear hcz150_0
              try clear hcz150_1
              try clear hcz150_2
              try clear hcz156_0
              try clear hcz156_1
              try clear hcz156_2
              try clear hcz160_0
              try clear hcz160_1
              try clear hcz160_2
              try clear hfz134_0
              try clear hfz134_1
              try clear hfz134_2
              try clear hfz140_0
              try clear hfz140_1
              try clear hfz140_2
              try clear hfz144_0
              try clear hfz144_1
              try clear hfz144_2
              try clear hfz150_0
              try clear hfz150_1
              try clear hfz150_2
              try clear hfz156_0
              try clear hfz156_1
              try clear hfz156_2
              try clear hfz160_0
              try clear hfz160_1
              try clear hfz160_2
              try clear p2
              obtain ⟨kq, x472000_144, x472001_144, x472002_144, HA, HJ144, BK373, BK374, BK375, BK470, BK471, HB⟩ := hcut
              cases kq with
              | zero => exact absurd HA.out (by simp [alumlaw19_ValueLogic.j4])
              | succ kj144 =>
               have H := HA.out
               clear HA
               simp only [alumlaw19_ValueLogic.j4] at H
               by_cases c161 : a2_0 = 0
               ·rw [if_pos c161] at H
                have c161b0 : (a2_0 == 0) = true := beq_iff_eq.mpr c161
                have c161b1 : (a2_0 != 0) = false := bne_eq_false_iff_eq.mpr c161
                clear c161
                replace H := Option.bind_eq_some_iff.mp H
                obtain ⟨t472, A1620, H⟩ := H
                replace H : (some t472) = some r := H
                have A162 := Aside0.mk A1620
                clear A1620
                obtain rfl := Option.some.inj H
                have hnb163 := NB375_373.out
                have hnc163 := NB373_375.out
                have hnb164 := NB375_374.out
                have hnc164 := NB374_375.out
                have hnb165 := NB375_470.out
                have hnc165 := NB470_375.out
                have hnb166 := NB375_471.out
                have hnc166 := NB471_375.out
                have hcz167_0 : wc.cell? ⟨gb375, 0, none⟩ = some (.int .i64 a2_0) := bc BK375 0
                have hcz167_1 : wc.cell? ⟨gb375, 1, none⟩ = some (.int .i64 a2_1) := bc BK375 1
                have hcz167_2 : wc.cell? ⟨gb375, 2, none⟩ = some (.string a2_2) := bc BK375 2
                have hfz167_0 := blk_frozen BK375.out 0
                have hfz167_1 := blk_frozen BK375.out 1
                have hfz167_2 := blk_frozen BK375.out 2
                go_wp2_with (first | ((with_reducible refine gate_callee (f := 12) rfl ?_); refine goesL_ (some 144) rfl rfl Tryd.func12 (by kernel_rfl) rfl #[] rfl (by (try simp only [List.map_toArray, List.map_cons, List.map_nil]); first | done | rfl | (simp only [List.length_drop, List.length_take]; rfl)) ?_; (with_reducible refine (alumlaw19_sanity.calls kj144  t472 _ A162.out).mono ?_); rintro e w168 ⟨rfl, hb⟩; refine ⟨_, rfl, ?_⟩; replace BK373 := blkB BK373 hb; replace BK374 := blkB BK374 hb; replace BK375 := blkB BK375 hb; replace BK470 := blkB BK470 hb; replace BK471 := blkB BK471 hb; replace HB := stepB HB hb; (try clear hb); (try clear hb2); (try clear hk); (try clear hi)))
                go_ret
                exact ⟨by first | rfl | (simp [errW_none, errW_some] <;> rfl) | (simp [*, errW_none, errW_some] <;> rfl), by repeat (first | (with_reducible first | exact HB.out | apply below_alloc | apply pw_below_drewN | apply below_drew1 | refine below_set ?_ GE373.out | refine below_set ?_ GE374.out | refine below_set ?_ GE375.out | refine below_set ?_ GE470.out | refine below_set ?_ GE471.out) | exact HB.out)⟩
               ·rw [if_neg c161] at H
                have c161b0 : (a2_0 == 0) = false := beq_eq_false_iff_ne.mpr c161
                have c161b1 : (a2_0 != 0) = true := bne_iff_ne.mpr c161
                replace H := Option.bind_eq_some_iff.mp H
                obtain ⟨⟨t473, t474, t475⟩, A1690, H⟩ := H
                replace H : ((alumlaw19_or.f kj144 a0_0 a0_1 a0_2 a1_0 a1_1 a1_2).bind fun bt476 => ((alumlaw19_sanity.f kj144).bind fun t481 => (if t481 = true then (if t473 = 0 then (if bt476.1 = 0 then (some true) else ((alumlaw19_or.f kj144 x471000_118 x471001_118 x471002_118 x472000_144 x472001_144 x472002_144).bind fun bt482 => (some (bt482.1 == bt476.1 && (bt482.2.1 == bt476.2.1 && (bt482.2.2.toList == bt476.2.2.toList)))))) else ((alumlaw19_and.f kj144 x471000_118 x471001_118 x471002_118 x472000_144 x472001_144 x472002_144).bind fun bt485 => (if (bt485.1 == t473 && (bt485.2.1 == t474 && (bt485.2.2.toList == t475.toList))) = true then (if bt476.1 = 0 then (some true) else ((alumlaw19_or.f kj144 x471000_118 x471001_118 x471002_118 x472000_144 x472001_144 x472002_144).bind fun bt488 => (some (bt488.1 == bt476.1 && (bt488.2.1 == bt476.2.1 && (bt488.2.2.toList == bt476.2.2.toList)))))) else (none)))) else (none)))) = some r := H
                have A169 := Aside0.mk A1690
                clear A1690
                replace H := Option.bind_eq_some_iff.mp H
                obtain ⟨⟨t476, t477, t478⟩, A1700, H⟩ := H
                replace H : ((alumlaw19_sanity.f kj144).bind fun t481 => (if t481 = true then (if t473 = 0 then (if t476 = 0 then (some true) else ((alumlaw19_or.f kj144 x471000_118 x471001_118 x471002_118 x472000_144 x472001_144 x472002_144).bind fun bt482 => (some (bt482.1 == t476 && (bt482.2.1 == t477 && (bt482.2.2.toList == t478.toList)))))) else ((alumlaw19_and.f kj144 x471000_118 x471001_118 x471002_118 x472000_144 x472001_144 x472002_144).bind fun bt485 => (if (bt485.1 == t473 && (bt485.2.1 == t474 && (bt485.2.2.toList == t475.toList))) = true then (if t476 = 0 then (some true) else ((alumlaw19_or.f kj144 x471000_118 x471001_118 x471002_118 x472000_144 x472001_144 x472002_144).bind fun bt488 => (some (bt488.1 == t476 && (bt488.2.1 == t477 && (bt488.2.2.toList == t478.toList)))))) else (none)))) else (none))) = some r := H
                have A170 := Aside0.mk A1700
                clear A1700
                replace H := Option.bind_eq_some_iff.mp H
                obtain ⟨t481, A1710, H⟩ := H
                replace H : (if t481 = true then (if t473 = 0 then (if t476 = 0 then (some true) else ((alumlaw19_or.f kj144 x471000_118 x471001_118 x471002_118 x472000_144 x472001_144 x472002_144).bind fun bt482 => (some (bt482.1 == t476 && (bt482.2.1 == t477 && (bt482.2.2.toList == t478.toList)))))) else ((alumlaw19_and.f kj144 x471000_118 x471001_118 x471002_118 x472000_144 x472001_144 x472002_144).bind fun bt485 => (if (bt485.1 == t473 && (bt485.2.1 == t474 && (bt485.2.2.toList == t475.toList))) = true then (if t476 = 0 then (some true) else ((alumlaw19_or.f kj144 x471000_118 x471001_118 x471002_118 x472000_144 x472001_144 x472002_144).bind fun bt488 => (some (bt488.1 == t476 && (bt488.2.1 == t477 && (bt488.2.2.toList == t478.toList)))))) else (none)))) else (none)) = some r := H
                have A171 := Aside0.mk A1710
                clear A1710
                have HQ_ := Aside0.mk H
                clear H
                have hnb175 := NB375_373.out
                have hnc175 := NB373_375.out
                have hnb176 := NB375_374.out
                have hnc176 := NB374_375.out
                have hnb177 := NB375_470.out
                have hnc177 := NB470_375.out
                have hnb178 := NB375_471.out
                have hnc178 := NB471_375.out
                have hcz179_0 : wc.cell? ⟨gb375, 0, none⟩ = some (.int .i64 a2_0) := bc BK375 0
                have hcz179_1 : wc.cell? ⟨gb375, 1, none⟩ = some (.int .i64 a2_1) := bc BK375 1
                have hcz179_2 : wc.cell? ⟨gb375, 2, none⟩ = some (.string a2_2) := bc BK375 2
                have hfz179_0 := blk_frozen BK375.out 0
                have hfz179_1 := blk_frozen BK375.out 1
                have hfz179_2 := blk_frozen BK375.out 2
                try go_wp2
                refine Aside0.out ?_
                refine alumlaw19_ValueLogic.pq kj144 a0_0 a0_1 a0_2 a1_0 a1_1 a1_2 a2_0 a2_1 a2_2 x471000_118 x471001_118 x471002_118 x472000_144 x472001_144 x472002_144 t473 t474 t475 t476 t477 t478 gb373 gb374 gb375 gb470 gb471 _ _ _ ?hP_ _ _ _ _ _ _ _ _ _ _ _ _ _ _ _ _ _ _ _ _ _ _ _ _ _ _ _ _ _ _ _ _ _ _ _ _ _ _ _ _ _ _ _ _ _ _ _ _ _ _ _ _ _ _ _ _ _ _ _ _ _ _ _ _ _ _ _ _ _ _ _ _ _ _ _ _ _ _ _ _ _ _ _ _ _ _ _ _ _ _ _ _ _ _ _ _ _ _ _ _ _ _ _ _ _ _ _ _ _ _ _ _ _ _ _ _ _ _ _ _ _ _ _ _ _ _ _ _ _ _ _ _ _ _ _ _ _ _ _ _ _ _ _ _ _ _ _ _ _ _ _ _ _ _ _ _ _ _ _ _ _ _ _ _ _ _ _ _ _ _ _ _ _ _ A169 A170 BK373 BK374 BK375 BK470 BK471 HB GE373 GE374 GE375 GE470 GE471 (fun gb479 gb480 w192 XBK373 XBK374 XBK375 XBK470 XBK471 XBK479 XBK480 XHB XGW479 XGE479 XGW480 XGE480 XNB373_479 XNB373_480 XNB374_479 XNB374_480 XNB375_479 XNB375_480 XNB470_479 XNB470_480 XNB471_479 XNB471_480 XNB479_373 XNB480_373 XNB479_374 XNB480_374 XNB479_375 XNB480_375 XNB479_470 XNB480_470 XNB479_471 XNB480_471 XNB479_480 XNB480_479 => ?_)
                case hP_ => exact fun _ _ _ _ _ h => h
                clear BK373 BK374 BK375 BK470 BK471 HB
                have BK373 := XBK373
                have BK374 := XBK374
                have BK375 := XBK375
                have BK470 := XBK470
                have BK471 := XBK471
                have BK479 := XBK479
                have BK480 := XBK480
                have HB := XHB
                have GW479 := XGW479
                have GE479 := XGE479
                have GW480 := XGW480
                have GE480 := XGE480
                have NB373_479 := XNB373_479
                have NB373_480 := XNB373_480
                have NB374_479 := XNB374_479
                have NB374_480 := XNB374_480
                have NB375_479 := XNB375_479
                have NB375_480 := XNB375_480
                have NB470_479 := XNB470_479
                have NB470_480 := XNB470_480
                have NB471_479 := XNB471_479
                have NB471_480 := XNB471_480
                have NB479_373 := XNB479_373
                have NB480_373 := XNB480_373
                have NB479_374 := XNB479_374
                have NB480_374 := XNB480_374
                have NB479_375 := XNB479_375
                have NB480_375 := XNB480_375
                have NB479_470 := XNB479_470
                have NB480_470 := XNB480_470
                have NB479_471 := XNB479_471
                have NB480_471 := XNB480_471
                have NB479_480 := XNB479_480
                have NB480_479 := XNB480_479
                clear XBK373 XBK374 XBK375 XBK470 XBK471 XBK479 XBK480 XHB XGW479 XGE479 XGW480 XGE480 XNB373_479 XNB373_480 XNB374_479 XNB374_480 XNB375_479 XNB375_480 XNB470_479 XNB470_480 XNB471_479 XNB471_480 XNB479_373 XNB480_373 XNB479_374 XNB480_374 XNB479_375 XNB480_375 XNB479_470 XNB480_470 XNB479_471 XNB480_471 XNB479_480 XNB480_479
                try go_wp2
                have H := HQ_.out
                clear HQ_
                by_cases c172 : t481 = true
                ·subst c172
                 have H1 : (if t473 = 0 then (if t476 = 0 then (some true) else ((alumlaw19_or.f kj144 x471000_118 x471001_118 x471002_118 x472000_144 x472001_144 x472002_144).bind fun bt482 => (some (bt482.1 == t476 && (bt482.2.1 == t477 && (bt482.2.2.toList == t478.toList)))))) else ((alumlaw19_and.f kj144 x471000_118 x471001_118 x471002_118 x472000_144 x472001_144 x472002_144).bind fun bt485 => (if (bt485.1 == t473 && (bt485.2.1 == t474 && (bt485.2.2.toList == t475.toList))) = true then (if t476 = 0 then (some true) else ((alumlaw19_or.f kj144 x471000_118 x471001_118 x471002_118 x472000_144 x472001_144 x472002_144).bind fun bt488 => (some (bt488.1 == t476 && (bt488.2.1 == t477 && (bt488.2.2.toList == t478.toList)))))) else (none)))) = some r := by rw [if_pos rfl] at H; exact H
                 clear H
                 have H := H1
                 clear H1
                 by_cases c173 : t473 = 0
                 ·rw [if_pos c173] at H
                  have c173b0 : (t473 == 0) = true := beq_iff_eq.mpr c173
                  have c173b1 : (t473 != 0) = false := bne_eq_false_iff_eq.mpr c173
                  clear c173
                  by_cases c174 : t476 = 0
                  ·rw [if_pos c174] at H
                   have c174b0 : (t476 == 0) = true := beq_iff_eq.mpr c174
                   have c174b1 : (t476 != 0) = false := bne_eq_false_iff_eq.mpr c174
                   clear c174
                   obtain rfl := Option.some.inj H
                   replace BK373 := Aside0.mk (blk_drew BK373.out)
                   replace BK374 := Aside0.mk (blk_drew BK374.out)
                   replace BK375 := Aside0.mk (blk_drew BK375.out)
                   replace BK470 := Aside0.mk (blk_drew BK470.out)
                   replace BK471 := Aside0.mk (blk_drew BK471.out)
                   replace BK479 := Aside0.mk (blk_drew BK479.out)
                   replace BK480 := Aside0.mk (blk_drew BK480.out)
                   replace HB := Aside0.mk (below_drew1 HB.out)
                   refine start_ (n := 26) (S := fun w' => w'.cell? ⟨gb479, 0, none⟩ = some (.int .i64 t473) ∧ w'.cell? ⟨gb479, 1, none⟩ = some (.int .i64 t474) ∧ w'.cell? ⟨gb479, 2, none⟩ = some (.string t475) ∧ w'.cell? ⟨gb480, 0, none⟩ = some (.int .i64 t476) ∧ w'.cell? ⟨gb480, 1, none⟩ = some (.int .i64 t477) ∧ w'.cell? ⟨gb480, 2, none⟩ = some (.string t478)) (ds := []) #[false, false, false, false, false, false, false, false, false, false, false, false, false, false, false, false, false, false, false, false, false, false, false, false, false, false] (by kernel_rfl) rfl rfl ⟨bc BK479 0, bc BK479 1, bc BK479 2, bc BK480 0, bc BK480 1, bc BK480 2⟩ (fun hHeld => ?_); refine with_tabW alumlaw19_ValueLogic.tab21 alumlaw19_ValueLogic.bits21 (fun HT_ HW_ => ?_)
                   generalize w192.drew = w193 at BK373 BK374 BK375 BK470 BK471 BK479 BK480 HB hHeld ⊢
                   refine one_ (i := 0) (N := some 151) #[true, false, false, false, false, false, false, false, false, false, false, false, false, false, false, false, false, false, false, false, false, false, false, false, false, false] rfl rfl (one_of HT_.out (by kernel_rfl)) (by decide) (fun K hK => ?_)
                   refine goes_ Tryd.func12 (by kernel_rfl) rfl #[] (by rfl) rfl rfl (by (try simp only [List.map_toArray, List.map_cons, List.map_nil]); first | done | rfl | (simp only [List.length_drop, List.length_take]; rfl)) ?_
                   with_reducible refine (alumlaw19_sanity.calls kj144  true _ A171.out).mono ?_
                   rintro e w194 ⟨rfl, hb⟩
                   refine ⟨_, rfl, ?_⟩
                   replace BK373 := blkB BK373 hb
                   replace BK374 := blkB BK374 hb
                   replace BK375 := blkB BK375 hb
                   replace BK470 := blkB BK470 hb
                   replace BK471 := blkB BK471 hb
                   replace BK479 := blkB BK479 hb
                   replace BK480 := blkB BK480 hb
                   replace HB := stepB HB hb
                   (try clear hb)
                   (try clear hb2)
                   (try clear hk)
                   (try clear hi)
                   refine hK.out _ _ ⟨bc BK479 0, bc BK479 1, bc BK479 2, bc BK480 0, bc BK480 1, bc BK480 2⟩ (fun hHeld => ?_)
                   clear hK K
                   refine normA 151 ?_
                   refine pureA 1 152 #[true, true, false, false, false, false, false, false, false, false, false, false, false, false, false, false, false, false, false, false, false, false, false, false, false, false] HT_ ?_
                   refine pureA 2 153 #[true, true, true, false, false, false, false, false, false, false, false, false, false, false, false, false, false, false, false, false, false, false, false, false, false, false] HT_ ?_
                   refine takeA 3 154 #[true, true, true, true, false, false, false, false, false, false, false, false, false, false, false, false, false, false, false, false, false, false, false, false, false, false] HT_ HW_ hHeld ?_
                   refine pureA 4 155 #[true, true, true, true, true, false, false, false, false, false, false, false, false, false, false, false, false, false, false, false, false, false, false, false, false, false] HT_ ?_
                   refine pureA 5 156 #[true, true, true, true, true, true, false, false, false, false, false, false, false, false, false, false, false, false, false, false, false, false, false, false, false, false] HT_ ?_
                   refine pureU 6 157 #[true, true, true, true, true, true, true, false, false, false, false, false, false, false, false, false, false, false, false, false, false, false, false, false, false, false] HT_ ?_
                   refine pureU 7 158 #[true, true, true, true, true, true, true, true, false, false, false, false, false, false, false, false, false, false, false, false, false, false, false, false, false, false] HT_ ?_
                   refine pureU 8 159 #[true, true, true, true, true, true, true, true, true, false, false, false, false, false, false, false, false, false, false, false, false, false, false, false, false, false] HT_ ?_
                   refine pureU 9 160 #[true, true, true, true, true, true, true, true, true, true, false, false, false, false, false, false, false, false, false, false, false, false, false, false, false, false] HT_ ?_
                   refine pureU 10 161 #[true, true, true, true, true, true, true, true, true, true, true, false, false, false, false, false, false, false, false, false, false, false, false, false, false, false] HT_ ?_
                   refine pureA 11 162 #[true, true, true, true, true, true, true, true, true, true, true, true, false, false, false, false, false, false, false, false, false, false, false, false, false, false] HT_ ?_
                   refine pureA 12 163 #[true, true, true, true, true, true, true, true, true, true, true, true, true, false, false, false, false, false, false, false, false, false, false, false, false, false] HT_ ?_
                   refine pureA 13 164 #[true, true, true, true, true, true, true, true, true, true, true, true, true, true, false, false, false, false, false, false, false, false, false, false, false, false] HT_ ?_
                   refine pureA 14 165 #[true, true, true, true, true, true, true, true, true, true, true, true, true, true, true, false, false, false, false, false, false, false, false, false, false, false] HT_ ?_
                   refine takeA 15 166 #[true, true, true, true, true, true, true, true, true, true, true, true, true, true, true, true, false, false, false, false, false, false, false, false, false, false] HT_ HW_ hHeld ?_
                   refine pureA 16 167 #[true, true, true, true, true, true, true, true, true, true, true, true, true, true, true, true, true, false, false, false, false, false, false, false, false, false] HT_ ?_
                   refine pureA 17 168 #[true, true, true, true, true, true, true, true, true, true, true, true, true, true, true, true, true, true, false, false, false, false, false, false, false, false] HT_ ?_
                   refine pureU 18 169 #[true, true, true, true, true, true, true, true, true, true, true, true, true, true, true, true, true, true, true, false, false, false, false, false, false, false] HT_ ?_
                   refine pureU 19 170 #[true, true, true, true, true, true, true, true, true, true, true, true, true, true, true, true, true, true, true, true, false, false, false, false, false, false] HT_ ?_
                   refine pureU 20 171 #[true, true, true, true, true, true, true, true, true, true, true, true, true, true, true, true, true, true, true, true, true, false, false, false, false, false] HT_ ?_
                   refine pureU 21 172 #[true, true, true, true, true, true, true, true, true, true, true, true, true, true, true, true, true, true, true, true, true, true, false, false, false, false] HT_ ?_
                   refine pureU 22 173 #[true, true, true, true, true, true, true, true, true, true, true, true, true, true, true, true, true, true, true, true, true, true, true, false, false, false] HT_ ?_
                   refine pureA 23 174 #[true, true, true, true, true, true, true, true, true, true, true, true, true, true, true, true, true, true, true, true, true, true, true, true, false, false] HT_ ?_
                   refine pureA 24 175 #[true, true, true, true, true, true, true, true, true, true, true, true, true, true, true, true, true, true, true, true, true, true, true, true, true, false] HT_ ?_
                   refine pureA 25 6 #[true, true, true, true, true, true, true, true, true, true, true, true, true, true, true, true, true, true, true, true, true, true, true, true, true, true] HT_ ?_
                   refine done_ (done_of HT_.out (by kernel_rfl)) ?_
                   try go_wp2
                   go_ret
                   exact ⟨by first | rfl | (simp [errW_none, errW_some] <;> rfl) | (simp [*, errW_none, errW_some] <;> rfl), by repeat (first | (with_reducible first | exact HB.out | apply below_alloc | apply pw_below_drewN | apply below_drew1 | refine below_set ?_ GE373.out | refine below_set ?_ GE374.out | refine below_set ?_ GE375.out | refine below_set ?_ GE470.out | refine below_set ?_ GE471.out | refine below_set ?_ GE479.out | refine below_set ?_ GE480.out) | exact HB.out)⟩
                  ·rw [if_neg c174] at H
                   have c174b0 : (t476 == 0) = false := beq_eq_false_iff_ne.mpr c174
                   have c174b1 : (t476 != 0) = true := bne_iff_ne.mpr c174
                   replace H := Option.bind_eq_some_iff.mp H
                   obtain ⟨⟨t482, t483, t484⟩, A1950, H⟩ := H
                   replace H : (some (t482 == t476 && (t483 == t477 && (t484.toList == t478.toList)))) = some r := H
                   have A195 := Aside0.mk A1950
                   clear A1950
                   obtain rfl := Option.some.inj H
                   replace BK373 := Aside0.mk (blk_drew BK373.out)
                   replace BK374 := Aside0.mk (blk_drew BK374.out)
                   replace BK375 := Aside0.mk (blk_drew BK375.out)
                   replace BK470 := Aside0.mk (blk_drew BK470.out)
                   replace BK471 := Aside0.mk (blk_drew BK471.out)
                   replace BK479 := Aside0.mk (blk_drew BK479.out)
                   replace BK480 := Aside0.mk (blk_drew BK480.out)
                   replace HB := Aside0.mk (below_drew1 HB.out)
                   refine start_ (n := 26) (S := fun w' => w'.cell? ⟨gb479, 0, none⟩ = some (.int .i64 t473) ∧ w'.cell? ⟨gb479, 1, none⟩ = some (.int .i64 t474) ∧ w'.cell? ⟨gb479, 2, none⟩ = some (.string t475) ∧ w'.cell? ⟨gb480, 0, none⟩ = some (.int .i64 t476) ∧ w'.cell? ⟨gb480, 1, none⟩ = some (.int .i64 t477) ∧ w'.cell? ⟨gb480, 2, none⟩ = some (.string t478) ∧ w'.cell? ⟨gb470, 0, none⟩ = some (.int .i64 x471000_118) ∧ w'.cell? ⟨gb470, 1, none⟩ = some (.int .i64 x471001_118) ∧ w'.cell? ⟨gb470, 2, none⟩ = some (.string x471002_118) ∧ w'.cell? ⟨gb471, 0, none⟩ = some (.int .i64 x472000_144) ∧ w'.cell? ⟨gb471, 1, none⟩ = some (.int .i64 x472001_144) ∧ w'.cell? ⟨gb471, 2, none⟩ = some (.string x472002_144)) (ds := []) #[false, false, false, false, false, false, false, false, false, false, false, false, false, false, false, false, false, false, false, false, false, false, false, false, false, false] (by kernel_rfl) rfl rfl ⟨bc BK479 0, bc BK479 1, bc BK479 2, bc BK480 0, bc BK480 1, bc BK480 2, bc BK470 0, bc BK470 1, bc BK470 2, bc BK471 0, bc BK471 1, bc BK471 2⟩ (fun hHeld => ?_); refine with_tabW alumlaw19_ValueLogic.tab21 alumlaw19_ValueLogic.bits21 (fun HT_ HW_ => ?_)
                   generalize w192.drew = w214 at BK373 BK374 BK375 BK470 BK471 BK479 BK480 HB hHeld ⊢
                   refine one_ (i := 0) (N := some 151) #[true, false, false, false, false, false, false, false, false, false, false, false, false, false, false, false, false, false, false, false, false, false, false, false, false, false] rfl rfl (one_of HT_.out (by kernel_rfl)) (by decide) (fun K hK => ?_)
                   refine goes_ Tryd.func12 (by kernel_rfl) rfl #[] (by rfl) rfl rfl (by (try simp only [List.map_toArray, List.map_cons, List.map_nil]); first | done | rfl | (simp only [List.length_drop, List.length_take]; rfl)) ?_
                   with_reducible refine (alumlaw19_sanity.calls kj144  true _ A171.out).mono ?_
                   rintro e w215 ⟨rfl, hb⟩
                   refine ⟨_, rfl, ?_⟩
                   replace BK373 := blkB BK373 hb
                   replace BK374 := blkB BK374 hb
                   replace BK375 := blkB BK375 hb
                   replace BK470 := blkB BK470 hb
                   replace BK471 := blkB BK471 hb
                   replace BK479 := blkB BK479 hb
                   replace BK480 := blkB BK480 hb
                   replace HB := stepB HB hb
                   (try clear hb)
                   (try clear hb2)
                   (try clear hk)
                   (try clear hi)
                   refine hK.out _ _ ⟨bc BK479 0, bc BK479 1, bc BK479 2, bc BK480 0, bc BK480 1, bc BK480 2, bc BK470 0, bc BK470 1, bc BK470 2, bc BK471 0, bc BK471 1, bc BK471 2⟩ (fun hHeld => ?_)
                   clear hK K
                   refine normA 151 ?_
                   refine pureA 1 152 #[true, true, false, false, false, false, false, false, false, false, false, false, false, false, false, false, false, false, false, false, false, false, false, false, false, false] HT_ ?_
                   refine pureA 2 153 #[true, true, true, false, false, false, false, false, false, false, false, false, false, false, false, false, false, false, false, false, false, false, false, false, false, false] HT_ ?_
                   refine takeA 3 154 #[true, true, true, true, false, false, false, false, false, false, false, false, false, false, false, false, false, false, false, false, false, false, false, false, false, false] HT_ HW_ hHeld ?_
                   refine pureA 4 155 #[true, true, true, true, true, false, false, false, false, false, false, false, false, false, false, false, false, false, false, false, false, false, false, false, false, false] HT_ ?_
                   refine pureA 5 156 #[true, true, true, true, true, true, false, false, false, false, false, false, false, false, false, false, false, false, false, false, false, false, false, false, false, false] HT_ ?_
                   refine pureU 6 157 #[true, true, true, true, true, true, true, false, false, false, false, false, false, false, false, false, false, false, false, false, false, false, false, false, false, false] HT_ ?_
                   refine pureU 7 158 #[true, true, true, true, true, true, true, true, false, false, false, false, false, false, false, false, false, false, false, false, false, false, false, false, false, false] HT_ ?_
                   refine pureU 8 159 #[true, true, true, true, true, true, true, true, true, false, false, false, false, false, false, false, false, false, false, false, false, false, false, false, false, false] HT_ ?_
                   refine pureU 9 160 #[true, true, true, true, true, true, true, true, true, true, false, false, false, false, false, false, false, false, false, false, false, false, false, false, false, false] HT_ ?_
                   refine pureU 10 161 #[true, true, true, true, true, true, true, true, true, true, true, false, false, false, false, false, false, false, false, false, false, false, false, false, false, false] HT_ ?_
                   refine pureA 11 162 #[true, true, true, true, true, true, true, true, true, true, true, true, false, false, false, false, false, false, false, false, false, false, false, false, false, false] HT_ ?_
                   refine pureA 12 163 #[true, true, true, true, true, true, true, true, true, true, true, true, true, false, false, false, false, false, false, false, false, false, false, false, false, false] HT_ ?_
                   refine pureA 13 164 #[true, true, true, true, true, true, true, true, true, true, true, true, true, true, false, false, false, false, false, false, false, false, false, false, false, false] HT_ ?_
                   refine pureA 14 165 #[true, true, true, true, true, true, true, true, true, true, true, true, true, true, true, false, false, false, false, false, false, false, false, false, false, false] HT_ ?_
                   refine takeA 15 166 #[true, true, true, true, true, true, true, true, true, true, true, true, true, true, true, true, false, false, false, false, false, false, false, false, false, false] HT_ HW_ hHeld ?_
                   refine pureA 16 167 #[true, true, true, true, true, true, true, true, true, true, true, true, true, true, true, true, true, false, false, false, false, false, false, false, false, false] HT_ ?_
                   refine pureA 17 168 #[true, true, true, true, true, true, true, true, true, true, true, true, true, true, true, true, true, true, false, false, false, false, false, false, false, false] HT_ ?_
                   refine takeA 18 169 #[true, true, true, true, true, true, true, true, true, true, true, true, true, true, true, true, true, true, true, false, false, false, false, false, false, false] HT_ HW_ hHeld ?_
                   refine takeA 19 170 #[true, true, true, true, true, true, true, true, true, true, true, true, true, true, true, true, true, true, true, true, false, false, false, false, false, false] HT_ HW_ hHeld ?_
                   refine takeA 21 172 #[true, true, true, true, true, true, true, true, true, true, true, true, true, true, true, true, true, true, true, true, false, true, false, false, false, false] HT_ HW_ hHeld ?_
                   refine one_ (i := 20) (N := some 171) #[true, true, true, true, true, true, true, true, true, true, true, true, true, true, true, true, true, true, true, true, true, true, false, false, false, false] rfl rfl (one_of HT_.out (by kernel_rfl)) (by decide) (fun K hK => ?_)
                   refine goes_ Tryd.func17 (by kernel_rfl) rfl #[.agg #[.int .i64 x471000_118, .int .i64 x471001_118, .string x471002_118], .agg #[.int .i64 x472000_144, .int .i64 x472001_144, .string x472002_144]] (by rfl) rfl rfl (by (try simp only [List.map_toArray, List.map_cons, List.map_nil]); first | done | rfl | (simp only [List.length_drop, List.length_take]; rfl)) ?_
                   with_reducible refine (alumlaw19_or.calls kj144 x471000_118 x471001_118 x471002_118 x472000_144 x472001_144 x472002_144 t482 t483 t484 _ A195.out).mono ?_
                   rintro e w216 ⟨rfl, hb⟩
                   refine ⟨_, rfl, ?_⟩
                   replace BK373 := blkB BK373 hb
                   replace BK374 := blkB BK374 hb
                   replace BK375 := blkB BK375 hb
                   replace BK470 := blkB BK470 hb
                   replace BK471 := blkB BK471 hb
                   replace BK479 := blkB BK479 hb
                   replace BK480 := blkB BK480 hb
                   replace HB := stepB HB hb
                   (try clear hb)
                   (try clear hb2)
                   (try clear hk)
                   (try clear hi)
                   refine hK.out _ _ ⟨bc BK479 0, bc BK479 1, bc BK479 2, bc BK480 0, bc BK480 1, bc BK480 2, bc BK470 0, bc BK470 1, bc BK470 2, bc BK471 0, bc BK471 1, bc BK471 2⟩ (fun hHeld => ?_)
                   clear hK K
                   refine normA 171 ?_
                   refine pureA 22 173 #[true, true, true, true, true, true, true, true, true, true, true, true, true, true, true, true, true, true, true, true, true, true, true, false, false, false] HT_ ?_
                   refine pureA 23 174 #[true, true, true, true, true, true, true, true, true, true, true, true, true, true, true, true, true, true, true, true, true, true, true, true, false, false] HT_ ?_
                   refine pureA 24 175 #[true, true, true, true, true, true, true, true, true, true, true, true, true, true, true, true, true, true, true, true, true, true, true, true, true, false] HT_ ?_
                   refine pureA 25 6 #[true, true, true, true, true, true, true, true, true, true, true, true, true, true, true, true, true, true, true, true, true, true, true, true, true, true] HT_ ?_
                   refine done_ (done_of HT_.out (by kernel_rfl)) ?_
                   try go_wp2
                   go_ret
                   exact ⟨by first | rfl | (simp [errW_none, errW_some] <;> rfl) | (simp [*, errW_none, errW_some] <;> rfl), by repeat (first | (with_reducible first | exact HB.out | apply below_alloc | apply pw_below_drewN | apply below_drew1 | refine below_set ?_ GE373.out | refine below_set ?_ GE374.out | refine below_set ?_ GE375.out | refine below_set ?_ GE470.out | refine below_set ?_ GE471.out | refine below_set ?_ GE479.out | refine below_set ?_ GE480.out) | exact HB.out)⟩
                 ·rw [if_neg c173] at H
                  have c173b0 : (t473 == 0) = false := beq_eq_false_iff_ne.mpr c173
                  have c173b1 : (t473 != 0) = true := bne_iff_ne.mpr c173
                  replace H := Option.bind_eq_some_iff.mp H
                  obtain ⟨⟨t485, t486, t487⟩, A2170, H⟩ := H
                  replace H : (if (t485 == t473 && (t486 == t474 && (t487.toList == t475.toList))) = true then (if t476 = 0 then (some true) else ((alumlaw19_or.f kj144 x471000_118 x471001_118 x471002_118 x472000_144 x472001_144 x472002_144).bind fun bt488 => (some (bt488.1 == t476 && (bt488.2.1 == t477 && (bt488.2.2.toList == t478.toList)))))) else (none)) = some r := H
                  have A217 := Aside0.mk A2170
                  clear A2170
                  by_cases c218 : (t485 == t473 && (t486 == t474 && (t487.toList == t475.toList))) = true
                  ·rw [if_pos c218] at H
                   have c218b0 : (t485 == t473 && (t486 == t474 && (t487.toList == t475.toList))) = true := c218
                   (try (have c218b1 : decide (t485 = t473 && (t486 == t474 && (t487.toList == t475.toList))) = true := by simpa using c218))
                   (try (have c218b2 : (t485 == t473 && (t486 == t474 && (t487.toList == t475.toList))) = true := by simpa using c218))
                   clear c218
                   by_cases c219 : t476 = 0
                   ·rw [if_pos c219] at H
                    have c219b0 : (t476 == 0) = true := beq_iff_eq.mpr c219
                    have c219b1 : (t476 != 0) = false := bne_eq_false_iff_eq.mpr c219
                    clear c219
                    obtain rfl := Option.some.inj H
                    replace BK373 := Aside0.mk (blk_drew BK373.out)
                    replace BK374 := Aside0.mk (blk_drew BK374.out)
                    replace BK375 := Aside0.mk (blk_drew BK375.out)
                    replace BK470 := Aside0.mk (blk_drew BK470.out)
                    replace BK471 := Aside0.mk (blk_drew BK471.out)
                    replace BK479 := Aside0.mk (blk_drew BK479.out)
                    replace BK480 := Aside0.mk (blk_drew BK480.out)
                    replace HB := Aside0.mk (below_drew1 HB.out)
                    refine start_ (n := 26) (S := fun w' => w'.cell? ⟨gb479, 0, none⟩ = some (.int .i64 t473) ∧ w'.cell? ⟨gb479, 1, none⟩ = some (.int .i64 t474) ∧ w'.cell? ⟨gb479, 2, none⟩ = some (.string t475) ∧ w'.cell? ⟨gb470, 0, none⟩ = some (.int .i64 x471000_118) ∧ w'.cell? ⟨gb470, 1, none⟩ = some (.int .i64 x471001_118) ∧ w'.cell? ⟨gb470, 2, none⟩ = some (.string x471002_118) ∧ w'.cell? ⟨gb471, 0, none⟩ = some (.int .i64 x472000_144) ∧ w'.cell? ⟨gb471, 1, none⟩ = some (.int .i64 x472001_144) ∧ w'.cell? ⟨gb471, 2, none⟩ = some (.string x472002_144) ∧ w'.cell? ⟨gb480, 0, none⟩ = some (.int .i64 t476) ∧ w'.cell? ⟨gb480, 1, none⟩ = some (.int .i64 t477) ∧ w'.cell? ⟨gb480, 2, none⟩ = some (.string t478)) (ds := []) #[false, false, false, false, false, false, false, false, false, false, false, false, false, false, false, false, false, false, false, false, false, false, false, false, false, false] (by kernel_rfl) rfl rfl ⟨bc BK479 0, bc BK479 1, bc BK479 2, bc BK470 0, bc BK470 1, bc BK470 2, bc BK471 0, bc BK471 1, bc BK471 2, bc BK480 0, bc BK480 1, bc BK480 2⟩ (fun hHeld => ?_); refine with_tabW alumlaw19_ValueLogic.tab21 alumlaw19_ValueLogic.bits21 (fun HT_ HW_ => ?_)
                    generalize w192.drew = w238 at BK373 BK374 BK375 BK470 BK471 BK479 BK480 HB hHeld ⊢
                    refine one_ (i := 0) (N := some 151) #[true, false, false, false, false, false, false, false, false, false, false, false, false, false, false, false, false, false, false, false, false, false, false, false, false, false] rfl rfl (one_of HT_.out (by kernel_rfl)) (by decide) (fun K hK => ?_)
                    refine goes_ Tryd.func12 (by kernel_rfl) rfl #[] (by rfl) rfl rfl (by (try simp only [List.map_toArray, List.map_cons, List.map_nil]); first | done | rfl | (simp only [List.length_drop, List.length_take]; rfl)) ?_
                    with_reducible refine (alumlaw19_sanity.calls kj144  true _ A171.out).mono ?_
                    rintro e w239 ⟨rfl, hb⟩
                    refine ⟨_, rfl, ?_⟩
                    replace BK373 := blkB BK373 hb
                    replace BK374 := blkB BK374 hb
                    replace BK375 := blkB BK375 hb
                    replace BK470 := blkB BK470 hb
                    replace BK471 := blkB BK471 hb
                    replace BK479 := blkB BK479 hb
                    replace BK480 := blkB BK480 hb
                    replace HB := stepB HB hb
                    (try clear hb)
                    (try clear hb2)
                    (try clear hk)
                    (try clear hi)
                    refine hK.out _ _ ⟨bc BK479 0, bc BK479 1, bc BK479 2, bc BK470 0, bc BK470 1, bc BK470 2, bc BK471 0, bc BK471 1, bc BK471 2, bc BK480 0, bc BK480 1, bc BK480 2⟩ (fun hHeld => ?_)
                    clear hK K
                    refine normA 151 ?_
                    refine pureA 1 152 #[true, true, false, false, false, false, false, false, false, false, false, false, false, false, false, false, false, false, false, false, false, false, false, false, false, false] HT_ ?_
                    refine pureA 2 153 #[true, true, true, false, false, false, false, false, false, false, false, false, false, false, false, false, false, false, false, false, false, false, false, false, false, false] HT_ ?_
                    refine takeA 3 154 #[true, true, true, true, false, false, false, false, false, false, false, false, false, false, false, false, false, false, false, false, false, false, false, false, false, false] HT_ HW_ hHeld ?_
                    refine pureA 4 155 #[true, true, true, true, true, false, false, false, false, false, false, false, false, false, false, false, false, false, false, false, false, false, false, false, false, false] HT_ ?_
                    refine pureA 5 156 #[true, true, true, true, true, true, false, false, false, false, false, false, false, false, false, false, false, false, false, false, false, false, false, false, false, false] HT_ ?_
                    refine takeA 6 157 #[true, true, true, true, true, true, true, false, false, false, false, false, false, false, false, false, false, false, false, false, false, false, false, false, false, false] HT_ HW_ hHeld ?_
                    refine takeA 7 158 #[true, true, true, true, true, true, true, true, false, false, false, false, false, false, false, false, false, false, false, false, false, false, false, false, false, false] HT_ HW_ hHeld ?_
                    refine takeA 9 160 #[true, true, true, true, true, true, true, true, false, true, false, false, false, false, false, false, false, false, false, false, false, false, false, false, false, false] HT_ HW_ hHeld ?_
                    refine one_ (i := 8) (N := some 159) #[true, true, true, true, true, true, true, true, true, true, false, false, false, false, false, false, false, false, false, false, false, false, false, false, false, false] rfl rfl (one_of HT_.out (by kernel_rfl)) (by decide) (fun K hK => ?_)
                    refine goes_ Tryd.func16 (by kernel_rfl) rfl #[.agg #[.int .i64 x471000_118, .int .i64 x471001_118, .string x471002_118], .agg #[.int .i64 x472000_144, .int .i64 x472001_144, .string x472002_144]] (by rfl) rfl rfl (by (try simp only [List.map_toArray, List.map_cons, List.map_nil]); first | done | rfl | (simp only [List.length_drop, List.length_take]; rfl)) ?_
                    with_reducible refine (alumlaw19_and.calls kj144 x471000_118 x471001_118 x471002_118 x472000_144 x472001_144 x472002_144 t485 t486 t487 _ A217.out).mono ?_
                    rintro e w240 ⟨rfl, hb⟩
                    refine ⟨_, rfl, ?_⟩
                    replace BK373 := blkB BK373 hb
                    replace BK374 := blkB BK374 hb
                    replace BK375 := blkB BK375 hb
                    replace BK470 := blkB BK470 hb
                    replace BK471 := blkB BK471 hb
                    replace BK479 := blkB BK479 hb
                    replace BK480 := blkB BK480 hb
                    replace HB := stepB HB hb
                    (try clear hb)
                    (try clear hb2)
                    (try clear hk)
                    (try clear hi)
                    refine hK.out _ _ ⟨bc BK479 0, bc BK479 1, bc BK479 2, bc BK470 0, bc BK470 1, bc BK470 2, bc BK471 0, bc BK471 1, bc BK471 2, bc BK480 0, bc BK480 1, bc BK480 2⟩ (fun hHeld => ?_)
                    clear hK K
                    refine normA 159 ?_
                    refine pureA 10 161 #[true, true, true, true, true, true, true, true, true, true, true, false, false, false, false, false, false, false, false, false, false, false, false, false, false, false] HT_ ?_
                    refine pureA 11 162 #[true, true, true, true, true, true, true, true, true, true, true, true, false, false, false, false, false, false, false, false, false, false, false, false, false, false] HT_ ?_
                    refine pureA 12 163 #[true, true, true, true, true, true, true, true, true, true, true, true, true, false, false, false, false, false, false, false, false, false, false, false, false, false] HT_ ?_
                    refine pureA 13 164 #[true, true, true, true, true, true, true, true, true, true, true, true, true, true, false, false, false, false, false, false, false, false, false, false, false, false] HT_ ?_
                    refine pureA 14 165 #[true, true, true, true, true, true, true, true, true, true, true, true, true, true, true, false, false, false, false, false, false, false, false, false, false, false] HT_ ?_
                    refine takeA 15 166 #[true, true, true, true, true, true, true, true, true, true, true, true, true, true, true, true, false, false, false, false, false, false, false, false, false, false] HT_ HW_ hHeld ?_
                    refine pureA 16 167 #[true, true, true, true, true, true, true, true, true, true, true, true, true, true, true, true, true, false, false, false, false, false, false, false, false, false] HT_ ?_
                    refine pureA 17 168 #[true, true, true, true, true, true, true, true, true, true, true, true, true, true, true, true, true, true, false, false, false, false, false, false, false, false] HT_ ?_
                    refine pureU 18 169 #[true, true, true, true, true, true, true, true, true, true, true, true, true, true, true, true, true, true, true, false, false, false, false, false, false, false] HT_ ?_
                    refine pureU 19 170 #[true, true, true, true, true, true, true, true, true, true, true, true, true, true, true, true, true, true, true, true, false, false, false, false, false, false] HT_ ?_
                    refine pureU 20 171 #[true, true, true, true, true, true, true, true, true, true, true, true, true, true, true, true, true, true, true, true, true, false, false, false, false, false] HT_ ?_
                    refine pureU 21 172 #[true, true, true, true, true, true, true, true, true, true, true, true, true, true, true, true, true, true, true, true, true, true, false, false, false, false] HT_ ?_
                    refine pureU 22 173 #[true, true, true, true, true, true, true, true, true, true, true, true, true, true, true, true, true, true, true, true, true, true, true, false, false, false] HT_ ?_
                    refine pureA 23 174 #[true, true, true, true, true, true, true, true, true, true, true, true, true, true, true, true, true, true, true, true, true, true, true, true, false, false] HT_ ?_
                    refine pureA 24 175 #[true, true, true, true, true, true, true, true, true, true, true, true, true, true, true, true, true, true, true, true, true, true, true, true, true, false] HT_ ?_
                    refine pureA 25 6 #[true, true, true, true, true, true, true, true, true, true, true, true, true, true, true, true, true, true, true, true, true, true, true, true, true, true] HT_ ?_
                    refine done_ (done_of HT_.out (by kernel_rfl)) ?_
                    try go_wp2
                    go_ret
                    exact ⟨by first | rfl | (simp [errW_none, errW_some] <;> rfl) | (simp [*, errW_none, errW_some] <;> rfl), by repeat (first | (with_reducible first | exact HB.out | apply below_alloc | apply pw_below_drewN | apply below_drew1 | refine below_set ?_ GE373.out | refine below_set ?_ GE374.out | refine below_set ?_ GE375.out | refine below_set ?_ GE470.out | refine below_set ?_ GE471.out | refine below_set ?_ GE479.out | refine below_set ?_ GE480.out) | exact HB.out)⟩
                   ·rw [if_neg c219] at H
                    have c219b0 : (t476 == 0) = false := beq_eq_false_iff_ne.mpr c219
                    have c219b1 : (t476 != 0) = true := bne_iff_ne.mpr c219
                    replace H := Option.bind_eq_some_iff.mp H
                    obtain ⟨⟨t488, t489, t490⟩, A2410, H⟩ := H
                    replace H : (some (t488 == t476 && (t489 == t477 && (t490.toList == t478.toList)))) = some r := H
                    have A241 := Aside0.mk A2410
                    clear A2410
                    obtain rfl := Option.some.inj H
                    replace BK373 := Aside0.mk (blk_drew BK373.out)
                    replace BK374 := Aside0.mk (blk_drew BK374.out)
                    replace BK375 := Aside0.mk (blk_drew BK375.out)
                    replace BK470 := Aside0.mk (blk_drew BK470.out)
                    replace BK471 := Aside0.mk (blk_drew BK471.out)
                    replace BK479 := Aside0.mk (blk_drew BK479.out)
                    replace BK480 := Aside0.mk (blk_drew BK480.out)
                    replace HB := Aside0.mk (below_drew1 HB.out)
                    refine start_ (n := 26) (S := fun w' => w'.cell? ⟨gb479, 0, none⟩ = some (.int .i64 t473) ∧ w'.cell? ⟨gb479, 1, none⟩ = some (.int .i64 t474) ∧ w'.cell? ⟨gb479, 2, none⟩ = some (.string t475) ∧ w'.cell? ⟨gb470, 0, none⟩ = some (.int .i64 x471000_118) ∧ w'.cell? ⟨gb470, 1, none⟩ = some (.int .i64 x471001_118) ∧ w'.cell? ⟨gb470, 2, none⟩ = some (.string x471002_118) ∧ w'.cell? ⟨gb471, 0, none⟩ = some (.int .i64 x472000_144) ∧ w'.cell? ⟨gb471, 1, none⟩ = some (.int .i64 x472001_144) ∧ w'.cell? ⟨gb471, 2, none⟩ = some (.string x472002_144) ∧ w'.cell? ⟨gb480, 0, none⟩ = some (.int .i64 t476) ∧ w'.cell? ⟨gb480, 1, none⟩ = some (.int .i64 t477) ∧ w'.cell? ⟨gb480, 2, none⟩ = some (.string t478)) (ds := []) #[false, false, false, false, false, false, false, false, false, false, false, false, false, false, false, false, false, false, false, false, false, false, false, false, false, false] (by kernel_rfl) rfl rfl ⟨bc BK479 0, bc BK479 1, bc BK479 2, bc BK470 0, bc BK470 1, bc BK470 2, bc BK471 0, bc BK471 1, bc BK471 2, bc BK480 0, bc BK480 1, bc BK480 2⟩ (fun hHeld => ?_); refine with_tabW alumlaw19_ValueLogic.tab21 alumlaw19_ValueLogic.bits21 (fun HT_ HW_ => ?_)
                    generalize w192.drew = w260 at BK373 BK374 BK375 BK470 BK471 BK479 BK480 HB hHeld ⊢
                    refine one_ (i := 0) (N := some 151) #[true, false, false, false, false, false, false, false, false, false, false, false, false, false, false, false, false, false, false, false, false, false, false, false, false, false] rfl rfl (one_of HT_.out (by kernel_rfl)) (by decide) (fun K hK => ?_)
                    refine goes_ Tryd.func12 (by kernel_rfl) rfl #[] (by rfl) rfl rfl (by (try simp only [List.map_toArray, List.map_cons, List.map_nil]); first | done | rfl | (simp only [List.length_drop, List.length_take]; rfl)) ?_
                    with_reducible refine (alumlaw19_sanity.calls kj144  true _ A171.out).mono ?_
                    rintro e w261 ⟨rfl, hb⟩
                    refine ⟨_, rfl, ?_⟩
                    replace BK373 := blkB BK373 hb
                    replace BK374 := blkB BK374 hb
                    replace BK375 := blkB BK375 hb
                    replace BK470 := blkB BK470 hb
                    replace BK471 := blkB BK471 hb
                    replace BK479 := blkB BK479 hb
                    replace BK480 := blkB BK480 hb
                    replace HB := stepB HB hb
                    (try clear hb)
                    (try clear hb2)
                    (try clear hk)
                    (try clear hi)
                    refine hK.out _ _ ⟨bc BK479 0, bc BK479 1, bc BK479 2, bc BK470 0, bc BK470 1, bc BK470 2, bc BK471 0, bc BK471 1, bc BK471 2, bc BK480 0, bc BK480 1, bc BK480 2⟩ (fun hHeld => ?_)
                    clear hK K
                    refine normA 151 ?_
                    refine pureA 1 152 #[true, true, false, false, false, false, false, false, false, false, false, false, false, false, false, false, false, false, false, false, false, false, false, false, false, false] HT_ ?_
                    refine pureA 2 153 #[true, true, true, false, false, false, false, false, false, false, false, false, false, false, false, false, false, false, false, false, false, false, false, false, false, false] HT_ ?_
                    refine takeA 3 154 #[true, true, true, true, false, false, false, false, false, false, false, false, false, false, false, false, false, false, false, false, false, false, false, false, false, false] HT_ HW_ hHeld ?_
                    refine pureA 4 155 #[true, true, true, true, true, false, false, false, false, false, false, false, false, false, false, false, false, false, false, false, false, false, false, false, false, false] HT_ ?_
                    refine pureA 5 156 #[true, true, true, true, true, true, false, false, false, false, false, false, false, false, false, false, false, false, false, false, false, false, false, false, false, false] HT_ ?_
                    refine takeA 6 157 #[true, true, true, true, true, true, true, false, false, false, false, false, false, false, false, false, false, false, false, false, false, false, false, false, false, false] HT_ HW_ hHeld ?_
                    refine takeA 7 158 #[true, true, true, true, true, true, true, true, false, false, false, false, false, false, false, false, false, false, false, false, false, false, false, false, false, false] HT_ HW_ hHeld ?_
                    refine takeA 9 160 #[true, true, true, true, true, true, true, true, false, true, false, false, false, false, false, false, false, false, false, false, false, false, false, false, false, false] HT_ HW_ hHeld ?_
                    refine one_ (i := 8) (N := some 159) #[true, true, true, true, true, true, true, true, true, true, false, false, false, false, false, false, false, false, false, false, false, false, false, false, false, false] rfl rfl (one_of HT_.out (by kernel_rfl)) (by decide) (fun K hK => ?_)
                    refine goes_ Tryd.func16 (by kernel_rfl) rfl #[.agg #[.int .i64 x471000_118, .int .i64 x471001_118, .string x471002_118], .agg #[.int .i64 x472000_144, .int .i64 x472001_144, .string x472002_144]] (by rfl) rfl rfl (by (try simp only [List.map_toArray, List.map_cons, List.map_nil]); first | done | rfl | (simp only [List.length_drop, List.length_take]; rfl)) ?_
                    with_reducible refine (alumlaw19_and.calls kj144 x471000_118 x471001_118 x471002_118 x472000_144 x472001_144 x472002_144 t485 t486 t487 _ A217.out).mono ?_
                    rintro e w262 ⟨rfl, hb⟩
                    refine ⟨_, rfl, ?_⟩
                    replace BK373 := blkB BK373 hb
                    replace BK374 := blkB BK374 hb
                    replace BK375 := blkB BK375 hb
                    replace BK470 := blkB BK470 hb
                    replace BK471 := blkB BK471 hb
                    replace BK479 := blkB BK479 hb
                    replace BK480 := blkB BK480 hb
                    replace HB := stepB HB hb
                    (try clear hb)
                    (try clear hb2)
                    (try clear hk)
                    (try clear hi)
                    refine hK.out _ _ ⟨bc BK479 0, bc BK479 1, bc BK479 2, bc BK470 0, bc BK470 1, bc BK470 2, bc BK471 0, bc BK471 1, bc BK471 2, bc BK480 0, bc BK480 1, bc BK480 2⟩ (fun hHeld => ?_)
                    clear hK K
                    refine normA 159 ?_
                    refine pureA 10 161 #[true, true, true, true, true, true, true, true, true, true, true, false, false, false, false, false, false, false, false, false, false, false, false, false, false, false] HT_ ?_
                    refine pureA 11 162 #[true, true, true, true, true, true, true, true, true, true, true, true, false, false, false, false, false, false, false, false, false, false, false, false, false, false] HT_ ?_
                    refine pureA 12 163 #[true, true, true, true, true, true, true, true, true, true, true, true, true, false, false, false, false, false, false, false, false, false, false, false, false, false] HT_ ?_
                    refine pureA 13 164 #[true, true, true, true, true, true, true, true, true, true, true, true, true, true, false, false, false, false, false, false, false, false, false, false, false, false] HT_ ?_
                    refine pureA 14 165 #[true, true, true, true, true, true, true, true, true, true, true, true, true, true, true, false, false, false, false, false, false, false, false, false, false, false] HT_ ?_
                    refine takeA 15 166 #[true, true, true, true, true, true, true, true, true, true, true, true, true, true, true, true, false, false, false, false, false, false, false, false, false, false] HT_ HW_ hHeld ?_
                    refine pureA 16 167 #[true, true, true, true, true, true, true, true, true, true, true, true, true, true, true, true, true, false, false, false, false, false, false, false, false, false] HT_ ?_
                    refine pureA 17 168 #[true, true, true, true, true, true, true, true, true, true, true, true, true, true, true, true, true, true, false, false, false, false, false, false, false, false] HT_ ?_
                    refine takeA 18 169 #[true, true, true, true, true, true, true, true, true, true, true, true, true, true, true, true, true, true, true, false, false, false, false, false, false, false] HT_ HW_ hHeld ?_
                    refine takeA 19 170 #[true, true, true, true, true, true, true, true, true, true, true, true, true, true, true, true, true, true, true, true, false, false, false, false, false, false] HT_ HW_ hHeld ?_
                    refine takeA 21 172 #[true, true, true, true, true, true, true, true, true, true, true, true, true, true, true, true, true, true, true, true, false, true, false, false, false, false] HT_ HW_ hHeld ?_
                    refine one_ (i := 20) (N := some 171) #[true, true, true, true, true, true, true, true, true, true, true, true, true, true, true, true, true, true, true, true, true, true, false, false, false, false] rfl rfl (one_of HT_.out (by kernel_rfl)) (by decide) (fun K hK => ?_)
                    refine goes_ Tryd.func17 (by kernel_rfl) rfl #[.agg #[.int .i64 x471000_118, .int .i64 x471001_118, .string x471002_118], .agg #[.int .i64 x472000_144, .int .i64 x472001_144, .string x472002_144]] (by rfl) rfl rfl (by (try simp only [List.map_toArray, List.map_cons, List.map_nil]); first | done | rfl | (simp only [List.length_drop, List.length_take]; rfl)) ?_
                    with_reducible refine (alumlaw19_or.calls kj144 x471000_118 x471001_118 x471002_118 x472000_144 x472001_144 x472002_144 t488 t489 t490 _ A241.out).mono ?_
                    rintro e w263 ⟨rfl, hb⟩
                    refine ⟨_, rfl, ?_⟩
                    replace BK373 := blkB BK373 hb
                    replace BK374 := blkB BK374 hb
                    replace BK375 := blkB BK375 hb
                    replace BK470 := blkB BK470 hb
                    replace BK471 := blkB BK471 hb
                    replace BK479 := blkB BK479 hb
                    replace BK480 := blkB BK480 hb
                    replace HB := stepB HB hb
                    (try clear hb)
                    (try clear hb2)
                    (try clear hk)
                    (try clear hi)
                    refine hK.out _ _ ⟨bc BK479 0, bc BK479 1, bc BK479 2, bc BK470 0, bc BK470 1, bc BK470 2, bc BK471 0, bc BK471 1, bc BK471 2, bc BK480 0, bc BK480 1, bc BK480 2⟩ (fun hHeld => ?_)
                    clear hK K
                    refine normA 171 ?_
                    refine pureA 22 173 #[true, true, true, true, true, true, true, true, true, true, true, true, true, true, true, true, true, true, true, true, true, true, true, false, false, false] HT_ ?_
                    refine pureA 23 174 #[true, true, true, true, true, true, true, true, true, true, true, true, true, true, true, true, true, true, true, true, true, true, true, true, false, false] HT_ ?_
                    refine pureA 24 175 #[true, true, true, true, true, true, true, true, true, true, true, true, true, true, true, true, true, true, true, true, true, true, true, true, true, false] HT_ ?_
                    refine pureA 25 6 #[true, true, true, true, true, true, true, true, true, true, true, true, true, true, true, true, true, true, true, true, true, true, true, true, true, true] HT_ ?_
                    refine done_ (done_of HT_.out (by kernel_rfl)) ?_
                    try go_wp2
                    go_ret
                    exact ⟨by first | rfl | (simp [errW_none, errW_some] <;> rfl) | (simp [*, errW_none, errW_some] <;> rfl), by repeat (first | (with_reducible first | exact HB.out | apply below_alloc | apply pw_below_drewN | apply below_drew1 | refine below_set ?_ GE373.out | refine below_set ?_ GE374.out | refine below_set ?_ GE375.out | refine below_set ?_ GE470.out | refine below_set ?_ GE471.out | refine below_set ?_ GE479.out | refine below_set ?_ GE480.out) | exact HB.out)⟩
                  ·rw [if_neg c218] at H
                   exact absurd H (by simp)
                ·replace c172 := Bool.eq_false_iff.mpr c172
                 subst c172
                 have H1 : (none) = some r := by rw [if_neg (show ¬ (false = true) by decide)] at H; exact H
                 clear H
                 have H := H1
                 clear H1
                 exact absurd H (by simp)
    ·replace c48 := Bool.eq_false_iff.mpr c48
     subst c48
     have H1 : ((alumlaw19_sanity.f k1).bind fun t382 => (some t382)) = some r := by rw [if_neg (show ¬ (false = true) by decide)] at H; exact H
     clear H
     have H := H1
     clear H1
     replace H := Option.bind_eq_some_iff.mp H
     obtain ⟨t382, A2640, H⟩ := H
     replace H : (some t382) = some r := H
     have A264 := Aside0.mk A2640
     clear A2640
     obtain rfl := Option.some.inj H
     go_wp2_with (first | ((with_reducible refine gate_callee (f := 12) rfl ?_); refine goesL_ (some 41) rfl rfl Tryd.func12 (by kernel_rfl) rfl #[] rfl (by (try simp only [List.map_toArray, List.map_cons, List.map_nil]); first | done | rfl | (simp only [List.length_drop, List.length_take]; rfl)) ?_; (with_reducible refine (alumlaw19_sanity.calls k1  t382 _ A264.out).mono ?_); rintro e w265 ⟨rfl, hb⟩; refine ⟨_, rfl, ?_⟩; replace HO_17 := Aside0.mk (Kd.R_below (by (with_reducible repeat (first | apply Kd.R_alloc | apply Kd.R_drewN | apply Kd.R_drew)); exact HO_17.out) hb); replace BK373 := blkB BK373 hb; replace BK374 := blkB BK374 hb; replace BK375 := blkB BK375 hb; replace HB := stepB HB hb; (try clear hb); (try clear hb2); (try clear hk); (try clear hi)))
     go_ret
     exact ⟨by first | rfl | (simp [errW_none, errW_some] <;> rfl) | (simp [*, errW_none, errW_some] <;> rfl), by repeat (first | (with_reducible first | exact HB.out | apply below_alloc | apply pw_below_drewN | apply below_drew1 | refine below_set ?_ GE373.out | refine below_set ?_ GE374.out | refine below_set ?_ GE375.out) | exact HB.out)⟩
end Go.Proofs.YtmhnfdgegejlkaaDoor.P
end

section
namespace Go.Proofs.YtmhnfdgegejlkaaDoor.valueLogic
open Go Go.ChangeShapes Go.WideShapes Go.ChangeAt Go.RowKit Go.Proofs.YtmhnfdgegejlkaaDoor.P Go.Proofs.YtmhnfdgegejlkaaDoorW.PrintWords
open Go.ChangeMaps (open_string shut_string)
set_option linter.unusedVariables false
theorem own : ownKnob Tryd.prog.godebug = none := by kernel_rfl
theorem laidOut : laidOutB Tryd.prog = true := by kernel_rfl
theorem door_met (os : Os) (args : Array Value) : laidMetH Tryd.prog Rows.valueLogicRow.laid ((World.doorLaid Tryd.prog 72 os).forCall (fun _ _ => 0) ⟨#[], args, []⟩).memory :=
  laidMetH_of_parts3 (fuel := 8) (laidMet_of_run' 8 (by kernel_rfl) (by kernel_rfl)) (by kernel_rfl) (by kernel_rfl)
set_option maxRecDepth 100000 in
set_option maxHeartbeats 4000000 in
theorem lifted (os : Os) (started : os.Started) (H : Type) (enc : TypeId × Value → H) :
    ReturnsInHanded {} Tryd.checked os 4 .any (fun w args => (Rows.valueLogicSpec.pre enc Tryd.prog Tryd.f4 [] false w args ∧ laidMetH Tryd.prog Rows.valueLogicRow.laid w) ∧ sizedMet enc Tryd.prog Tryd.f4 (OpenSpec.ofChange Rows.valueLogicSpec) false w args)
      (Rows.valueLogicSpec.post enc Tryd.prog Tryd.f4 false true false false) := by
  refine returnsInHanded_of_change_and (C := Tryd.checked) (X := fun w _ => laidMetH Tryd.prog Rows.valueLogicRow.laid w) (fun _ _ _ hh h => h.of_heap hh) own started (by kernel_rfl) Tryd.func4
    (ChangeSpec.witness_shaped (enc := enc) (C := Tryd.checked) (os := os) (X := fun w _ => laidMetH Tryd.prog Rows.valueLogicRow.laid w) false (World.doorLaid Tryd.prog 72 os) #[.agg #[.int .i64 0, .int .i64 0, .string ByteArray.empty], .agg #[.int .i64 0, .int .i64 0, .string ByteArray.empty], .agg #[.int .i64 0, .int .i64 0, .string ByteArray.empty]] 8 rfl (World.shaped_of_RefB (by kernel_rfl) (by kernel_rfl)) (by kernel_rfl) (by kernel_rfl) (by kernel_rfl) (door_met os _)) ?_
  intro W base args ds gs before hval0 hW hcnd hsz0 hL _
  have hsz : (DataW.weightsEach Tryd.prog (Tryd.f4.params.toList ++ Rows.valueLogicSpec.plain.varTypes Tryd.prog) (ds ++ gs)).all (· ≤ reachBytes) = true := hsz0
  have hval : ∀ (j : Nat) t v, Tryd.f4.params[j]? = some t → args[j]? = some v → Value.okWide Tryd.prog W .any base t v := hval0
  have hW' := hW
  obtain ⟨p, q, hA0, hV, rfl, hfz, hnd⟩ := hW
  have hA : DataW.TrodAll enc Tryd.prog W 0 (fun _ => true) true Tryd.f4.params.toList args.toList ds p := hA0
  rw [Tryd.params4] at hA hval hsz
  obtain ⟨v0, vs0, d0, ds0, p0, q0, hargs, rfl, rfl, h0, r0⟩ := trodAll_cons hA
  obtain ⟨v1, vs1, d1, ds1, p1, q1, rfl, rfl, rfl, h1, r1⟩ := trodAll_cons r0
  obtain ⟨v2, vs2, d2, ds2, p2, q2, rfl, rfl, rfl, h2, r2⟩ := trodAll_cons r1
  obtain ⟨rfl, rfl, rfl⟩ := trodAll_nil r2
  obtain rfl : args = #[v0, v1, v2] := Array.toList_inj.1 hargs
  obtain ⟨rfl, rfl⟩ := trodVars_none hV
  have wt0 : ∀ m ∈ d0.weights Tryd.prog 23, m ≤ reachBytes := fun m hm => of_decide_eq_true (List.all_eq_true.1 hsz m (DataW.weights_mem_each (j := 0) rfl rfl m hm))
  have k0 := h0
  have lt0 : ∀ x ∈ p0, x.block < W.heap.size := by obtain ⟨m, hm⟩ := k0; exact DataW.trod_lt m _ _ _ hm
  obtain ⟨cs0, rfl, hcs0⟩ := okWide_struct Tryd.underlying23 (hval 0 23 v0 rfl rfl)
  obtain ⟨fu0, hf0⟩ := h0
  obtain ⟨x0, K0, g0⟩ := (op23 enc W).2 fu0 _ _ _ hf0 wt0
  obtain rfl : cs0 = #[.int .i64 x0.f0, .int .i64 x0.f1, .string x0.f2] := Array.toList_inj.1 (k23_open K0)
  have wt1 : ∀ m ∈ d1.weights Tryd.prog 23, m ≤ reachBytes := fun m hm => of_decide_eq_true (List.all_eq_true.1 hsz m (DataW.weights_mem_each (j := 1) rfl rfl m hm))
  have k1 := h1
  have lt1 : ∀ x ∈ p1, x.block < W.heap.size := by obtain ⟨m, hm⟩ := k1; exact DataW.trod_lt m _ _ _ hm
  obtain ⟨cs1, rfl, hcs1⟩ := okWide_struct Tryd.underlying23 (hval 1 23 v1 rfl rfl)
  obtain ⟨fu1, hf1⟩ := h1
  obtain ⟨x1, K1, g1⟩ := (op23 enc W).2 fu1 _ _ _ hf1 wt1
  obtain rfl : cs1 = #[.int .i64 x1.f0, .int .i64 x1.f1, .string x1.f2] := Array.toList_inj.1 (k23_open K1)
  have wt2 : ∀ m ∈ d2.weights Tryd.prog 23, m ≤ reachBytes := fun m hm => of_decide_eq_true (List.all_eq_true.1 hsz m (DataW.weights_mem_each (j := 2) rfl rfl m hm))
  have k2 := h2
  have lt2 : ∀ x ∈ p2, x.block < W.heap.size := by obtain ⟨m, hm⟩ := k2; exact DataW.trod_lt m _ _ _ hm
  obtain ⟨cs2, rfl, hcs2⟩ := okWide_struct Tryd.underlying23 (hval 2 23 v2 rfl rfl)
  obtain ⟨fu2, hf2⟩ := h2
  obtain ⟨x2, K2, g2⟩ := (op23 enc W).2 fu2 _ _ _ hf2 wt2
  obtain rfl : cs2 = #[.int .i64 x2.f0, .int .i64 x2.f1, .string x2.f2] := Array.toList_inj.1 (k23_open K2)
  clear hA0 hval0 hsz0 hsz
  obtain ⟨k, h⟩ := V.ValueLogic x0 x1 x2 g0 g1 g2
  refine (alumlaw19_ValueLogic.calls k x0.f0 x0.f1 x0.f2 x1.f0 x1.f1 x1.f2 x2.f0 x2.f1 x2.f2 true W h).mono fun e W' ⟨he, bel⟩ => ?_
  subst he
  exact ⟨_, rfl, _, _, _, [], _, [], hW', trodAll_mk1 (shut_bool Tryd.underlying4 _), (trodAll_cons_mk (Below.trod laidOut (by kernel_rfl) (of_decide_eq_true (by kernel_rfl)) k0 bel lt0) (trodAll_cons_mk (Below.trod laidOut (by kernel_rfl) (of_decide_eq_true (by kernel_rfl)) k1 bel lt1) (trodAll_cons_mk (Below.trod laidOut (by kernel_rfl) (of_decide_eq_true (by kernel_rfl)) k2 bel lt2) trodAll_mk0))), rfl, bel.frame _, fun h => by cases h⟩
theorem over : Rows.valueLogicRow.holds Tryd.pinned (OpenSpec.ofChange Rows.valueLogicSpec) :=
  OpenClaim.holds_of_wide 4 Tryd.f4 rfl rfl rfl rfl rfl rfl rfl ⟨rfl, rfl, rfl, rfl, rfl⟩ rfl rfl rfl rfl rfl (by kernel_rfl) Tryd.func4 (by kernel_rfl)
    (of_decide_eq_true (by kernel_rfl)) (by unfold Func.isWrapper; first | (rw [if_pos (by decide +kernel)]; kernel_rfl) | (rw [if_neg (by decide +kernel)]; exact ⟨rfl, rfl⟩))
    (fun os started H enc _ => lifted os started H enc)
theorem proved : Rows.ValueLogicSaid := over
theorem card : Rows.ValueLogicCardSaid :=
  Claim7.holds_tied_plain_at .later [] [.data, .data, .data] true (true, "eaa6d28c6d451e0ea154fbe0a4847d0661ee0ec78c71484efcf210b047928753") true
    proved (fun _ h => by cases h) (by kernel_rfl) (fun _ h => by cases h) valueLogic_row_tie rfl ⟨rfl, rfl⟩ (by kernel_rfl) rfl
    (fun f fn hf hfn => by
      obtain rfl : f = 4 := Option.some.inj ((show Tryd.prog.funcNamed "alum/alumlaw19.ValueLogic" = some 4 by kernel_rfl).symm.trans hf) |>.symm
      obtain rfl : fn = Tryd.f4 := (Option.some.inj (Tryd.func4.symm.trans hfn)).symm
      exact ⟨by kernel_rfl, fun j t ht => by
        rw [Tryd.params4] at ht
        have hm : t ∈ [23, 23, 23] := by simpa using Array.mem_of_getElem? ht
        have hall : ([23, 23, 23].all fun u => !Tryd.prog.wantsStandIn u) = true := by kernel_rfl
        exact (show Tryd.prog.wantsStandIn t = false by simpa using List.all_eq_true.1 hall t hm)⟩)
    (by kernel_rfl)
#print axioms card
end Go.Proofs.YtmhnfdgegejlkaaDoor.valueLogic
end
