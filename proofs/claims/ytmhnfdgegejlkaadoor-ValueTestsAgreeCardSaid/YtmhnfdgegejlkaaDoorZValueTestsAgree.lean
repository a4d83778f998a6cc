/- For any two right values of the same kind that are not null, value.Test tells with each operator what value.Compare says, and the law function answers true for every input; the tied card. No condition beyond the card's own. -/
import Derived.Test.YtmhnfdgegejlkaaDoorBValueTestsAgree0
import Derived.Test.YtmhnfdgegejlkaaDoorBValueTestsAgree2
import Derived.Test.YtmhnfdgegejlkaaDoorBValueTestsAgree1
import Derived.Test.YtmhnfdgegejlkaaDoorWWords
import Derived.WalkKit
import Derived.ProofKit
import Derived.SizedLaws
import Derived.DataReads
import Derived.OpenShut
import Derived.ShutString
import Derived.ChangeOld
import Derived.Below
import Derived.LaidMore
import Derived.Stop.Joined
import Derived.Lib.Bytealg
import Derived.KernelRfl
import Derived.Test.YtmhnfdgegejlkaaDoorRows
import Derived.Test.YtmhnfdgegejlkaaDoorCards
import Derived.Test.YtmhnfdgegejlkaaDoorTie
import Derived.SevenTiedAt
namespace Go.Proofs.YtmhnfdgegejlkaaDoor.P
open Go.RowKit Go.Proofs.YtmhnfdgegejlkaaDoorW.PrintWords Go.Proofs.YtmhnfdgegejlkaaDoorW.PrintLast Go.Proofs.YtmhnfdgegejlkaaDoorW.PrintMore
attribute [local go_sem] max2_int min2_int max_two min_two max_three min_three max_four min_four
set_option linter.unusedVariables false
set_option linter.unusedSimpArgs false
attribute [local go_sem high] eqA23
/-! ### alumlaw19_ValueTestsAgree: function 3 -/
mutual
def alumlaw19_ValueTestsAgree.j0 : Nat → Bool → Int → Int → ByteArray → Int → Int → ByteArray → Option (Bool)
  | 0, _, _, _, _, _, _, _ => none
  | k + 1, x32, x317000, x317001, x317002, x318000, x318001, x318002 => if x32 = true then ((alumlaw19_sanity.f k).bind fun t320 => (some t320)) else ((value_Compare.f k x317000 x317001 x317002 x318000 x318001 x318002).bind fun t321 => ((some (([(t321 == 0), (t321 != 0), decide (t321 < 0), decide (t321 ≤ 0), decide (t321 > 0), decide (t321 ≥ 0)] : List Bool) : List Bool)).bind fun y322 => (alumlaw19_ValueTestsAgree.l0 k y322 (([6, 7, 10, 11, 8, 9] : List Int)) (y322.length : Int) 0 x317000 x317001 x317002 x318000 x318001 x318002)))
def alumlaw19_ValueTestsAgree.l0 : Nat → List Bool → List Int → Int → Int → Int → Int → ByteArray → Int → Int → ByteArray → Option (Bool)
  | 0, _, _, _, _, _, _, _, _, _, _ => none
  | k + 1, x6, x7, x52, x53, x317000, x317001, x317002, x318000, x318001, x318002 => if x53 < x52 then ((value_Test.f k (wrap64 (6 + x53)) x317000 x317001 x317002 x318000 x318001 x318002).bind fun bt329 => (if 0 ≤ x53 then (if x53 < (x7.length : Int) then ((value_Test.f k (rd x7 x53) x318000 x318001 x318002 x317000 x317001 x317002).bind fun bt335 => (if bt329.2.2.2 = 0 then (if bt335.2.2.2 = 0 then (if x53 < (x6.length : Int) then ((alumref19_Bool.f (rdOf false x6 x53)).bind fun bt341 => (if (!(bt329.1 == bt341.1) || (!(bt329.2.1 == bt341.2.1) || (!(bt329.2.2.1.toList == bt341.2.2.toList)))) = true then (none) else (if (!(bt335.1 == bt329.1) || (!(bt335.2.1 == bt329.2.1) || (!(bt335.2.2.1.toList == bt329.2.2.1.toList)))) = true then (none) else (alumlaw19_ValueTestsAgree.l0 k x6 x7 x52 (wrap64 (x53 + 1)) x317000 x317001 x317002 x318000 x318001 x318002)))) else (none)) else (none)) else (none))) else (none)) else (none))) else ((alumlaw19_sanity.f k).bind fun t328 => (some t328))
end
def alumlaw19_ValueTestsAgree.f (k : Nat) (a0_0 : Int) (a0_1 : Int) (a0_2 : ByteArray) (a1_0 : Int) (a1_1 : Int) (a1_2 : ByteArray) : Option (Bool) := (alumref19_Right.f a0_0 a0_1 a0_2).bind fun t318 => (if t318 = true then ((alumref19_Right.f a1_0 a1_1 a1_2).bind fun t319 => (if t319 = true then (if a0_0 = a1_0 then (alumlaw19_ValueTestsAgree.j0 k (a0_0 == 0) a0_0 a0_1 a0_2 a1_0 a1_1 a1_2) else (alumlaw19_ValueTestsAgree.j0 k true a0_0 a0_1 a0_2 a1_0 a1_1 a1_2)) else (alumlaw19_ValueTestsAgree.j0 k true a0_0 a0_1 a0_2 a1_0 a1_1 a1_2))) else (alumlaw19_ValueTestsAgree.j0 k true a0_0 a0_1 a0_2 a1_0 a1_1 a1_2))
theorem alumlaw19_ValueTestsAgree.mono_l : ∀ k, (∀ y0 y1 y2 y3 y4 y5 y6, LeO (alumlaw19_ValueTestsAgree.j0 k y0 y1 y2 y3 y4 y5 y6) (alumlaw19_ValueTestsAgree.j0 (k + 1) y0 y1 y2 y3 y4 y5 y6)) ∧ (∀ y0 y1 y2 y3 y4 y5 y6 y7 y8 y9, LeO (alumlaw19_ValueTestsAgree.l0 k y0 y1 y2 y3 y4 y5 y6 y7 y8 y9) (alumlaw19_ValueTestsAgree.l0 (k + 1) y0 y1 y2 y3 y4 y5 y6 y7 y8 y9))
  | 0 => ⟨fun _ _ _ _ _ _ _ r h => by simp [alumlaw19_ValueTestsAgree.j0] at h, fun _ _ _ _ _ _ _ _ _ _ r h => by simp [alumlaw19_ValueTestsAgree.l0] at h⟩
  | k + 1 => by
    obtain ⟨ih0, ih1⟩ := alumlaw19_ValueTestsAgree.mono_l k
    refine ⟨?_, ?_⟩
    · intro y0 y1 y2 y3 y4 y5 y6
      unfold alumlaw19_ValueTestsAgree.j0
      repeat' first
      | (with_reducible exact ih0 _ _ _ _ _ _ _)
      | (with_reducible exact ih1 _ _ _ _ _ _ _ _ _ _)
      | (with_reducible exact alumlaw19_sanity.mono _)
      | (with_reducible exact value_Compare.mono _ _ _ _ _ _ _)
      | (with_reducible exact value_Test.mono _ _ _ _ _ _ _ _)
      | (with_reducible exact LeO.refl _)
      | (with_reducible exact LeO.none _)
      | (with_reducible refine LeO.ite ?_ ?_)
      | (with_reducible refine LeO.bind ?_ (fun _ => ?_))
      | exact ih0 _ _ _ _ _ _ _
      | exact ih1 _ _ _ _ _ _ _ _ _ _
      | exact alumlaw19_sanity.mono _
      | exact value_Compare.mono _ _ _ _ _ _ _
      | exact value_Test.mono _ _ _ _ _ _ _ _
      | exact LeO.none _
      | refine LeO.ite ?_ ?_
      | refine LeO.bind ?_ (fun _ => ?_)
    · intro y0 y1 y2 y3 y4 y5 y6 y7 y8 y9
      unfold alumlaw19_ValueTestsAgree.l0
      repeat' first
      | (with_reducible exact ih0 _ _ _ _ _ _ _)
      | (with_reducible exact ih1 _ _ _ _ _ _ _ _ _ _)
      | (with_reducible exact alumlaw19_sanity.mono _)
      | (with_reducible exact value_Compare.mono _ _ _ _ _ _ _)
      | (with_reducible exact value_Test.mono _ _ _ _ _ _ _ _)
      | (with_reducible exact LeO.refl _)
      | (with_reducible exact LeO.none _)
      | (with_reducible refine LeO.ite ?_ ?_)
      | (with_reducible refine LeO.bind ?_ (fun _ => ?_))
      | exact ih0 _ _ _ _ _ _ _
      | exact ih1 _ _ _ _ _ _ _ _ _ _
      | exact alumlaw19_sanity.mono _
      | exact value_Compare.mono _ _ _ _ _ _ _
      | exact value_Test.mono _ _ _ _ _ _ _ _
      | exact LeO.none _
      | refine LeO.ite ?_ ?_
      | refine LeO.bind ?_ (fun _ => ?_)
theorem alumlaw19_ValueTestsAgree.mono : ∀ a0 a1 a2 a3 a4 a5 k, LeO (alumlaw19_ValueTestsAgree.f k a0 a1 a2 a3 a4 a5) (alumlaw19_ValueTestsAgree.f (k + 1) a0 a1 a2 a3 a4 a5) := by
  intro a0 a1 a2 a3 a4 a5 k
  obtain ⟨ih0, ih1⟩ := alumlaw19_ValueTestsAgree.mono_l k
  unfold alumlaw19_ValueTestsAgree.f
  repeat' first
      | (with_reducible exact ih0 _ _ _ _ _ _ _)
      | (with_reducible exact ih1 _ _ _ _ _ _ _ _ _ _)
      | (with_reducible exact alumlaw19_sanity.mono _)
      | (with_reducible exact value_Compare.mono _ _ _ _ _ _ _)
      | (with_reducible exact value_Test.mono _ _ _ _ _ _ _ _)
      | (with_reducible exact LeO.refl _)
      | (with_reducible exact LeO.none _)
      | (with_reducible refine LeO.ite ?_ ?_)
      | (with_reducible refine LeO.bind ?_ (fun _ => ?_))
      | exact ih0 _ _ _ _ _ _ _
      | exact ih1 _ _ _ _ _ _ _ _ _ _
      | exact alumlaw19_sanity.mono _
      | exact value_Compare.mono _ _ _ _ _ _ _
      | exact value_Test.mono _ _ _ _ _ _ _ _
      | exact LeO.none _
      | refine LeO.ite ?_ ?_
      | refine LeO.bind ?_ (fun _ => ?_)
def alumlaw19_ValueTestsAgree.T10 : Bool × List (List Nat × List Nat) := (true, [([], []), ([], []), ([0, 1], [0, 1]), ([2], [2]), ([], []), ([], []), ([3, 4, 5], [3, 4, 5]), ([6], [6]), ([7], [7]), ([7], [7]), ([], []), ([10, 8, 6, 0, 1, 2, 3, 4, 5, 6, 7, 8, 10], [8, 10]), ([9, 11, 0, 1, 2, 3, 4, 5, 6, 7, 8, 9, 10, 11], [9])])
def alumlaw19_ValueTestsAgree.B10 : List Nat := [0, 0, 3, 7, 0, 0, 63, 127, 255, 255, 0, 1535, 4095]
theorem alumlaw19_ValueTestsAgree.tab10 : rtab .any (opsOf Tryd.f3 10) = alumlaw19_ValueTestsAgree.T10 := by kernel_rfl
theorem alumlaw19_ValueTestsAgree.bits10 : waitsOk alumlaw19_ValueTestsAgree.T10.2 alumlaw19_ValueTestsAgree.B10 = true := by kernel_rfl
def alumlaw19_ValueTestsAgree.T11 : Bool × List (List Nat × List Nat) := (true, [([], []), ([0], [0]), ([1], [1]), ([2], [2]), ([3, 2], [2, 3]), ([2, 4], [2, 4]), ([5, 2], [5]), ([6], [6]), ([6], [6]), ([6], [6]), ([8, 9, 6], [6, 8, 9]), ([10, 6], [6, 10]), ([11, 6, 6], [6, 11]), ([7, 12, 6], [6, 7, 12]), ([6, 13], [6, 13]), ([14, 12], [14]), ([15], [15]), ([15], [15]), ([16, 17, 15], [15, 16, 17]), ([15, 18], [15, 18])])
def alumlaw19_ValueTestsAgree.B11 : List Nat := [0, 1, 3, 7, 15, 31, 63, 127, 127, 127, 895, 1919, 3967, 8191, 16383, 32767, 65535, 65535, 262143, 524287]
theorem alumlaw19_ValueTestsAgree.tab11 : rtab .any (opsOf Tryd.f3 11) = alumlaw19_ValueTestsAgree.T11 := by kernel_rfl
theorem alumlaw19_ValueTestsAgree.bits11 : waitsOk alumlaw19_ValueTestsAgree.T11.2 alumlaw19_ValueTestsAgree.B11 = true := by kernel_rfl
set_option maxHeartbeats 8000000 in
set_option maxRecDepth 100000 in
theorem alumlaw19_ValueTestsAgree.calls (k : Nat) (a0_0 : Int) (a0_1 : Int) (a0_2 : ByteArray) (a1_0 : Int) (a1_1 : Int) (a1_2 : ByteArray) (r : Bool) (w : World) (h : alumlaw19_ValueTestsAgree.f k a0_0 a0_1 a0_2 a1_0 a1_1 a1_2 = some r) :
    Calls Tryd.prog 3 #[.agg #[.int .i64 a0_0, .int .i64 a0_1, .string a0_2], .agg #[.int .i64 a1_0, .int .i64 a1_1, .string a1_2]] w fun e w' => e = .returned (.bool r) ∧ Below w.heap.size w w' := by
  have hu23 := Tryd.underlying23
  have HB := Aside0.mk (Below.refl w.heap.size w)
  have H : ((alumref19_Right.f a0_0 a0_1 a0_2).bind fun t318 => (if t318 = true then ((alumref19_Right.f a1_0 a1_1 a1_2).bind fun t319 => (if t319 = true then (if a0_0 = a1_0 then (alumlaw19_ValueTestsAgree.j0 k (a0_0 == 0) a0_0 a0_1 a0_2 a1_0 a1_1 a1_2) else (alumlaw19_ValueTestsAgree.j0 k true a0_0 a0_1 a0_2 a1_0 a1_1 a1_2)) else (alumlaw19_ValueTestsAgree.j0 k true a0_0 a0_1 a0_2 a1_0 a1_1 a1_2))) else (alumlaw19_ValueTestsAgree.j0 k true a0_0 a0_1 a0_2 a1_0 a1_1 a1_2))) = some r := h
  clear h
  have HC3 := Aside0.mk H
  clear H
  go_enter Tryd.func3, Tryd.ntmps3
  go_upto_region 1 with (first | ((with_reducible refine gate_dst (N := 2) rfl ?_); refine box_event ?hg (N := 2) ?hd (cs := #[.int .i64 a0_0, .int .i64 a0_1, .string a0_2]) (t := 23) ?hr ?_; (case hd => rfl); (case hg => rfl); (case hr => first | (go_simp; done) | (go_simp; rfl)); intro gb316 hg w4 hbox hb; have n0_ := Aside0.mk (below_step (by repeat (first | (with_reducible first | exact HB.out | apply below_alloc | apply pw_below_drewN | apply below_drew1) | exact HB.out)) hb); have n1_ := Aside0.mk (hbox); have n2_ := Aside0.mk ((by rw [hg]; exact (below_size (by repeat (first | (with_reducible first | exact HB.out | apply below_alloc | apply pw_below_drewN | apply below_drew1) | exact HB.out))) : w.heap.size ≤ gb316)); have n3_ := Aside0.mk ((by rw [hg]; exact (below_size (by repeat (first | (with_reducible first | exact HB.out | apply below_alloc | apply pw_below_drewN | apply below_drew1) | exact HB.out))) : w.heap.size ≤ gb316)); clear HB; have HB := n0_; have BK316 := n1_; have GW316 := n2_; have GE316 := n3_; clear n0_ n1_ n2_ n3_; clear hb hbox hg) | ((with_reducible refine gate_dst (N := 3) rfl ?_); refine box_event ?hg (N := 3) ?hd (cs := #[.int .i64 a1_0, .int .i64 a1_1, .string a1_2]) (t := 23) ?hr ?_; (case hd => rfl); (case hg => rfl); (case hr => first | (go_simp; done) | (go_simp; rfl)); intro gb317 hg w5 hbox hb; have n0_ := Aside0.mk (blk_below (g := gb316) (o := .cells #[.int .i64 a0_0, .int .i64 a0_1, .string a0_2] 23 (0, 0)) (by (with_reducible repeat (first | refine blk_drewN ?_ _ | refine blk_drew ?_ | refine blk_alloc ?_ _)); exact BK316.out) hb); have n1_ := Aside0.mk (below_step (by repeat (first | (with_reducible first | exact HB.out | apply below_alloc | apply pw_below_drewN | apply below_drew1 | refine below_set ?_ GE316.out) | exact HB.out)) hb); have n2_ := Aside0.mk (hbox); have n3_ := Aside0.mk ((by rw [hg]; exact (below_size (by repeat (first | (with_reducible first | exact HB.out | apply below_alloc | apply pw_below_drewN | apply below_drew1 | refine below_set ?_ GE316.out) | exact HB.out))) : w.heap.size ≤ gb317)); have n4_ := Aside0.mk ((by rw [hg]; exact (below_size (by repeat (first | (with_reducible first | exact HB.out | apply below_alloc | apply pw_below_drewN | apply below_drew1 | refine below_set ?_ GE316.out) | exact HB.out))) : w.heap.size ≤ gb317)); have n5_ := Aside0.mk ((by rw [hg]; exact Nat.ne_of_lt (blk_lt (g := gb316) (o := .cells #[.int .i64 a0_0, .int .i64 a0_1, .string a0_2] 23 (0, 0)) (by (with_reducible repeat (first | refine blk_drewN ?_ _ | refine blk_drew ?_ | refine blk_alloc ?_ _)); exact BK316.out)) : gb316 ≠ gb317)); have n6_ := Aside0.mk ((by rw [hg]; exact Nat.ne_of_gt (blk_lt (g := gb316) (o := .cells #[.int .i64 a0_0, .int .i64 a0_1, .string a0_2] 23 (0, 0)) (by (with_reducible repeat (first | refine blk_drewN ?_ _ | refine blk_drew ?_ | refine blk_alloc ?_ _)); exact BK316.out)) : gb317 ≠ gb316)); clear BK316; clear HB; have BK316 := n0_; have HB := n1_; have BK317 := n2_; have GW317 := n3_; have GE317 := n4_; have NB316_317 := n5_; have NB317_316 := n6_; clear n0_ n1_ n2_ n3_ n4_ n5_ n6_; clear hb hbox hg))
  (try simp only [Act.put, List.setIfInBounds_toArray, List.set_cons_zero, List.set_cons_succ])
  go_cut [32] (fun v32 wc => ∃ (kq : Nat) (x32_2 : Bool), v32 = .bool x32_2 ∧ Aside0 (alumlaw19_ValueTestsAgree.j0 kq x32_2 a0_0 a0_1 a0_2 a1_0 a1_1 a1_2 = some r) ∧ Aside0 (kq ≤ k) ∧ Aside0 (wc.heap[gb316]? = some (.cells #[.int .i64 a0_0, .int .i64 a0_1, .string a0_2] 23 (0, 0))) ∧ Aside0 (wc.heap[gb317]? = some (.cells #[.int .i64 a1_0, .int .i64 a1_1, .string a1_2] 23 (0, 0))) ∧ Aside0 (Below w.heap.size w wc))
  case first =>
    have H := HC3.out
    clear HC3
    replace H := Option.bind_eq_some_iff.mp H
    obtain ⟨t318, A60, H⟩ := H
    replace H : (if t318 = true then ((alumref19_Right.f a1_0 a1_1 a1_2).bind fun t319 => (if t319 = true then (if a0_0 = a1_0 then (alumlaw19_ValueTestsAgree.j0 k (a0_0 == 0) a0_0 a0_1 a0_2 a1_0 a1_1 a1_2) else (alumlaw19_ValueTestsAgree.j0 k true a0_0 a0_1 a0_2 a1_0 a1_1 a1_2)) else (alumlaw19_ValueTestsAgree.j0 k true a0_0 a0_1 a0_2 a1_0 a1_1 a1_2))) else (alumlaw19_ValueTestsAgree.j0 k true a0_0 a0_1 a0_2 a1_0 a1_1 a1_2)) = some r := H
    have A6 := Aside0.mk A60
    clear A60
    by_cases c7 : t318 = true
    · subst c7
      have H1 : ((alumref19_Right.f a1_0 a1_1 a1_2).bind fun t319 => (if t319 = true then (if a0_0 = a1_0 then (alumlaw19_ValueTestsAgree.j0 k (a0_0 == 0) a0_0 a0_1 a0_2 a1_0 a1_1 a1_2) else (alumlaw19_ValueTestsAgree.j0 k true a0_0 a0_1 a0_2 a1_0 a1_1 a1_2)) else (alumlaw19_ValueTestsAgree.j0 k true a0_0 a0_1 a0_2 a1_0 a1_1 a1_2))) = some r := by rw [if_pos rfl] at H; exact H
      clear H
      have H := H1
      clear H1
      replace H := Option.bind_eq_some_iff.mp H
      obtain ⟨t319, A80, H⟩ := H
      replace H : (if t319 = true then (if a0_0 = a1_0 then (alumlaw19_ValueTestsAgree.j0 k (a0_0 == 0) a0_0 a0_1 a0_2 a1_0 a1_1 a1_2) else (alumlaw19_ValueTestsAgree.j0 k true a0_0 a0_1 a0_2 a1_0 a1_1 a1_2)) else (alumlaw19_ValueTestsAgree.j0 k true a0_0 a0_1 a0_2 a1_0 a1_1 a1_2)) = some r := H
      have A8 := Aside0.mk A80
      clear A80
      by_cases c9 : t319 = true
      · subst c9
        have H1 : (if a0_0 = a1_0 then (alumlaw19_ValueTestsAgree.j0 k (a0_0 == 0) a0_0 a0_1 a0_2 a1_0 a1_1 a1_2) else (alumlaw19_ValueTestsAgree.j0 k true a0_0 a0_1 a0_2 a1_0 a1_1 a1_2)) = some r := by rw [if_pos rfl] at H; exact H
        clear H
        have H := H1
        clear H1
        by_cases c10 : a0_0 = a1_0
        · rw [if_pos c10] at H
          have c10b0 : (a0_0 == a1_0) = true := beq_iff_eq.mpr c10
          have c10b1 : (a0_0 != a1_0) = false := bne_eq_false_iff_eq.mpr c10
          clear c10
          (first | rw [c10b0] | (simp only [i64_w, i32_w]; rw [c10b0]) | skip)
          have H' := Aside0.mk H
          clear H
          have hnb11 := NB316_317.out
          have hnc11 := NB317_316.out
          have hcz12_0 : w5.cell? ⟨gb316, 0, none⟩ = some (.int .i64 a0_0) := (blk_cell BK316.out 0).trans rfl
          have hcz12_1 : w5.cell? ⟨gb316, 1, none⟩ = some (.int .i64 a0_1) := (blk_cell BK316.out 1).trans rfl
          have hcz12_2 : w5.cell? ⟨gb316, 2, none⟩ = some (.string a0_2) := (blk_cell BK316.out 2).trans rfl
          have hfz12_0 := blk_frozen BK316.out 0
          have hfz12_1 := blk_frozen BK316.out 1
          have hfz12_2 := blk_frozen BK316.out 2
          go_wp2_with (first | ((with_reducible refine gate_callee (f := 11) rfl ?_); refine goesL_ (some 14) rfl rfl Tryd.func11 (by kernel_rfl) rfl #[.agg #[.int .i64 a0_0, .int .i64 a0_1, .string a0_2]] rfl (by (try simp only [List.map_toArray, List.map_cons, List.map_nil]); first | done | rfl | (simp only [List.length_drop, List.length_take]; rfl)) ?_; (with_reducible refine (alumref19_Right.calls a0_0 a0_1 a0_2 true _ A6.out).mono ?_); rintro e w13 ⟨rfl, hb⟩; refine ⟨_, rfl, ?_⟩; have n0_ := Aside0.mk (blk_below (g := gb316) (o := .cells #[.int .i64 a0_0, .int .i64 a0_1, .string a0_2] 23 (0, 0)) (by (with_reducible repeat (first | refine blk_drewN ?_ _ | refine blk_drew ?_ | refine blk_alloc ?_ _)); exact BK316.out) hb); have n1_ := Aside0.mk (blk_below (g := gb317) (o := .cells #[.int .i64 a1_0, .int .i64 a1_1, .string a1_2] 23 (0, 0)) (by (with_reducible repeat (first | refine blk_drewN ?_ _ | refine blk_drew ?_ | refine blk_alloc ?_ _)); exact BK317.out) hb); have n2_ := Aside0.mk (below_step (by repeat (first | (with_reducible first | exact HB.out | apply below_alloc | apply pw_below_drewN | apply below_drew1 | refine below_set ?_ GE316.out | refine below_set ?_ GE317.out) | exact HB.out)) hb); clear BK316; clear BK317; clear HB; have BK316 := n0_; have BK317 := n1_; have HB := n2_; clear n0_ n1_ n2_; (try clear hb); (try clear hb2); (try clear hk); (try clear hi); have hcz14_0 : w13.cell? ⟨gb317, 0, none⟩ = some (.int .i64 a1_0) := (blk_cell BK317.out 0).trans rfl; have hcz14_1 : w13.cell? ⟨gb317, 1, none⟩ = some (.int .i64 a1_1) := (blk_cell BK317.out 1).trans rfl; have hcz14_2 : w13.cell? ⟨gb317, 2, none⟩ = some (.string a1_2) := (blk_cell BK317.out 2).trans rfl; have hfz14_0 := blk_frozen BK317.out 0; have hfz14_1 := blk_frozen BK317.out 1; have hfz14_2 := blk_frozen BK317.out 2) | (go_at_call 11; (with_reducible refine (alumref19_Right.calls a1_0 a1_1 a1_2 true _ A8.out).mono ?_); rintro e w15 ⟨rfl, hb⟩; have n0_ := Aside0.mk (blk_below (g := gb316) (o := .cells #[.int .i64 a0_0, .int .i64 a0_1, .string a0_2] 23 (0, 0)) (by (with_reducible repeat (first | refine blk_drewN ?_ _ | refine blk_drew ?_ | refine blk_alloc ?_ _)); exact BK316.out) hb); have n1_ := Aside0.mk (blk_below (g := gb317) (o := .cells #[.int .i64 a1_0, .int .i64 a1_1, .string a1_2] 23 (0, 0)) (by (with_reducible repeat (first | refine blk_drewN ?_ _ | refine blk_drew ?_ | refine blk_alloc ?_ _)); exact BK317.out) hb); have n2_ := Aside0.mk (below_step (by repeat (first | (with_reducible first | exact HB.out | apply below_alloc | apply pw_below_drewN | apply below_drew1 | refine below_set ?_ GE316.out | refine below_set ?_ GE317.out) | exact HB.out)) hb); clear BK316; clear BK317; clear HB; have BK316 := n0_; have BK317 := n1_; have HB := n2_; clear n0_ n1_ n2_; (try clear hb); (try clear hb2); (try clear hk); (try clear hi); have hcz16_0 : w15.cell? ⟨gb316, 0, none⟩ = some (.int .i64 a0_0) := (blk_cell BK316.out 0).trans rfl; have hcz16_1 : w15.cell? ⟨gb316, 1, none⟩ = some (.int .i64 a0_1) := (blk_cell BK316.out 1).trans rfl; have hcz16_2 : w15.cell? ⟨gb316, 2, none⟩ = some (.string a0_2) := (blk_cell BK316.out 2).trans rfl; have hfz16_0 := blk_frozen BK316.out 0; have hfz16_1 := blk_frozen BK316.out 1; have hfz16_2 := blk_frozen BK316.out 2; have hcz17_0 : w15.cell? ⟨gb317, 0, none⟩ = some (.int .i64 a1_0) := (blk_cell BK317.out 0).trans rfl; have hcz17_1 : w15.cell? ⟨gb317, 1, none⟩ = some (.int .i64 a1_1) := (blk_cell BK317.out 1).trans rfl; have hcz17_2 : w15.cell? ⟨gb317, 2, none⟩ = some (.string a1_2) := (blk_cell BK317.out 2).trans rfl; have hfz17_0 := blk_frozen BK317.out 0; have hfz17_1 := blk_frozen BK317.out 1; have hfz17_2 := blk_frozen BK317.out 2))
          go_meet
          case rel => exact ⟨_, ((a0_0 == 0)), (by first | rfl | (simp; done) | (simp [*]; done)), H', ⟨by first | omega | exact Nat.le_refl _⟩, ⟨by (with_reducible repeat (first | refine blk_drewN ?_ _ | refine blk_drew ?_ | refine blk_alloc ?_ _)); exact BK316.out⟩, ⟨by (with_reducible repeat (first | refine blk_drewN ?_ _ | refine blk_drew ?_ | refine blk_alloc ?_ _)); exact BK317.out⟩, ⟨by repeat (first | (with_reducible first | exact HB.out | apply below_alloc | apply pw_below_drewN | apply below_drew1 | refine below_set ?_ GE316.out | refine below_set ?_ GE317.out) | exact HB.out)⟩⟩
        · rw [if_neg c10] at H
          have c10b0 : (a0_0 == a1_0) = false := beq_eq_false_iff_ne.mpr c10
          have c10b1 : (a0_0 != a1_0) = true := bne_iff_ne.mpr c10
          (first | rw [c10b0] | (simp only [i64_w, i32_w]; rw [c10b0]) | skip)
          have H' := Aside0.mk H
          clear H
          have hnb18 := NB316_317.out
          have hnc18 := NB317_316.out
          have hcz19_0 : w5.cell? ⟨gb316, 0, none⟩ = some (.int .i64 a0_0) := (blk_cell BK316.out 0).trans rfl
          have hcz19_1 : w5.cell? ⟨gb316, 1, none⟩ = some (.int .i64 a0_1) := (blk_cell BK316.out 1).trans rfl
          have hcz19_2 : w5.cell? ⟨gb316, 2, none⟩ = some (.string a0_2) := (blk_cell BK316.out 2).trans rfl
          have hfz19_0 := blk_frozen BK316.out 0
          have hfz19_1 := blk_frozen BK316.out 1
          have hfz19_2 := blk_frozen BK316.out 2
          go_wp2_with (first | ((with_reducible refine gate_callee (f := 11) rfl ?_); refine goesL_ (some 14) rfl rfl Tryd.func11 (by kernel_rfl) rfl #[.agg #[.int .i64 a0_0, .int .i64 a0_1, .string a0_2]] rfl (by (try simp only [List.map_toArray, List.map_cons, List.map_nil]); first | done | rfl | (simp only [List.length_drop, List.length_take]; rfl)) ?_; (with_reducible refine (alumref19_Right.calls a0_0 a0_1 a0_2 true _ A6.out).mono ?_); rintro e w20 ⟨rfl, hb⟩; refine ⟨_, rfl, ?_⟩; have n0_ := Aside0.mk (blk_below (g := gb316) (o := .cells #[.int .i64 a0_0, .int .i64 a0_1, .string a0_2] 23 (0, 0)) (by (with_reducible repeat (first | refine blk_drewN ?_ _ | refine blk_drew ?_ | refine blk_alloc ?_ _)); exact BK316.out) hb); have n1_ := Aside0.mk (blk_below (g := gb317) (o := .cells #[.int .i64 a1_0, .int .i64 a1_1, .string a1_2] 23 (0, 0)) (by (with_reducible repeat (first | refine blk_drewN ?_ _ | refine blk_drew ?_ | refine blk_alloc ?_ _)); exact BK317.out) hb); have n2_ := Aside0.mk (below_step (by repeat (first | (with_reducible first | exact HB.out | apply below_alloc | apply pw_below_drewN | apply below_drew1 | refine below_set ?_ GE316.out | refine below_set ?_ GE317.out) | exact HB.out)) hb); clear BK316; clear BK317; clear HB; have BK316 := n0_; have BK317 := n1_; have HB := n2_; clear n0_ n1_ n2_; (try clear hb); (try clear hb2); (try clear hk); (try clear hi); have hcz21_0 : w20.cell? ⟨gb317, 0, none⟩ = some (.int .i64 a1_0) := (blk_cell BK317.out 0).trans rfl; have hcz21_1 : w20.cell? ⟨gb317, 1, none⟩ = some (.int .i64 a1_1) := (blk_cell BK317.out 1).trans rfl; have hcz21_2 : w20.cell? ⟨gb317, 2, none⟩ = some (.string a1_2) := (blk_cell BK317.out 2).trans rfl; have hfz21_0 := blk_frozen BK317.out 0; have hfz21_1 := blk_frozen BK317.out 1; have hfz21_2 := blk_frozen BK317.out 2) | (go_at_call 11; (with_reducible refine (alumref19_Right.calls a1_0 a1_1 a1_2 true _ A8.out).mono ?_); rintro e w22 ⟨rfl, hb⟩; have n0_ := Aside0.mk (blk_below (g := gb316) (o := .cells #[.int .i64 a0_0, .int .i64 a0_1, .string a0_2] 23 (0, 0)) (by (with_reducible repeat (first | refine blk_drewN ?_ _ | refine blk_drew ?_ | refine blk_alloc ?_ _)); exact BK316.out) hb); have n1_ := Aside0.mk (blk_below (g := gb317) (o := .cells #[.int .i64 a1_0, .int .i64 a1_1, .string a1_2] 23 (0, 0)) (by (with_reducible repeat (first | refine blk_drewN ?_ _ | refine blk_drew ?_ | refine blk_alloc ?_ _)); exact BK317.out) hb); have n2_ := Aside0.mk (below_step (by repeat (first | (with_reducible first | exact HB.out | apply below_alloc | apply pw_below_drewN | apply below_drew1 | refine below_set ?_ GE316.out | refine below_set ?_ GE317.out) | exact HB.out)) hb); clear BK316; clear BK317; clear HB; have BK316 := n0_; have BK317 := n1_; have HB := n2_; clear n0_ n1_ n2_; (try clear hb); (try clear hb2); (try clear hk); (try clear hi); have hcz23_0 : w22.cell? ⟨gb316, 0, none⟩ = some (.int .i64 a0_0) := (blk_cell BK316.out 0).trans rfl; have hcz23_1 : w22.cell? ⟨gb316, 1, none⟩ = some (.int .i64 a0_1) := (blk_cell BK316.out 1).trans rfl; have hcz23_2 : w22.cell? ⟨gb316, 2, none⟩ = some (.string a0_2) := (blk_cell BK316.out 2).trans rfl; have hfz23_0 := blk_frozen BK316.out 0; have hfz23_1 := blk_frozen BK316.out 1; have hfz23_2 := blk_frozen BK316.out 2; have hcz24_0 : w22.cell? ⟨gb317, 0, none⟩ = some (.int .i64 a1_0) := (blk_cell BK317.out 0).trans rfl; have hcz24_1 : w22.cell? ⟨gb317, 1, none⟩ = some (.int .i64 a1_1) := (blk_cell BK317.out 1).trans rfl; have hcz24_2 : w22.cell? ⟨gb317, 2, none⟩ = some (.string a1_2) := (blk_cell BK317.out 2).trans rfl; have hfz24_0 := blk_frozen BK317.out 0; have hfz24_1 := blk_frozen BK317.out 1; have hfz24_2 := blk_frozen BK317.out 2))
          go_meet
          case rel => exact ⟨_, (true), (by first | rfl | (simp; done) | (simp [*]; done)), H', ⟨by first | omega | exact Nat.le_refl _⟩, ⟨by (with_reducible repeat (first | refine blk_drewN ?_ _ | refine blk_drew ?_ | refine blk_alloc ?_ _)); exact BK316.out⟩, ⟨by (with_reducible repeat (first | refine blk_drewN ?_ _ | refine blk_drew ?_ | refine blk_alloc ?_ _)); exact BK317.out⟩, ⟨by repeat (first | (with_reducible first | exact HB.out | apply below_alloc | apply pw_below_drewN | apply below_drew1 | refine below_set ?_ GE316.out | refine below_set ?_ GE317.out) | exact HB.out)⟩⟩
      · replace c9 := Bool.eq_false_iff.mpr c9
        subst c9
        have H1 : (alumlaw19_ValueTestsAgree.j0 k true a0_0 a0_1 a0_2 a1_0 a1_1 a1_2) = some r := by rw [if_neg (show ¬ (false = true) by decide)] at H; exact H
        clear H
        have H := H1
        clear H1
        have H' := Aside0.mk H
        clear H
        have hnb25 := NB316_317.out
        have hnc25 := NB317_316.out
        have hcz26_0 : w5.cell? ⟨gb316, 0, none⟩ = some (.int .i64 a0_0) := (blk_cell BK316.out 0).trans rfl
        have hcz26_1 : w5.cell? ⟨gb316, 1, none⟩ = some (.int .i64 a0_1) := (blk_cell BK316.out 1).trans rfl
        have hcz26_2 : w5.cell? ⟨gb316, 2, none⟩ = some (.string a0_2) := (blk_cell BK316.out 2).trans rfl
        have hfz26_0 := blk_frozen BK316.out 0
        have hfz26_1 := blk_frozen BK316.out 1
        have hfz26_2 := blk_frozen BK316.out 2
        go_wp2_with (first | ((with_reducible refine gate_callee (f := 11) rfl ?_); refine goesL_ (some 14) rfl rfl Tryd.func11 (by kernel_rfl) rfl #[.agg #[.int .i64 a0_0, .int .i64 a0_1, .string a0_2]] rfl (by (try simp only [List.map_toArray, List.map_cons, List.map_nil]); first | done | rfl | (simp only [List.length_drop, List.length_take]; rfl)) ?_; (with_reducible refine (alumref19_Right.calls a0_0 a0_1 a0_2 true _ A6.out).mono ?_); rintro e w27 ⟨rfl, hb⟩; refine ⟨_, rfl, ?_⟩; have n0_ := Aside0.mk (blk_below (g := gb316) (o := .cells #[.int .i64 a0_0, .int .i64 a0_1, .string a0_2] 23 (0, 0)) (by (with_reducible repeat (first | refine blk_drewN ?_ _ | refine blk_drew ?_ | refine blk_alloc ?_ _)); exact BK316.out) hb); have n1_ := Aside0.mk (blk_below (g := gb317) (o := .cells #[.int .i64 a1_0, .int .i64 a1_1, .string a1_2] 23 (0, 0)) (by (with_reducible repeat (first | refine blk_drewN ?_ _ | refine blk_drew ?_ | refine blk_alloc ?_ _)); exact BK317.out) hb); have n2_ := Aside0.mk (below_step (by repeat (first | (with_reducible first | exact HB.out | apply below_alloc | apply pw_below_drewN | apply below_drew1 | refine below_set ?_ GE316.out | refine below_set ?_ GE317.out) | exact HB.out)) hb); clear BK316; clear BK317; clear HB; have BK316 := n0_; have BK317 := n1_; have HB := n2_; clear n0_ n1_ n2_; (try clear hb); (try clear hb2); (try clear hk); (try clear hi); have hcz28_0 : w27.cell? ⟨gb317, 0, none⟩ = some (.int .i64 a1_0) := (blk_cell BK317.out 0).trans rfl; have hcz28_1 : w27.cell? ⟨gb317, 1, none⟩ = some (.int .i64 a1_1) := (blk_cell BK317.out 1).trans rfl; have hcz28_2 : w27.cell? ⟨gb317, 2, none⟩ = some (.string a1_2) := (blk_cell BK317.out 2).trans rfl; have hfz28_0 := blk_frozen BK317.out 0; have hfz28_1 := blk_frozen BK317.out 1; have hfz28_2 := blk_frozen BK317.out 2) | (go_at_call 11; (with_reducible refine (alumref19_Right.calls a1_0 a1_1 a1_2 false _ A8.out).mono ?_); rintro e w29 ⟨rfl, hb⟩; have n0_ := Aside0.mk (blk_below (g := gb316) (o := .cells #[.int .i64 a0_0, .int .i64 a0_1, .string a0_2] 23 (0, 0)) (by (with_reducible repeat (first | refine blk_drewN ?_ _ | refine blk_drew ?_ | refine blk_alloc ?_ _)); exact BK316.out) hb); have n1_ := Aside0.mk (blk_below (g := gb317) (o := .cells #[.int .i64 a1_0, .int .i64 a1_1, .string a1_2] 23 (0, 0)) (by (with_reducible repeat (first | refine blk_drewN ?_ _ | refine blk_drew ?_ | refine blk_alloc ?_ _)); exact BK317.out) hb); have n2_ := Aside0.mk (below_step (by repeat (first | (with_reducible first | exact HB.out | apply below_alloc | apply pw_below_drewN | apply below_drew1 | refine below_set ?_ GE316.out | refine below_set ?_ GE317.out) | exact HB.out)) hb); clear BK316; clear BK317; clear HB; have BK316 := n0_; have BK317 := n1_; have HB := n2_; clear n0_ n1_ n2_; (try clear hb); (try clear hb2); (try clear hk); (try clear hi)))
        go_meet
        case rel => exact ⟨_, (true), (by first | rfl | (simp; done) | (simp [*]; done)), H', ⟨by first | omega | exact Nat.le_refl _⟩, ⟨by (with_reducible repeat (first | refine blk_drewN ?_ _ | refine blk_drew ?_ | refine blk_alloc ?_ _)); exact BK316.out⟩, ⟨by (with_reducible repeat (first | refine blk_drewN ?_ _ | refine blk_drew ?_ | refine blk_alloc ?_ _)); exact BK317.out⟩, ⟨by repeat (first | (with_reducible first | exact HB.out | apply below_alloc | apply pw_below_drewN | apply below_drew1 | refine below_set ?_ GE316.out | refine below_set ?_ GE317.out) | exact HB.out)⟩⟩
    · replace c7 := Bool.eq_false_iff.mpr c7
      subst c7
      have H1 : (alumlaw19_ValueTestsAgree.j0 k true a0_0 a0_1 a0_2 a1_0 a1_1 a1_2) = some r := by rw [if_neg (show ¬ (false = true) by decide)] at H; exact H
      clear H
      have H := H1
      clear H1
      have H' := Aside0.mk H
      clear H
      have hnb30 := NB316_317.out
      have hnc30 := NB317_316.out
      have hcz31_0 : w5.cell? ⟨gb316, 0, none⟩ = some (.int .i64 a0_0) := (blk_cell BK316.out 0).trans rfl
      have hcz31_1 : w5.cell? ⟨gb316, 1, none⟩ = some (.int .i64 a0_1) := (blk_cell BK316.out 1).trans rfl
      have hcz31_2 : w5.cell? ⟨gb316, 2, none⟩ = some (.string a0_2) := (blk_cell BK316.out 2).trans rfl
      have hfz31_0 := blk_frozen BK316.out 0
      have hfz31_1 := blk_frozen BK316.out 1
      have hfz31_2 := blk_frozen BK316.out 2
      go_wp2_with (first | ((with_reducible refine gate_callee (f := 11) rfl ?_); refine goesL_ (some 14) rfl rfl Tryd.func11 (by kernel_rfl) rfl #[.agg #[.int .i64 a0_0, .int .i64 a0_1, .string a0_2]] rfl (by (try simp only [List.map_toArray, List.map_cons, List.map_nil]); first | done | rfl | (simp only [List.length_drop, List.length_take]; rfl)) ?_; (with_reducible refine (alumref19_Right.calls a0_0 a0_1 a0_2 false _ A6.out).mono ?_); rintro e w32 ⟨rfl, hb⟩; refine ⟨_, rfl, ?_⟩; have n0_ := Aside0.mk (blk_below (g := gb316) (o := .cells #[.int .i64 a0_0, .int .i64 a0_1, .string a0_2] 23 (0, 0)) (by (with_reducible repeat (first | refine blk_drewN ?_ _ | refine blk_drew ?_ | refine blk_alloc ?_ _)); exact BK316.out) hb); have n1_ := Aside0.mk (blk_below (g := gb317) (o := .cells #[.int .i64 a1_0, .int .i64 a1_1, .string a1_2] 23 (0, 0)) (by (with_reducible repeat (first | refine blk_drewN ?_ _ | refine blk_drew ?_ | refine blk_alloc ?_ _)); exact BK317.out) hb); have n2_ := Aside0.mk (below_step (by repeat (first | (with_reducible first | exact HB.out | apply below_alloc | apply pw_below_drewN | apply below_drew1 | refine below_set ?_ GE316.out | refine below_set ?_ GE317.out) | exact HB.out)) hb); clear BK316; clear BK317; clear HB; have BK316 := n0_; have BK317 := n1_; have HB := n2_; clear n0_ n1_ n2_; (try clear hb); (try clear hb2); (try clear hk); (try clear hi)))
      go_meet
      case rel => exact ⟨_, (true), (by first | rfl | (simp; done) | (simp [*]; done)), H', ⟨by first | omega | exact Nat.le_refl _⟩, ⟨by (with_reducible repeat (first | refine blk_drewN ?_ _ | refine blk_drew ?_ | refine blk_alloc ?_ _)); exact BK316.out⟩, ⟨by (with_reducible repeat (first | refine blk_drewN ?_ _ | refine blk_drew ?_ | refine blk_alloc ?_ _)); exact BK317.out⟩, ⟨by repeat (first | (with_reducible first | exact HB.out | apply below_alloc | apply pw_below_drewN | apply below_drew1 | refine below_set ?_ GE316.out | refine below_set ?_ GE317.out) | exact HB.out)⟩⟩
  case rest =>
    clear HC3
    try clear c1
    try clear c2
    try clear p2
    try clear c3
    try clear c7
    try clear c9
    try clear c10
    try clear c10b0
    try clear c10b1
    try clear c11
    try clear c18
    try clear c25
    try clear c30
    try clear hcz12_0
    try clear hcz12_1
    try clear hcz12_2
    try clear hcz14_0
    try clear hcz14_1
    try clear hcz14_2
    try clear hcz16_0
    try clear hcz16_1
    try clear hcz16_2
    try clear hcz17_0
    try clear hcz17_1
    try clear hcz17_2
    try clear hcz19_0
    try clear hcz19_1
    try clear hcz19_2
    try clear hcz21_0
    try clear hcz21_1
    try clear hcz21_2
    try clear hcz23_0
    try clear hcz23_1
    try clear hcz23_2
    try clear hcz24_0
    try clear hcz24_1
    try clear hcz24_2
    try clear hcz26_0
    try clear hcz26_1
    try clear hcz26_2
    try clear hcz28_0
    try clear hcz28_1
    try clear hcz28_2
    try clear hcz31_0
    try clear hcz31_1
    try clear hcz31_2
    try clear hfz12_0
    try clear hfz12_1
    try clear hfz12_2
    try clear hfz14_0
    try clear hfz14_1
    try clear hfz14_2
    try clear hfz16_0
    try clear hfz16_1
    try clear hfz16_2
    try clear hfz17_0
    try clear hfz17_1
    try clear hfz17_2
    try clear hfz19_0
    try clear hfz19_1
    try clear hfz19_2
    try clear hfz21_0
    try clear hfz21_1
    try clear hfz21_2
    try clear hfz23_0
    try clear hfz23_1
    try clear hfz23_2
    try clear hfz24_0
    try clear hfz24_1
    try clear hfz24_2
    try clear hfz26_0
    try clear hfz26_1
    try clear hfz26_2
    try clear hfz28_0
    try clear hfz28_1
    try clear hfz28_2
    try clear hfz31_0
    try clear hfz31_1
    try clear hfz31_2
    obtain ⟨kq, x32_2, rfl, HA, HJ2, BK316, BK317, HB⟩ := hcut
    cases kq with
    | zero => exact absurd HA.out (by simp [alumlaw19_ValueTestsAgree.j0])
    | succ kj2 =>
      have H := HA.out
      clear HA
      simp only [alumlaw19_ValueTestsAgree.j0] at H
      by_cases c33 : x32_2 = true
      · subst c33
        have H1 : ((alumlaw19_sanity.f kj2).bind fun t320 => (some t320)) = some r := by rw [if_pos rfl] at H; exact H
        clear H
        have H := H1
        clear H1
        replace H := Option.bind_eq_some_iff.mp H
        obtain ⟨t320, A340, H⟩ := H
        replace H : (some t320) = some r := H
        have A34 := Aside0.mk A340
        clear A340
        obtain rfl := Option.some.inj H
        go_wp2_with (first | ((with_reducible refine gate_callee (f := 12) rfl ?_); refine goesL_ (some 33) rfl rfl Tryd.func12 (by kernel_rfl) rfl #[] rfl (by (try simp only [List.map_toArray, List.map_cons, List.map_nil]); first | done | rfl | (simp only [List.length_drop, List.length_take]; rfl)) ?_; (with_reducible refine (alumlaw19_sanity.calls kj2  t320 _ A34.out).mono ?_); rintro e w35 ⟨rfl, hb⟩; refine ⟨_, rfl, ?_⟩; have n0_ := Aside0.mk (blk_below (g := gb316) (o := .cells #[.int .i64 a0_0, .int .i64 a0_1, .string a0_2] 23 (0, 0)) (by (with_reducible repeat (first | refine blk_drewN ?_ _ | refine blk_drew ?_ | refine blk_alloc ?_ _)); exact BK316.out) hb); have n1_ := Aside0.mk (blk_below (g := gb317) (o := .cells #[.int .i64 a1_0, .int .i64 a1_1, .string a1_2] 23 (0, 0)) (by (with_reducible repeat (first | refine blk_drewN ?_ _ | refine blk_drew ?_ | refine blk_alloc ?_ _)); exact BK317.out) hb); have n2_ := Aside0.mk (below_step (by repeat (first | (with_reducible first | exact HB.out | apply below_alloc | apply pw_below_drewN | apply below_drew1 | refine below_set ?_ GE316.out | refine below_set ?_ GE317.out) | exact HB.out)) hb); clear BK316; clear BK317; clear HB; have BK316 := n0_; have BK317 := n1_; have HB := n2_; clear n0_ n1_ n2_; (try clear hb); (try clear hb2); (try clear hk); (try clear hi)))
        go_ret
        exact ⟨by first | rfl | (simp [errW_none, errW_some] <;> rfl) | (simp [*, errW_none, errW_some] <;> rfl), by repeat (first | (with_reducible first | exact HB.out | apply below_alloc | apply pw_below_drewN | apply below_drew1 | refine below_set ?_ GE316.out | refine below_set ?_ GE317.out) | exact HB.out)⟩
      · replace c33 := Bool.eq_false_iff.mpr c33
        subst c33
        have H1 : ((value_Compare.f kj2 a0_0 a0_1 a0_2 a1_0 a1_1 a1_2).bind fun t321 => ((some (([(t321 == 0), (t321 != 0), decide (t321 < 0), decide (t321 ≤ 0), decide (t321 > 0), decide (t321 ≥ 0)] : List Bool) : List Bool)).bind fun y322 => (alumlaw19_ValueTestsAgree.l0 kj2 y322 (([6, 7, 10, 11, 8, 9] : List Int)) (y322.length : Int) 0 a0_0 a0_1 a0_2 a1_0 a1_1 a1_2))) = some r := by rw [if_neg (show ¬ (false = true) by decide)] at H; exact H
        clear H
        have H := H1
        clear H1
        replace H := Option.bind_eq_some_iff.mp H
        obtain ⟨t321, A360, H⟩ := H
        replace H : ((some (([(t321 == 0), (t321 != 0), decide (t321 < 0), decide (t321 ≤ 0), decide (t321 > 0), decide (t321 ≥ 0)] : List Bool) : List Bool)).bind fun y322 => (alumlaw19_ValueTestsAgree.l0 kj2 y322 (([6, 7, 10, 11, 8, 9] : List Int)) (y322.length : Int) 0 a0_0 a0_1 a0_2 a1_0 a1_1 a1_2)) = some r := H
        have A36 := Aside0.mk A360
        clear A360
        obtain ⟨y322, hy322⟩ : ∃ y_ : List Bool, y_ = (([(t321 == 0), (t321 != 0), decide (t321 < 0), decide (t321 ≤ 0), decide (t321 > 0), decide (t321 ≥ 0)] : List Bool)) := ⟨_, rfl⟩
        replace H : (alumlaw19_ValueTestsAgree.l0 kj2 y322 (([6, 7, 10, 11, 8, 9] : List Int)) (y322.length : Int) 0 a0_0 a0_1 a0_2 a1_0 a1_1 a1_2) = some r := by first | (rw [hy322]; with_reducible exact H) | (have H2_ := (Option.bind_some _ _).symm.trans H; rw [hy322]; with_reducible exact H2_) | (have H2_ := (Option.bind_some _ _).symm.trans H; with_reducible exact H2_) | with_reducible exact H | (rw [hy322]; exact H) | exact H
        have Ny322 := Aside0.mk hy322
        clear hy322
        obtain ⟨y325, hy325⟩ : ∃ y_ : List Int, y_ = (([6, 7, 10, 11, 8, 9] : List Int)) := ⟨_, rfl⟩
        replace H : (alumlaw19_ValueTestsAgree.l0 kj2 y322 y325 (y322.length : Int) 0 a0_0 a0_1 a0_2 a1_0 a1_1 a1_2) = some r := by first | (rw [hy325]; with_reducible exact H) | (have H2_ := (Option.bind_some _ _).symm.trans H; rw [hy325]; with_reducible exact H2_) | (have H2_ := (Option.bind_some _ _).symm.trans H; with_reducible exact H2_) | with_reducible exact H | (rw [hy325]; exact H) | exact H
        have Ny325 := Aside0.mk hy325
        clear hy325
        have H' := Aside0.mk H
        clear H
        have hnb37 := NB316_317.out
        have hnc37 := NB317_316.out
        have hcz38_0 : wc.cell? ⟨gb316, 0, none⟩ = some (.int .i64 a0_0) := (blk_cell BK316.out 0).trans rfl
        have hcz38_1 : wc.cell? ⟨gb316, 1, none⟩ = some (.int .i64 a0_1) := (blk_cell BK316.out 1).trans rfl
        have hcz38_2 : wc.cell? ⟨gb316, 2, none⟩ = some (.string a0_2) := (blk_cell BK316.out 2).trans rfl
        have hfz38_0 := blk_frozen BK316.out 0
        have hfz38_1 := blk_frozen BK316.out 1
        have hfz38_2 := blk_frozen BK316.out 2
        have hcz39_0 : wc.cell? ⟨gb317, 0, none⟩ = some (.int .i64 a1_0) := (blk_cell BK317.out 0).trans rfl
        have hcz39_1 : wc.cell? ⟨gb317, 1, none⟩ = some (.int .i64 a1_1) := (blk_cell BK317.out 1).trans rfl
        have hcz39_2 : wc.cell? ⟨gb317, 2, none⟩ = some (.string a1_2) := (blk_cell BK317.out 2).trans rfl
        have hfz39_0 := blk_frozen BK317.out 0
        have hfz39_1 := blk_frozen BK317.out 1
        have hfz39_2 := blk_frozen BK317.out 2
        go_wp2_with (first | ((with_reducible refine gate_callee (f := 13) rfl ?_); refine goesL_ (some 36) rfl rfl Tryd.func13 (by kernel_rfl) rfl #[.agg #[.int .i64 a0_0, .int .i64 a0_1, .string a0_2], .agg #[.int .i64 a1_0, .int .i64 a1_1, .string a1_2]] rfl (by (try simp only [List.map_toArray, List.map_cons, List.map_nil]); first | done | rfl | (simp only [List.length_drop, List.length_take]; rfl)) ?_; (with_reducible refine (value_Compare.calls kj2 a0_0 a0_1 a0_2 a1_0 a1_1 a1_2 t321 _ A36.out).mono ?_); rintro e w40 ⟨rfl, hb⟩; refine ⟨_, rfl, ?_⟩; have n0_ := Aside0.mk (blk_below (g := gb316) (o := .cells #[.int .i64 a0_0, .int .i64 a0_1, .string a0_2] 23 (0, 0)) (by (with_reducible repeat (first | refine blk_drewN ?_ _ | refine blk_drew ?_ | refine blk_alloc ?_ _)); exact BK316.out) hb); have n1_ := Aside0.mk (blk_below (g := gb317) (o := .cells #[.int .i64 a1_0, .int .i64 a1_1, .string a1_2] 23 (0, 0)) (by (with_reducible repeat (first | refine blk_drewN ?_ _ | refine blk_drew ?_ | refine blk_alloc ?_ _)); exact BK317.out) hb); have n2_ := Aside0.mk (below_step (by repeat (first | (with_reducible first | exact HB.out | apply below_alloc | apply pw_below_drewN | apply below_drew1 | refine below_set ?_ GE316.out | refine below_set ?_ GE317.out) | exact HB.out)) hb); clear BK316; clear BK317; clear HB; have BK316 := n0_; have BK317 := n1_; have HB := n2_; clear n0_ n1_ n2_; (try clear hb); (try clear hb2); (try clear hk); (try clear hi)) | ((with_reducible refine gate_dst (N := 49) rfl ?_); refine Kd.R_lit Kd.bool _ 4 ?hg (N := 49) ?hd (xs := ([(t321 == 0), (t321 != 0), decide (t321 < 0), decide (t321 ≤ 0), decide (t321 > 0), decide (t321 ≥ 0)] : List Bool)) (inner := [.bool (t321 == 0), .bool (t321 != 0), .bool (decide (t321 < 0)), .bool (decide (t321 ≤ 0)), .bool (decide (t321 > 0)), .bool (decide (t321 ≥ 0))]) (ok := fun _ => True) (okp := fun _ => True) ?hr ?hp (fun _ hk => hk) trivial (Below.refl _ _) (Nat.le_refl _) (by simp) ?_; (case hd => rfl); (case hg => rfl); (case hr => first | (go_simp; done) | (go_simp; rfl)); (case hp => exact (Reps.one (show Kd.M Kd.bool _ _ _ (t321 == 0) [.bool (t321 == 0)] from rfl) (Reps.one (show Kd.M Kd.bool _ _ _ (t321 != 0) [.bool (t321 != 0)] from rfl) (Reps.one (show Kd.M Kd.bool _ _ _ (decide (t321 < 0)) [.bool (decide (t321 < 0))] from rfl) (Reps.one (show Kd.M Kd.bool _ _ _ (decide (t321 ≤ 0)) [.bool (decide (t321 ≤ 0))] from rfl) (Reps.one (show Kd.M Kd.bool _ _ _ (decide (t321 > 0)) [.bool (decide (t321 > 0))] from rfl) (Reps.one (show Kd.M Kd.bool _ _ _ (decide (t321 ≥ 0)) [.bool (decide (t321 ≥ 0))] from rfl) (Reps.none _ _)))))))); intro v323 w41 ho42 hb hg_ hnew_; clear hg_ hnew_; (first | rw [← Ny322.out] at ho42 | (simp only [Int.reduceToNat] at ho42; rw [← Ny322.out] at ho42)); have n0_ := Aside0.mk (Kd.R_lower ho42 (below_size (by repeat (first | (with_reducible first | exact HB.out | apply below_alloc | apply pw_below_drewN | apply below_drew1 | refine below_set ?_ GE316.out | refine below_set ?_ GE317.out) | exact HB.out)))); have n1_ := Aside0.mk (blk_below (g := gb316) (o := .cells #[.int .i64 a0_0, .int .i64 a0_1, .string a0_2] 23 (0, 0)) (by (with_reducible repeat (first | refine blk_drewN ?_ _ | refine blk_drew ?_ | refine blk_alloc ?_ _)); exact BK316.out) hb); have n2_ := Aside0.mk (blk_below (g := gb317) (o := .cells #[.int .i64 a1_0, .int .i64 a1_1, .string a1_2] 23 (0, 0)) (by (with_reducible repeat (first | refine blk_drewN ?_ _ | refine blk_drew ?_ | refine blk_alloc ?_ _)); exact BK317.out) hb); have n3_ := Aside0.mk (below_step (by repeat (first | (with_reducible first | exact HB.out | apply below_alloc | apply pw_below_drewN | apply below_drew1 | refine below_set ?_ GE316.out | refine below_set ?_ GE317.out) | exact HB.out)) hb); clear BK316; clear BK317; clear HB; have HO324 := n0_; have BK316 := n1_; have BK317 := n2_; have HB := n3_; clear n0_ n1_ n2_ n3_; clear hb ho42) | ((with_reducible refine gate_dst (N := 50) rfl ?_); refine Kd.R_lit (Kd.int .i64) _ 3 ?hg (N := 50) ?hd (xs := ([6, 7, 10, 11, 8, 9] : List Int)) (inner := [.int .i64 6, .int .i64 7, .int .i64 10, .int .i64 11, .int .i64 8, .int .i64 9]) (ok := fun _ => True) (okp := fun _ => True) ?hr ?hp (fun _ hk => hk) trivial (Below.refl _ _) (Nat.le_refl _) (by simp) ?_; (case hd => rfl); (case hg => rfl); (case hr => first | (go_simp; done) | (go_simp; rfl)); (case hp => exact (Reps.one (show Kd.M (Kd.int .i64) _ _ _ 6 [.int .i64 6] from rfl) (Reps.one (show Kd.M (Kd.int .i64) _ _ _ 7 [.int .i64 7] from rfl) (Reps.one (show Kd.M (Kd.int .i64) _ _ _ 10 [.int .i64 10] from rfl) (Reps.one (show Kd.M (Kd.int .i64) _ _ _ 11 [.int .i64 11] from rfl) (Reps.one (show Kd.M (Kd.int .i64) _ _ _ 8 [.int .i64 8] from rfl) (Reps.one (show Kd.M (Kd.int .i64) _ _ _ 9 [.int .i64 9] from rfl) (Reps.none _ _)))))))); intro v326 w43 ho44 hb hg_ hnew_; clear hg_ hnew_; (first | rw [← Ny325.out] at ho44 | (simp only [Int.reduceToNat] at ho44; rw [← Ny325.out] at ho44)); have n0_ := Aside0.mk (Kd.R_below (by (with_reducible repeat (first | apply Kd.R_alloc | apply Kd.R_drewN | apply Kd.R_drew)); exact HO324.out) hb); have n1_ := Aside0.mk (Kd.R_lower ho44 (below_size (by repeat (first | (with_reducible first | exact HB.out | apply below_alloc | apply pw_below_drewN | apply below_drew1 | refine below_set ?_ GE316.out | refine below_set ?_ GE317.out) | exact HB.out)))); have n2_ := Aside0.mk (blk_below (g := gb316) (o := .cells #[.int .i64 a0_0, .int .i64 a0_1, .string a0_2] 23 (0, 0)) (by (with_reducible repeat (first | refine blk_drewN ?_ _ | refine blk_drew ?_ | refine blk_alloc ?_ _)); exact BK316.out) hb); have n3_ := Aside0.mk (blk_below (g := gb317) (o := .cells #[.int .i64 a1_0, .int .i64 a1_1, .string a1_2] 23 (0, 0)) (by (with_reducible repeat (first | refine blk_drewN ?_ _ | refine blk_drew ?_ | refine blk_alloc ?_ _)); exact BK317.out) hb); have n4_ := Aside0.mk (below_step (by repeat (first | (with_reducible first | exact HB.out | apply below_alloc | apply pw_below_drewN | apply below_drew1 | refine below_set ?_ GE316.out | refine below_set ?_ GE317.out) | exact HB.out)) hb); clear HO324; clear BK316; clear BK317; clear HB; have HO324 := n0_; have HO327 := n1_; have BK316 := n2_; have BK317 := n3_; have HB := n4_; clear n0_ n1_ n2_ n3_ n4_; clear hb ho44; obtain ⟨Ao45, co45, eo45⟩ := Kd.R_slice HO324.out; subst eo45))
        go_loopg [53] kj2 (fun kq v53 w' => ∃ (x53_2 : Int), v53 = .int .i64 x53_2 ∧ Aside0 (alumlaw19_ValueTestsAgree.l0 kq y322 y325 (y322.length : Int) x53_2 a0_0 a0_1 a0_2 a1_0 a1_1 a1_2 = some r) ∧ Aside0 (kq ≤ kj2) ∧ Aside0 (Kd.R Kd.bool 4 w' w.heap.size (fun _ => True) (.slice Ao45 y322.length co45) y322) ∧ Aside0 (Kd.R (Kd.int .i64) 3 w' w.heap.size (fun _ => True) v326 y325) ∧ Aside0 (w'.heap[gb316]? = some (.cells #[.int .i64 a0_0, .int .i64 a0_1, .string a0_2] 23 (0, 0))) ∧ Aside0 (w'.heap[gb317]? = some (.cells #[.int .i64 a1_0, .int .i64 a1_1, .string a1_2] 23 (0, 0))) ∧ Aside0 (Below w.heap.size w w'))
        case atStart => exact ⟨(0), (by first | rfl | (simp; done) | (simp [*]; done)), H', ⟨Nat.le_refl _⟩, ⟨by (with_reducible repeat (first | apply Kd.R_alloc | apply Kd.R_drewN | apply Kd.R_drew)); exact HO324.out⟩, ⟨by (with_reducible repeat (first | apply Kd.R_alloc | apply Kd.R_drewN | apply Kd.R_drew)); exact HO327.out⟩, ⟨by (with_reducible repeat (first | refine blk_drewN ?_ _ | refine blk_drew ?_ | refine blk_alloc ?_ _)); exact BK316.out⟩, ⟨by (with_reducible repeat (first | refine blk_drewN ?_ _ | refine blk_drew ?_ | refine blk_alloc ?_ _)); exact BK317.out⟩, ⟨by repeat (first | (with_reducible first | exact HB.out | apply below_alloc | apply pw_below_drewN | apply below_drew1 | refine below_set ?_ GE316.out | refine below_set ?_ GE317.out) | exact HB.out)⟩⟩
        case round =>
          clear H'
          try clear c1
          try clear c2
          try clear p2
          try clear c3
          try clear c7
          try clear c9
          try clear c10
          try clear c10b0
          try clear c10b1
          try clear c11
          try clear c12
          try clear c13
          try clear c18
          try clear c25
          try clear c30
          try clear c33
          try clear c37
          try clear hcz12_0
          try clear hcz12_1
          try clear hcz12_2
          try clear hcz14_0
          try clear hcz14_1
          try clear hcz14_2
          try clear hcz16_0
          try clear hcz16_1
          try clear hcz16_2
          try clear hcz17_0
          try clear hcz17_1
          try clear hcz17_2
          try clear hcz19_0
          try clear hcz19_1
          try clear hcz19_2
          try clear hcz21_0
          try clear hcz21_1
          try clear hcz21_2
          try clear hcz23_0
          try clear hcz23_1
          try clear hcz23_2
          try clear hcz24_0
          try clear hcz24_1
          try clear hcz24_2
          try clear hcz26_0
          try clear hcz26_1
          try clear hcz26_2
          try clear hcz28_0
          try clear hcz28_1
          try clear hcz28_2
          try clear hcz31_0
          try clear hcz31_1
          try clear hcz31_2
          try clear hcz38_0
          try clear hcz38_1
          try clear hcz38_2
          try clear hcz39_0
          try clear hcz39_1
          try clear hcz39_2
          try clear hfz12_0
          try clear hfz12_1
          try clear hfz12_2
          try clear hfz14_0
          try clear hfz14_1
          try clear hfz14_2
          try clear hfz16_0
          try clear hfz16_1
          try clear hfz16_2
          try clear hfz17_0
          try clear hfz17_1
          try clear hfz17_2
          try clear hfz19_0
          try clear hfz19_1
          try clear hfz19_2
          try clear hfz21_0
          try clear hfz21_1
          try clear hfz21_2
          try clear hfz23_0
          try clear hfz23_1
          try clear hfz23_2
          try clear hfz24_0
          try clear hfz24_1
          try clear hfz24_2
          try clear hfz26_0
          try clear hfz26_1
          try clear hfz26_2
          try clear hfz28_0
          try clear hfz28_1
          try clear hfz28_2
          try clear hfz31_0
          try clear hfz31_1
          try clear hfz31_2
          try clear hfz38_0
          try clear hfz38_1
          try clear hfz38_2
          try clear hfz39_0
          try clear hfz39_1
          try clear hfz39_2
          try clear p2
          obtain ⟨x53_2, rfl, HA, HK2, HO_6, HO_7, BK316, BK317, HB⟩ := hrel
          cases gk with
          | zero => exact absurd HA.out (by simp [alumlaw19_ValueTestsAgree.l0])
          | succ k2 =>
            have H := HA.out
            clear HA
            simp only [alumlaw19_ValueTestsAgree.l0] at H
            by_cases c46 : x53_2 < (y322.length : Int)
            · rw [if_pos c46] at H
              have c46b0 : decide (x53_2 < (y322.length : Int)) = true := decide_eq_true c46
              clear c46
              replace H := Option.bind_eq_some_iff.mp H
              obtain ⟨⟨t329, t330, t331, t332⟩, A470, H⟩ := H
              replace H : (if 0 ≤ x53_2 then (if x53_2 < (y325.length : Int) then ((value_Test.f k2 (rd y325 x53_2) a1_0 a1_1 a1_2 a0_0 a0_1 a0_2).bind fun bt335 => (if t332 = 0 then (if bt335.2.2.2 = 0 then (if x53_2 < (y322.length : Int) then ((alumref19_Bool.f (rdOf false y322 x53_2)).bind fun bt341 => (if (!(t329 == bt341.1) || (!(t330 == bt341.2.1) || (!(t331.toList == bt341.2.2.toList)))) = true then (none) else (if (!(bt335.1 == t329) || (!(bt335.2.1 == t330) || (!(bt335.2.2.1.toList == t331.toList)))) = true then (none) else (alumlaw19_ValueTestsAgree.l0 k2 y322 y325 (y322.length : Int) (wrap64 (x53_2 + 1)) a0_0 a0_1 a0_2 a1_0 a1_1 a1_2)))) else (none)) else (none)) else (none))) else (none)) else (none)) = some r := H
              have A47 := Aside0.mk A470
              clear A470
              by_cases c48 : 0 ≤ x53_2
              · rw [if_pos c48] at H
                have c48b0 : decide (0 ≤ x53_2) = true := decide_eq_true c48
                clear c48
                by_cases c49 : x53_2 < (y325.length : Int)
                · rw [if_pos c49] at H
                  have c49b0 : decide (x53_2 < (y325.length : Int)) = true := decide_eq_true c49
                  clear c49
                  replace H := Option.bind_eq_some_iff.mp H
                  obtain ⟨⟨t335, t336, t337, t338⟩, A500, H⟩ := H
                  replace H : (if t332 = 0 then (if t338 = 0 then (if x53_2 < (y322.length : Int) then ((alumref19_Bool.f (rdOf false y322 x53_2)).bind fun bt341 => (if (!(t329 == bt341.1) || (!(t330 == bt341.2.1) || (!(t331.toList == bt341.2.2.toList)))) = true then (none) else (if (!(t335 == t329) || (!(t336 == t330) || (!(t337.toList == t331.toList)))) = true then (none) else (alumlaw19_ValueTestsAgree.l0 k2 y322 y325 (y322.length : Int) (wrap64 (x53_2 + 1)) a0_0 a0_1 a0_2 a1_0 a1_1 a1_2)))) else (none)) else (none)) else (none)) = some r := H
                  have A50 := Aside0.mk A500
                  clear A500
                  by_cases c51 : t332 = 0
                  · rw [if_pos c51] at H
                    have c51b0 : (t332 == 0) = true := beq_iff_eq.mpr c51
                    have c51b1 : (t332 != 0) = false := bne_eq_false_iff_eq.mpr c51
                    clear c51
                    by_cases c52 : t338 = 0
                    · rw [if_pos c52] at H
                      have c52b0 : (t338 == 0) = true := beq_iff_eq.mpr c52
                      have c52b1 : (t338 != 0) = false := bne_eq_false_iff_eq.mpr c52
                      clear c52
                      by_cases c53 : x53_2 < (y322.length : Int)
                      · rw [if_pos c53] at H
                        have c53b0 : decide (x53_2 < (y322.length : Int)) = true := decide_eq_true c53
                        clear c53
                        replace H := Option.bind_eq_some_iff.mp H
                        obtain ⟨⟨t341, t342, t343⟩, A540, H⟩ := H
                        replace H : (if (!(t329 == t341) || (!(t330 == t342) || (!(t331.toList == t343.toList)))) = true then (none) else (if (!(t335 == t329) || (!(t336 == t330) || (!(t337.toList == t331.toList)))) = true then (none) else (alumlaw19_ValueTestsAgree.l0 k2 y322 y325 (y322.length : Int) (wrap64 (x53_2 + 1)) a0_0 a0_1 a0_2 a1_0 a1_1 a1_2))) = some r := H
                        have A54 := Aside0.mk A540
                        clear A540
                        by_cases c55 : (!(t329 == t341) || (!(t330 == t342) || (!(t331.toList == t343.toList)))) = true
                        · rw [if_pos c55] at H
                          exact absurd H (by simp)
                        · rw [if_neg c55] at H
                          have c55b0 : (!(t329 == t341) || (!(t330 == t342) || (!(t331.toList == t343.toList)))) = false := by simpa using c55
                          clear c55
                          by_cases c56 : (!(t335 == t329) || (!(t336 == t330) || (!(t337.toList == t331.toList)))) = true
                          · rw [if_pos c56] at H
                            exact absurd H (by simp)
                          · rw [if_neg c56] at H
                            have c56b0 : (!(t335 == t329) || (!(t336 == t330) || (!(t337.toList == t331.toList)))) = false := by simpa using c56
                            clear c56
                            have H' := Aside0.mk H
                            clear H
                            have hnb57 := NB316_317.out
                            have hnc57 := NB317_316.out
                            have hcz58_0 : wr.cell? ⟨gb316, 0, none⟩ = some (.int .i64 a0_0) := (blk_cell BK316.out 0).trans rfl
                            have hcz58_1 : wr.cell? ⟨gb316, 1, none⟩ = some (.int .i64 a0_1) := (blk_cell BK316.out 1).trans rfl
                            have hcz58_2 : wr.cell? ⟨gb316, 2, none⟩ = some (.string a0_2) := (blk_cell BK316.out 2).trans rfl
                            have hfz58_0 := blk_frozen BK316.out 0
                            have hfz58_1 := blk_frozen BK316.out 1
                            have hfz58_2 := blk_frozen BK316.out 2
                            have hcz59_0 : wr.cell? ⟨gb317, 0, none⟩ = some (.int .i64 a1_0) := (blk_cell BK317.out 0).trans rfl
                            have hcz59_1 : wr.cell? ⟨gb317, 1, none⟩ = some (.int .i64 a1_1) := (blk_cell BK317.out 1).trans rfl
                            have hcz59_2 : wr.cell? ⟨gb317, 2, none⟩ = some (.string a1_2) := (blk_cell BK317.out 2).trans rfl
                            have hfz59_0 := blk_frozen BK317.out 0
                            have hfz59_1 := blk_frozen BK317.out 1
                            have hfz59_2 := blk_frozen BK317.out 2
                            try go_wp2_with (first | ((with_reducible refine gate_callee (f := 14) rfl ?_); refine goesL_ (some 61) rfl rfl Tryd.func14 (by kernel_rfl) rfl #[.int .i64 (wrap64 (6 + x53_2)), .agg #[.int .i64 a0_0, .int .i64 a0_1, .string a0_2], .agg #[.int .i64 a1_0, .int .i64 a1_1, .string a1_2]] rfl (by (try simp only [List.map_toArray, List.map_cons, List.map_nil]); first | done | rfl | (simp only [List.length_drop, List.length_take]; rfl)) ?_; (with_reducible refine (value_Test.calls k2 (wrap64 (6 + x53_2)) a0_0 a0_1 a0_2 a1_0 a1_1 a1_2 t329 t330 t331 t332 _ A47.out).mono ?_); rintro e w60 ⟨rfl, hb⟩; refine ⟨_, rfl, ?_⟩; have n0_ := Aside0.mk (Kd.R_below (by (with_reducible repeat (first | apply Kd.R_alloc | apply Kd.R_drewN | apply Kd.R_drew)); exact HO_6.out) hb); have n1_ := Aside0.mk (Kd.R_below (by (with_reducible repeat (first | apply Kd.R_alloc | apply Kd.R_drewN | apply Kd.R_drew)); exact HO_7.out) hb); have n2_ := Aside0.mk (blk_below (g := gb316) (o := .cells #[.int .i64 a0_0, .int .i64 a0_1, .string a0_2] 23 (0, 0)) (by (with_reducible repeat (first | refine blk_drewN ?_ _ | refine blk_drew ?_ | refine blk_alloc ?_ _)); exact BK316.out) hb); have n3_ := Aside0.mk (blk_below (g := gb317) (o := .cells #[.int .i64 a1_0, .int .i64 a1_1, .string a1_2] 23 (0, 0)) (by (with_reducible repeat (first | refine blk_drewN ?_ _ | refine blk_drew ?_ | refine blk_alloc ?_ _)); exact BK317.out) hb); have n4_ := Aside0.mk (below_step (by repeat (first | (with_reducible first | exact HB.out | apply below_alloc | apply pw_below_drewN | apply below_drew1 | refine below_set ?_ GE316.out | refine below_set ?_ GE317.out) | exact HB.out)) hb); clear HO_6; clear HO_7; clear BK316; clear BK317; clear HB; have HO_6 := n0_; have HO_7 := n1_; have BK316 := n2_; have BK317 := n3_; have HB := n4_; clear n0_ n1_ n2_ n3_ n4_; (try clear hb); (try clear hb2); (try clear hk); (try clear hi)) | ((with_reducible refine gate_dst (N := 9) rfl ?_); refine box_event ?hg (N := 9) ?hd (cs := #[.int .i64 0, .int .i64 0, .string (⟨#[]⟩ : ByteArray)]) (t := 23) ?hr ?_; (case hd => rfl); (case hg => rfl); (case hr => first | (go_simp; done) | (go_simp; rfl)); intro gb333 hg w61 hbox hb; have n0_ := Aside0.mk (Kd.R_below (by (with_reducible repeat (first | apply Kd.R_alloc | apply Kd.R_drewN | apply Kd.R_drew)); exact HO_6.out) hb); have n1_ := Aside0.mk (Kd.R_below (by (with_reducible repeat (first | apply Kd.R_alloc | apply Kd.R_drewN | apply Kd.R_drew)); exact HO_7.out) hb); have n2_ := Aside0.mk (blk_below (g := gb316) (o := .cells #[.int .i64 a0_0, .int .i64 a0_1, .string a0_2] 23 (0, 0)) (by (with_reducible repeat (first | refine blk_drewN ?_ _ | refine blk_drew ?_ | refine blk_alloc ?_ _)); exact BK316.out) hb); have n3_ := Aside0.mk (blk_below (g := gb317) (o := .cells #[.int .i64 a1_0, .int .i64 a1_1, .string a1_2] 23 (0, 0)) (by (with_reducible repeat (first | refine blk_drewN ?_ _ | refine blk_drew ?_ | refine blk_alloc ?_ _)); exact BK317.out) hb); have n4_ := Aside0.mk (below_step (by repeat (first | (with_reducible first | exact HB.out | apply below_alloc | apply pw_below_drewN | apply below_drew1 | refine below_set ?_ GE316.out | refine below_set ?_ GE317.out) | exact HB.out)) hb); have n5_ := Aside0.mk (hbox); have n6_ := Aside0.mk ((by rw [hg]; exact (below_size (by repeat (first | (with_reducible first | exact HB.out | apply below_alloc | apply pw_below_drewN | apply below_drew1 | refine below_set ?_ GE316.out | refine below_set ?_ GE317.out) | exact HB.out))) : w.heap.size ≤ gb333)); have n7_ := Aside0.mk ((by rw [hg]; exact (below_size (by repeat (first | (with_reducible first | exact HB.out | apply below_alloc | apply pw_below_drewN | apply below_drew1 | refine below_set ?_ GE316.out | refine below_set ?_ GE317.out) | exact HB.out))) : w.heap.size ≤ gb333)); have n8_ := Aside0.mk ((by rw [hg]; exact Nat.ne_of_lt (blk_lt (g := gb316) (o := .cells #[.int .i64 a0_0, .int .i64 a0_1, .string a0_2] 23 (0, 0)) (by (with_reducible repeat (first | refine blk_drewN ?_ _ | refine blk_drew ?_ | refine blk_alloc ?_ _)); exact BK316.out)) : gb316 ≠ gb333)); have n9_ := Aside0.mk ((by rw [hg]; exact Nat.ne_of_gt (blk_lt (g := gb316) (o := .cells #[.int .i64 a0_0, .int .i64 a0_1, .string a0_2] 23 (0, 0)) (by (with_reducible repeat (first | refine blk_drewN ?_ _ | refine blk_drew ?_ | refine blk_alloc ?_ _)); exact BK316.out)) : gb333 ≠ gb316)); have n10_ := Aside0.mk ((by rw [hg]; exact Nat.ne_of_lt (blk_lt (g := gb317) (o := .cells #[.int .i64 a1_0, .int .i64 a1_1, .string a1_2] 23 (0, 0)) (by (with_reducible repeat (first | refine blk_drewN ?_ _ | refine blk_drew ?_ | refine blk_alloc ?_ _)); exact BK317.out)) : gb317 ≠ gb333)); have n11_ := Aside0.mk ((by rw [hg]; exact Nat.ne_of_gt (blk_lt (g := gb317) (o := .cells #[.int .i64 a1_0, .int .i64 a1_1, .string a1_2] 23 (0, 0)) (by (with_reducible repeat (first | refine blk_drewN ?_ _ | refine blk_drew ?_ | refine blk_alloc ?_ _)); exact BK317.out)) : gb333 ≠ gb317)); clear HO_6; clear HO_7; clear BK316; clear BK317; clear HB; have HO_6 := n0_; have HO_7 := n1_; have BK316 := n2_; have BK317 := n3_; have HB := n4_; have BK333 := n5_; have GW333 := n6_; have GE333 := n7_; have NB316_333 := n8_; have NB333_316 := n9_; have NB317_333 := n10_; have NB333_317 := n11_; clear n0_ n1_ n2_ n3_ n4_ n5_ n6_ n7_ n8_ n9_ n10_ n11_; clear hb hbox hg; have hnb62 := NB333_316.out; have hnc62 := NB316_333.out; have hnb63 := NB333_317.out; have hnc63 := NB317_333.out; have hcz64_0 : w61.cell? ⟨gb333, 0, none⟩ = some (.int .i64 0) := (blk_cell BK333.out 0).trans rfl; have hcz64_1 : w61.cell? ⟨gb333, 1, none⟩ = some (.int .i64 0) := (blk_cell BK333.out 1).trans rfl; have hcz64_2 : w61.cell? ⟨gb333, 2, none⟩ = some (.string (⟨#[]⟩ : ByteArray)) := (blk_cell BK333.out 2).trans rfl; have hfz64_0 := blk_frozen BK333.out 0; have hfz64_1 := blk_frozen BK333.out 1; have hfz64_2 := blk_frozen BK333.out 2))
                            have n0_ : Aside0 (Kd.R Kd.bool 4 (((w61.setCell ⟨gb333, 0, none⟩ (.int .i64 t329)).setCell ⟨gb333, 1, none⟩ (.int .i64 t330)).setCell ⟨gb333, 2, none⟩ (.string t331)) w.heap.size (fun _ => True) (.slice Ao45 y322.length co45) y322) := ⟨by (with_reducible repeat (first | apply Kd.R_alloc | apply Kd.R_drewN | apply Kd.R_drew)); exact Kd.R_mono (Kd.R_far (p := ⟨gb333, 2, none⟩) (Kd.R_far (p := ⟨gb333, 1, none⟩) (Kd.R_far (p := ⟨gb333, 0, none⟩) (Kd.R_types HO_6.out BK333.out (by decide)) (fun _ hk => hk.2) (.int .i64 t329)) (fun _ hk => hk.2) (.int .i64 t330)) (fun _ hk => hk.2) (.string t331)) (fun _ hk => trivial)⟩
                            have n1_ : Aside0 (Kd.R (Kd.int .i64) 3 (((w61.setCell ⟨gb333, 0, none⟩ (.int .i64 t329)).setCell ⟨gb333, 1, none⟩ (.int .i64 t330)).setCell ⟨gb333, 2, none⟩ (.string t331)) w.heap.size (fun _ => True) v326 y325) := ⟨by (with_reducible repeat (first | apply Kd.R_alloc | apply Kd.R_drewN | apply Kd.R_drew)); exact Kd.R_mono (Kd.R_far (p := ⟨gb333, 2, none⟩) (Kd.R_far (p := ⟨gb333, 1, none⟩) (Kd.R_far (p := ⟨gb333, 0, none⟩) (Kd.R_types HO_7.out BK333.out (by decide)) (fun _ hk => hk.2) (.int .i64 t329)) (fun _ hk => hk.2) (.int .i64 t330)) (fun _ hk => hk.2) (.string t331)) (fun _ hk => trivial)⟩
                            have n2_ : Aside0 ((((w61.setCell ⟨gb333, 0, none⟩ (.int .i64 t329)).setCell ⟨gb333, 1, none⟩ (.int .i64 t330)).setCell ⟨gb333, 2, none⟩ (.string t331)).heap[gb316]? = some (.cells #[.int .i64 a0_0, .int .i64 a0_1, .string a0_2] 23 (0, 0))) := ⟨by (with_reducible repeat (first | refine blk_drewN ?_ _ | refine blk_drew ?_ | refine blk_alloc ?_ _)); refine blk_far ?_ NB316_333.out _; (with_reducible repeat (first | refine blk_drewN ?_ _ | refine blk_drew ?_ | refine blk_alloc ?_ _)); refine blk_far ?_ NB316_333.out _; (with_reducible repeat (first | refine blk_drewN ?_ _ | refine blk_drew ?_ | refine blk_alloc ?_ _)); refine blk_far ?_ NB316_333.out _; (with_reducible repeat (first | refine blk_drewN ?_ _ | refine blk_drew ?_ | refine blk_alloc ?_ _)); exact BK316.out⟩
                            have n3_ : Aside0 ((((w61.setCell ⟨gb333, 0, none⟩ (.int .i64 t329)).setCell ⟨gb333, 1, none⟩ (.int .i64 t330)).setCell ⟨gb333, 2, none⟩ (.string t331)).heap[gb317]? = some (.cells #[.int .i64 a1_0, .int .i64 a1_1, .string a1_2] 23 (0, 0))) := ⟨by (with_reducible repeat (first | refine blk_drewN ?_ _ | refine blk_drew ?_ | refine blk_alloc ?_ _)); refine blk_far ?_ NB317_333.out _; (with_reducible repeat (first | refine blk_drewN ?_ _ | refine blk_drew ?_ | refine blk_alloc ?_ _)); refine blk_far ?_ NB317_333.out _; (with_reducible repeat (first | refine blk_drewN ?_ _ | refine blk_drew ?_ | refine blk_alloc ?_ _)); refine blk_far ?_ NB317_333.out _; (with_reducible repeat (first | refine blk_drewN ?_ _ | refine blk_drew ?_ | refine blk_alloc ?_ _)); exact BK317.out⟩
                            have n4_ : Aside0 ((((w61.setCell ⟨gb333, 0, none⟩ (.int .i64 t329)).setCell ⟨gb333, 1, none⟩ (.int .i64 t330)).setCell ⟨gb333, 2, none⟩ (.string t331)).heap[gb333]? = some (.cells #[.int .i64 t329, .int .i64 t330, .string t331] 23 (0, 0))) := ⟨by (with_reducible repeat (first | refine blk_drewN ?_ _ | refine blk_drew ?_ | refine blk_alloc ?_ _)); refine blk_put (cs := #[.int .i64 t329, .int .i64 t330, .string (⟨#[]⟩ : ByteArray)]) ?_ 2 _ rfl; (with_reducible repeat (first | refine blk_drewN ?_ _ | refine blk_drew ?_ | refine blk_alloc ?_ _)); refine blk_put (cs := #[.int .i64 t329, .int .i64 0, .string (⟨#[]⟩ : ByteArray)]) ?_ 1 _ rfl; (with_reducible repeat (first | refine blk_drewN ?_ _ | refine blk_drew ?_ | refine blk_alloc ?_ _)); refine blk_put (cs := #[.int .i64 0, .int .i64 0, .string (⟨#[]⟩ : ByteArray)]) ?_ 0 _ rfl; (with_reducible repeat (first | refine blk_drewN ?_ _ | refine blk_drew ?_ | refine blk_alloc ?_ _)); exact BK333.out⟩
                            have n5_ : Aside0 (Below w.heap.size w (((w61.setCell ⟨gb333, 0, none⟩ (.int .i64 t329)).setCell ⟨gb333, 1, none⟩ (.int .i64 t330)).setCell ⟨gb333, 2, none⟩ (.string t331))) := ⟨by repeat (first | (with_reducible first | exact HB.out | apply below_alloc | apply pw_below_drewN | apply below_drew1 | refine below_set ?_ GE316.out | refine below_set ?_ GE317.out | refine below_set ?_ GE333.out) | exact HB.out)⟩
                            (try clear HO_6)
                            (try clear HO_7)
                            (try clear BK316)
                            (try clear BK317)
                            (try clear BK333)
                            (try clear HB)
                            generalize (((w61.setCell ⟨gb333, 0, none⟩ (.int .i64 t329)).setCell ⟨gb333, 1, none⟩ (.int .i64 t330)).setCell ⟨gb333, 2, none⟩ (.string t331)) = w65 at n0_ n1_ n2_ n3_ n4_ n5_ ⊢
                            have HO_6 := n0_
                            have HO_7 := n1_
                            have BK316 := n2_
                            have BK317 := n3_
                            have BK333 := n4_
                            have HB := n5_
                            clear n0_ n1_ n2_ n3_ n4_ n5_
                            have n0_ := Aside0.mk (Kd.R_drew HO_6.out)
                            have n1_ := Aside0.mk (Kd.R_drew HO_7.out)
                            have n2_ := Aside0.mk (blk_drew BK316.out)
                            have n3_ := Aside0.mk (blk_drew BK317.out)
                            have n4_ := Aside0.mk (blk_drew BK333.out)
                            have n5_ := Aside0.mk (below_drew1 HB.out)
                            clear HO_6
                            clear HO_7
                            clear BK316
                            clear BK317
                            clear BK333
                            clear HB
                            have HO_6 := n0_
                            have HO_7 := n1_
                            have BK316 := n2_
                            have BK317 := n3_
                            have BK333 := n4_
                            have HB := n5_
                            clear n0_ n1_ n2_ n3_ n4_ n5_
                            obtain ⟨Ao67, co67, eo67⟩ := Kd.R_slice HO_7.out
                            (first | subst eo67 | (injection eo67 with f1_ f2_ f3_; have f4_ := f1_.symm; have f5_ := f3_.symm; clear f1_ f2_ f3_; subst f4_; subst f5_))
                            have p334 : 0 ≤ (x53_2 : Int) := of_decide_eq_true (by first | (with_reducible assumption) | assumption)
                            have q334 : x53_2 < (y325.length : Int) := of_decide_eq_true (by first | (with_reducible assumption) | assumption)
                            obtain ⟨ad334, e334, hx334_0⟩ := Kd.at_int (Kd.R_reads' HO_7.out).2.2 x53_2 p334 q334
                            cases e334
                            replace p334 := eq_true p334
                            replace q334 := eq_true q334
                            refine start_ (n := 13) (S := fun w' => w'.cell? ⟨gb317, 0, none⟩ = some (.int .i64 a1_0) ∧ w'.cell? ⟨gb317, 1, none⟩ = some (.int .i64 a1_1) ∧ w'.cell? ⟨gb317, 2, none⟩ = some (.string a1_2) ∧ w'.cell? ⟨gb316, 0, none⟩ = some (.int .i64 a0_0) ∧ w'.cell? ⟨gb316, 1, none⟩ = some (.int .i64 a0_1) ∧ w'.cell? ⟨gb316, 2, none⟩ = some (.string a0_2) ∧ w'.cell? (ad334.add (x53_2).toNat) = some (.int .i64 (rd y325 x53_2))) (ds := []) #[false, false, false, false, false, false, false, false, false, false, false, false, false] (by kernel_rfl) rfl rfl ⟨(blk_cell BK317.out 0).trans rfl, (blk_cell BK317.out 1).trans rfl, (blk_cell BK317.out 2).trans rfl, (blk_cell BK316.out 0).trans rfl, (blk_cell BK316.out 1).trans rfl, (blk_cell BK316.out 2).trans rfl, hx334_0⟩ (fun hHeld => ?_); refine with_tabW alumlaw19_ValueTestsAgree.tab10 alumlaw19_ValueTestsAgree.bits10 (fun HT_ HW_ => ?_)
                            generalize w65.drew = w66 at HO_6 HO_7 BK316 BK317 BK333 HB hx334_0 hHeld ⊢
                            refine pure_ (i := 0) (N := some 65) (v := ?_) (a' := ?_) #[true, false, false, false, false, false, false, false, false, false, false, false, false] rfl rfl (any_of HT_.out (by kernel_rfl)) (fun _ _ _ h => h) (Or.inl ⟨by rfl, ?_⟩) ?_ ?_
                            rotate_left
                            · intro w'
                              go_simp
                              with_reducible rfl
                            rotate_left
                            · simp only [Act.put, List.setIfInBounds_toArray, List.set_cons_zero, List.set_cons_succ, i64_w, i32_w]
                              rfl
                            refine pure_ (i := 1) (N := some 66) (v := ?_) (a' := ?_) #[true, true, false, false, false, false, false, false, false, false, false, false, false] rfl rfl (any_of HT_.out (by kernel_rfl)) (fun _ _ _ h => h) (Or.inl ⟨by rfl, ?_⟩) ?_ ?_
                            rotate_left
                            · intro w'
                              go_simp
                              with_reducible rfl
                            rotate_left
                            · simp only [Act.put, List.setIfInBounds_toArray, List.set_cons_zero, List.set_cons_succ, i64_w, i32_w]
                              rfl
                            refine pure_ (i := 2) (N := some 67) (v := ?_) (a' := ?_) #[true, true, true, false, false, false, false, false, false, false, false, false, false] rfl rfl (any_of HT_.out (by kernel_rfl)) (fun _ _ _ h => h) (Or.inl ⟨by rfl, ?_⟩) ?_ ?_
                            rotate_left
                            · intro w'
                              go_simp
                              with_reducible rfl
                            rotate_left
                            · simp only [Act.put, List.setIfInBounds_toArray, List.set_cons_zero, List.set_cons_succ, i64_w, i32_w]
                              rfl
                            refine take_ (i := 3) (N := some 68) (v := ?_) (a' := ?_) #[true, true, true, true, false, false, false, false, false, false, false, false, false] rfl rfl (take_ofW HT_.out HW_.out (by kernel_rfl)) (fun _ _ _ h => h) (Or.inl ⟨by rfl, ?_⟩) hHeld ?_ ?_
                            rotate_left
                            · rintro w' ⟨s0, s1, s2, s3, s4, s5, s6⟩
                              go_simp
                              with_reducible rfl
                            rotate_left
                            · simp only [Act.put, List.setIfInBounds_toArray, List.set_cons_zero, List.set_cons_succ, i64_w, i32_w]
                              rfl
                            refine take_ (i := 4) (N := some 69) (v := ?_) (a' := ?_) #[true, true, true, true, true, false, false, false, false, false, false, false, false] rfl rfl (take_ofW HT_.out HW_.out (by kernel_rfl)) (fun _ _ _ h => h) (Or.inl ⟨by rfl, ?_⟩) hHeld ?_ ?_
                            rotate_left
                            · rintro w' ⟨s0, s1, s2, s3, s4, s5, s6⟩
                              go_simp
                              with_reducible rfl
                            rotate_left
                            · simp only [Act.put, List.setIfInBounds_toArray, List.set_cons_zero, List.set_cons_succ, i64_w, i32_w]
                              rfl
                            refine take_ (i := 5) (N := some 70) (v := ?_) (a' := ?_) #[true, true, true, true, true, true, false, false, false, false, false, false, false] rfl rfl (take_ofW HT_.out HW_.out (by kernel_rfl)) (fun _ _ _ h => h) (Or.inl ⟨by rfl, ?_⟩) hHeld ?_ ?_
                            rotate_left
                            · rintro w' ⟨s0, s1, s2, s3, s4, s5, s6⟩
                              go_simp
                              with_reducible rfl
                            rotate_left
                            · simp only [Act.put, List.setIfInBounds_toArray, List.set_cons_zero, List.set_cons_succ, i64_w, i32_w]
                              rfl
                            refine join_ (σ := Nat) 2 #[true, true, true, true, true, true, true, true, true, true, true, false, false] (fun s_ => [(71, .tuple #[.agg #[.int .i64 t335, .int .i64 t336, .string t337], .int .i64 t338]), (11, .pointer (some ⟨s_, 0, none⟩)), (64, .tuple #[.agg #[.int .i64 t335, .int .i64 t336, .string t337], .int .i64 t338]), (72, .agg #[.int .i64 t335, .int .i64 t336, .string t337]), (73, .int .i64 t338)]) (fun s_ w' => (w'.cell? ⟨gb317, 0, none⟩ = some (.int .i64 a1_0) ∧ w'.cell? ⟨gb317, 1, none⟩ = some (.int .i64 a1_1) ∧ w'.cell? ⟨gb317, 2, none⟩ = some (.string a1_2) ∧ w'.cell? ⟨gb316, 0, none⟩ = some (.int .i64 a0_0) ∧ w'.cell? ⟨gb316, 1, none⟩ = some (.int .i64 a0_1) ∧ w'.cell? ⟨gb316, 2, none⟩ = some (.string a0_2) ∧ w'.cell? (ad334.add (x53_2).toNat) = some (.int .i64 (rd y325 x53_2))) ∧ (Kd.R Kd.bool 4 w' w.heap.size (fun _ => True) (.slice Ao45 y322.length co45) y322) ∧ (Kd.R (Kd.int .i64) 3 w' w.heap.size (fun _ => True) (.slice (some ad334) y325.length co67) y325) ∧ (w'.heap[gb316]? = some (.cells #[.int .i64 a0_0, .int .i64 a0_1, .string a0_2] 23 (0, 0))) ∧ (w'.heap[gb317]? = some (.cells #[.int .i64 a1_0, .int .i64 a1_1, .string a1_2] 23 (0, 0))) ∧ (w'.heap[gb333]? = some (.cells #[.int .i64 t329, .int .i64 t330, .string t331] 23 (0, 0))) ∧ (w'.heap[s_]? = some (.cells #[.int .i64 0, .int .i64 0, .string (⟨#[]⟩ : ByteArray)] 23 (0, 0))) ∧ (w.heap.size ≤ s_) ∧ (w.heap.size ≤ s_) ∧ (gb316 ≠ s_) ∧ (s_ ≠ gb316) ∧ (gb317 ≠ s_) ∧ (s_ ≠ gb317) ∧ (gb333 ≠ s_) ∧ (s_ ≠ gb333) ∧ (Below w.heap.size w w')) ?_ ?_
                            rotate_left
                            · intro hCont
                              refine two_ (i := 6) (j := 10) (Ni := some 71) (Nj := some 11) #[true, true, true, true, true, true, true, false, false, false, false, false, false] #[true, true, true, true, true, true, false, false, false, false, true, false, false] rfl rfl rfl rfl (two_of HT_.out (by kernel_rfl)) (by decide) (by decide) (fun K hK => ?_) (fun K hK => ?_)
                              · skip
                                refine goes_ Tryd.func14 (by kernel_rfl) rfl #[.int .i64 (rd y325 x53_2), .agg #[.int .i64 a1_0, .int .i64 a1_1, .string a1_2], .agg #[.int .i64 a0_0, .int .i64 a0_1, .string a0_2]] (by rfl) rfl rfl (by (try simp only [List.map_toArray, List.map_cons, List.map_nil]); first | done | rfl | (simp only [List.length_drop, List.length_take]; rfl)) ?_
                                with_reducible refine (value_Test.calls k2 (rd y325 x53_2) a1_0 a1_1 a1_2 a0_0 a0_1 a0_2 t335 t336 t337 t338 _ A50.out).mono ?_
                                rintro e w68 ⟨rfl, hb⟩
                                have HS6_ := (hb.cell (World.block_lt_of_cell? _ _ (hHeld.2.2.2.2.2.2))).trans (hHeld.2.2.2.2.2.2)
                                refine ⟨_, rfl, ?_⟩
                                have n0_ := Aside0.mk (Kd.R_below (by (with_reducible repeat (first | apply Kd.R_alloc | apply Kd.R_drewN | apply Kd.R_drew)); exact HO_6.out) hb)
                                have n1_ := Aside0.mk (Kd.R_below (by (with_reducible repeat (first | apply Kd.R_alloc | apply Kd.R_drewN | apply Kd.R_drew)); exact HO_7.out) hb)
                                have n2_ := Aside0.mk (blk_below (g := gb316) (o := .cells #[.int .i64 a0_0, .int .i64 a0_1, .string a0_2] 23 (0, 0)) (by (with_reducible repeat (first | refine blk_drewN ?_ _ | refine blk_drew ?_ | refine blk_alloc ?_ _)); exact BK316.out) hb)
                                have n3_ := Aside0.mk (blk_below (g := gb317) (o := .cells #[.int .i64 a1_0, .int .i64 a1_1, .string a1_2] 23 (0, 0)) (by (with_reducible repeat (first | refine blk_drewN ?_ _ | refine blk_drew ?_ | refine blk_alloc ?_ _)); exact BK317.out) hb)
                                have n4_ := Aside0.mk (blk_below (g := gb333) (o := .cells #[.int .i64 t329, .int .i64 t330, .string t331] 23 (0, 0)) (by (with_reducible repeat (first | refine blk_drewN ?_ _ | refine blk_drew ?_ | refine blk_alloc ?_ _)); exact BK333.out) hb)
                                have n5_ := Aside0.mk (below_step (by repeat (first | (with_reducible first | exact HB.out | apply below_alloc | apply pw_below_drewN | apply below_drew1 | refine below_set ?_ GE316.out | refine below_set ?_ GE317.out | refine below_set ?_ GE333.out) | exact HB.out)) hb)
                                clear HO_6
                                clear HO_7
                                clear BK316
                                clear BK317
                                clear BK333
                                clear HB
                                have HO_6 := n0_
                                have HO_7 := n1_
                                have BK316 := n2_
                                have BK317 := n3_
                                have BK333 := n4_
                                have HB := n5_
                                clear n0_ n1_ n2_ n3_ n4_ n5_
                                (try clear hb)
                                (try clear hb2)
                                (try clear hk)
                                (try clear hi)
                                refine hK.out _ _ ⟨(blk_cell BK317.out 0).trans rfl, (blk_cell BK317.out 1).trans rfl, (blk_cell BK317.out 2).trans rfl, (blk_cell BK316.out 0).trans rfl, (blk_cell BK316.out 1).trans rfl, (blk_cell BK316.out 2).trans rfl, HS6_⟩ (fun hHeld => ?_)
                                clear hK K
                                refine norm_ (a' := ?_) ?_ ?_
                                rotate_left
                                · show Act.put _ (some 71) _ = _
                                  simp only [Act.put, List.setIfInBounds_toArray, List.set_cons_zero, List.set_cons_succ, i64_w, i32_w]
                                  rfl
                                refine pure_ (i := 7) (N := some 64) (v := ?_) (a' := ?_) #[true, true, true, true, true, true, true, true, false, false, false, false, false] rfl rfl (any_of HT_.out (by kernel_rfl)) (fun _ _ _ h => h) (Or.inl ⟨by rfl, ?_⟩) ?_ ?_
                                rotate_left
                                · intro w'
                                  go_simp
                                  with_reducible rfl
                                rotate_left
                                · simp only [Act.put, List.setIfInBounds_toArray, List.set_cons_zero, List.set_cons_succ, i64_w, i32_w]
                                  rfl
                                refine pure_ (i := 8) (N := some 72) (v := ?_) (a' := ?_) #[true, true, true, true, true, true, true, true, true, false, false, false, false] rfl rfl (any_of HT_.out (by kernel_rfl)) (fun _ _ _ h => h) (Or.inl ⟨by rfl, ?_⟩) ?_ ?_
                                rotate_left
                                · intro w'
                                  go_simp
                                  with_reducible rfl
                                rotate_left
                                · simp only [Act.put, List.setIfInBounds_toArray, List.set_cons_zero, List.set_cons_succ, i64_w, i32_w]
                                  rfl
                                refine pure_ (i := 9) (N := some 73) (v := ?_) (a' := ?_) #[true, true, true, true, true, true, true, true, true, true, false, false, false] rfl rfl (any_of HT_.out (by kernel_rfl)) (fun _ _ _ h => h) (Or.inl ⟨by rfl, ?_⟩) ?_ ?_
                                rotate_left
                                · intro w'
                                  go_simp
                                  with_reducible rfl
                                rotate_left
                                · simp only [Act.put, List.setIfInBounds_toArray, List.set_cons_zero, List.set_cons_succ, i64_w, i32_w]
                                  rfl
                                refine one_ (i := 10) (N := some 11) #[true, true, true, true, true, true, true, true, true, true, true, false, false] rfl rfl (one_of HT_.out (by kernel_rfl)) (by decide) (fun K hK => ?_)
                                refine box_step ?hg (N := 11) ?hd (cs := #[.int .i64 0, .int .i64 0, .string (⟨#[]⟩ : ByteArray)]) (t := 23) ?hr ?_; (case hd => rfl); (case hg => rfl); (case hr => first | (go_simp; done) | (go_simp; rfl))
                                intro gb339 hg w69 hbox hb
                                have HS6_ := (hb.cell (World.block_lt_of_cell? _ _ (hHeld.2.2.2.2.2.2))).trans (hHeld.2.2.2.2.2.2)
                                have n0_ := Aside0.mk (Kd.R_below (by (with_reducible repeat (first | apply Kd.R_alloc | apply Kd.R_drewN | apply Kd.R_drew)); exact HO_6.out) hb)
                                have n1_ := Aside0.mk (Kd.R_below (by (with_reducible repeat (first | apply Kd.R_alloc | apply Kd.R_drewN | apply Kd.R_drew)); exact HO_7.out) hb)
                                have n2_ := Aside0.mk (blk_below (g := gb316) (o := .cells #[.int .i64 a0_0, .int .i64 a0_1, .string a0_2] 23 (0, 0)) (by (with_reducible repeat (first | refine blk_drewN ?_ _ | refine blk_drew ?_ | refine blk_alloc ?_ _)); exact BK316.out) hb)
                                have n3_ := Aside0.mk (blk_below (g := gb317) (o := .cells #[.int .i64 a1_0, .int .i64 a1_1, .string a1_2] 23 (0, 0)) (by (with_reducible repeat (first | refine blk_drewN ?_ _ | refine blk_drew ?_ | refine blk_alloc ?_ _)); exact BK317.out) hb)
                                have n4_ := Aside0.mk (blk_below (g := gb333) (o := .cells #[.int .i64 t329, .int .i64 t330, .string t331] 23 (0, 0)) (by (with_reducible repeat (first | refine blk_drewN ?_ _ | refine blk_drew ?_ | refine blk_alloc ?_ _)); exact BK333.out) hb)
                                have n5_ := Aside0.mk (below_step (by repeat (first | (with_reducible first | exact HB.out | apply below_alloc | apply pw_below_drewN | apply below_drew1 | refine below_set ?_ GE316.out | refine below_set ?_ GE317.out | refine below_set ?_ GE333.out) | exact HB.out)) hb)
                                have n6_ := Aside0.mk (hbox)
                                have n7_ := Aside0.mk ((by rw [hg]; exact (below_size (by repeat (first | (with_reducible first | exact HB.out | apply below_alloc | apply pw_below_drewN | apply below_drew1 | refine below_set ?_ GE316.out | refine below_set ?_ GE317.out | refine below_set ?_ GE333.out) | exact HB.out))) : w.heap.size ≤ gb339))
                                have n8_ := Aside0.mk ((by rw [hg]; exact (below_size (by repeat (first | (with_reducible first | exact HB.out | apply below_alloc | apply pw_below_drewN | apply below_drew1 | refine below_set ?_ GE316.out | refine below_set ?_ GE317.out | refine below_set ?_ GE333.out) | exact HB.out))) : w.heap.size ≤ gb339))
                                have n9_ := Aside0.mk ((by rw [hg]; exact Nat.ne_of_lt (blk_lt (g := gb316) (o := .cells #[.int .i64 a0_0, .int .i64 a0_1, .string a0_2] 23 (0, 0)) (by (with_reducible repeat (first | refine blk_drewN ?_ _ | refine blk_drew ?_ | refine blk_alloc ?_ _)); exact BK316.out)) : gb316 ≠ gb339))
                                have n10_ := Aside0.mk ((by rw [hg]; exact Nat.ne_of_gt (blk_lt (g := gb316) (o := .cells #[.int .i64 a0_0, .int .i64 a0_1, .string a0_2] 23 (0, 0)) (by (with_reducible repeat (first | refine blk_drewN ?_ _ | refine blk_drew ?_ | refine blk_alloc ?_ _)); exact BK316.out)) : gb339 ≠ gb316))
                                have n11_ := Aside0.mk ((by rw [hg]; exact Nat.ne_of_lt (blk_lt (g := gb317) (o := .cells #[.int .i64 a1_0, .int .i64 a1_1, .string a1_2] 23 (0, 0)) (by (with_reducible repeat (first | refine blk_drewN ?_ _ | refine blk_drew ?_ | refine blk_alloc ?_ _)); exact BK317.out)) : gb317 ≠ gb339))
                                have n12_ := Aside0.mk ((by rw [hg]; exact Nat.ne_of_gt (blk_lt (g := gb317) (o := .cells #[.int .i64 a1_0, .int .i64 a1_1, .string a1_2] 23 (0, 0)) (by (with_reducible repeat (first | refine blk_drewN ?_ _ | refine blk_drew ?_ | refine blk_alloc ?_ _)); exact BK317.out)) : gb339 ≠ gb317))
                                have n13_ := Aside0.mk ((by rw [hg]; exact Nat.ne_of_lt (blk_lt (g := gb333) (o := .cells #[.int .i64 t329, .int .i64 t330, .string t331] 23 (0, 0)) (by (with_reducible repeat (first | refine blk_drewN ?_ _ | refine blk_drew ?_ | refine blk_alloc ?_ _)); exact BK333.out)) : gb333 ≠ gb339))
                                have n14_ := Aside0.mk ((by rw [hg]; exact Nat.ne_of_gt (blk_lt (g := gb333) (o := .cells #[.int .i64 t329, .int .i64 t330, .string t331] 23 (0, 0)) (by (with_reducible repeat (first | refine blk_drewN ?_ _ | refine blk_drew ?_ | refine blk_alloc ?_ _)); exact BK333.out)) : gb339 ≠ gb333))
                                clear HO_6
                                clear HO_7
                                clear BK316
                                clear BK317
                                clear BK333
                                clear HB
                                have HO_6 := n0_
                                have HO_7 := n1_
                                have BK316 := n2_
                                have BK317 := n3_
                                have BK333 := n4_
                                have HB := n5_
                                have BK339 := n6_
                                have GW339 := n7_
                                have GE339 := n8_
                                have NB316_339 := n9_
                                have NB339_316 := n10_
                                have NB317_339 := n11_
                                have NB339_317 := n12_
                                have NB333_339 := n13_
                                have NB339_333 := n14_
                                clear n0_ n1_ n2_ n3_ n4_ n5_ n6_ n7_ n8_ n9_ n10_ n11_ n12_ n13_ n14_
                                clear hb hbox hg
                                refine hK.out _ _ ⟨(blk_cell BK317.out 0).trans rfl, (blk_cell BK317.out 1).trans rfl, (blk_cell BK317.out 2).trans rfl, (blk_cell BK316.out 0).trans rfl, (blk_cell BK316.out 1).trans rfl, (blk_cell BK316.out 2).trans rfl, HS6_⟩ (fun hHeld => ?_)
                                clear hK K
                                refine norm_ (a' := ?_) ?_ ?_
                                rotate_left
                                · show Act.put _ (some 11) _ = _
                                  simp only [Act.put, List.setIfInBounds_toArray, List.set_cons_zero, List.set_cons_succ, i64_w, i32_w]
                                  rfl
                                exact norm_ (by simp only [putAll, Act.put, List.setIfInBounds_toArray, List.set_cons_zero, List.set_cons_succ]) (hCont (gb339) _ ⟨hHeld, (by (with_reducible repeat (first | apply Kd.R_alloc | apply Kd.R_drewN | apply Kd.R_drew)); exact HO_6.out), (by (with_reducible repeat (first | apply Kd.R_alloc | apply Kd.R_drewN | apply Kd.R_drew)); exact HO_7.out), (by (with_reducible repeat (first | refine blk_drewN ?_ _ | refine blk_drew ?_ | refine blk_alloc ?_ _)); exact BK316.out), (by (with_reducible repeat (first | refine blk_drewN ?_ _ | refine blk_drew ?_ | refine blk_alloc ?_ _)); exact BK317.out), (by (with_reducible repeat (first | refine blk_drewN ?_ _ | refine blk_drew ?_ | refine blk_alloc ?_ _)); exact BK333.out), (by (with_reducible repeat (first | refine blk_drewN ?_ _ | refine blk_drew ?_ | refine blk_alloc ?_ _)); exact BK339.out), GW339.out, GE339.out, NB316_339.out, NB339_316.out, NB317_339.out, NB339_317.out, NB333_339.out, NB339_333.out, (by repeat (first | (with_reducible first | exact HB.out | apply below_alloc | apply pw_below_drewN | apply below_drew1 | refine below_set ?_ GE316.out | refine below_set ?_ GE317.out | refine below_set ?_ GE333.out | refine below_set ?_ GE339.out) | exact HB.out))⟩)
                              · skip
                                refine box_step ?hg (N := 11) ?hd (cs := #[.int .i64 0, .int .i64 0, .string (⟨#[]⟩ : ByteArray)]) (t := 23) ?hr ?_; (case hd => rfl); (case hg => rfl); (case hr => first | (go_simp; done) | (go_simp; rfl))
                                intro gb339 hg w68 hbox hb
                                have HS6_ := (hb.cell (World.block_lt_of_cell? _ _ (hHeld.2.2.2.2.2.2))).trans (hHeld.2.2.2.2.2.2)
                                have n0_ := Aside0.mk (Kd.R_below (by (with_reducible repeat (first | apply Kd.R_alloc | apply Kd.R_drewN | apply Kd.R_drew)); exact HO_6.out) hb)
                                have n1_ := Aside0.mk (Kd.R_below (by (with_reducible repeat (first | apply Kd.R_alloc | apply Kd.R_drewN | apply Kd.R_drew)); exact HO_7.out) hb)
                                have n2_ := Aside0.mk (blk_below (g := gb316) (o := .cells #[.int .i64 a0_0, .int .i64 a0_1, .string a0_2] 23 (0, 0)) (by (with_reducible repeat (first | refine blk_drewN ?_ _ | refine blk_drew ?_ | refine blk_alloc ?_ _)); exact BK316.out) hb)
                                have n3_ := Aside0.mk (blk_below (g := gb317) (o := .cells #[.int .i64 a1_0, .int .i64 a1_1, .string a1_2] 23 (0, 0)) (by (with_reducible repeat (first | refine blk_drewN ?_ _ | refine blk_drew ?_ | refine blk_alloc ?_ _)); exact BK317.out) hb)
                                have n4_ := Aside0.mk (blk_below (g := gb333) (o := .cells #[.int .i64 t329, .int .i64 t330, .string t331] 23 (0, 0)) (by (with_reducible repeat (first | refine blk_drewN ?_ _ | refine blk_drew ?_ | refine blk_alloc ?_ _)); exact BK333.out) hb)
                                have n5_ := Aside0.mk (below_step (by repeat (first | (with_reducible first | exact HB.out | apply below_alloc | apply pw_below_drewN | apply below_drew1 | refine below_set ?_ GE316.out | refine below_set ?_ GE317.out | refine below_set ?_ GE333.out) | exact HB.out)) hb)
                                have n6_ := Aside0.mk (hbox)
                                have n7_ := Aside0.mk ((by rw [hg]; exact (below_size (by repeat (first | (with_reducible first | exact HB.out | apply below_alloc | apply pw_below_drewN | apply below_drew1 | refine below_set ?_ GE316.out | refine below_set ?_ GE317.out | refine below_set ?_ GE333.out) | exact HB.out))) : w.heap.size ≤ gb339))
                                have n8_ := Aside0.mk ((by rw [hg]; exact (below_size (by repeat (first | (with_reducible first | exact HB.out | apply below_alloc | apply pw_below_drewN | apply below_drew1 | refine below_set ?_ GE316.out | refine below_set ?_ GE317.out | refine below_set ?_ GE333.out) | exact HB.out))) : w.heap.size ≤ gb339))
                                have n9_ := Aside0.mk ((by rw [hg]; exact Nat.ne_of_lt (blk_lt (g := gb316) (o := .cells #[.int .i64 a0_0, .int .i64 a0_1, .string a0_2] 23 (0, 0)) (by (with_reducible repeat (first | refine blk_drewN ?_ _ | refine blk_drew ?_ | refine blk_alloc ?_ _)); exact BK316.out)) : gb316 ≠ gb339))
                                have n10_ := Aside0.mk ((by rw [hg]; exact Nat.ne_of_gt (blk_lt (g := gb316) (o := .cells #[.int .i64 a0_0, .int .i64 a0_1, .string a0_2] 23 (0, 0)) (by (with_reducible repeat (first | refine blk_drewN ?_ _ | refine blk_drew ?_ | refine blk_alloc ?_ _)); exact BK316.out)) : gb339 ≠ gb316))
                                have n11_ := Aside0.mk ((by rw [hg]; exact Nat.ne_of_lt (blk_lt (g := gb317) (o := .cells #[.int .i64 a1_0, .int .i64 a1_1, .string a1_2] 23 (0, 0)) (by (with_reducible repeat (first | refine blk_drewN ?_ _ | refine blk_drew ?_ | refine blk_alloc ?_ _)); exact BK317.out)) : gb317 ≠ gb339))
                                have n12_ := Aside0.mk ((by rw [hg]; exact Nat.ne_of_gt (blk_lt (g := gb317) (o := .cells #[.int .i64 a1_0, .int .i64 a1_1, .string a1_2] 23 (0, 0)) (by (with_reducible repeat (first | refine blk_drewN ?_ _ | refine blk_drew ?_ | refine blk_alloc ?_ _)); exact BK317.out)) : gb339 ≠ gb317))
                                have n13_ := Aside0.mk ((by rw [hg]; exact Nat.ne_of_lt (blk_lt (g := gb333) (o := .cells #[.int .i64 t329, .int .i64 t330, .string t331] 23 (0, 0)) (by (with_reducible repeat (first | refine blk_drewN ?_ _ | refine blk_drew ?_ | refine blk_alloc ?_ _)); exact BK333.out)) : gb333 ≠ gb339))
                                have n14_ := Aside0.mk ((by rw [hg]; exact Nat.ne_of_gt (blk_lt (g := gb333) (o := .cells #[.int .i64 t329, .int .i64 t330, .string t331] 23 (0, 0)) (by (with_reducible repeat (first | refine blk_drewN ?_ _ | refine blk_drew ?_ | refine blk_alloc ?_ _)); exact BK333.out)) : gb339 ≠ gb333))
                                clear HO_6
                                clear HO_7
                                clear BK316
                                clear BK317
                                clear BK333
                                clear HB
                                have HO_6 := n0_
                                have HO_7 := n1_
                                have BK316 := n2_
                                have BK317 := n3_
                                have BK333 := n4_
                                have HB := n5_
                                have BK339 := n6_
                                have GW339 := n7_
                                have GE339 := n8_
                                have NB316_339 := n9_
                                have NB339_316 := n10_
                                have NB317_339 := n11_
                                have NB339_317 := n12_
                                have NB333_339 := n13_
                                have NB339_333 := n14_
                                clear n0_ n1_ n2_ n3_ n4_ n5_ n6_ n7_ n8_ n9_ n10_ n11_ n12_ n13_ n14_
                                clear hb hbox hg
                                refine hK.out _ _ ⟨(blk_cell BK317.out 0).trans rfl, (blk_cell BK317.out 1).trans rfl, (blk_cell BK317.out 2).trans rfl, (blk_cell BK316.out 0).trans rfl, (blk_cell BK316.out 1).trans rfl, (blk_cell BK316.out 2).trans rfl, HS6_⟩ (fun hHeld => ?_)
                                clear hK K
                                refine norm_ (a' := ?_) ?_ ?_
                                rotate_left
                                · show Act.put _ (some 11) _ = _
                                  simp only [Act.put, List.setIfInBounds_toArray, List.set_cons_zero, List.set_cons_succ, i64_w, i32_w]
                                  rfl
                                refine one_ (i := 6) (N := some 71) #[true, true, true, true, true, true, true, false, false, false, true, false, false] rfl rfl (one_of HT_.out (by kernel_rfl)) (by decide) (fun K hK => ?_)
                                refine goes_ Tryd.func14 (by kernel_rfl) rfl #[.int .i64 (rd y325 x53_2), .agg #[.int .i64 a1_0, .int .i64 a1_1, .string a1_2], .agg #[.int .i64 a0_0, .int .i64 a0_1, .string a0_2]] (by rfl) rfl rfl (by (try simp only [List.map_toArray, List.map_cons, List.map_nil]); first | done | rfl | (simp only [List.length_drop, List.length_take]; rfl)) ?_
                                with_reducible refine (value_Test.calls k2 (rd y325 x53_2) a1_0 a1_1 a1_2 a0_0 a0_1 a0_2 t335 t336 t337 t338 _ A50.out).mono ?_
                                rintro e w69 ⟨rfl, hb⟩
                                have HS6_ := (hb.cell (World.block_lt_of_cell? _ _ (hHeld.2.2.2.2.2.2))).trans (hHeld.2.2.2.2.2.2)
                                refine ⟨_, rfl, ?_⟩
                                have n0_ := Aside0.mk (Kd.R_below (by (with_reducible repeat (first | apply Kd.R_alloc | apply Kd.R_drewN | apply Kd.R_drew)); exact HO_6.out) hb)
                                have n1_ := Aside0.mk (Kd.R_below (by (with_reducible repeat (first | apply Kd.R_alloc | apply Kd.R_drewN | apply Kd.R_drew)); exact HO_7.out) hb)
                                have n2_ := Aside0.mk (blk_below (g := gb316) (o := .cells #[.int .i64 a0_0, .int .i64 a0_1, .string a0_2] 23 (0, 0)) (by (with_reducible repeat (first | refine blk_drewN ?_ _ | refine blk_drew ?_ | refine blk_alloc ?_ _)); exact BK316.out) hb)
                                have n3_ := Aside0.mk (blk_below (g := gb317) (o := .cells #[.int .i64 a1_0, .int .i64 a1_1, .string a1_2] 23 (0, 0)) (by (with_reducible repeat (first | refine blk_drewN ?_ _ | refine blk_drew ?_ | refine blk_alloc ?_ _)); exact BK317.out) hb)
                                have n4_ := Aside0.mk (blk_below (g := gb333) (o := .cells #[.int .i64 t329, .int .i64 t330, .string t331] 23 (0, 0)) (by (with_reducible repeat (first | refine blk_drewN ?_ _ | refine blk_drew ?_ | refine blk_alloc ?_ _)); exact BK333.out) hb)
                                have n5_ := Aside0.mk (blk_below (g := gb339) (o := .cells #[.int .i64 0, .int .i64 0, .string (⟨#[]⟩ : ByteArray)] 23 (0, 0)) (by (with_reducible repeat (first | refine blk_drewN ?_ _ | refine blk_drew ?_ | refine blk_alloc ?_ _)); exact BK339.out) hb)
                                have n6_ := Aside0.mk (below_step (by repeat (first | (with_reducible first | exact HB.out | apply below_alloc | apply pw_below_drewN | apply below_drew1 | refine below_set ?_ GE316.out | refine below_set ?_ GE317.out | refine below_set ?_ GE333.out | refine below_set ?_ GE339.out) | exact HB.out)) hb)
                                clear HO_6
                                clear HO_7
                                clear BK316
                                clear BK317
                                clear BK333
                                clear BK339
                                clear HB
                                have HO_6 := n0_
                                have HO_7 := n1_
                                have BK316 := n2_
                                have BK317 := n3_
                                have BK333 := n4_
                                have BK339 := n5_
                                have HB := n6_
                                clear n0_ n1_ n2_ n3_ n4_ n5_ n6_
                                (try clear hb)
                                (try clear hb2)
                                (try clear hk)
                                (try clear hi)
                                refine hK.out _ _ ⟨(blk_cell BK317.out 0).trans rfl, (blk_cell BK317.out 1).trans rfl, (blk_cell BK317.out 2).trans rfl, (blk_cell BK316.out 0).trans rfl, (blk_cell BK316.out 1).trans rfl, (blk_cell BK316.out 2).trans rfl, HS6_⟩ (fun hHeld => ?_)
                                clear hK K
                                refine norm_ (a' := ?_) ?_ ?_
                                rotate_left
                                · show Act.put _ (some 71) _ = _
                                  simp only [Act.put, List.setIfInBounds_toArray, List.set_cons_zero, List.set_cons_succ, i64_w, i32_w]
                                  rfl
                                refine pure_ (i := 7) (N := some 64) (v := ?_) (a' := ?_) #[true, true, true, true, true, true, true, true, false, false, true, false, false] rfl rfl (any_of HT_.out (by kernel_rfl)) (fun _ _ _ h => h) (Or.inl ⟨by rfl, ?_⟩) ?_ ?_
                                rotate_left
                                · intro w'
                                  go_simp
                                  with_reducible rfl
                                rotate_left
                                · simp only [Act.put, List.setIfInBounds_toArray, List.set_cons_zero, List.set_cons_succ, i64_w, i32_w]
                                  rfl
                                refine pure_ (i := 8) (N := some 72) (v := ?_) (a' := ?_) #[true, true, true, true, true, true, true, true, true, false, true, false, false] rfl rfl (any_of HT_.out (by kernel_rfl)) (fun _ _ _ h => h) (Or.inl ⟨by rfl, ?_⟩) ?_ ?_
                                rotate_left
                                · intro w'
                                  go_simp
                                  with_reducible rfl
                                rotate_left
                                · simp only [Act.put, List.setIfInBounds_toArray, List.set_cons_zero, List.set_cons_succ, i64_w, i32_w]
                                  rfl
                                refine pure_ (i := 9) (N := some 73) (v := ?_) (a' := ?_) #[true, true, true, true, true, true, true, true, true, true, true, false, false] rfl rfl (any_of HT_.out (by kernel_rfl)) (fun _ _ _ h => h) (Or.inl ⟨by rfl, ?_⟩) ?_ ?_
                                rotate_left
                                · intro w'
                                  go_simp
                                  with_reducible rfl
                                rotate_left
                                · simp only [Act.put, List.setIfInBounds_toArray, List.set_cons_zero, List.set_cons_succ, i64_w, i32_w]
                                  rfl
                                exact norm_ (by simp only [putAll, Act.put, List.setIfInBounds_toArray, List.set_cons_zero, List.set_cons_succ]) (hCont (gb339) _ ⟨hHeld, (by (with_reducible repeat (first | apply Kd.R_alloc | apply Kd.R_drewN | apply Kd.R_drew)); exact HO_6.out), (by (with_reducible repeat (first | apply Kd.R_alloc | apply Kd.R_drewN | apply Kd.R_drew)); exact HO_7.out), (by (with_reducible repeat (first | refine blk_drewN ?_ _ | refine blk_drew ?_ | refine blk_alloc ?_ _)); exact BK316.out), (by (with_reducible repeat (first | refine blk_drewN ?_ _ | refine blk_drew ?_ | refine blk_alloc ?_ _)); exact BK317.out), (by (with_reducible repeat (first | refine blk_drewN ?_ _ | refine blk_drew ?_ | refine blk_alloc ?_ _)); exact BK333.out), (by (with_reducible repeat (first | refine blk_drewN ?_ _ | refine blk_drew ?_ | refine blk_alloc ?_ _)); exact BK339.out), GW339.out, GE339.out, NB316_339.out, NB339_316.out, NB317_339.out, NB339_317.out, NB333_339.out, NB339_333.out, (by repeat (first | (with_reducible first | exact HB.out | apply below_alloc | apply pw_below_drewN | apply below_drew1 | refine below_set ?_ GE316.out | refine below_set ?_ GE317.out | refine below_set ?_ GE333.out | refine below_set ?_ GE339.out) | exact HB.out))⟩)
                            rintro gb339 w70 ⟨hS_, h0_, h1_, h2_, h3_, h4_, h5_, h6_, h7_, h8_, h9_, h10_, h11_, h12_, h13_, h14_⟩
                            have n0_ : Aside0 (Kd.R Kd.bool 4 w70 w.heap.size (fun _ => True) (.slice Ao45 y322.length co45) y322) := ⟨h0_⟩
                            have n1_ : Aside0 (Kd.R (Kd.int .i64) 3 w70 w.heap.size (fun _ => True) (.slice (some ad334) y325.length co67) y325) := ⟨h1_⟩
                            have n2_ : Aside0 (w70.heap[gb316]? = some (.cells #[.int .i64 a0_0, .int .i64 a0_1, .string a0_2] 23 (0, 0))) := ⟨h2_⟩
                            have n3_ : Aside0 (w70.heap[gb317]? = some (.cells #[.int .i64 a1_0, .int .i64 a1_1, .string a1_2] 23 (0, 0))) := ⟨h3_⟩
                            have n4_ : Aside0 (w70.heap[gb333]? = some (.cells #[.int .i64 t329, .int .i64 t330, .string t331] 23 (0, 0))) := ⟨h4_⟩
                            have n5_ : Aside0 (w70.heap[gb339]? = some (.cells #[.int .i64 0, .int .i64 0, .string (⟨#[]⟩ : ByteArray)] 23 (0, 0))) := ⟨h5_⟩
                            have n6_ : Aside0 (w.heap.size ≤ gb339) := ⟨h6_⟩
                            have n7_ : Aside0 (w.heap.size ≤ gb339) := ⟨h7_⟩
                            have n8_ : Aside0 (gb316 ≠ gb339) := ⟨h8_⟩
                            have n9_ : Aside0 (gb339 ≠ gb316) := ⟨h9_⟩
                            have n10_ : Aside0 (gb317 ≠ gb339) := ⟨h10_⟩
                            have n11_ : Aside0 (gb339 ≠ gb317) := ⟨h11_⟩
                            have n12_ : Aside0 (gb333 ≠ gb339) := ⟨h12_⟩
                            have n13_ : Aside0 (gb339 ≠ gb333) := ⟨h13_⟩
                            have n14_ : Aside0 (Below w.heap.size w w70) := ⟨h14_⟩
                            clear HO_6
                            clear HO_7
                            clear BK316
                            clear BK317
                            clear BK333
                            clear HB
                            clear h0_ h1_ h2_ h3_ h4_ h5_ h6_ h7_ h8_ h9_ h10_ h11_ h12_ h13_ h14_
                            have HO_6 := n0_
                            have HO_7 := n1_
                            have BK316 := n2_
                            have BK317 := n3_
                            have BK333 := n4_
                            have BK339 := n5_
                            have GW339 := n6_
                            have GE339 := n7_
                            have NB316_339 := n8_
                            have NB339_316 := n9_
                            have NB317_339 := n10_
                            have NB339_317 := n11_
                            have NB333_339 := n12_
                            have NB339_333 := n13_
                            have HB := n14_
                            clear n0_ n1_ n2_ n3_ n4_ n5_ n6_ n7_ n8_ n9_ n10_ n11_ n12_ n13_ n14_
                            have hHeld : w70.cell? ⟨gb317, 0, none⟩ = some (.int .i64 a1_0) ∧ w70.cell? ⟨gb317, 1, none⟩ = some (.int .i64 a1_1) ∧ w70.cell? ⟨gb317, 2, none⟩ = some (.string a1_2) ∧ w70.cell? ⟨gb316, 0, none⟩ = some (.int .i64 a0_0) ∧ w70.cell? ⟨gb316, 1, none⟩ = some (.int .i64 a0_1) ∧ w70.cell? ⟨gb316, 2, none⟩ = some (.string a0_2) ∧ w70.cell? (ad334.add (x53_2).toNat) = some (.int .i64 (rd y325 x53_2)) := hS_
                            refine norm_ (a' := ?_) ?_ ?_
                            rotate_left
                            · simp only [putAll, Act.put, List.setIfInBounds_toArray, List.set_cons_zero, List.set_cons_succ]
                              rfl
                            refine one_ (i := 11) (N := none) #[true, true, true, true, true, true, true, true, true, true, true, true, false] rfl rfl (one_of HT_.out (by kernel_rfl)) (by decide) (fun K hK => ?_)
                            have hs71 : w70.cell? ⟨gb339, 0, none⟩ = some (.int .i64 0) := (blk_cell BK339.out 0).trans rfl
                            have hfs71 := blk_frozen BK339.out 0
                            have hns71_0 := NB316_339.out
                            have hns71_1 := NB317_339.out
                            have hns71_2 := NB333_339.out
                            have hms71_0 := NB339_316.out
                            have hms71_1 := NB339_317.out
                            have hms71_2 := NB339_333.out
                            have hs72 : w70.cell? ⟨gb339, 1, none⟩ = some (.int .i64 0) := (blk_cell BK339.out 1).trans rfl
                            have hfs72 := blk_frozen BK339.out 1
                            have hns72_0 := NB316_339.out
                            have hns72_1 := NB317_339.out
                            have hns72_2 := NB333_339.out
                            have hms72_0 := NB339_316.out
                            have hms72_1 := NB339_317.out
                            have hms72_2 := NB339_333.out
                            have hs73 : w70.cell? ⟨gb339, 2, none⟩ = some (.string (⟨#[]⟩ : ByteArray)) := (blk_cell BK339.out 2).trans rfl
                            have hfs73 := blk_frozen BK339.out 2
                            have hns73_0 := NB316_339.out
                            have hns73_1 := NB317_339.out
                            have hns73_2 := NB333_339.out
                            have hms73_0 := NB339_316.out
                            have hms73_1 := NB339_317.out
                            have hms73_2 := NB339_333.out
                            refine skip_ (w1 := ?_) (by rfl) rfl ?_ ?_
                            rotate_left
                            · go_simp
                              rfl
                            refine hK.out _ _ ⟨((cell_far (p := ⟨gb339, _, none⟩) NB317_339.out _).trans (((cell_far (p := ⟨gb339, _, none⟩) NB317_339.out _).trans (((cell_far (p := ⟨gb339, _, none⟩) NB317_339.out _).trans (hHeld.1)))))), ((cell_far (p := ⟨gb339, _, none⟩) NB317_339.out _).trans (((cell_far (p := ⟨gb339, _, none⟩) NB317_339.out _).trans (((cell_far (p := ⟨gb339, _, none⟩) NB317_339.out _).trans (hHeld.2.1)))))), ((cell_far (p := ⟨gb339, _, none⟩) NB317_339.out _).trans (((cell_far (p := ⟨gb339, _, none⟩) NB317_339.out _).trans (((cell_far (p := ⟨gb339, _, none⟩) NB317_339.out _).trans (hHeld.2.2.1)))))), ((cell_far (p := ⟨gb339, _, none⟩) NB316_339.out _).trans (((cell_far (p := ⟨gb339, _, none⟩) NB316_339.out _).trans (((cell_far (p := ⟨gb339, _, none⟩) NB316_339.out _).trans (hHeld.2.2.2.1)))))), ((cell_far (p := ⟨gb339, _, none⟩) NB316_339.out _).trans (((cell_far (p := ⟨gb339, _, none⟩) NB316_339.out _).trans (((cell_far (p := ⟨gb339, _, none⟩) NB316_339.out _).trans (hHeld.2.2.2.2.1)))))), ((cell_far (p := ⟨gb339, _, none⟩) NB316_339.out _).trans (((cell_far (p := ⟨gb339, _, none⟩) NB316_339.out _).trans (((cell_far (p := ⟨gb339, _, none⟩) NB316_339.out _).trans (hHeld.2.2.2.2.2.1)))))), ((cell_far (p := ⟨gb339, _, none⟩) (by first | exact Kd.own_blk (Kd.R_ne HO_7.out BK339.out (by decide)) | (rw [add_block]; exact Kd.own_blk (Kd.R_ne HO_7.out BK339.out (by decide))) | (show (Addr.add _ _).block ≠ _; rw [add_block]; exact Kd.own_blk (Kd.R_ne HO_7.out BK339.out (by decide))) | (dsimp only; exact Kd.own_blk (Kd.R_ne HO_7.out BK339.out (by decide)))) _).trans (((cell_far (p := ⟨gb339, _, none⟩) (by first | exact Kd.own_blk (Kd.R_ne HO_7.out BK339.out (by decide)) | (rw [add_block]; exact Kd.own_blk (Kd.R_ne HO_7.out BK339.out (by decide))) | (show (Addr.add _ _).block ≠ _; rw [add_block]; exact Kd.own_blk (Kd.R_ne HO_7.out BK339.out (by decide))) | (dsimp only; exact Kd.own_blk (Kd.R_ne HO_7.out BK339.out (by decide)))) _).trans (((cell_far (p := ⟨gb339, _, none⟩) (by first | exact Kd.own_blk (Kd.R_ne HO_7.out BK339.out (by decide)) | (rw [add_block]; exact Kd.own_blk (Kd.R_ne HO_7.out BK339.out (by decide))) | (show (Addr.add _ _).block ≠ _; rw [add_block]; exact Kd.own_blk (Kd.R_ne HO_7.out BK339.out (by decide))) | (dsimp only; exact Kd.own_blk (Kd.R_ne HO_7.out BK339.out (by decide)))) _).trans (hHeld.2.2.2.2.2.2))))))⟩ (fun hHeld => ?_)
                            clear hK K
                            refine pure_ (i := 12) (N := some 12) (v := ?_) (a' := ?_) #[true, true, true, true, true, true, true, true, true, true, true, true, true] rfl rfl (any_of HT_.out (by kernel_rfl)) (fun _ _ _ h => h) (Or.inl ⟨by rfl, ?_⟩) ?_ ?_
                            rotate_left
                            · intro w'
                              go_simp
                              with_reducible rfl
                            rotate_left
                            · simp only [Act.put, List.setIfInBounds_toArray, List.set_cons_zero, List.set_cons_succ, i64_w, i32_w]
                              rfl
                            refine done_ (done_of HT_.out (by kernel_rfl)) ?_
                            try go_wp2
                            have n0_ : Aside0 (Kd.R Kd.bool 4 (((w70.setCell ⟨gb339, 0, none⟩ (.int .i64 t335)).setCell ⟨gb339, 1, none⟩ (.int .i64 t336)).setCell ⟨gb339, 2, none⟩ (.string t337)) w.heap.size (fun _ => True) (.slice Ao45 y322.length co45) y322) := ⟨by (with_reducible repeat (first | apply Kd.R_alloc | apply Kd.R_drewN | apply Kd.R_drew)); exact Kd.R_mono (Kd.R_far (p := ⟨gb339, 2, none⟩) (Kd.R_far (p := ⟨gb339, 1, none⟩) (Kd.R_far (p := ⟨gb339, 0, none⟩) (Kd.R_types HO_6.out BK339.out (by decide)) (fun _ hk => hk.2) (.int .i64 t335)) (fun _ hk => hk.2) (.int .i64 t336)) (fun _ hk => hk.2) (.string t337)) (fun _ hk => trivial)⟩
                            have n1_ : Aside0 (Kd.R (Kd.int .i64) 3 (((w70.setCell ⟨gb339, 0, none⟩ (.int .i64 t335)).setCell ⟨gb339, 1, none⟩ (.int .i64 t336)).setCell ⟨gb339, 2, none⟩ (.string t337)) w.heap.size (fun _ => True) (.slice (some ad334) y325.length co67) y325) := ⟨by (with_reducible repeat (first | apply Kd.R_alloc | apply Kd.R_drewN | apply Kd.R_drew)); exact Kd.R_mono (Kd.R_far (p := ⟨gb339, 2, none⟩) (Kd.R_far (p := ⟨gb339, 1, none⟩) (Kd.R_far (p := ⟨gb339, 0, none⟩) (Kd.R_types HO_7.out BK339.out (by decide)) (fun _ hk => hk.2) (.int .i64 t335)) (fun _ hk => hk.2) (.int .i64 t336)) (fun _ hk => hk.2) (.string t337)) (fun _ hk => trivial)⟩
                            have n2_ : Aside0 ((((w70.setCell ⟨gb339, 0, none⟩ (.int .i64 t335)).setCell ⟨gb339, 1, none⟩ (.int .i64 t336)).setCell ⟨gb339, 2, none⟩ (.string t337)).heap[gb316]? = some (.cells #[.int .i64 a0_0, .int .i64 a0_1, .string a0_2] 23 (0, 0))) := ⟨by (with_reducible repeat (first | refine blk_drewN ?_ _ | refine blk_drew ?_ | refine blk_alloc ?_ _)); refine blk_far ?_ NB316_339.out _; (with_reducible repeat (first | refine blk_drewN ?_ _ | refine blk_drew ?_ | refine blk_alloc ?_ _)); refine blk_far ?_ NB316_339.out _; (with_reducible repeat (first | refine blk_drewN ?_ _ | refine blk_drew ?_ | refine blk_alloc ?_ _)); refine blk_far ?_ NB316_339.out _; (with_reducible repeat (first | refine blk_drewN ?_ _ | refine blk_drew ?_ | refine blk_alloc ?_ _)); exact BK316.out⟩
                            have n3_ : Aside0 ((((w70.setCell ⟨gb339, 0, none⟩ (.int .i64 t335)).setCell ⟨gb339, 1, none⟩ (.int .i64 t336)).setCell ⟨gb339, 2, none⟩ (.string t337)).heap[gb317]? = some (.cells #[.int .i64 a1_0, .int .i64 a1_1, .string a1_2] 23 (0, 0))) := ⟨by (with_reducible repeat (first | refine blk_drewN ?_ _ | refine blk_drew ?_ | refine blk_alloc ?_ _)); refine blk_far ?_ NB317_339.out _; (with_reducible repeat (first | refine blk_drewN ?_ _ | refine blk_drew ?_ | refine blk_alloc ?_ _)); refine blk_far ?_ NB317_339.out _; (with_reducible repeat (first | refine blk_drewN ?_ _ | refine blk_drew ?_ | refine blk_alloc ?_ _)); refine blk_far ?_ NB317_339.out _; (with_reducible repeat (first | refine blk_drewN ?_ _ | refine blk_drew ?_ | refine blk_alloc ?_ _)); exact BK317.out⟩
                            have n4_ : Aside0 ((((w70.setCell ⟨gb339, 0, none⟩ (.int .i64 t335)).setCell ⟨gb339, 1, none⟩ (.int .i64 t336)).setCell ⟨gb339, 2, none⟩ (.string t337)).heap[gb333]? = some (.cells #[.int .i64 t329, .int .i64 t330, .string t331] 23 (0, 0))) := ⟨by (with_reducible repeat (first | refine blk_drewN ?_ _ | refine blk_drew ?_ | refine blk_alloc ?_ _)); refine blk_far ?_ NB333_339.out _; (with_reducible repeat (first | refine blk_drewN ?_ _ | refine blk_drew ?_ | refine blk_alloc ?_ _)); refine blk_far ?_ NB333_339.out _; (with_reducible repeat (first | refine blk_drewN ?_ _ | refine blk_drew ?_ | refine blk_alloc ?_ _)); refine blk_far ?_ NB333_339.out _; (with_reducible repeat (first | refine blk_drewN ?_ _ | refine blk_drew ?_ | refine blk_alloc ?_ _)); exact BK333.out⟩
                            have n5_ : Aside0 ((((w70.setCell ⟨gb339, 0, none⟩ (.int .i64 t335)).setCell ⟨gb339, 1, none⟩ (.int .i64 t336)).setCell ⟨gb339, 2, none⟩ (.string t337)).heap[gb339]? = some (.cells #[.int .i64 t335, .int .i64 t336, .string t337] 23 (0, 0))) := ⟨by (with_reducible repeat (first | refine blk_drewN ?_ _ | refine blk_drew ?_ | refine blk_alloc ?_ _)); refine blk_put (cs := #[.int .i64 t335, .int .i64 t336, .string (⟨#[]⟩ : ByteArray)]) ?_ 2 _ rfl; (with_reducible repeat (first | refine blk_drewN ?_ _ | refine blk_drew ?_ | refine blk_alloc ?_ _)); refine blk_put (cs := #[.int .i64 t335, .int .i64 0, .string (⟨#[]⟩ : ByteArray)]) ?_ 1 _ rfl; (with_reducible repeat (first | refine blk_drewN ?_ _ | refine blk_drew ?_ | refine blk_alloc ?_ _)); refine blk_put (cs := #[.int .i64 0, .int .i64 0, .string (⟨#[]⟩ : ByteArray)]) ?_ 0 _ rfl; (with_reducible repeat (first | refine blk_drewN ?_ _ | refine blk_drew ?_ | refine blk_alloc ?_ _)); exact BK339.out⟩
                            have n6_ : Aside0 (Below w.heap.size w (((w70.setCell ⟨gb339, 0, none⟩ (.int .i64 t335)).setCell ⟨gb339, 1, none⟩ (.int .i64 t336)).setCell ⟨gb339, 2, none⟩ (.string t337))) := ⟨by repeat (first | (with_reducible first | exact HB.out | apply below_alloc | apply pw_below_drewN | apply below_drew1 | refine below_set ?_ GE316.out | refine below_set ?_ GE317.out | refine below_set ?_ GE333.out | refine below_set ?_ GE339.out) | exact HB.out)⟩
                            (try clear HO_6)
                            (try clear HO_7)
                            (try clear BK316)
                            (try clear BK317)
                            (try clear BK333)
                            (try clear BK339)
                            (try clear HB)
                            generalize (((w70.setCell ⟨gb339, 0, none⟩ (.int .i64 t335)).setCell ⟨gb339, 1, none⟩ (.int .i64 t336)).setCell ⟨gb339, 2, none⟩ (.string t337)) = w74 at n0_ n1_ n2_ n3_ n4_ n5_ n6_ ⊢
                            have HO_6 := n0_
                            have HO_7 := n1_
                            have BK316 := n2_
                            have BK317 := n3_
                            have BK333 := n4_
                            have BK339 := n5_
                            have HB := n6_
                            clear n0_ n1_ n2_ n3_ n4_ n5_ n6_
                            have n0_ := Aside0.mk (Kd.R_drew HO_6.out)
                            have n1_ := Aside0.mk (Kd.R_drew HO_7.out)
                            have n2_ := Aside0.mk (blk_drew BK316.out)
                            have n3_ := Aside0.mk (blk_drew BK317.out)
                            have n4_ := Aside0.mk (blk_drew BK333.out)
                            have n5_ := Aside0.mk (blk_drew BK339.out)
                            have n6_ := Aside0.mk (below_drew1 HB.out)
                            clear HO_6
                            clear HO_7
                            clear BK316
                            clear BK317
                            clear BK333
                            clear BK339
                            clear HB
                            have HO_6 := n0_
                            have HO_7 := n1_
                            have BK316 := n2_
                            have BK317 := n3_
                            have BK333 := n4_
                            have BK339 := n5_
                            have HB := n6_
                            clear n0_ n1_ n2_ n3_ n4_ n5_ n6_
                            have p340 : 0 ≤ (x53_2 : Int) := of_decide_eq_true (by first | (with_reducible assumption) | assumption)
                            have q340 : x53_2 < (y322.length : Int) := of_decide_eq_true (by first | (with_reducible assumption) | assumption)
                            obtain ⟨ad340, e340, hx340_0⟩ := Kd.at_bool (Kd.R_reads' HO_6.out).2.2 x53_2 p340 q340
                            cases e340
                            replace p340 := eq_true p340
                            replace q340 := eq_true q340
                            refine start_ (n := 20) (S := fun w' => w'.cell? ⟨gb333, 0, none⟩ = some (.int .i64 t329) ∧ w'.cell? ⟨gb333, 1, none⟩ = some (.int .i64 t330) ∧ w'.cell? ⟨gb333, 2, none⟩ = some (.string t331) ∧ w'.cell? ⟨gb339, 0, none⟩ = some (.int .i64 t335) ∧ w'.cell? ⟨gb339, 1, none⟩ = some (.int .i64 t336) ∧ w'.cell? ⟨gb339, 2, none⟩ = some (.string t337) ∧ w'.cell? (ad340.add (x53_2).toNat) = some (.bool (rdOf false y322 x53_2))) (ds := []) #[false, false, false, false, false, false, false, false, false, false, false, false, false, false, false, false, false, false, false, false] (by kernel_rfl) rfl rfl ⟨(blk_cell BK333.out 0).trans rfl, (blk_cell BK333.out 1).trans rfl, (blk_cell BK333.out 2).trans rfl, (blk_cell BK339.out 0).trans rfl, (blk_cell BK339.out 1).trans rfl, (blk_cell BK339.out 2).trans rfl, hx340_0⟩ (fun hHeld => ?_); refine with_tabW alumlaw19_ValueTestsAgree.tab11 alumlaw19_ValueTestsAgree.bits11 (fun HT_ HW_ => ?_)
                            generalize w74.drew = w75 at HO_6 HO_7 BK316 BK317 BK333 BK339 HB hx340_0 hHeld ⊢
                            refine pure_ (i := 0) (N := some 74) (v := ?_) (a' := ?_) #[true, false, false, false, false, false, false, false, false, false, false, false, false, false, false, false, false, false, false, false] rfl rfl (any_of HT_.out (by kernel_rfl)) (fun _ _ _ h => h) (Or.inl ⟨by rfl, ?_⟩) ?_ ?_
                            rotate_left
                            · intro w'
                              go_simp
                              with_reducible rfl
                            rotate_left
                            · simp only [Act.put, List.setIfInBounds_toArray, List.set_cons_zero, List.set_cons_succ, i64_w, i32_w]
                              rfl
                            refine pure_ (i := 1) (N := some 75) (v := ?_) (a' := ?_) #[true, true, false, false, false, false, false, false, false, false, false, false, false, false, false, false, false, false, false, false] rfl rfl (any_of HT_.out (by kernel_rfl)) (fun _ _ _ h => h) (Or.inl ⟨by rfl, ?_⟩) ?_ ?_
                            rotate_left
                            · intro w'
                              go_simp
                              with_reducible rfl
                            rotate_left
                            · simp only [Act.put, List.setIfInBounds_toArray, List.set_cons_zero, List.set_cons_succ, i64_w, i32_w]
                              rfl
                            refine pure_ (i := 2) (N := some 76) (v := ?_) (a' := ?_) #[true, true, true, false, false, false, false, false, false, false, false, false, false, false, false, false, false, false, false, false] rfl rfl (any_of HT_.out (by kernel_rfl)) (fun _ _ _ h => h) (Or.inl ⟨by rfl, ?_⟩) ?_ ?_
                            rotate_left
                            · intro w'
                              go_simp
                              with_reducible rfl
                            rotate_left
                            · simp only [Act.put, List.setIfInBounds_toArray, List.set_cons_zero, List.set_cons_succ, i64_w, i32_w]
                              rfl
                            refine pure_ (i := 3) (N := some 77) (v := ?_) (a' := ?_) #[true, true, true, true, false, false, false, false, false, false, false, false, false, false, false, false, false, false, false, false] rfl rfl (any_of HT_.out (by kernel_rfl)) (fun _ _ _ h => h) (Or.inl ⟨by rfl, ?_⟩) ?_ ?_
                            rotate_left
                            · intro w'
                              go_simp
                              with_reducible rfl
                            rotate_left
                            · simp only [Act.put, List.setIfInBounds_toArray, List.set_cons_zero, List.set_cons_succ, i64_w, i32_w]
                              rfl
                            refine pure_ (i := 4) (N := some 78) (v := ?_) (a' := ?_) #[true, true, true, true, true, false, false, false, false, false, false, false, false, false, false, false, false, false, false, false] rfl rfl (any_of HT_.out (by kernel_rfl)) (fun _ _ _ h => h) (Or.inl ⟨by rfl, ?_⟩) ?_ ?_
                            rotate_left
                            · intro w'
                              go_simp
                              with_reducible rfl
                            rotate_left
                            · simp only [Act.put, List.setIfInBounds_toArray, List.set_cons_zero, List.set_cons_succ, i64_w, i32_w]
                              rfl
                            refine pure_ (i := 5) (N := some 79) (v := ?_) (a' := ?_) #[true, true, true, true, true, true, false, false, false, false, false, false, false, false, false, false, false, false, false, false] rfl rfl (any_of HT_.out (by kernel_rfl)) (fun _ _ _ h => h) (Or.inl ⟨by rfl, ?_⟩) ?_ ?_
                            rotate_left
                            · intro w'
                              go_simp
                              with_reducible rfl
                            rotate_left
                            · simp only [Act.put, List.setIfInBounds_toArray, List.set_cons_zero, List.set_cons_succ, i64_w, i32_w]
                              rfl
                            refine pure_ (i := 6) (N := some 80) (v := ?_) (a' := ?_) #[true, true, true, true, true, true, true, false, false, false, false, false, false, false, false, false, false, false, false, false] rfl rfl (any_of HT_.out (by kernel_rfl)) (fun _ _ _ h => h) (Or.inl ⟨by rfl, ?_⟩) ?_ ?_
                            rotate_left
                            · intro w'
                              go_simp
                              with_reducible rfl
                            rotate_left
                            · simp only [Act.put, List.setIfInBounds_toArray, List.set_cons_zero, List.set_cons_succ, i64_w, i32_w]
                              rfl
                            refine pure_ (i := 8) (N := some 82) (v := ?_) (a' := ?_) #[true, true, true, true, true, true, true, false, true, false, false, false, false, false, false, false, false, false, false, false] rfl rfl (any_of HT_.out (by kernel_rfl)) (fun _ _ _ h => h) (Or.inl ⟨by rfl, ?_⟩) ?_ ?_
                            rotate_left
                            · intro w'
                              go_simp
                              with_reducible rfl
                            rotate_left
                            · simp only [Act.put, List.setIfInBounds_toArray, List.set_cons_zero, List.set_cons_succ, i64_w, i32_w]
                              rfl
                            refine pure_ (i := 9) (N := some 83) (v := ?_) (a' := ?_) #[true, true, true, true, true, true, true, false, true, true, false, false, false, false, false, false, false, false, false, false] rfl rfl (any_of HT_.out (by kernel_rfl)) (fun _ _ _ h => h) (Or.inl ⟨by rfl, ?_⟩) ?_ ?_
                            rotate_left
                            · intro w'
                              go_simp
                              with_reducible rfl
                            rotate_left
                            · simp only [Act.put, List.setIfInBounds_toArray, List.set_cons_zero, List.set_cons_succ, i64_w, i32_w]
                              rfl
                            refine pure_ (i := 10) (N := some 84) (v := ?_) (a' := ?_) #[true, true, true, true, true, true, true, false, true, true, true, false, false, false, false, false, false, false, false, false] rfl rfl (any_of HT_.out (by kernel_rfl)) (fun _ _ _ h => h) (Or.inl ⟨by rfl, ?_⟩) ?_ ?_
                            rotate_left
                            · intro w'
                              go_simp
                              with_reducible rfl
                            rotate_left
                            · simp only [Act.put, List.setIfInBounds_toArray, List.set_cons_zero, List.set_cons_succ, i64_w, i32_w]
                              rfl
                            refine take_ (i := 7) (N := some 81) (v := ?_) (a' := ?_) #[true, true, true, true, true, true, true, true, true, true, true, false, false, false, false, false, false, false, false, false] rfl rfl (take_ofW HT_.out HW_.out (by kernel_rfl)) (fun _ _ _ h => h) (Or.inl ⟨by rfl, ?_⟩) hHeld ?_ ?_
                            rotate_left
                            · rintro w' ⟨s0, s1, s2, s3, s4, s5, s6⟩
                              go_simp
                              with_reducible rfl
                            rotate_left
                            · simp only [Act.put, List.setIfInBounds_toArray, List.set_cons_zero, List.set_cons_succ, i64_w, i32_w]
                              rfl
                            refine take_ (i := 11) (N := some 85) (v := ?_) (a' := ?_) #[true, true, true, true, true, true, true, true, true, true, true, true, false, false, false, false, false, false, false, false] rfl rfl (take_ofW HT_.out HW_.out (by kernel_rfl)) (fun _ _ _ h => h) (Or.inl ⟨by rfl, ?_⟩) hHeld ?_ ?_
                            rotate_left
                            · rintro w' ⟨s0, s1, s2, s3, s4, s5, s6⟩
                              go_simp
                              with_reducible rfl
                            rotate_left
                            · simp only [Act.put, List.setIfInBounds_toArray, List.set_cons_zero, List.set_cons_succ, i64_w, i32_w]
                              rfl
                            refine one_ (i := 12) (N := some 86) #[true, true, true, true, true, true, true, true, true, true, true, true, true, false, false, false, false, false, false, false] rfl rfl (one_of HT_.out (by kernel_rfl)) (by decide) (fun K hK => ?_)
                            refine goes_ Tryd.func15 (by kernel_rfl) rfl #[.bool (rdOf false y322 x53_2)] (by rfl) rfl rfl (by (try simp only [List.map_toArray, List.map_cons, List.map_nil]); first | done | rfl | (simp only [List.length_drop, List.length_take]; rfl)) ?_
                            with_reducible refine (alumref19_Bool.calls (rdOf false y322 x53_2) t341 t342 t343 _ A54.out).mono ?_
                            rintro e w76 ⟨rfl, hb⟩
                            have HS6_ := (hb.cell (World.block_lt_of_cell? _ _ (hHeld.2.2.2.2.2.2))).trans (hHeld.2.2.2.2.2.2)
                            refine ⟨_, rfl, ?_⟩
                            have n0_ := Aside0.mk (Kd.R_below (by (with_reducible repeat (first | apply Kd.R_alloc | apply Kd.R_drewN | apply Kd.R_drew)); exact HO_6.out) hb)
                            have n1_ := Aside0.mk (Kd.R_below (by (with_reducible repeat (first | apply Kd.R_alloc | apply Kd.R_drewN | apply Kd.R_drew)); exact HO_7.out) hb)
                            have n2_ := Aside0.mk (blk_below (g := gb316) (o := .cells #[.int .i64 a0_0, .int .i64 a0_1, .string a0_2] 23 (0, 0)) (by (with_reducible repeat (first | refine blk_drewN ?_ _ | refine blk_drew ?_ | refine blk_alloc ?_ _)); exact BK316.out) hb)
                            have n3_ := Aside0.mk (blk_below (g := gb317) (o := .cells #[.int .i64 a1_0, .int .i64 a1_1, .string a1_2] 23 (0, 0)) (by (with_reducible repeat (first | refine blk_drewN ?_ _ | refine blk_drew ?_ | refine blk_alloc ?_ _)); exact BK317.out) hb)
                            have n4_ := Aside0.mk (blk_below (g := gb333) (o := .cells #[.int .i64 t329, .int .i64 t330, .string t331] 23 (0, 0)) (by (with_reducible repeat (first | refine blk_drewN ?_ _ | refine blk_drew ?_ | refine blk_alloc ?_ _)); exact BK333.out) hb)
                            have n5_ := Aside0.mk (blk_below (g := gb339) (o := .cells #[.int .i64 t335, .int .i64 t336, .string t337] 23 (0, 0)) (by (with_reducible repeat (first | refine blk_drewN ?_ _ | refine blk_drew ?_ | refine blk_alloc ?_ _)); exact BK339.out) hb)
                            have n6_ := Aside0.mk (below_step (by repeat (first | (with_reducible first | exact HB.out | apply below_alloc | apply pw_below_drewN | apply below_drew1 | refine below_set ?_ GE316.out | refine below_set ?_ GE317.out | refine below_set ?_ GE333.out | refine below_set ?_ GE339.out) | exact HB.out)) hb)
                            clear HO_6
                            clear HO_7
                            clear BK316
                            clear BK317
                            clear BK333
                            clear BK339
                            clear HB
                            have HO_6 := n0_
                            have HO_7 := n1_
                            have BK316 := n2_
                            have BK317 := n3_
                            have BK333 := n4_
                            have BK339 := n5_
                            have HB := n6_
                            clear n0_ n1_ n2_ n3_ n4_ n5_ n6_
                            (try clear hb)
                            (try clear hb2)
                            (try clear hk)
                            (try clear hi)
                            refine hK.out _ _ ⟨(blk_cell BK333.out 0).trans rfl, (blk_cell BK333.out 1).trans rfl, (blk_cell BK333.out 2).trans rfl, (blk_cell BK339.out 0).trans rfl, (blk_cell BK339.out 1).trans rfl, (blk_cell BK339.out 2).trans rfl, HS6_⟩ (fun hHeld => ?_)
                            clear hK K
                            refine norm_ (a' := ?_) ?_ ?_
                            rotate_left
                            · show Act.put _ (some 86) _ = _
                              simp only [Act.put, List.setIfInBounds_toArray, List.set_cons_zero, List.set_cons_succ, i64_w, i32_w]
                              rfl
                            refine pure_ (i := 13) (N := some 87) (v := ?_) (a' := ?_) #[true, true, true, true, true, true, true, true, true, true, true, true, true, true, false, false, false, false, false, false] rfl rfl (any_of HT_.out (by kernel_rfl)) (fun _ _ _ h => h) (Or.inl ⟨by rfl, ?_⟩) ?_ ?_
                            rotate_left
                            · intro w'
                              go_simp
                              with_reducible rfl
                            rotate_left
                            · simp only [Act.put, List.setIfInBounds_toArray, List.set_cons_zero, List.set_cons_succ, i64_w, i32_w]
                              rfl
                            refine pure_ (i := 14) (N := some 88) (v := ?_) (a' := ?_) #[true, true, true, true, true, true, true, true, true, true, true, true, true, true, true, false, false, false, false, false] rfl rfl (any_of HT_.out (by kernel_rfl)) (fun _ _ _ h => h) (Or.inl ⟨by rfl, ?_⟩) ?_ ?_
                            rotate_left
                            · intro w'
                              go_simp
                              with_reducible rfl
                            rotate_left
                            · simp only [Act.put, List.setIfInBounds_toArray, List.set_cons_zero, List.set_cons_succ, i64_w, i32_w]
                              rfl
                            refine pure_ (i := 15) (N := some 89) (v := ?_) (a' := ?_) #[true, true, true, true, true, true, true, true, true, true, true, true, true, true, true, true, false, false, false, false] rfl rfl (any_of HT_.out (by kernel_rfl)) (fun _ _ _ h => h) (Or.inl ⟨by rfl, ?_⟩) ?_ ?_
                            rotate_left
                            · intro w'
                              go_simp
                              with_reducible rfl
                            rotate_left
                            · simp only [Act.put, List.setIfInBounds_toArray, List.set_cons_zero, List.set_cons_succ, i64_w, i32_w]
                              rfl
                            refine take_ (i := 16) (N := some 90) (v := ?_) (a' := ?_) #[true, true, true, true, true, true, true, true, true, true, true, true, true, true, true, true, true, false, false, false] rfl rfl (take_ofW HT_.out HW_.out (by kernel_rfl)) (fun _ _ _ h => h) (Or.inl ⟨by rfl, ?_⟩) hHeld ?_ ?_
                            rotate_left
                            · rintro w' ⟨s0, s1, s2, s3, s4, s5, s6⟩
                              go_simp
                              with_reducible rfl
                            rotate_left
                            · simp only [Act.put, List.setIfInBounds_toArray, List.set_cons_zero, List.set_cons_succ, i64_w, i32_w]
                              rfl
                            refine take_ (i := 17) (N := some 91) (v := ?_) (a' := ?_) #[true, true, true, true, true, true, true, true, true, true, true, true, true, true, true, true, true, true, false, false] rfl rfl (take_ofW HT_.out HW_.out (by kernel_rfl)) (fun _ _ _ h => h) (Or.inl ⟨by rfl, ?_⟩) hHeld ?_ ?_
                            rotate_left
                            · rintro w' ⟨s0, s1, s2, s3, s4, s5, s6⟩
                              go_simp
                              with_reducible rfl
                            rotate_left
                            · simp only [Act.put, List.setIfInBounds_toArray, List.set_cons_zero, List.set_cons_succ, i64_w, i32_w]
                              rfl
                            refine pure_ (i := 18) (N := some 92) (v := ?_) (a' := ?_) #[true, true, true, true, true, true, true, true, true, true, true, true, true, true, true, true, true, true, true, false] rfl rfl (any_of HT_.out (by kernel_rfl)) (fun _ _ _ h => h) (Or.inl ⟨by rfl, ?_⟩) ?_ ?_
                            rotate_left
                            · intro w'
                              go_simp
                              with_reducible rfl
                            rotate_left
                            · simp only [Act.put, List.setIfInBounds_toArray, List.set_cons_zero, List.set_cons_succ, i64_w, i32_w]
                              rfl
                            refine pure_ (i := 19) (N := some 93) (v := ?_) (a' := ?_) #[true, true, true, true, true, true, true, true, true, true, true, true, true, true, true, true, true, true, true, true] rfl rfl (any_of HT_.out (by kernel_rfl)) (fun _ _ _ h => h) (Or.inl ⟨by rfl, ?_⟩) ?_ ?_
                            rotate_left
                            · intro w'
                              go_simp
                              with_reducible rfl
                            rotate_left
                            · simp only [Act.put, List.setIfInBounds_toArray, List.set_cons_zero, List.set_cons_succ, i64_w, i32_w]
                              rfl
                            refine done_ (done_of HT_.out (by kernel_rfl)) ?_
                            try go_wp2
                            go_roundg k2
                            case measure => have := HJ2.out; have := HK2.out; omega
                            case rel => exact ⟨(wrap64 (x53_2 + 1)), (by first | rfl | (simp; done) | (simp [*]; done)), H', ⟨by have := HJ2.out; have := HK2.out; omega⟩, ⟨by (with_reducible repeat (first | apply Kd.R_alloc | apply Kd.R_drewN | apply Kd.R_drew)); exact HO_6.out⟩, ⟨by (with_reducible repeat (first | apply Kd.R_alloc | apply Kd.R_drewN | apply Kd.R_drew)); exact HO_7.out⟩, ⟨by (with_reducible repeat (first | refine blk_drewN ?_ _ | refine blk_drew ?_ | refine blk_alloc ?_ _)); exact BK316.out⟩, ⟨by (with_reducible repeat (first | refine blk_drewN ?_ _ | refine blk_drew ?_ | refine blk_alloc ?_ _)); exact BK317.out⟩, ⟨by repeat (first | (with_reducible first | exact HB.out | apply below_alloc | apply pw_below_drewN | apply below_drew1 | refine below_set ?_ GE316.out | refine below_set ?_ GE317.out | refine below_set ?_ GE333.out | refine below_set ?_ GE339.out) | exact HB.out)⟩⟩
                      · rw [if_neg c53] at H
                        exact absurd H (by simp)
                    · rw [if_neg c52] at H
                      exact absurd H (by simp)
                  · rw [if_neg c51] at H
                    exact absurd H (by simp)
                · rw [if_neg c49] at H
                  exact absurd H (by simp)
              · rw [if_neg c48] at H
                exact absurd H (by simp)
            · rw [if_neg c46] at H
              have c46b0 : decide (x53_2 < (y322.length : Int)) = false := decide_eq_false c46
              clear c46
              replace H := Option.bind_eq_some_iff.mp H
              obtain ⟨t328, A770, H⟩ := H
              replace H : (some t328) = some r := H
              have A77 := Aside0.mk A770
              clear A770
              obtain rfl := Option.some.inj H
              go_wp2_with (first | ((with_reducible refine gate_callee (f := 12) rfl ?_); refine goesL_ (some 95) rfl rfl Tryd.func12 (by kernel_rfl) rfl #[] rfl (by (try simp only [List.map_toArray, List.map_cons, List.map_nil]); first | done | rfl | (simp only [List.length_drop, List.length_take]; rfl)) ?_; (with_reducible refine (alumlaw19_sanity.calls k2  t328 _ A77.out).mono ?_); rintro e w78 ⟨rfl, hb⟩; refine ⟨_, rfl, ?_⟩; have n0_ := Aside0.mk (Kd.R_below (by (with_reducible repeat (first | apply Kd.R_alloc | apply Kd.R_drewN | apply Kd.R_drew)); exact HO_6.out) hb); have n1_ := Aside0.mk (Kd.R_below (by (with_reducible repeat (first | apply Kd.R_alloc | apply Kd.R_drewN | apply Kd.R_drew)); exact HO_7.out) hb); have n2_ := Aside0.mk (blk_below (g := gb316) (o := .cells #[.int .i64 a0_0, .int .i64 a0_1, .string a0_2] 23 (0, 0)) (by (with_reducible repeat (first | refine blk_drewN ?_ _ | refine blk_drew ?_ | refine blk_alloc ?_ _)); exact BK316.out) hb); have n3_ := Aside0.mk (blk_below (g := gb317) (o := .cells #[.int .i64 a1_0, .int .i64 a1_1, .string a1_2] 23 (0, 0)) (by (with_reducible repeat (first | refine blk_drewN ?_ _ | refine blk_drew ?_ | refine blk_alloc ?_ _)); exact BK317.out) hb); have n4_ := Aside0.mk (below_step (by repeat (first | (with_reducible first | exact HB.out | apply below_alloc | apply pw_below_drewN | apply below_drew1 | refine below_set ?_ GE316.out | refine below_set ?_ GE317.out) | exact HB.out)) hb); clear HO_6; clear HO_7; clear BK316; clear BK317; clear HB; have HO_6 := n0_; have HO_7 := n1_; have BK316 := n2_; have BK317 := n3_; have HB := n4_; clear n0_ n1_ n2_ n3_ n4_; (try clear hb); (try clear hb2); (try clear hk); (try clear hi)))
              go_ret
              exact ⟨by first | rfl | (simp [errW_none, errW_some] <;> rfl) | (simp [*, errW_none, errW_some] <;> rfl), by repeat (first | (with_reducible first | exact HB.out | apply below_alloc | apply pw_below_drewN | apply below_drew1 | refine below_set ?_ GE316.out | refine below_set ?_ GE317.out) | exact HB.out)⟩

end Go.Proofs.YtmhnfdgegejlkaaDoor.P

namespace Go.Proofs.YtmhnfdgegejlkaaDoor.P
open Go.RowKit Go.Proofs.YtmhnfdgegejlkaaDoorW.PrintWords
section
variable {H : Type} {enc : TypeId × Value → H} {P : Program} {W : World}
/-- Whatever reads as data of type t is of kind d, and good. -/
def Opens {α : Type} (enc : TypeId × Value → H) (P : Program) (W : World) (d : Kd α) (t : TypeId) (good : α → Prop) : Prop :=
  P.cellsOf t = d.sz ∧ ∀ (fuel : Nat) (cs : List Value) (x : DataW H) (ps : List MemPlace), DataW.trod enc P W 0 (fun _ => true) true fuel t cs = some (x, ps) → (∀ n ∈ x.weights P t, n ≤ reachBytes) → ∃ a : α, d.K W a cs ∧ good a
theorem opens_int {t : TypeId} {k : IntKind} (hu : P.underlying t = some (.int k)) (hc : P.cellsOf t = 1) : Opens enc P W (Kd.int k) t (fun a => (Lit.int k a).wf = true) := by
  refine ⟨hc, fun fuel cs x ps h _ => ?_⟩
  obtain ⟨n, rfl, _, hw⟩ := DataW.trod_int hu h
  exact ⟨n, rfl, hw⟩
theorem opens_bool {t : TypeId} (hu : P.underlying t = some .bool) (hc : P.cellsOf t = 1) : Opens enc P W Kd.bool t (fun _ => True) := by
  refine ⟨hc, fun fuel cs x ps h _ => ?_⟩
  obtain ⟨n, rfl, _⟩ := DataW.trod_bool hu h
  exact ⟨n, rfl, trivial⟩
theorem opens_string {t : TypeId} (hu : P.underlying t = some .string) (hc : P.cellsOf t = 1) : Opens enc P W Kd.string t (fun s => s.size ≤ 140737488351232) := by
  refine ⟨hc, fun fuel cs x ps h hw => ?_⟩
  obtain ⟨s, rfl, hx, _⟩ := DataW.trod_string hu h
  obtain ⟨rfl, rfl⟩ := Prod.mk.inj hx
  refine ⟨s, rfl, ?_⟩
  have := hw s.data.toList.length (by simp [DataW.weights])
  rw [Array.length_toList] at this
  exact this
/-- The fields from place o on. -/
def OpensFs {α : Type} (enc : TypeId × Value → H) (P : Program) (W : World) (d : Kd α) (fs : List Field) (o : Nat) (good : α → Prop) : Prop :=
  ∀ (n : Nat) (cs : List Value) (xs : List (DataW H × List MemPlace)), xs.length = fs.length → cs.length = o + d.sz →
    (∀ (i : Nat) (f : Field), fs[i]? = some f → DataW.trod enc P W 0 (fun _ => true) true n f.type ((cs.drop f.offset).take (P.cellsOf f.type)) = xs[i]?) →
    (∀ m ∈ DataW.weightsEach P (fs.map (·.type)) (xs.map (·.1)), m ≤ reachBytes) → ∃ a : α, d.K W a (cs.drop o) ∧ good a
theorem opensFs_one {α : Type} {d : Kd α} {f : Field} {o : Nat} {good : α → Prop} (ho : f.offset = o) (hf : Opens enc P W d f.type good) : OpensFs enc P W d [f] o good := by
  intro n cs xs hl hcs h hw
  match xs, hl with
  | [x], _ =>
    have h0 := h 0 f rfl
    rw [ho, hf.1, List.take_of_length_le (by simp; omega)] at h0
    exact hf.2 n _ x.1 x.2 h0 (fun m hm => hw m (by simpa [DataW.weightsEach] using hm))
theorem opensFs_cons {α β : Type} {d : Kd α} {e : Kd β} {f : Field} {fs : List Field} {o o' : Nat} {good : α → Prop} {good' : β → Prop} (ho : f.offset = o) (hf : Opens enc P W d f.type good) (ho' : o + d.sz = o') (hfs : OpensFs enc P W e fs o' good') :
    OpensFs enc P W (Kd.pair d e) (f :: fs) o (fun p => good p.1 ∧ good' p.2) := by
  intro n cs xs hl hcs h hw
  match xs, hl with
  | x :: xs, hl =>
    have hsz : (Kd.pair d e).sz = d.sz + e.sz := rfl
    have h0 := h 0 f rfl
    rw [ho, hf.1] at h0
    obtain ⟨a, ha, ga⟩ := hf.2 n _ x.1 x.2 h0 (fun m hm => hw m (by simp [DataW.weightsEach]; exact Or.inl hm))
    obtain ⟨b, hb, gb⟩ := hfs n cs xs (by simpa using hl) (by omega) (fun i g hg => h (i + 1) g (by simpa using hg)) (fun m hm => hw m (by simp [DataW.weightsEach]; exact Or.inr (by simpa using hm)))
    refine ⟨(a, b), ⟨(cs.drop o).take d.sz, cs.drop o', ?_, ha, hb⟩, ga, gb⟩
    rw [← ho', ← List.drop_drop, List.take_append_drop]
theorem opens_struct {α : Type} {d : Kd α} {t : TypeId} {fs : Array Field} {good : α → Prop} (hu : P.underlying t = some (.struct fs)) (hc : P.cellsOf t = d.sz) (h : OpensFs enc P W d fs.toList 0 good) : Opens enc P W d t good := by
  refine ⟨hc, fun fuel cs x ps hx hw => ?_⟩
  obtain ⟨xs, n, _, he, hl, hn, hf⟩ := DataW.trod_struct hu hx
  obtain ⟨rfl, rfl⟩ := Prod.mk.inj he
  have := h n cs xs (by simpa using hn) (by omega) (fun i f hi => hf i f (by simpa using hi)) (fun m hm => hw m (by simp only [DataW.weights, hu]; exact hm))
  simpa using this
theorem opens_iso {α β : Type} {d : Kd α} {t : TypeId} {good : α → Prop} (f : β → α) (g : α → β) (hfg : ∀ a, f (g a) = a) (h : Opens enc P W d t good) : Opens enc P W (Kd.iso d f) t (fun b => good (f b)) := by
  refine ⟨h.1, fun fuel cs x ps hx hw => ?_⟩
  obtain ⟨a, ha, ga⟩ := h.2 fuel cs x ps hx hw
  exact ⟨g a, by show d.K W (f (g a)) cs; rw [hfg]; exact ha, by show good (f (g a)); rw [hfg]; exact ga⟩
theorem weights_mem_all {P : Program} {e : TypeId} : ∀ {ds : List (DataW H)} {d : DataW H}, d ∈ ds → ∀ n ∈ d.weights P e, n ∈ DataW.weightsAll P e ds
  | _ :: _, _, .head _, n, hn => by simp only [DataW.weightsAll, List.mem_append]; exact Or.inl hn
  | _ :: _, _, .tail _ h, n, hn => by simp only [DataW.weightsAll, List.mem_append]; exact Or.inr (weights_mem_all h n hn)
theorem cells?_cell {w : World} {a : Addr} {n : Nat} {cs : List Value} (h : w.cells? 0 a n = some cs) : cs.length = n ∧ ∀ i u, cs[i]? = some u → w.cell? (a.add i) = some u := by
  unfold World.cells? at h
  rw [if_pos (Nat.zero_le _)] at h
  have hl := mapM_some_length h
  refine ⟨by simpa using hl, fun i u hu => ?_⟩
  have hi : i < n := by
    have := (List.getElem?_eq_some_iff.1 hu).1
    rw [hl] at this
    simpa using this
  have := mapM_some_get h i i (by simp [hi])
  rw [this, hu]
theorem add_add_ (a : Addr) (i j : Nat) : (a.add i).add j = a.add (i + j) := by
  unfold Addr.add
  by_cases h1 : i = 0 <;> by_cases h2 : j = 0 <;> simp [h1, h2, Nat.add_assoc]
theorem list_of_each {α : Type} (n : Nat) (R : Nat → α → Prop) (h : ∀ i, i < n → ∃ a, R i a) : ∃ l : List α, l.length = n ∧ ∀ i a, l[i]? = some a → R i a := by
  induction n with
  | zero => exact ⟨[], rfl, fun i a h => by simp at h⟩
  | succ n ih =>
    obtain ⟨l, hl, hr⟩ := ih (fun i hi => h i (by omega))
    obtain ⟨a, ha⟩ := h n (by omega)
    refine ⟨l ++ [a], by simp [hl], fun i b hb => ?_⟩
    rcases Nat.lt_trichotomy i n with hi | hi | hi
    · rw [List.getElem?_append_left (by omega)] at hb
      exact hr i b hb
    · subst hi
      rw [List.getElem?_append_right (by omega)] at hb
      simp [hl] at hb
      subst hb
      exact ha
    · rw [List.getElem?_eq_none (by simp; omega)] at hb
      cases hb
theorem opens_slice {α : Type} {d : Kd α} {t e : TypeId} {good : α → Prop} {B : Nat} (hu : P.underlying t = some (.slice e)) (hc : P.cellsOf t = 1) (hB : P.bytesOf e = B) (he : Opens enc P W d e good) :
    Opens enc P W (Kd.slice e d) t (fun l => l.length ≤ maxLen ∧ l.length * B ≤ 140737488351232 ∧ ∀ a ∈ l, good a) := by
  refine ⟨hc, fun fuel cs x ps h hw => ?_⟩
  rcases DataW.trod_slice hu h with ⟨rfl, _⟩ | ⟨a, len, cap, elems, rest, n, _, rfl, hx, _, hlc, hcm, hle, hel, _⟩
  · exact ⟨[], ⟨none, 0, rfl, Nat.le_refl _, rfl, by simp, fun h => absurd h (by simp)⟩, by simp, by simp, fun a h => by simp at h⟩
  obtain ⟨rfl, rfl⟩ := Prod.mk.inj hx
  simp only [DataW.weights, hu] at hw
  obtain ⟨l, hl, hr⟩ := list_of_each len (fun i (b : α) => ∃ c, d.K W b c ∧ good b ∧ ∀ j u, c[j]? = some u → W.cell? (a.add (i * d.sz + j)) = some u) (fun i hi => by
    have h1 := hel i hi
    rw [List.getElem?_eq_getElem (by omega)] at h1
    obtain ⟨c, hc1, hc2⟩ := Option.bind_eq_some_iff.1 h1
    have hm : elems[i] ∈ elems := List.getElem_mem _
    obtain ⟨b, hb, gb⟩ := he.2 n c elems[i].1 elems[i].2 hc2 (fun m hm' => hw m (List.mem_cons_of_mem _ (List.mem_append.2 (Or.inl (weights_mem_all (List.mem_map_of_mem hm) m hm')))))
    refine ⟨b, c, hb, gb, fun j u hj => ?_⟩
    have := (cells?_cell hc1).2 j u hj
    rwa [add_add_, he.1] at this)
  have hsz := hw _ (List.mem_cons_self)
  simp only [List.length_map] at hsz
  rw [hB] at hsz
  refine ⟨l, ⟨some a, cap, by rw [hl], by omega, rfl, by unfold maxLen at hcm; omega, fun _ => ⟨a, rfl, fun j p hj => ?_⟩⟩, by omega, ?_, fun b hb => ?_⟩
  · obtain ⟨c, h1, _, h3⟩ := hr j p hj
    exact ⟨c, d.K_len h1, h1, h3⟩
  · have h1 : l.length * B ≤ (elems.length + rest.length) * B := Nat.mul_le_mul_right _ (by omega)
    exact Nat.le_trans h1 hsz
  · obtain ⟨i, hi⟩ := List.mem_iff_getElem?.1 hb
    obtain ⟨c, _, h2, _⟩ := hr i b hi
    exact h2
end
end Go.Proofs.YtmhnfdgegejlkaaDoor.P

namespace Go.Proofs.YtmhnfdgegejlkaaDoor.P
open Go Go.RowKit Go.Proofs.YtmhnfdgegejlkaaDoorW.PrintWords
set_option linter.unusedVariables false
theorem op3 {H : Type} (enc : TypeId × Value → H) (W : World) : Opens enc Tryd.prog W (Kd.int .i64) 3 (fun a => (Lit.int .i64 a).wf = true) := opens_int Tryd.underlying3 (by kernel_rfl)
theorem op9 {H : Type} (enc : TypeId × Value → H) (W : World) : Opens enc Tryd.prog W Kd.string 9 (fun s => s.size ≤ 140737488351232) := opens_string Tryd.underlying9 (by kernel_rfl)
def G23 (x : S23) : Prop := (Lit.int .i64 x.f0).wf = true ∧ (Lit.int .i64 x.f1).wf = true ∧ x.f2.size ≤ 140737488351232
theorem op23 {H : Type} (enc : TypeId × Value → H) (W : World) : Opens enc Tryd.prog W k23 23 G23 := opens_iso (fun x : S23 => (x.f0, x.f1, x.f2)) (fun p => ⟨p.1, p.2.1, p.2.2⟩) (fun _ => rfl) (opens_struct Tryd.underlying23 (by kernel_rfl) (opensFs_cons rfl (op3 enc W) rfl (opensFs_cons rfl (op3 enc W) rfl (opensFs_one rfl (op9 enc W)))))
theorem op4 {H : Type} (enc : TypeId × Value → H) (W : World) : Opens enc Tryd.prog W Kd.bool 4 (fun _ => True) := opens_bool Tryd.underlying4 (by kernel_rfl)
/-- THE ONE PURE STATEMENT of alumlaw19_ValueTestsAgree. -/
def alumlaw19_ValueTestsAgree.Pure : Prop := ∀ (x0 : S23) (x1 : S23), G23 x0 → G23 x1 → ∃ k, alumlaw19_ValueTestsAgree.f k x0.f0 x0.f1 x0.f2 x1.f0 x1.f1 x1.f2 = some true
end Go.Proofs.YtmhnfdgegejlkaaDoor.P

namespace Go.Proofs.YtmhnfdgegejlkaaDoor.V
open Go
set_option linter.unusedSimpArgs false
set_option linter.unusedVariables false
structure TC {α : Type} (f : α → α → Int) : Prop where
  rng : ∀ a b, f a b = -1 ∨ f a b = 0 ∨ f a b = 1
  eq0 : ∀ a b, f a b = 0 ↔ a = b
  sym : ∀ a b, f b a = - f a b
  tr : ∀ a b c, f a b = -1 → f b c = -1 → f a c = -1
namespace TC
variable {α : Type} {f : α → α → Int} (h : TC f)
include h
theorem refl (a : α) : f a a = 0 := (h.eq0 a a).2 rfl
theorem lt_of {a b : α} (hl : f a b < 0) : f a b = -1 := by have := h.rng a b; omega
theorem le_trans {a b c : α} (h1 : f a b ≤ 0) (h2 : f b c ≤ 0) : f a c ≤ 0 := by
  have r1 := h.rng a b; have r2 := h.rng b c
  rcases r1 with r1 | r1 | r1
  · rcases r2 with r2 | r2 | r2
    · have := h.tr a b c r1 r2; omega
    · rw [h.eq0] at r2; subst r2; omega
    · omega
  · rw [h.eq0] at r1; subst r1; exact h2
  · omega
theorem lt_le_trans {a b c : α} (h1 : f a b < 0) (h2 : f b c ≤ 0) : f a c < 0 := by
  have r1 := h.rng a b; have r2 := h.rng b c
  rcases r2 with r2 | r2 | r2
  · have := h.tr a b c (by omega) r2; omega
  · rw [h.eq0] at r2; subst r2; exact h1
  · omega
theorem le_lt_trans {a b c : α} (h1 : f a b ≤ 0) (h2 : f b c < 0) : f a c < 0 := by
  have r1 := h.rng a b; have r2 := h.rng b c
  rcases r1 with r1 | r1 | r1
  · have := h.tr a b c r1 (by omega); omega
  · rw [h.eq0] at r1; subst r1; exact h2
  · omega
theorem bound (a b : α) : -1 ≤ f a b ∧ f a b ≤ 1 := by have := h.rng a b; omega
end TC
def cmpI (a b : Int) : Int := if a < b then -1 else if b < a then 1 else 0
theorem tcI : TC cmpI where
  rng a b := by unfold cmpI; split; · omega
                split <;> omega
  eq0 a b := by unfold cmpI; split; · omega
                split <;> omega
  sym a b := by unfold cmpI; split <;> split <;> (try split) <;> omega
  tr a b c := by
    unfold cmpI
    intro h1 h2
    have h3 : a < b := by
      split at h1
      · assumption
      · split at h1 <;> omega
    have h4 : b < c := by
      split at h2
      · assumption
      · split at h2 <;> omega
    rw [if_pos (by omega)]
/-- Lists by a comparison of their elements. -/
def lcmp {α : Type} (f : α → α → Int) : List α → List α → Int
  | [], [] => 0
  | [], _ :: _ => -1
  | _ :: _, [] => 1
  | a :: x, b :: y => if f a b = 0 then lcmp f x y else f a b
theorem tcL {α : Type} {f : α → α → Int} (h : TC f) : TC (lcmp f) where
  rng a := by
    induction a with
    | nil => intro b; cases b <;> simp [lcmp]
    | cons x a ih =>
      intro b
      cases b with
      | nil => simp [lcmp]
      | cons y b => unfold lcmp; split; exact ih b; exact h.rng x y
  eq0 a := by
    induction a with
    | nil => intro b; cases b <;> simp [lcmp]
    | cons x a ih =>
      intro b
      cases b with
      | nil => simp [lcmp]
      | cons y b =>
        unfold lcmp
        split
        · rename_i h0
          rw [ih, List.cons.injEq, (h.eq0 x y).1 h0]
          simp
        · rename_i h0
          refine ⟨fun e => absurd e h0, fun e => ?_⟩
          rw [List.cons.injEq] at e
          exact absurd ((h.eq0 x y).2 e.1) h0
  sym a := by
    induction a with
    | nil => intro b; cases b <;> simp [lcmp]
    | cons x a ih =>
      intro b
      cases b with
      | nil => simp [lcmp]
      | cons y b =>
        unfold lcmp
        have := h.sym x y
        by_cases h0 : f x y = 0
        · rw [if_pos h0, if_pos (by omega), ih]
        · rw [if_neg h0, if_neg (by omega), this]
  tr a := by
    induction a with
    | nil => intro b c h1 h2; cases c <;> cases b <;> simp_all [lcmp]
    | cons x a ih =>
      intro b c h1 h2
      cases b with
      | nil => simp [lcmp] at h1
      | cons y b =>
        cases c with
        | nil => simp [lcmp] at h2
        | cons z c =>
          unfold lcmp at h1 h2 ⊢
          by_cases h3 : f x y = 0
          · have := (h.eq0 x y).1 h3
            subst this
            rw [if_pos h3] at h1
            by_cases h4 : f x z = 0
            · rw [if_pos h4] at h2 ⊢; exact ih b c h1 h2
            · rw [if_neg h4] at h2 ⊢; exact h2
          · rw [if_neg h3] at h1
            by_cases h4 : f y z = 0
            · have := (h.eq0 y z).1 h4
              subst this
              rw [if_neg h3]; exact h1
            · rw [if_neg h4] at h2
              have := h.tr x y z h1 h2
              rw [if_neg (by omega)]; exact this
def cmpU (a b : UInt8) : Int := if a < b then -1 else if b < a then 1 else 0
theorem tcU : TC cmpU where
  rng a b := by unfold cmpU; split; · omega
                split <;> omega
  eq0 a b := by
    unfold cmpU
    constructor
    · intro h0
      split at h0
      · omega
      · split at h0
        · omega
        · exact UInt8.le_antisymm (UInt8.not_lt.1 ‹¬ b < a›) (UInt8.not_lt.1 ‹¬ a < b›)
    · rintro rfl
      rw [if_neg (UInt8.lt_irrefl a), if_neg (UInt8.lt_irrefl a)]
  sym a b := by
    unfold cmpU
    by_cases h1 : a < b
    · rw [if_pos h1, if_neg (UInt8.lt_asymm h1), if_pos h1]; rfl
    · by_cases h2 : b < a
      · rw [if_pos h2, if_neg h1, if_pos h2]
      · rw [if_neg h1, if_neg h2, if_neg h2, if_neg h1]; rfl
  tr a b c := by
    unfold cmpU
    intro h1 h2
    have h3 : a < b := by
      split at h1
      · assumption
      · split at h1 <;> omega
    have h4 : b < c := by
      split at h2
      · assumption
      · split at h2 <;> omega
    rw [if_pos (UInt8.lt_trans h3 h4)]
theorem compareBytes_eq : ∀ a b : List UInt8, Lib.compareBytes a b = lcmp cmpU a b
  | [], [] => rfl
  | [], _ :: _ => rfl
  | _ :: _, [] => rfl
  | x :: a, y :: b => by
    have ih := compareBytes_eq a b
    unfold Lib.compareBytes lcmp
    have hU : cmpU x y = if x < y then -1 else if y < x then 1 else 0 := rfl
    rw [hU]
    by_cases h1 : x < y
    · simp [h1]
    · by_cases h2 : y < x
      · simp [h1, h2]
      · simp [h1, h2, ih]
def cmpS (a b : ByteArray) : Int := Lib.compareBytes a.data.toList b.data.toList
theorem bytes_ext {a b : ByteArray} (h : a.data.toList = b.data.toList) : a = b := ByteArray.ext (Array.toList_inj.1 h)
theorem tcS : TC cmpS where
  rng a b := by unfold cmpS; rw [compareBytes_eq]; exact (tcL tcU).rng _ _
  eq0 a b := by
    unfold cmpS; rw [compareBytes_eq, (tcL tcU).eq0]
    exact ⟨bytes_ext, fun h => by rw [h]⟩
  sym a b := by unfold cmpS; rw [compareBytes_eq, compareBytes_eq]; exact (tcL tcU).sym _ _
  tr a b c := by unfold cmpS; simp only [compareBytes_eq]; exact (tcL tcU).tr _ _ _
theorem bytesLess_cmp : ∀ a b : List UInt8, (Op.bytesLess a b = true) ↔ lcmp cmpU a b = -1
  | [], [] => by simp [Op.bytesLess, lcmp]
  | [], _ :: _ => by simp [Op.bytesLess, lcmp]
  | _ :: _, [] => by simp [Op.bytesLess, lcmp]
  | x :: a, y :: b => by
    have ih := bytesLess_cmp a b
    unfold Op.bytesLess lcmp
    have hU : cmpU x y = if x < y then -1 else if y < x then 1 else 0 := rfl
    rw [hU]
    by_cases h1 : x < y
    · simp [h1]
    · by_cases h2 : y < x
      · have h3 : x ≠ y := by rintro rfl; exact h1 h2
        simp [h1, h2, h3]
      · have h3 : x = y := UInt8.le_antisymm (UInt8.not_lt.1 h2) (UInt8.not_lt.1 h1)
        subst h3
        simpa [h1] using ih
theorem less_cmpS (a b : ByteArray) : Op.bytesLess a.toList b.toList = decide (cmpS a b = -1) := by
  rw [Bool.eq_iff_iff, bytesLess_cmp, ByteArray.toList_eq, ByteArray.toList_eq, decide_eq_true_eq]
  unfold cmpS
  rw [compareBytes_eq]
theorem toList_beq (a b : ByteArray) : (a.toList == b.toList) = decide (a = b) := by
  rw [Bool.eq_iff_iff, beq_iff_eq, decide_eq_true_eq, ByteArray.toList_eq, ByteArray.toList_eq]
  exact ⟨bytes_ext, fun h => by rw [h]⟩
/-- Two comparisons, the first one first. -/
def cmp2 {α β : Type} (f : α → α → Int) (g : β → β → Int) (a b : α × β) : Int := if f a.1 b.1 = 0 then g a.2 b.2 else f a.1 b.1
theorem tc2 {α β : Type} {f : α → α → Int} {g : β → β → Int} (hf : TC f) (hg : TC g) : TC (cmp2 f g) where
  rng a b := by unfold cmp2; split; exact hg.rng _ _; exact hf.rng _ _
  eq0 a b := by
    unfold cmp2
    split
    · rename_i h; rw [hg.eq0, Prod.ext_iff, (hf.eq0 _ _).1 h]; simp
    · rename_i h
      refine ⟨fun e => absurd e h, fun e => ?_⟩
      subst e
      exact absurd (hf.refl _) h
  sym a b := by
    unfold cmp2
    have := hf.sym a.1 b.1
    by_cases h0 : f a.1 b.1 = 0
    · rw [if_pos h0, if_pos (by omega), hg.sym]
    · rw [if_neg h0, if_neg (by omega), this]
  tr a b c := by
    unfold cmp2
    intro h1 h2
    by_cases h3 : f a.1 b.1 = 0
    · have e := (hf.eq0 _ _).1 h3
      rw [if_pos h3] at h1
      by_cases h4 : f b.1 c.1 = 0
      · rw [if_pos h4] at h2
        rw [e, if_pos h4]; exact hg.tr _ _ _ h1 h2
      · rw [if_neg h4] at h2
        rw [e, if_neg h4]; exact h2
    · rw [if_neg h3] at h1
      by_cases h4 : f b.1 c.1 = 0
      · have e := (hf.eq0 _ _).1 h4
        rw [← e, if_neg h3]; exact h1
      · rw [if_neg h4] at h2
        have := hf.tr _ _ _ h1 h2
        rw [if_neg (by omega)]; exact this
theorem tcOf {α β : Type} {f : α → α → Int} (h : TC f) (g : β → α) (hg : ∀ x y, g x = g y → x = y) : TC fun x y => f (g x) (g y) where
  rng _ _ := h.rng _ _
  eq0 x y := (h.eq0 _ _).trans ⟨hg x y, fun e => by rw [e]⟩
  sym _ _ := h.sym _ _
  tr _ _ _ := h.tr _ _ _
end Go.Proofs.YtmhnfdgegejlkaaDoor.V

namespace Go.Proofs.YtmhnfdgegejlkaaDoor.V
open Go Go.RowKit Go.Proofs.YtmhnfdgegejlkaaDoor.P Go.Proofs.YtmhnfdgegejlkaaDoorW.PrintWords
set_option linter.unusedSimpArgs false
set_option linter.unusedVariables false
abbrev V := S23
abbrev e0 : ByteArray := ⟨#[]⟩
theorem V_ext {a b : V} (h0 : a.f0 = b.f0) (h1 : a.f1 = b.f1) (h2 : a.f2 = b.f2) : a = b := by cases a; cases b; simp_all
theorem wrap64_id {x : Int} (h1 : -9223372036854775808 ≤ x) (h2 : x ≤ 9223372036854775807) : wrap64 x = x := by unfold wrap64; omega
/-- The order of values: kind, number, text. -/
def vcmp (a b : V) : Int := cmp2 cmpI (cmp2 cmpI cmpS) (a.f0, a.f1, a.f2) (b.f0, b.f1, b.f2)
theorem tcV : TC vcmp := tcOf (tc2 tcI (tc2 tcI tcS)) (fun a : V => (a.f0, a.f1, a.f2)) (fun x y h => by simp only [Prod.mk.injEq] at h; exact V_ext h.1 h.2.1 h.2.2)
theorem ev_cmpInt (a b : Int) : cmp_Compare_int.f a b = some (cmpI a b) := by
  unfold cmp_Compare_int.f cmp_isNaN_int.f cmpI
  simp only [bne_self_eq_false, Option.bind_some, Bool.false_eq_true, if_false]
  split
  · rfl
  · split <;> rfl
theorem ev_Or (k : Nat) (x y z : Int) : cmp_Or_int.f (k + 4) [x, y, z] = some (if x = 0 then if y = 0 then z else y else x) := by
  have r0 : rd [x, y, z] 0 = x := rfl
  have r1 : rd [x, y, z] 1 = y := rfl
  have r2 : rd [x, y, z] 2 = z := rfl
  have w1 : wrap64 (0 + 1) = 1 := wrap64_id (by omega) (by omega)
  have w2 : wrap64 (1 + 1) = 2 := wrap64_id (by omega) (by omega)
  have w3 : wrap64 (2 + 1) = 3 := wrap64_id (by omega) (by omega)
  unfold cmp_Or_int.f
  simp only [cmp_Or_int.l0, r0, r1, r2, w1, w2, w3, List.length_cons, List.length_nil]
  by_cases hx : x = 0 <;> by_cases hy : y = 0 <;> by_cases hz : z = 0 <;> simp [hx, hy, hz]
theorem ev_Compare (k : Nat) (a b : V) : value_Compare.f (k + 4) a.f0 a.f1 a.f2 b.f0 b.f1 b.f2 = some (vcmp a b) := by
  unfold value_Compare.f
  simp only [ev_cmpInt, Option.bind_some, strings_Compare.f, ev_Or, vcmp, cmp2]
  by_cases h0 : cmpI a.f0 b.f0 = 0 <;> by_cases h1 : cmpI a.f1 b.f1 = 0 <;> simp [h0, h1, cmpS]
/-- A boolean value's cells. -/
def vB (b : Bool) : Int × Int × ByteArray := (3, if b then 1 else 0, e0)
theorem ev_truth (b : Bool) : value_truth.f b = some (vB b) := by cases b <;> rfl
/-- What an operator says of a comparison. -/
def opT (op c : Int) : Bool := if op = 6 then c == 0 else if op = 7 then c != 0 else if op = 8 then decide (c < 0) else if op = 9 then decide (c ≤ 0) else if op = 10 then decide (c > 0) else decide (c ≥ 0)
def res (p : Int × Int × ByteArray) (e : Int) : Int × Int × ByteArray × Int := (p.1, p.2.1, p.2.2, e)
/-- What Test answers, by a comparison. -/
def vtest (c : V → V → Int) (op : Int) (a b : V) : Int × Int × ByteArray × Int :=
  if op < 6 ∨ 11 < op then (0, 0, e0, 1) else if a.f0 = 0 ∨ b.f0 = 0 then (0, 0, e0, 0) else if a.f0 = b.f0 then res (vB (opT op (c a b))) 0 else (0, 0, e0, 7)
theorem ev_Test (k : Nat) (op : Int) (a b : V) : value_Test.f (k + 6) op a.f0 a.f1 a.f2 b.f0 b.f1 b.f2 = some (vtest vcmp op a b) := by
  unfold value_Test.f vtest
  by_cases h1 : op < 6
  · rw [if_pos h1]; simp [value_Test.j0, h1]
  · rw [if_neg h1]
    by_cases h2 : op > 11
    · have h2' : 11 < op := h2
      simp [value_Test.j0, h2, h2']
    · have h3 : ¬ (op < 6 ∨ 11 < op) := by omega
      rw [if_neg h3, decide_eq_false h2]
      simp only [value_Test.j0, Bool.false_eq_true, if_false]
      by_cases h4 : a.f0 = 0
      · rw [if_pos h4]; simp [value_Test.j1, h4]
      · rw [if_neg h4]
        by_cases h5 : b.f0 = 0
        · simp [value_Test.j1, h5]
        · rw [if_neg (by omega)]
          have h5' : (b.f0 == 0) = false := by simpa using h5
          simp only [value_Test.j1, h5', Bool.false_eq_true, if_false]
          by_cases h6 : a.f0 = b.f0
          · rw [if_pos h6, if_pos h6, ev_Compare k a b]
            simp only [Option.bind_some]
            have hop : op = 6 ∨ op = 7 ∨ op = 8 ∨ op = 9 ∨ op = 10 ∨ op = 11 := by omega
            generalize vcmp a b = c
            have d1 : (!decide (0 < c)) = decide (c ≤ 0) := by by_cases h : 0 < c <;> simp [h] <;> omega
            have d2 : (!decide (c < 0)) = decide (0 ≤ c) := by by_cases h : c < 0 <;> simp [h] <;> omega
            rcases hop with rfl | rfl | rfl | rfl | rfl | rfl <;> simp [ev_truth, opT, res, bne, d1, d2]
          · rw [if_neg h6, if_neg h6]
end Go.Proofs.YtmhnfdgegejlkaaDoor.V

namespace Go.Proofs.YtmhnfdgegejlkaaDoor.V
open Go Go.RowKit Go.Proofs.YtmhnfdgegejlkaaDoor.P Go.Proofs.YtmhnfdgegejlkaaDoorW.PrintWords
set_option linter.unusedSimpArgs false
set_option linter.unusedVariables false
/-- A right value. -/
def Rt (v : V) : Prop := (v.f0 = 0 ∧ v.f1 = 0 ∧ v.f2 = e0) ∨ (v.f0 = 1 ∧ -549755813888 ≤ v.f1 ∧ v.f1 ≤ 549755813887 ∧ v.f2 = e0) ∨ (v.f0 = 2 ∧ v.f1 = 0 ∧ v.f2.size ≤ 40) ∨ (v.f0 = 3 ∧ (v.f1 = 0 ∨ v.f1 = 1) ∧ v.f2 = e0)
theorem empty_beq (s : ByteArray) : (s.toList == ([] : List UInt8)) = true ↔ s = e0 := by
  rw [beq_iff_eq, ByteArray.toList_eq]
  constructor
  · intro h; exact bytes_ext h
  · rintro rfl; rfl
theorem refRight_some (v : V) : ∃ b, alumref19_Right.f v.f0 v.f1 v.f2 = some b ∧ (b = true ↔ Rt v) := by
  unfold alumref19_Right.f Rt
  by_cases h0 : v.f0 = 0
  · rw [if_pos h0]
    by_cases h1 : v.f1 = 0
    · rw [if_pos h1]; exact ⟨_, rfl, by rw [empty_beq]; simp [h0, h1]⟩
    · rw [if_neg h1]; exact ⟨_, rfl, by simp [h0, h1]⟩
  · rw [if_neg h0]
    by_cases h1 : v.f0 = 1
    · rw [if_pos h1]
      by_cases h2 : v.f1 ≥ -549755813888
      · rw [if_pos h2]
        by_cases h3 : v.f1 ≤ 549755813887
        · rw [if_pos h3]; exact ⟨_, rfl, by rw [empty_beq]; simp [h1, h3]; omega⟩
        · rw [if_neg h3]; exact ⟨_, rfl, by simp [h1, h3]⟩
      · rw [if_neg h2]; exact ⟨_, rfl, by simp [h1]; omega⟩
    · rw [if_neg h1]
      by_cases h2 : v.f0 = 2
      · rw [if_pos h2]
        by_cases h3 : v.f1 = 0
        · rw [if_pos h3]; exact ⟨_, rfl, by simp [h2, h3]; omega⟩
        · rw [if_neg h3]; exact ⟨_, rfl, by simp [h2, h3]⟩
      · rw [if_neg h2]
        by_cases h3 : v.f0 = 3
        · rw [if_pos h3]
          by_cases h4 : v.f1 = 0
          · rw [if_pos h4]; exact ⟨_, rfl, by rw [empty_beq]; simp [h3, h4]⟩
          · rw [if_neg h4]
            by_cases h5 : v.f1 = 1
            · rw [if_pos h5]; exact ⟨_, rfl, by rw [empty_beq]; simp [h3, h4, h5]⟩
            · rw [if_neg h5]; exact ⟨_, rfl, by simp [h3, h4, h5]⟩
        · rw [if_neg h3]; exact ⟨_, rfl, by simp [h0, h1, h2, h3]⟩
theorem refRight_yes {v : V} (h : Rt v) : alumref19_Right.f v.f0 v.f1 v.f2 = some true := by
  obtain ⟨b, hb, hi⟩ := refRight_some v
  rw [hb, hi.2 h]
theorem refRight_no {v : V} (h : ¬ Rt v) : alumref19_Right.f v.f0 v.f1 v.f2 = some false := by
  obtain ⟨b, hb, hi⟩ := refRight_some v
  rw [hb]
  cases b with
  | false => rfl
  | true => exact absurd (hi.1 rfl) h
theorem ev_Bool (b : Bool) : alumref19_Bool.f b = some (vB b) := by cases b <;> rfl
/-- The kinds of right values. -/
theorem Rt.kind {v : V} (h : Rt v) : v.f0 = 0 ∨ v.f0 = 1 ∨ v.f0 = 2 ∨ v.f0 = 3 := by rcases h with h | h | h | h <;> simp [h.1]
end Go.Proofs.YtmhnfdgegejlkaaDoor.V

namespace Go.Proofs.YtmhnfdgegejlkaaDoor.V
open Go Go.RowKit Go.Proofs.YtmhnfdgegejlkaaDoor.P Go.Proofs.YtmhnfdgegejlkaaDoorW.PrintWords
theorem sanity_at : alumlaw19_sanity.f 40 = some true := by kernel_rfl
theorem ev_sanity (k : Nat) (hk : 40 ≤ k) : alumlaw19_sanity.f k = some true := at_rounds (fun k => alumlaw19_sanity.mono k) hk sanity_at
end Go.Proofs.YtmhnfdgegejlkaaDoor.V

namespace Go.Proofs.YtmhnfdgegejlkaaDoor.V
open Go Go.RowKit Go.Proofs.YtmhnfdgegejlkaaDoor.P Go.Proofs.YtmhnfdgegejlkaaDoorW.PrintWords
set_option linter.unusedSimpArgs false
set_option linter.unusedVariables false
theorem ev_Test' (k : Nat) (hk : 6 ≤ k) (op : Int) (a b : V) : value_Test.f k op a.f0 a.f1 a.f2 b.f0 b.f1 b.f2 = some (vtest vcmp op a b) := by
  obtain ⟨k, rfl⟩ : ∃ m, k = m + 6 := ⟨k - 6, by omega⟩
  exact ev_Test k op a b
theorem ev_Compare' (k : Nat) (hk : 4 ≤ k) (a b : V) : value_Compare.f k a.f0 a.f1 a.f2 b.f0 b.f1 b.f2 = some (vcmp a b) := by
  obtain ⟨k, rfl⟩ : ∃ m, k = m + 4 := ⟨k - 4, by omega⟩
  exact ev_Compare k a b
theorem vtest_same {a b : V} {op : Int} (h1 : 6 ≤ op) (h2 : op ≤ 11) (ha : a.f0 ≠ 0) (hab : a.f0 = b.f0) : vtest vcmp op a b = res (vB (opT op (vcmp a b))) 0 := by
  unfold vtest
  rw [if_neg (by omega), if_neg (by omega), if_pos hab]
/-- One round: both tests answer what is wanted. -/
theorem agree_round {k : Nat} (hk : 6 ≤ k) {a b : V} (ha : a.f0 ≠ 0) (hab : a.f0 = b.f0) (w : List Bool) (ops : List Int) (i o : Int) (hi0 : 0 ≤ i) (hi : i < 6) (hw : w.length = 6) (ho : ops.length = 6)
    (h1 : rd ops i = o) (ho1 : 6 ≤ o) (ho2 : o ≤ 11) (h2 : rdOf false w i = opT (6 + i) (vcmp a b)) (h3 : opT o (- vcmp a b) = opT (6 + i) (vcmp a b)) :
    alumlaw19_ValueTestsAgree.l0 (k + 1) w ops 6 i a.f0 a.f1 a.f2 b.f0 b.f1 b.f2 = alumlaw19_ValueTestsAgree.l0 k w ops 6 (i + 1) a.f0 a.f1 a.f2 b.f0 b.f1 b.f2 := by
  have w1 : wrap64 (6 + i) = 6 + i := wrap64_id (by omega) (by omega)
  have w2 : wrap64 (i + 1) = i + 1 := wrap64_id (by omega) (by omega)
  have hs : vcmp b a = - vcmp a b := tcV.sym a b
  simp only [alumlaw19_ValueTestsAgree.l0, hw, ho]
  rw [if_pos hi, w1, ev_Test' k hk, vtest_same (by omega) (by omega) ha hab]
  simp only [Option.bind_some]
  rw [if_pos hi0, if_pos (by omega), h1, ev_Test' k hk, vtest_same ho1 ho2 (by omega) hab.symm, hs, h3]
  simp only [Option.bind_some, res, ev_Bool, h2, w2]
  have hi' : i < ((6 : Nat) : Int) := by omega
  simp [hi']
  intro h; omega
theorem ValueTestsAgree : alumlaw19_ValueTestsAgree.Pure := by
  intro a b ga gb
  refine ⟨60, ?_⟩
  unfold alumlaw19_ValueTestsAgree.f
  by_cases ra : Rt a
  · rw [refRight_yes ra]
    simp only [Option.bind_some, if_true]
    by_cases rb : Rt b
    · rw [refRight_yes rb]
      simp only [Option.bind_some, if_true]
      by_cases hk : a.f0 = b.f0
      · rw [if_pos hk]
        by_cases h0 : a.f0 = 0
        · simp [alumlaw19_ValueTestsAgree.j0, h0, ev_sanity]
        · have h0' : (a.f0 == 0) = false := by simpa using h0
          simp only [alumlaw19_ValueTestsAgree.j0, h0', Bool.false_eq_true, if_false]
          rw [ev_Compare' _ (by omega)]
          simp only [Option.bind_some]
          have hb := tcV.bound a b
          generalize hc : vcmp a b = c
          rw [hc] at hb
          have hc3 : c = -1 ∨ c = 0 ∨ c = 1 := by omega
          let w := [(c == 0), (c != 0), decide (c < 0), decide (c ≤ 0), decide (c > 0), decide (c ≥ 0)]
          show alumlaw19_ValueTestsAgree.l0 59 w [6, 7, 10, 11, 8, 9] 6 0 a.f0 a.f1 a.f2 b.f0 b.f1 b.f2 = some true
          have hw : w.length = 6 := rfl
          rw [agree_round (by omega) h0 hk w _ 0 6 (by omega) (by omega) hw rfl rfl (by omega) (by omega) (by rw [hc]; rfl) (by rw [hc]; rcases hc3 with rfl | rfl | rfl <;> rfl)]
          rw [agree_round (by omega) h0 hk w _ (0 + 1) 7 (by omega) (by omega) hw rfl rfl (by omega) (by omega) (by rw [hc]; rfl) (by rw [hc]; rcases hc3 with rfl | rfl | rfl <;> rfl)]
          rw [agree_round (by omega) h0 hk w _ (0 + 1 + 1) 10 (by omega) (by omega) hw rfl rfl (by omega) (by omega) (by rw [hc]; rfl) (by rw [hc]; rcases hc3 with rfl | rfl | rfl <;> rfl)]
          rw [agree_round (by omega) h0 hk w _ (0 + 1 + 1 + 1) 11 (by omega) (by omega) hw rfl rfl (by omega) (by omega) (by rw [hc]; rfl) (by rw [hc]; rcases hc3 with rfl | rfl | rfl <;> rfl)]
          rw [agree_round (by omega) h0 hk w _ (0 + 1 + 1 + 1 + 1) 8 (by omega) (by omega) hw rfl rfl (by omega) (by omega) (by rw [hc]; rfl) (by rw [hc]; rcases hc3 with rfl | rfl | rfl <;> rfl)]
          rw [agree_round (by omega) h0 hk w _ (0 + 1 + 1 + 1 + 1 + 1) 9 (by omega) (by omega) hw rfl rfl (by omega) (by omega) (by rw [hc]; rfl) (by rw [hc]; rcases hc3 with rfl | rfl | rfl <;> rfl)]
          simp [alumlaw19_ValueTestsAgree.l0, ev_sanity]
      · rw [if_neg hk]; simp [alumlaw19_ValueTestsAgree.j0, ev_sanity]
    · rw [refRight_no rb]; simp [alumlaw19_ValueTestsAgree.j0, ev_sanity]
  · rw [refRight_no ra]; simp [alumlaw19_ValueTestsAgree.j0, ev_sanity]
end Go.Proofs.YtmhnfdgegejlkaaDoor.V

namespace Go.Proofs.YtmhnfdgegejlkaaDoor.valueTestsAgree
open Go Go.ChangeShapes Go.WideShapes Go.ChangeAt Go.RowKit Go.Proofs.YtmhnfdgegejlkaaDoor.P Go.Proofs.YtmhnfdgegejlkaaDoorW.PrintWords
open Go.ChangeMaps (open_string shut_string)
set_option linter.unusedVariables false
theorem own : ownKnob Tryd.prog.godebug = none := by kernel_rfl
theorem laidOut : laidOutB Tryd.prog = true := by kernel_rfl
/-- The door's own heap meets the condition. -/
theorem door_met (os : Os) (args : Array Value) : laidMetH Tryd.prog Rows.valueTestsAgreeRow.laid ((World.doorLaid Tryd.prog 72 os).forCall (fun _ _ => 0) ⟨#[], args, []⟩).memory :=
  laidMetH_of_parts3 (fuel := 8) (laidMet_of_run' 8 (by kernel_rfl) (by kernel_rfl)) (by kernel_rfl) (by kernel_rfl)
set_option maxRecDepth 100000 in
set_option maxHeartbeats 4000000 in
theorem lifted (os : Os) (started : os.Started) (H : Type) (enc : TypeId × Value → H) :
    ReturnsInHanded {} Tryd.checked os 3 .any (fun w args => (Rows.valueTestsAgreeSpec.pre enc Tryd.prog Tryd.f3 [] false w args ∧ laidMetH Tryd.prog Rows.valueTestsAgreeRow.laid w) ∧ sizedMet enc Tryd.prog Tryd.f3 (OpenSpec.ofChange Rows.valueTestsAgreeSpec) false w args)
      (Rows.valueTestsAgreeSpec.post enc Tryd.prog Tryd.f3 false true false false) := by
  refine returnsInHanded_of_change_and (C := Tryd.checked) (X := fun w _ => laidMetH Tryd.prog Rows.valueTestsAgreeRow.laid w) (fun _ _ _ hh h => h.of_heap hh) own started (by kernel_rfl) Tryd.func3
    (ChangeSpec.witness_shaped (enc := enc) (C := Tryd.checked) (os := os) (X := fun w _ => laidMetH Tryd.prog Rows.valueTestsAgreeRow.laid w) false (World.doorLaid Tryd.prog 72 os) #[.agg #[.int .i64 0, .int .i64 0, .string ByteArray.empty], .agg #[.int .i64 0, .int .i64 0, .string ByteArray.empty]] 8 rfl (World.shaped_of_RefB (by kernel_rfl) (by kernel_rfl)) (by kernel_rfl) (by kernel_rfl) (by kernel_rfl) (door_met os _)) ?_
  intro W base args ds gs before hval0 hW hcnd hsz0 hL _
  have hsz : (DataW.weightsEach Tryd.prog (Tryd.f3.params.toList ++ Rows.valueTestsAgreeSpec.plain.varTypes Tryd.prog) (ds ++ gs)).all (· ≤ reachBytes) = true := hsz0
  have hval : ∀ (j : Nat) t v, Tryd.f3.params[j]? = some t → args[j]? = some v → Value.okWide Tryd.prog W .any base t v := hval0
  have hW' := hW
  obtain ⟨p, q, hA0, hV, rfl, hfz, hnd⟩ := hW
  have hA : DataW.TrodAll enc Tryd.prog W 0 (fun _ => true) true Tryd.f3.params.toList args.toList ds p := hA0
  rw [Tryd.params3] at hA hval hsz
  obtain ⟨v0, vs0, d0, ds0, p0, q0, hargs, rfl, rfl, h0, r0⟩ := trodAll_cons hA
  obtain ⟨v1, vs1, d1, ds1, p1, q1, rfl, rfl, rfl, h1, r1⟩ := trodAll_cons r0
  obtain ⟨rfl, rfl, rfl⟩ := trodAll_nil r1
  obtain rfl : args = #[v0, v1] := by cases args; simp_all
  obtain ⟨rfl, rfl⟩ := trodVars_none hV
  have wt0 : ∀ m ∈ d0.weights Tryd.prog 23, m ≤ reachBytes := fun m hm => of_decide_eq_true (List.all_eq_true.1 hsz m (DataW.weights_mem_each (j := 0) rfl rfl m hm))
  have k0 := h0
  have lt0 : ∀ x ∈ p0, x.block < W.heap.size := by obtain ⟨m, hm⟩ := k0; exact DataW.trod_lt m _ _ _ hm
  obtain ⟨cs0, rfl, hcs0⟩ := okWide_struct Tryd.underlying23 (hval 0 23 v0 rfl rfl)
  obtain ⟨fu0, hf0⟩ := h0
  obtain ⟨x0, K0, g0⟩ := (op23 enc W).2 fu0 _ _ _ hf0 wt0
  obtain rfl : cs0 = #[.int .i64 x0.f0, .int .i64 x0.f1, .string x0.f2] := Array.toList_inj.1 (k23_open K0)
  have wt1 : ∀ m ∈ d1.weights Tryd.prog 23, m ≤ reachBytes := fun m hm => of_decide_eq_true (List.all_eq_true.1 hsz m (DataW.weights_mem_each (j := 1) rfl rfl m hm))
  have k1 := h1
  have lt1 : ∀ x ∈ p1, x.block < W.heap.size := by obtain ⟨m, hm⟩ := k1; exact DataW.trod_lt m _ _ _ hm
  obtain ⟨cs1, rfl, hcs1⟩ := okWide_struct Tryd.underlying23 (hval 1 23 v1 rfl rfl)
  obtain ⟨fu1, hf1⟩ := h1
  obtain ⟨x1, K1, g1⟩ := (op23 enc W).2 fu1 _ _ _ hf1 wt1
  obtain rfl : cs1 = #[.int .i64 x1.f0, .int .i64 x1.f1, .string x1.f2] := Array.toList_inj.1 (k23_open K1)
  clear hA0 hval0 hsz0 hsz
  obtain ⟨k, h⟩ := V.ValueTestsAgree x0 x1 g0 g1
  refine (alumlaw19_ValueTestsAgree.calls k x0.f0 x0.f1 x0.f2 x1.f0 x1.f1 x1.f2 true W h).mono fun e W' ⟨he, bel⟩ => ?_
  subst he
  exact ⟨_, rfl, _, _, _, [], _, [], hW', trodAll_mk1 (shut_bool Tryd.underlying4 _), (trodAll_cons_mk (Below.trod laidOut (by kernel_rfl) (of_decide_eq_true (by kernel_rfl)) k0 bel lt0) (trodAll_cons_mk (Below.trod laidOut (by kernel_rfl) (of_decide_eq_true (by kernel_rfl)) k1 bel lt1) trodAll_mk0)), rfl, bel.frame _, fun h => by cases h⟩
theorem over : Rows.valueTestsAgreeRow.holds Tryd.pinned (OpenSpec.ofChange Rows.valueTestsAgreeSpec) :=
  OpenClaim.holds_of_wide 3 Tryd.f3 rfl rfl rfl rfl rfl rfl rfl ⟨rfl, rfl, rfl, rfl, rfl⟩ rfl rfl rfl rfl rfl (by kernel_rfl) Tryd.func3 (by kernel_rfl)
    (of_decide_eq_true (by kernel_rfl)) (by unfold Func.isWrapper; first | (rw [if_pos (by decide +kernel)]; kernel_rfl) | (rw [if_neg (by decide +kernel)]; exact ⟨rfl, rfl⟩))
    (fun os started H enc _ => lifted os started H enc)
theorem proved : Rows.ValueTestsAgreeSaid := over
/-- THE TIED CARD. -/
theorem card : Rows.ValueTestsAgreeCardSaid :=
  Claim7.holds_tied_plain_at .later [] [.data, .data, .data] true (true, "eaa6d28c6d451e0ea154fbe0a4847d0661ee0ec78c71484efcf210b047928753") true
    proved (fun _ h => by cases h) (by kernel_rfl) (fun _ h => by cases h) valueTestsAgree_row_tie rfl ⟨rfl, rfl⟩ (by kernel_rfl) rfl
    (fun f fn hf hfn => by
      obtain rfl : f = 3 := Option.some.inj ((show Tryd.prog.funcNamed "alum/alumlaw19.ValueTestsAgree" = some 3 by kernel_rfl).symm.trans hf) |>.symm
      obtain rfl : fn = Tryd.f3 := (Option.some.inj (Tryd.func3.symm.trans hfn)).symm
      exact ⟨by kernel_rfl, fun j t ht => by
        rw [Tryd.params3] at ht
        have hm : t ∈ [23, 23] := by simpa using Array.mem_of_getElem? ht
        have hall : ([23, 23].all fun u => !Tryd.prog.wantsStandIn u) = true := by kernel_rfl
        exact (show Tryd.prog.wantsStandIn t = false by simpa using List.all_eq_true.1 hall t hm)⟩)
    (by kernel_rfl)
#print axioms card
end Go.Proofs.YtmhnfdgegejlkaaDoor.valueTestsAgree
