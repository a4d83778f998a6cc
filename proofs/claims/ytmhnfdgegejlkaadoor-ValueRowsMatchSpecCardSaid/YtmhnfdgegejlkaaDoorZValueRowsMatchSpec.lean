/- The law ValueRowsMatchSpec holds: at any two rows, any number and any two lists of integers the law alumlaw19.ValueRowsMatchSpec answers true, wherever the tied tables are laid -/
import Derived.Test.YtmhnfdgegejlkaaDoorBValueRowsMatchSpec0
import Derived.Test.YtmhnfdgegejlkaaDoorBValueRowsMatchSpec2
import Derived.Test.YtmhnfdgegejlkaaDoorBValueRowsMatchSpec1
import Derived.Test.YtmhnfdgegejlkaaDoorWWordsq
import Derived.WalkKit
import Derived.ProofKit
import Derived.SizedLaws
import Derived.DataReads
import Derived.OpenShut
import Derived.ShutString
import Derived.ChangeOld
import Derived.Below
import Derived.LaidMore
import Derived.Stop.Joined
import Derived.KernelRfl
import Derived.Lib.Bytealg
import Derived.Laws.BitsLemmas
import Derived.Test.YtmhnfdgegejlkaaDoorRows
import Derived.Test.YtmhnfdgegejlkaaDoorCards
import Derived.Test.YtmhnfdgegejlkaaDoorTie
import Derived.SevenTiedAt
section
namespace Go.Proofs.YtmhnfdgegejlkaaDoor.P
open Go.RowKit Go.Proofs.YtmhnfdgegejlkaaDoorW.PrintWords Go.Proofs.YtmhnfdgegejlkaaDoorW.PrintLast Go.Proofs.YtmhnfdgegejlkaaDoorW.PrintMore
attribute [local go_sem] max2_int min2_int max_two min_two max_three min_three max_four min_four
set_option linter.unusedVariables false
set_option linter.unusedSimpArgs false
mutual
def alumref19_CompareRows.l0 : Nat → List (S23) → List (S23) → Int → Option (Int)
  | 0, _, _, _ => none
  | k + 1, x0, x1, x5 => if x5 < (x0.length : Int) then (alumref19_CompareRows.j1 k x0 x1 x5 (decide (x5 < (x1.length : Int)))) else (alumref19_CompareRows.j1 k x0 x1 x5 false)
def alumref19_CompareRows.j1 : Nat → List (S23) → List (S23) → Int → Bool → Option (Int)
  | 0, _, _, _, _ => none
  | k + 1, x0, x1, x5, x16 => if x16 = true then (if 0 ≤ x5 then (if x5 < (x0.length : Int) then (if x5 < (x1.length : Int) then ((alumref19_Compare.f ((rd_T23 x0 x5).f0) ((rd_T23 x0 x5).f1) ((rd_T23 x0 x5).f2) ((rd_T23 x1 x5).f0) ((rd_T23 x1 x5).f1) ((rd_T23 x1 x5).f2)).bind fun t735 => (if t735 = 0 then (alumref19_CompareRows.l0 k x0 x1 (wrap64 (x5 + 1))) else (some t735))) else (none)) else (none)) else (none)) else ((alumref19_sign.f (x0.length : Int) (x1.length : Int)).bind fun t736 => (some t736))
end
def alumref19_CompareRows.f (k : Nat) (l0 : List (S23)) (l1 : List (S23)) : Option (Int) := alumref19_CompareRows.l0 k l0 l1 0
def alumref19_CompareRows.T4 : Bool × List (List Nat × List Nat) := (true, [([], []), ([], []), ([0, 1], [0, 1]), ([2], [2]), ([], []), ([], []), ([4, 5], [4, 5]), ([6], [6]), ([3, 7], [3, 7]), ([8, 8, 0, 1, 2, 3, 4, 5, 6, 7, 8], [8])])
def alumref19_CompareRows.B4 : List Nat := [0, 0, 3, 7, 0, 0, 48, 112, 255, 511]
theorem alumref19_CompareRows.tab4 : rtab .any (opsOf Tryd.f33 4) = alumref19_CompareRows.T4 := by kernel_rfl
theorem alumref19_CompareRows.bits4 : waitsOk alumref19_CompareRows.T4.2 alumref19_CompareRows.B4 = true := by kernel_rfl
set_option maxHeartbeats 8000000 in
set_option maxRecDepth 100000 in
theorem alumref19_CompareRows.calls (k : Nat) (A0 : Option Addr) (c0 : Nat) (l0 : List (S23)) (A1 : Option Addr) (c1 : Nat) (l1 : List (S23)) (r : Int) (w : World) (hr0 : Kd.C k23 w A0 l0.length l0) (hc0 : l0.length ≤ c0) (hr1 : Kd.C k23 w A1 l1.length l1) (hc1 : l1.length ≤ c1) (h : alumref19_CompareRows.f k l0 l1 = some r) :
    Calls Tryd.prog 33 #[.slice A0 l0.length c0, .slice A1 l1.length c1] w fun e w' => e = .returned (.int .i64 r) ∧ Below w.heap.size w w' := by
  have hu23 := Tryd.underlying23
  have HR0 := Aside0.mk hr0
  have HC0 := Aside0.mk hc0
  clear hr0 hc0
  have HR1 := Aside0.mk hr1
  have HC1 := Aside0.mk hc1
  clear hr1 hc1
  have HB := Aside0.mk (Below.refl w.heap.size w)
  have H : (alumref19_CompareRows.l0 k l0 l1 0) = some r := h
  clear h
  have H' := Aside0.mk H
  clear H
  go_enter Tryd.func33, Tryd.ntmps33
  go_wp2
  go_loopg [5] k (fun kq v5 w' => ∃ (x5_1 : Int), v5 = .int .i64 x5_1 ∧ Aside0 (alumref19_CompareRows.l0 kq l0 l1 x5_1 = some r) ∧ Aside0 (kq ≤ k) ∧ Aside0 (Below w.heap.size w w'))
  case atStart => exact ⟨(0), (by first | rfl | (simp; done) | (simp [*]; done)), H', ⟨Nat.le_refl _⟩, ⟨by repeat (first | (with_reducible first | exact HB.out | apply below_alloc | apply pw_below_drewN | apply below_drew1) | exact HB.out)⟩⟩
  case round =>
    clear H'
    try clear c1
    try clear p2
    obtain ⟨x5_1, rfl, HA, HK1, HB⟩ := hrel
    cases gk with
    | zero => exact absurd HA.out (by simp [alumref19_CompareRows.l0])
    | succ k1 =>
      have H := HA.out
      clear HA
      simp only [alumref19_CompareRows.l0] at H
      have HC3 := Aside0.mk H
      clear H
      go_upto_region 2 with (fail)
      go_cut [16] (fun v16 wc => ∃ (kq : Nat) (x16_2 : Bool), v16 = .bool x16_2 ∧ Aside0 (alumref19_CompareRows.j1 kq l0 l1 x5_1 x16_2 = some r) ∧ Aside0 (kq ≤ k1) ∧ Aside0 (Below w.heap.size w wc))
      case first =>
        have H := HC3.out
        clear HC3
        by_cases c4 : x5_1 < (l0.length : Int)
        · rw [if_pos c4] at H
          have c4b0 : decide (x5_1 < (l0.length : Int)) = true := decide_eq_true c4
          clear c4
          (first | rw [c4b0] | (simp only [i64_w, i32_w]; rw [c4b0]) | skip)
          have H' := Aside0.mk H
          clear H
          go_wp2
          go_meet
          case rel => exact ⟨_, (decide (x5_1 < (l1.length : Int))), (by first | rfl | (simp; done) | (simp [*]; done)), H', ⟨by have := HK1.out; first | omega | exact Nat.le_refl _⟩, ⟨by repeat (first | (with_reducible first | exact HB.out | apply below_alloc | apply pw_below_drewN | apply below_drew1) | exact HB.out)⟩⟩
        · rw [if_neg c4] at H
          have c4b0 : decide (x5_1 < (l0.length : Int)) = false := decide_eq_false c4
          clear c4
          (first | rw [c4b0] | (simp only [i64_w, i32_w]; rw [c4b0]) | skip)
          have H' := Aside0.mk H
          clear H
          go_wp2
          go_meet
          case rel => exact ⟨_, (false), (by first | rfl | (simp; done) | (simp [*]; done)), H', ⟨by have := HK1.out; first | omega | exact Nat.le_refl _⟩, ⟨by repeat (first | (with_reducible first | exact HB.out | apply below_alloc | apply pw_below_drewN | apply below_drew1) | exact HB.out)⟩⟩
      case rest =>
        clear HC3
        try clear c1
        try clear p2
        try clear c3
        try clear c4
        try clear c4b0
        try clear p2
        obtain ⟨kq, x16_2, rfl, HA, HJ2, HB⟩ := hcut
        cases kq with
        | zero => exact absurd HA.out (by simp [alumref19_CompareRows.j1])
        | succ kj2 =>
          have H := HA.out
          clear HA
          simp only [alumref19_CompareRows.j1] at H
          by_cases c5 : x16_2 = true
          · subst c5
            have H1 : (if 0 ≤ x5_1 then (if x5_1 < (l0.length : Int) then (if x5_1 < (l1.length : Int) then ((alumref19_Compare.f ((rd_T23 l0 x5_1).f0) ((rd_T23 l0 x5_1).f1) ((rd_T23 l0 x5_1).f2) ((rd_T23 l1 x5_1).f0) ((rd_T23 l1 x5_1).f1) ((rd_T23 l1 x5_1).f2)).bind fun t735 => (if t735 = 0 then (alumref19_CompareRows.l0 kj2 l0 l1 (wrap64 (x5_1 + 1))) else (some t735))) else (none)) else (none)) else (none)) = some r := by rw [if_pos rfl] at H; exact H
            clear H
            have H := H1
            clear H1
            by_cases c6 : 0 ≤ x5_1
            · rw [if_pos c6] at H
              have c6b0 : decide (0 ≤ x5_1) = true := decide_eq_true c6
              clear c6
              by_cases c7 : x5_1 < (l0.length : Int)
              · rw [if_pos c7] at H
                have c7b0 : decide (x5_1 < (l0.length : Int)) = true := decide_eq_true c7
                clear c7
                by_cases c8 : x5_1 < (l1.length : Int)
                · rw [if_pos c8] at H
                  have c8b0 : decide (x5_1 < (l1.length : Int)) = true := decide_eq_true c8
                  clear c8
                  replace H := Option.bind_eq_some_iff.mp H
                  obtain ⟨t735, A90, H⟩ := H
                  replace H : (if t735 = 0 then (alumref19_CompareRows.l0 kj2 l0 l1 (wrap64 (x5_1 + 1))) else (some t735)) = some r := H
                  have A9 := Aside0.mk A90
                  clear A90
                  by_cases c10 : t735 = 0
                  · rw [if_pos c10] at H
                    have c10b0 : (t735 == 0) = true := beq_iff_eq.mpr c10
                    have c10b1 : (t735 != 0) = false := bne_eq_false_iff_eq.mpr c10
                    clear c10
                    have H' := Aside0.mk H
                    clear H
                    try go_wp2
                    have n0_ := Aside0.mk (below_drew1 HB.out)
                    clear HB
                    have HB := n0_
                    clear n0_
                    have p733 : 0 ≤ (x5_1 : Int) := of_decide_eq_true (by first | (with_reducible assumption) | assumption)
                    have q733 : x5_1 < (l0.length : Int) := of_decide_eq_true (by first | (with_reducible assumption) | assumption)
                    obtain ⟨ad733, e733, hx733_0, hx733_1, hx733_2⟩ := at_T23 HR0.out x5_1 p733 q733
                    have hw733_2 := hx733_2
                    have hw733_1 := hx733_1
                    have hw733_0 := hx733_0
                    cases e733
                    replace hx733_0 := (HB.out.cell (World.block_lt_of_cell? w _ hx733_0)).trans hx733_0
                    replace hx733_1 := (HB.out.cell (World.block_lt_of_cell? w _ hx733_1)).trans hx733_1
                    replace hx733_2 := (HB.out.cell (World.block_lt_of_cell? w _ hx733_2)).trans hx733_2
                    replace p733 := eq_true p733
                    replace q733 := eq_true q733
                    have p734 : 0 ≤ (x5_1 : Int) := of_decide_eq_true (by first | (with_reducible assumption) | assumption)
                    have q734 : x5_1 < (l1.length : Int) := of_decide_eq_true (by first | (with_reducible assumption) | assumption)
                    obtain ⟨ad734, e734, hx734_0, hx734_1, hx734_2⟩ := at_T23 HR1.out x5_1 p734 q734
                    have hw734_2 := hx734_2
                    have hw734_1 := hx734_1
                    have hw734_0 := hx734_0
                    cases e734
                    replace hx734_0 := (HB.out.cell (World.block_lt_of_cell? w _ hx734_0)).trans hx734_0
                    replace hx734_1 := (HB.out.cell (World.block_lt_of_cell? w _ hx734_1)).trans hx734_1
                    replace hx734_2 := (HB.out.cell (World.block_lt_of_cell? w _ hx734_2)).trans hx734_2
                    replace p734 := eq_true p734
                    replace q734 := eq_true q734
                    refine start_ (n := 10) (S := fun w' => w'.cell? (ad733.add ((x5_1).toNat * 3)) = some (.int .i64 ((rd_T23 l0 x5_1).f0)) ∧ w'.cell? ⟨(ad733.add ((x5_1).toNat * 3)).block, (ad733.add ((x5_1).toNat * 3)).off + 1, none⟩ = some (.int .i64 ((rd_T23 l0 x5_1).f1)) ∧ w'.cell? ⟨(ad733.add ((x5_1).toNat * 3)).block, (ad733.add ((x5_1).toNat * 3)).off + 2, none⟩ = some (.string ((rd_T23 l0 x5_1).f2)) ∧ w'.cell? (ad734.add ((x5_1).toNat * 3)) = some (.int .i64 ((rd_T23 l1 x5_1).f0)) ∧ w'.cell? ⟨(ad734.add ((x5_1).toNat * 3)).block, (ad734.add ((x5_1).toNat * 3)).off + 1, none⟩ = some (.int .i64 ((rd_T23 l1 x5_1).f1)) ∧ w'.cell? ⟨(ad734.add ((x5_1).toNat * 3)).block, (ad734.add ((x5_1).toNat * 3)).off + 2, none⟩ = some (.string ((rd_T23 l1 x5_1).f2))) (ds := []) #[false, false, false, false, false, false, false, false, false, false] (by kernel_rfl) rfl rfl ⟨((HB.out.cell (World.block_lt_of_cell? w _ hw733_0)).trans hw733_0), ((HB.out.cell (World.block_lt_of_cell? w _ hw733_1)).trans hw733_1), ((HB.out.cell (World.block_lt_of_cell? w _ hw733_2)).trans hw733_2), ((HB.out.cell (World.block_lt_of_cell? w _ hw734_0)).trans hw734_0), ((HB.out.cell (World.block_lt_of_cell? w _ hw734_1)).trans hw734_1), ((HB.out.cell (World.block_lt_of_cell? w _ hw734_2)).trans hw734_2)⟩ (fun hHeld => ?_); refine with_tabW alumref19_CompareRows.tab4 alumref19_CompareRows.bits4 (fun HT_ HW_ => ?_)
                    generalize wc.drew = w11 at HB hx733_0 hx733_1 hx733_2 hx734_0 hx734_1 hx734_2 hHeld ⊢
                    refine pure_ (i := 0) (N := some 19) (v := ?_) (a' := ?_) #[true, false, false, false, false, false, false, false, false, false] rfl rfl (any_of HT_.out (by kernel_rfl)) (fun _ _ _ h => h) (Or.inl ⟨by rfl, ?_⟩) ?_ ?_
                    rotate_left
                    · intro w'
                      go_simp
                      with_reducible rfl
                    rotate_left
                    · simp only [Act.put, List.setIfInBounds_toArray, List.set_cons_zero, List.set_cons_succ, i64_w, i32_w]
                      rfl
                    refine pure_ (i := 1) (N := some 20) (v := ?_) (a' := ?_) #[true, true, false, false, false, false, false, false, false, false] rfl rfl (any_of HT_.out (by kernel_rfl)) (fun _ _ _ h => h) (Or.inl ⟨by rfl, ?_⟩) ?_ ?_
                    rotate_left
                    · intro w'
                      go_simp
                      with_reducible rfl
                    rotate_left
                    · simp only [Act.put, List.setIfInBounds_toArray, List.set_cons_zero, List.set_cons_succ, i64_w, i32_w]
                      rfl
                    refine pure_ (i := 2) (N := some 21) (v := ?_) (a' := ?_) #[true, true, true, false, false, false, false, false, false, false] rfl rfl (any_of HT_.out (by kernel_rfl)) (fun _ _ _ h => h) (Or.inl ⟨by rfl, ?_⟩) ?_ ?_
                    rotate_left
                    · intro w'
                      go_simp
                      with_reducible rfl
                    rotate_left
                    · simp only [Act.put, List.setIfInBounds_toArray, List.set_cons_zero, List.set_cons_succ, i64_w, i32_w]
                      rfl
                    refine pure_ (i := 4) (N := some 23) (v := ?_) (a' := ?_) #[true, true, true, false, true, false, false, false, false, false] rfl rfl (any_of HT_.out (by kernel_rfl)) (fun _ _ _ h => h) (Or.inl ⟨by rfl, ?_⟩) ?_ ?_
                    rotate_left
                    · intro w'
                      go_simp
                      with_reducible rfl
                    rotate_left
                    · simp only [Act.put, List.setIfInBounds_toArray, List.set_cons_zero, List.set_cons_succ, i64_w, i32_w]
                      rfl
                    refine pure_ (i := 5) (N := some 24) (v := ?_) (a' := ?_) #[true, true, true, false, true, true, false, false, false, false] rfl rfl (any_of HT_.out (by kernel_rfl)) (fun _ _ _ h => h) (Or.inl ⟨by rfl, ?_⟩) ?_ ?_
                    rotate_left
                    · intro w'
                      go_simp
                      with_reducible rfl
                    rotate_left
                    · simp only [Act.put, List.setIfInBounds_toArray, List.set_cons_zero, List.set_cons_succ, i64_w, i32_w]
                      rfl
                    refine pure_ (i := 6) (N := some 25) (v := ?_) (a' := ?_) #[true, true, true, false, true, true, true, false, false, false] rfl rfl (any_of HT_.out (by kernel_rfl)) (fun _ _ _ h => h) (Or.inl ⟨by rfl, ?_⟩) ?_ ?_
                    rotate_left
                    · intro w'
                      go_simp
                      with_reducible rfl
                    rotate_left
                    · simp only [Act.put, List.setIfInBounds_toArray, List.set_cons_zero, List.set_cons_succ, i64_w, i32_w]
                      rfl
                    refine take_ (i := 3) (N := some 22) (v := ?_) (a' := ?_) #[true, true, true, true, true, true, true, false, false, false] rfl rfl (take_ofW HT_.out HW_.out (by kernel_rfl)) (fun _ _ _ h => h) (Or.inl ⟨by rfl, ?_⟩) hHeld ?_ ?_
                    rotate_left
                    · rintro w' ⟨s0, s1, s2, s3, s4, s5⟩
                      go_simp
                      with_reducible rfl
                    rotate_left
                    · simp only [Act.put, List.setIfInBounds_toArray, List.set_cons_zero, List.set_cons_succ, i64_w, i32_w]
                      rfl
                    refine take_ (i := 7) (N := some 26) (v := ?_) (a' := ?_) #[true, true, true, true, true, true, true, true, false, false] rfl rfl (take_ofW HT_.out HW_.out (by kernel_rfl)) (fun _ _ _ h => h) (Or.inl ⟨by rfl, ?_⟩) hHeld ?_ ?_
                    rotate_left
                    · rintro w' ⟨s0, s1, s2, s3, s4, s5⟩
                      go_simp
                      with_reducible rfl
                    rotate_left
                    · simp only [Act.put, List.setIfInBounds_toArray, List.set_cons_zero, List.set_cons_succ, i64_w, i32_w]
                      rfl
                    refine one_ (i := 8) (N := some 27) #[true, true, true, true, true, true, true, true, true, false] rfl rfl (one_of HT_.out (by kernel_rfl)) (by decide) (fun K hK => ?_)
                    refine goes_ Tryd.func28 (by kernel_rfl) rfl #[.agg #[.int .i64 ((rd_T23 l0 x5_1).f0), .int .i64 ((rd_T23 l0 x5_1).f1), .string ((rd_T23 l0 x5_1).f2)], .agg #[.int .i64 ((rd_T23 l1 x5_1).f0), .int .i64 ((rd_T23 l1 x5_1).f1), .string ((rd_T23 l1 x5_1).f2)]] (by rfl) rfl rfl (by (try simp only [List.map_toArray, List.map_cons, List.map_nil]); first | done | rfl | (simp only [List.length_drop, List.length_take]; rfl)) ?_
                    with_reducible refine (alumref19_Compare.calls ((rd_T23 l0 x5_1).f0) ((rd_T23 l0 x5_1).f1) ((rd_T23 l0 x5_1).f2) ((rd_T23 l1 x5_1).f0) ((rd_T23 l1 x5_1).f1) ((rd_T23 l1 x5_1).f2) t735 _ A9.out).mono ?_
                    rintro e w12 ⟨rfl, hb⟩
                    refine ⟨_, rfl, ?_⟩
                    have n0_ := Aside0.mk (below_step (by repeat (first | (with_reducible first | exact HB.out | apply below_alloc | apply pw_below_drewN | apply below_drew1) | exact HB.out)) hb)
                    clear HB
                    have HB := n0_
                    clear n0_
                    (try clear hb)
                    (try clear hb2)
                    (try clear hk)
                    (try clear hi)
                    refine hK.out _ _ ⟨((HB.out.cell (World.block_lt_of_cell? w _ hw733_0)).trans hw733_0), ((HB.out.cell (World.block_lt_of_cell? w _ hw733_1)).trans hw733_1), ((HB.out.cell (World.block_lt_of_cell? w _ hw733_2)).trans hw733_2), ((HB.out.cell (World.block_lt_of_cell? w _ hw734_0)).trans hw734_0), ((HB.out.cell (World.block_lt_of_cell? w _ hw734_1)).trans hw734_1), ((HB.out.cell (World.block_lt_of_cell? w _ hw734_2)).trans hw734_2)⟩ (fun hHeld => ?_)
                    clear hK K
                    refine norm_ (a' := ?_) ?_ ?_
                    rotate_left
                    · show Act.put _ (some 27) _ = _
                      simp only [Act.put, List.setIfInBounds_toArray, List.set_cons_zero, List.set_cons_succ, i64_w, i32_w]
                      rfl
                    refine pure_ (i := 9) (N := some 6) (v := ?_) (a' := ?_) #[true, true, true, true, true, true, true, true, true, true] rfl rfl (any_of HT_.out (by kernel_rfl)) (fun _ _ _ h => h) (Or.inl ⟨by rfl, ?_⟩) ?_ ?_
                    rotate_left
                    · intro w'
                      go_simp
                      with_reducible rfl
                    rotate_left
                    · simp only [Act.put, List.setIfInBounds_toArray, List.set_cons_zero, List.set_cons_succ, i64_w, i32_w]
                      rfl
                    refine done_ (done_of HT_.out (by kernel_rfl)) ?_
                    try go_wp2
                    go_roundg kj2
                    case measure => have := HK1.out; have := HJ2.out; omega
                    case rel => exact ⟨(wrap64 (x5_1 + 1)), (by first | rfl | (simp; done) | (simp [*]; done)), H', ⟨by have := HK1.out; have := HJ2.out; omega⟩, ⟨by repeat (first | (with_reducible first | exact HB.out | apply below_alloc | apply pw_below_drewN | apply below_drew1) | exact HB.out)⟩⟩
                  · rw [if_neg c10] at H
                    have c10b0 : (t735 == 0) = false := beq_eq_false_iff_ne.mpr c10
                    have c10b1 : (t735 != 0) = true := bne_iff_ne.mpr c10
                    obtain rfl := Option.some.inj H
                    try go_wp2
                    have n0_ := Aside0.mk (below_drew1 HB.out)
                    clear HB
                    have HB := n0_
                    clear n0_
                    have p733 : 0 ≤ (x5_1 : Int) := of_decide_eq_true (by first | (with_reducible assumption) | assumption)
                    have q733 : x5_1 < (l0.length : Int) := of_decide_eq_true (by first | (with_reducible assumption) | assumption)
                    obtain ⟨ad733, e733, hx733_0, hx733_1, hx733_2⟩ := at_T23 HR0.out x5_1 p733 q733
                    have hw733_2 := hx733_2
                    have hw733_1 := hx733_1
                    have hw733_0 := hx733_0
                    cases e733
                    replace hx733_0 := (HB.out.cell (World.block_lt_of_cell? w _ hx733_0)).trans hx733_0
                    replace hx733_1 := (HB.out.cell (World.block_lt_of_cell? w _ hx733_1)).trans hx733_1
                    replace hx733_2 := (HB.out.cell (World.block_lt_of_cell? w _ hx733_2)).trans hx733_2
                    replace p733 := eq_true p733
                    replace q733 := eq_true q733
                    have p734 : 0 ≤ (x5_1 : Int) := of_decide_eq_true (by first | (with_reducible assumption) | assumption)
                    have q734 : x5_1 < (l1.length : Int) := of_decide_eq_true (by first | (with_reducible assumption) | assumption)
                    obtain ⟨ad734, e734, hx734_0, hx734_1, hx734_2⟩ := at_T23 HR1.out x5_1 p734 q734
                    have hw734_2 := hx734_2
                    have hw734_1 := hx734_1
                    have hw734_0 := hx734_0
                    cases e734
                    replace hx734_0 := (HB.out.cell (World.block_lt_of_cell? w _ hx734_0)).trans hx734_0
                    replace hx734_1 := (HB.out.cell (World.block_lt_of_cell? w _ hx734_1)).trans hx734_1
                    replace hx734_2 := (HB.out.cell (World.block_lt_of_cell? w _ hx734_2)).trans hx734_2
                    replace p734 := eq_true p734
                    replace q734 := eq_true q734
                    refine start_ (n := 10) (S := fun w' => w'.cell? (ad733.add ((x5_1).toNat * 3)) = some (.int .i64 ((rd_T23 l0 x5_1).f0)) ∧ w'.cell? ⟨(ad733.add ((x5_1).toNat * 3)).block, (ad733.add ((x5_1).toNat * 3)).off + 1, none⟩ = some (.int .i64 ((rd_T23 l0 x5_1).f1)) ∧ w'.cell? ⟨(ad733.add ((x5_1).toNat * 3)).block, (ad733.add ((x5_1).toNat * 3)).off + 2, none⟩ = some (.string ((rd_T23 l0 x5_1).f2)) ∧ w'.cell? (ad734.add ((x5_1).toNat * 3)) = some (.int .i64 ((rd_T23 l1 x5_1).f0)) ∧ w'.cell? ⟨(ad734.add ((x5_1).toNat * 3)).block, (ad734.add ((x5_1).toNat * 3)).off + 1, none⟩ = some (.int .i64 ((rd_T23 l1 x5_1).f1)) ∧ w'.cell? ⟨(ad734.add ((x5_1).toNat * 3)).block, (ad734.add ((x5_1).toNat * 3)).off + 2, none⟩ = some (.string ((rd_T23 l1 x5_1).f2))) (ds := []) #[false, false, false, false, false, false, false, false, false, false] (by kernel_rfl) rfl rfl ⟨((HB.out.cell (World.block_lt_of_cell? w _ hw733_0)).trans hw733_0), ((HB.out.cell (World.block_lt_of_cell? w _ hw733_1)).trans hw733_1), ((HB.out.cell (World.block_lt_of_cell? w _ hw733_2)).trans hw733_2), ((HB.out.cell (World.block_lt_of_cell? w _ hw734_0)).trans hw734_0), ((HB.out.cell (World.block_lt_of_cell? w _ hw734_1)).trans hw734_1), ((HB.out.cell (World.block_lt_of_cell? w _ hw734_2)).trans hw734_2)⟩ (fun hHeld => ?_); refine with_tabW alumref19_CompareRows.tab4 alumref19_CompareRows.bits4 (fun HT_ HW_ => ?_)
                    generalize wc.drew = w13 at HB hx733_0 hx733_1 hx733_2 hx734_0 hx734_1 hx734_2 hHeld ⊢
                    refine pure_ (i := 0) (N := some 19) (v := ?_) (a' := ?_) #[true, false, false, false, false, false, false, false, false, false] rfl rfl (any_of HT_.out (by kernel_rfl)) (fun _ _ _ h => h) (Or.inl ⟨by rfl, ?_⟩) ?_ ?_
                    rotate_left
                    · intro w'
                      go_simp
                      with_reducible rfl
                    rotate_left
                    · simp only [Act.put, List.setIfInBounds_toArray, List.set_cons_zero, List.set_cons_succ, i64_w, i32_w]
                      rfl
                    refine pure_ (i := 1) (N := some 20) (v := ?_) (a' := ?_) #[true, true, false, false, false, false, false, false, false, false] rfl rfl (any_of HT_.out (by kernel_rfl)) (fun _ _ _ h => h) (Or.inl ⟨by rfl, ?_⟩) ?_ ?_
                    rotate_left
                    · intro w'
                      go_simp
                      with_reducible rfl
                    rotate_left
                    · simp only [Act.put, List.setIfInBounds_toArray, List.set_cons_zero, List.set_cons_succ, i64_w, i32_w]
                      rfl
                    refine pure_ (i := 2) (N := some 21) (v := ?_) (a' := ?_) #[true, true, true, false, false, false, false, false, false, false] rfl rfl (any_of HT_.out (by kernel_rfl)) (fun _ _ _ h => h) (Or.inl ⟨by rfl, ?_⟩) ?_ ?_
                    rotate_left
                    · intro w'
                      go_simp
                      with_reducible rfl
                    rotate_left
                    · simp only [Act.put, List.setIfInBounds_toArray, List.set_cons_zero, List.set_cons_succ, i64_w, i32_w]
                      rfl
                    refine pure_ (i := 4) (N := some 23) (v := ?_) (a' := ?_) #[true, true, true, false, true, false, false, false, false, false] rfl rfl (any_of HT_.out (by kernel_rfl)) (fun _ _ _ h => h) (Or.inl ⟨by rfl, ?_⟩) ?_ ?_
                    rotate_left
                    · intro w'
                      go_simp
                      with_reducible rfl
                    rotate_left
                    · simp only [Act.put, List.setIfInBounds_toArray, List.set_cons_zero, List.set_cons_succ, i64_w, i32_w]
                      rfl
                    refine pure_ (i := 5) (N := some 24) (v := ?_) (a' := ?_) #[true, true, true, false, true, true, false, false, false, false] rfl rfl (any_of HT_.out (by kernel_rfl)) (fun _ _ _ h => h) (Or.inl ⟨by rfl, ?_⟩) ?_ ?_
                    rotate_left
                    · intro w'
                      go_simp
                      with_reducible rfl
                    rotate_left
                    · simp only [Act.put, List.setIfInBounds_toArray, List.set_cons_zero, List.set_cons_succ, i64_w, i32_w]
                      rfl
                    refine pure_ (i := 6) (N := some 25) (v := ?_) (a' := ?_) #[true, true, true, false, true, true, true, false, false, false] rfl rfl (any_of HT_.out (by kernel_rfl)) (fun _ _ _ h => h) (Or.inl ⟨by rfl, ?_⟩) ?_ ?_
                    rotate_left
                    · intro w'
                      go_simp
                      with_reducible rfl
                    rotate_left
                    · simp only [Act.put, List.setIfInBounds_toArray, List.set_cons_zero, List.set_cons_succ, i64_w, i32_w]
                      rfl
                    refine take_ (i := 3) (N := some 22) (v := ?_) (a' := ?_) #[true, true, true, true, true, true, true, false, false, false] rfl rfl (take_ofW HT_.out HW_.out (by kernel_rfl)) (fun _ _ _ h => h) (Or.inl ⟨by rfl, ?_⟩) hHeld ?_ ?_
                    rotate_left
                    · rintro w' ⟨s0, s1, s2, s3, s4, s5⟩
                      go_simp
                      with_reducible rfl
                    rotate_left
                    · simp only [Act.put, List.setIfInBounds_toArray, List.set_cons_zero, List.set_cons_succ, i64_w, i32_w]
                      rfl
                    refine take_ (i := 7) (N := some 26) (v := ?_) (a' := ?_) #[true, true, true, true, true, true, true, true, false, false] rfl rfl (take_ofW HT_.out HW_.out (by kernel_rfl)) (fun _ _ _ h => h) (Or.inl ⟨by rfl, ?_⟩) hHeld ?_ ?_
                    rotate_left
                    · rintro w' ⟨s0, s1, s2, s3, s4, s5⟩
                      go_simp
                      with_reducible rfl
                    rotate_left
                    · simp only [Act.put, List.setIfInBounds_toArray, List.set_cons_zero, List.set_cons_succ, i64_w, i32_w]
                      rfl
                    refine one_ (i := 8) (N := some 27) #[true, true, true, true, true, true, true, true, true, false] rfl rfl (one_of HT_.out (by kernel_rfl)) (by decide) (fun K hK => ?_)
                    refine goes_ Tryd.func28 (by kernel_rfl) rfl #[.agg #[.int .i64 ((rd_T23 l0 x5_1).f0), .int .i64 ((rd_T23 l0 x5_1).f1), .string ((rd_T23 l0 x5_1).f2)], .agg #[.int .i64 ((rd_T23 l1 x5_1).f0), .int .i64 ((rd_T23 l1 x5_1).f1), .string ((rd_T23 l1 x5_1).f2)]] (by rfl) rfl rfl (by (try simp only [List.map_toArray, List.map_cons, List.map_nil]); first | done | rfl | (simp only [List.length_drop, List.length_take]; rfl)) ?_
                    with_reducible refine (alumref19_Compare.calls ((rd_T23 l0 x5_1).f0) ((rd_T23 l0 x5_1).f1) ((rd_T23 l0 x5_1).f2) ((rd_T23 l1 x5_1).f0) ((rd_T23 l1 x5_1).f1) ((rd_T23 l1 x5_1).f2) t735 _ A9.out).mono ?_
                    rintro e w14 ⟨rfl, hb⟩
                    refine ⟨_, rfl, ?_⟩
                    have n0_ := Aside0.mk (below_step (by repeat (first | (with_reducible first | exact HB.out | apply below_alloc | apply pw_below_drewN | apply below_drew1) | exact HB.out)) hb)
                    clear HB
                    have HB := n0_
                    clear n0_
                    (try clear hb)
                    (try clear hb2)
                    (try clear hk)
                    (try clear hi)
                    refine hK.out _ _ ⟨((HB.out.cell (World.block_lt_of_cell? w _ hw733_0)).trans hw733_0), ((HB.out.cell (World.block_lt_of_cell? w _ hw733_1)).trans hw733_1), ((HB.out.cell (World.block_lt_of_cell? w _ hw733_2)).trans hw733_2), ((HB.out.cell (World.block_lt_of_cell? w _ hw734_0)).trans hw734_0), ((HB.out.cell (World.block_lt_of_cell? w _ hw734_1)).trans hw734_1), ((HB.out.cell (World.block_lt_of_cell? w _ hw734_2)).trans hw734_2)⟩ (fun hHeld => ?_)
                    clear hK K
                    refine norm_ (a' := ?_) ?_ ?_
                    rotate_left
                    · show Act.put _ (some 27) _ = _
                      simp only [Act.put, List.setIfInBounds_toArray, List.set_cons_zero, List.set_cons_succ, i64_w, i32_w]
                      rfl
                    refine pure_ (i := 9) (N := some 6) (v := ?_) (a' := ?_) #[true, true, true, true, true, true, true, true, true, true] rfl rfl (any_of HT_.out (by kernel_rfl)) (fun _ _ _ h => h) (Or.inl ⟨by rfl, ?_⟩) ?_ ?_
                    rotate_left
                    · intro w'
                      go_simp
                      with_reducible rfl
                    rotate_left
                    · simp only [Act.put, List.setIfInBounds_toArray, List.set_cons_zero, List.set_cons_succ, i64_w, i32_w]
                      rfl
                    refine done_ (done_of HT_.out (by kernel_rfl)) ?_
                    try go_wp2
                    go_ret
                    exact ⟨by first | rfl | (simp [errW_none, errW_some] <;> rfl) | (simp [*, errW_none, errW_some] <;> rfl), by repeat (first | (with_reducible first | exact HB.out | apply below_alloc | apply pw_below_drewN | apply below_drew1) | exact HB.out)⟩
                · rw [if_neg c8] at H
                  exact absurd H (by simp)
              · rw [if_neg c7] at H
                exact absurd H (by simp)
            · rw [if_neg c6] at H
              exact absurd H (by simp)
          · replace c5 := Bool.eq_false_iff.mpr c5
            subst c5
            have H1 : ((alumref19_sign.f (l0.length : Int) (l1.length : Int)).bind fun t736 => (some t736)) = some r := by rw [if_neg (show ¬ (false = true) by decide)] at H; exact H
            clear H
            have H := H1
            clear H1
            replace H := Option.bind_eq_some_iff.mp H
            obtain ⟨t736, A150, H⟩ := H
            replace H : (some t736) = some r := H
            have A15 := Aside0.mk A150
            clear A150
            obtain rfl := Option.some.inj H
            go_wp2_with (first | ((with_reducible refine gate_callee (f := 52) rfl ?_); refine goesL_ (some 35) rfl rfl Tryd.func52 (by kernel_rfl) rfl #[.int .i64 (l0.length : Int), .int .i64 (l1.length : Int)] rfl (by (try simp only [List.map_toArray, List.map_cons, List.map_nil]); first | done | rfl | (simp only [List.length_drop, List.length_take]; rfl)) ?_; (with_reducible refine (alumref19_sign.calls (l0.length : Int) (l1.length : Int) t736 _ A15.out).mono ?_); rintro e w' ⟨rfl, ⟨nd, rfl⟩⟩; refine ⟨_, rfl, ?_⟩))
            go_ret
            exact ⟨by first | rfl | (simp [errW_none, errW_some] <;> rfl) | (simp [*, errW_none, errW_some] <;> rfl), by repeat (first | (with_reducible first | exact HB.out | apply below_alloc | apply pw_below_drewN | apply below_drew1) | exact HB.out)⟩
end Go.Proofs.YtmhnfdgegejlkaaDoor.P
end

section
namespace Go.Proofs.YtmhnfdgegejlkaaDoor.P
open Go.RowKit Go.Proofs.YtmhnfdgegejlkaaDoorW.PrintWords Go.Proofs.YtmhnfdgegejlkaaDoorW.PrintLast Go.Proofs.YtmhnfdgegejlkaaDoorW.PrintMore
attribute [local go_sem] max2_int min2_int max_two min_two max_three min_three max_four min_four
set_option linter.unusedVariables false
set_option linter.unusedSimpArgs false
mutual
def alumref19_words.l0 : Nat → List Int → Int → Int → Int → ByteArray → Option (List Int)
  | 0, _, _, _, _, _ => none
  | k + 1, x3, x4, x738000, x738001, x738002 => if x4 ≤ (x738002.size : Int) then (alumref19_words.l1 k x3 x4 0 0 x4 x738000 x738001 x738002) else (some x3)
def alumref19_words.l1 : Nat → List Int → Int → Int → Int → Int → Int → Int → ByteArray → Option (List Int)
  | 0, _, _, _, _, _, _, _, _ => none
  | k + 1, x3, x4, x5, x6, x7, x738000, x738001, x738002 => if x7 < (wrap64 (x4 + 4)) then (if x7 < (x738002.size : Int) then (if 0 ≤ x7 then (alumref19_words.l1 k x3 x4 (wrap64 ((wrap64 (x5 * 256)) + (wrap64 (bt x738002 x7)))) (wrap64 (x6 + 1)) (wrap64 (x7 + 1)) x738000 x738001 x738002) else (none)) else (alumref19_words.l1 k x3 x4 (wrap64 ((wrap64 (x5 * 256)) + 0)) x6 (wrap64 (x7 + 1)) x738000 x738001 x738002)) else (if x3.length < 17592186044416 then (alumref19_words.l0 k (x3 ++ [wrap64 ((wrap64 (x5 * 256)) + x6)]) (wrap64 (x4 + 4)) x738000 x738001 x738002) else (none))
end
def alumref19_words.f (k : Nat) (a0_0 : Int) (a0_1 : Int) (a0_2 : ByteArray) : Option (List Int) := if a0_0 = 1 then (some (([1, wrap64 (a0_1 - (-549755813888))] : List Int))) else (if a0_0 = 3 then (some (([3, a0_1] : List Int))) else (if a0_0 = 2 then (alumref19_words.l0 k (([2] : List Int)) 0 a0_0 a0_1 a0_2) else (some (([0] : List Int)))))
set_option maxHeartbeats 8000000 in
set_option maxRecDepth 100000 in
theorem alumref19_words.calls (k : Nat) (a0_0 : Int) (a0_1 : Int) (a0_2 : ByteArray) (r : List Int) (w : World) (h : alumref19_words.f k a0_0 a0_1 a0_2 = some r) :
    Calls Tryd.prog 62 #[.agg #[.int .i64 a0_0, .int .i64 a0_1, .string a0_2]] w fun e w' => ∃ v0_ : Value, e = .returned (v0_) ∧ Kd.R (Kd.int .i64) 3 w' w.heap.size (fun _ => True) v0_ r ∧ Below w.heap.size w w' := by
  have hu23 := Tryd.underlying23
  have HB := Aside0.mk (Below.refl w.heap.size w)
  have H : (if a0_0 = 1 then (some (([1, wrap64 (a0_1 - (-549755813888))] : List Int))) else (if a0_0 = 3 then (some (([3, a0_1] : List Int))) else (if a0_0 = 2 then (alumref19_words.l0 k (([2] : List Int)) 0 a0_0 a0_1 a0_2) else (some (([0] : List Int)))))) = some r := h
  clear h
  by_cases c2 : a0_0 = 1
  · rw [if_pos c2] at H
    have c2b0 : (a0_0 == 1) = true := beq_iff_eq.mpr c2
    have c2b1 : (a0_0 != 1) = false := bne_eq_false_iff_eq.mpr c2
    clear c2
    obtain ⟨y738, hy738⟩ : ∃ y_ : List Int, y_ = (([1, wrap64 (a0_1 - (-549755813888))] : List Int)) := ⟨_, rfl⟩
    replace H : (some y738) = some r := by first | (rw [hy738]; with_reducible exact H) | (have H2_ := (Option.bind_some _ _).symm.trans H; rw [hy738]; with_reducible exact H2_) | (have H2_ := (Option.bind_some _ _).symm.trans H; with_reducible exact H2_) | with_reducible exact H | (rw [hy738]; exact H) | exact H
    have Ny738 := Aside0.mk hy738
    clear hy738
    obtain rfl := Option.some.inj H
    go_enter Tryd.func62, Tryd.ntmps62
    go_wp2_with (first | ((with_reducible refine gate_dst (N := 1) rfl ?_); refine box_event ?hg (N := 1) ?hd (cs := #[.int .i64 a0_0, .int .i64 a0_1, .string a0_2]) (t := 23) ?hr ?_; (case hd => rfl); (case hg => rfl); (case hr => first | (go_simp; done) | (go_simp; rfl)); intro gb737 hg w3 hbox hb; have n0_ := Aside0.mk (below_step (by repeat (first | (with_reducible first | exact HB.out | apply below_alloc | apply pw_below_drewN | apply below_drew1) | exact HB.out)) hb); have n1_ := Aside0.mk (hbox); have n2_ := Aside0.mk ((by rw [hg]; exact (below_size (by repeat (first | (with_reducible first | exact HB.out | apply below_alloc | apply pw_below_drewN | apply below_drew1) | exact HB.out))) : w.heap.size ≤ gb737)); have n3_ := Aside0.mk ((by rw [hg]; exact (below_size (by repeat (first | (with_reducible first | exact HB.out | apply below_alloc | apply pw_below_drewN | apply below_drew1) | exact HB.out))) : w.heap.size ≤ gb737)); clear HB; have HB := n0_; have BK737 := n1_; have GW737 := n2_; have GE737 := n3_; clear n0_ n1_ n2_ n3_; clear hb hbox hg; have hcz4_0 : w3.cell? ⟨gb737, 0, none⟩ = some (.int .i64 a0_0) := (blk_cell BK737.out 0).trans rfl; have hcz4_1 : w3.cell? ⟨gb737, 1, none⟩ = some (.int .i64 a0_1) := (blk_cell BK737.out 1).trans rfl; have hcz4_2 : w3.cell? ⟨gb737, 2, none⟩ = some (.string a0_2) := (blk_cell BK737.out 2).trans rfl; have hfz4_0 := blk_frozen BK737.out 0; have hfz4_1 := blk_frozen BK737.out 1; have hfz4_2 := blk_frozen BK737.out 2) | ((with_reducible refine gate_dst (N := 16) rfl ?_); refine Kd.R_lit (Kd.int .i64) _ 3 ?hg (N := 16) ?hd (xs := ([1, wrap64 (a0_1 - (-549755813888))] : List Int)) (inner := [.int .i64 1, .int .i64 (wrap64 (a0_1 - (-549755813888)))]) (ok := fun _ => True) (okp := fun _ => True) ?hr ?hp (fun _ hk => hk) trivial (Below.refl _ _) (Nat.le_refl _) (by simp) ?_; (case hd => rfl); (case hg => rfl); (case hr => first | (go_simp; done) | (go_simp; rfl)); (case hp => exact (Reps.one (show Kd.M (Kd.int .i64) _ _ _ 1 [.int .i64 1] from rfl) (Reps.one (show Kd.M (Kd.int .i64) _ _ _ (wrap64 (a0_1 - (-549755813888))) [.int .i64 (wrap64 (a0_1 - (-549755813888)))] from rfl) (Reps.none _ _)))); intro v739 w5 ho6 hb hg_ hnew_; clear hg_ hnew_; (first | rw [← Ny738.out] at ho6 | (simp only [Int.reduceToNat] at ho6; rw [← Ny738.out] at ho6)); have n0_ := Aside0.mk (Kd.R_lower ho6 (below_size (by repeat (first | (with_reducible first | exact HB.out | apply below_alloc | apply pw_below_drewN | apply below_drew1 | refine below_set ?_ GE737.out) | exact HB.out)))); have n1_ := Aside0.mk (blk_below (g := gb737) (o := .cells #[.int .i64 a0_0, .int .i64 a0_1, .string a0_2] 23 (0, 0)) (by (with_reducible repeat (first | refine blk_drewN ?_ _ | refine blk_drew ?_ | refine blk_alloc ?_ _)); exact BK737.out) hb); have n2_ := Aside0.mk (below_step (by repeat (first | (with_reducible first | exact HB.out | apply below_alloc | apply pw_below_drewN | apply below_drew1 | refine below_set ?_ GE737.out) | exact HB.out)) hb); clear BK737; clear HB; have HO740 := n0_; have BK737 := n1_; have HB := n2_; clear n0_ n1_ n2_; clear hb ho6))
    go_ret
    exact ⟨_, by first | rfl | (simp [errW_none, errW_some] <;> rfl) | (simp [*, errW_none, errW_some] <;> rfl), by (with_reducible repeat (first | apply Kd.R_alloc | apply Kd.R_drewN | apply Kd.R_drew)); exact HO740.out, by repeat (first | (with_reducible first | exact HB.out | apply below_alloc | apply pw_below_drewN | apply below_drew1 | refine below_set ?_ GE737.out) | exact HB.out)⟩
  · rw [if_neg c2] at H
    have c2b0 : (a0_0 == 1) = false := beq_eq_false_iff_ne.mpr c2
    have c2b1 : (a0_0 != 1) = true := bne_iff_ne.mpr c2
    by_cases c7 : a0_0 = 3
    · rw [if_pos c7] at H
      have c7b0 : (a0_0 == 3) = true := beq_iff_eq.mpr c7
      have c7b1 : (a0_0 != 3) = false := bne_eq_false_iff_eq.mpr c7
      clear c7
      obtain ⟨y741, hy741⟩ : ∃ y_ : List Int, y_ = (([3, a0_1] : List Int)) := ⟨_, rfl⟩
      replace H : (some y741) = some r := by first | (rw [hy741]; with_reducible exact H) | (have H2_ := (Option.bind_some _ _).symm.trans H; rw [hy741]; with_reducible exact H2_) | (have H2_ := (Option.bind_some _ _).symm.trans H; with_reducible exact H2_) | with_reducible exact H | (rw [hy741]; exact H) | exact H
      have Ny741 := Aside0.mk hy741
      clear hy741
      obtain rfl := Option.some.inj H
      go_enter Tryd.func62, Tryd.ntmps62
      go_wp2_with (first | ((with_reducible refine gate_dst (N := 1) rfl ?_); refine box_event ?hg (N := 1) ?hd (cs := #[.int .i64 a0_0, .int .i64 a0_1, .string a0_2]) (t := 23) ?hr ?_; (case hd => rfl); (case hg => rfl); (case hr => first | (go_simp; done) | (go_simp; rfl)); intro gb737 hg w8 hbox hb; have n0_ := Aside0.mk (below_step (by repeat (first | (with_reducible first | exact HB.out | apply below_alloc | apply pw_below_drewN | apply below_drew1) | exact HB.out)) hb); have n1_ := Aside0.mk (hbox); have n2_ := Aside0.mk ((by rw [hg]; exact (below_size (by repeat (first | (with_reducible first | exact HB.out | apply below_alloc | apply pw_below_drewN | apply below_drew1) | exact HB.out))) : w.heap.size ≤ gb737)); have n3_ := Aside0.mk ((by rw [hg]; exact (below_size (by repeat (first | (with_reducible first | exact HB.out | apply below_alloc | apply pw_below_drewN | apply below_drew1) | exact HB.out))) : w.heap.size ≤ gb737)); clear HB; have HB := n0_; have BK737 := n1_; have GW737 := n2_; have GE737 := n3_; clear n0_ n1_ n2_ n3_; clear hb hbox hg; have hcz9_0 : w8.cell? ⟨gb737, 0, none⟩ = some (.int .i64 a0_0) := (blk_cell BK737.out 0).trans rfl; have hcz9_1 : w8.cell? ⟨gb737, 1, none⟩ = some (.int .i64 a0_1) := (blk_cell BK737.out 1).trans rfl; have hcz9_2 : w8.cell? ⟨gb737, 2, none⟩ = some (.string a0_2) := (blk_cell BK737.out 2).trans rfl; have hfz9_0 := blk_frozen BK737.out 0; have hfz9_1 := blk_frozen BK737.out 1; have hfz9_2 := blk_frozen BK737.out 2) | ((with_reducible refine gate_dst (N := 21) rfl ?_); refine Kd.R_lit (Kd.int .i64) _ 3 ?hg (N := 21) ?hd (xs := ([3, a0_1] : List Int)) (inner := [.int .i64 3, .int .i64 a0_1]) (ok := fun _ => True) (okp := fun _ => True) ?hr ?hp (fun _ hk => hk) trivial (Below.refl _ _) (Nat.le_refl _) (by simp) ?_; (case hd => rfl); (case hg => rfl); (case hr => first | (go_simp; done) | (go_simp; rfl)); (case hp => exact (Reps.one (show Kd.M (Kd.int .i64) _ _ _ 3 [.int .i64 3] from rfl) (Reps.one (show Kd.M (Kd.int .i64) _ _ _ a0_1 [.int .i64 a0_1] from rfl) (Reps.none _ _)))); intro v742 w10 ho11 hb hg_ hnew_; clear hg_ hnew_; (first | rw [← Ny741.out] at ho11 | (simp only [Int.reduceToNat] at ho11; rw [← Ny741.out] at ho11)); have n0_ := Aside0.mk (Kd.R_lower ho11 (below_size (by repeat (first | (with_reducible first | exact HB.out | apply below_alloc | apply pw_below_drewN | apply below_drew1 | refine below_set ?_ GE737.out) | exact HB.out)))); have n1_ := Aside0.mk (blk_below (g := gb737) (o := .cells #[.int .i64 a0_0, .int .i64 a0_1, .string a0_2] 23 (0, 0)) (by (with_reducible repeat (first | refine blk_drewN ?_ _ | refine blk_drew ?_ | refine blk_alloc ?_ _)); exact BK737.out) hb); have n2_ := Aside0.mk (below_step (by repeat (first | (with_reducible first | exact HB.out | apply below_alloc | apply pw_below_drewN | apply below_drew1 | refine below_set ?_ GE737.out) | exact HB.out)) hb); clear BK737; clear HB; have HO743 := n0_; have BK737 := n1_; have HB := n2_; clear n0_ n1_ n2_; clear hb ho11))
      go_ret
      exact ⟨_, by first | rfl | (simp [errW_none, errW_some] <;> rfl) | (simp [*, errW_none, errW_some] <;> rfl), by (with_reducible repeat (first | apply Kd.R_alloc | apply Kd.R_drewN | apply Kd.R_drew)); exact HO743.out, by repeat (first | (with_reducible first | exact HB.out | apply below_alloc | apply pw_below_drewN | apply below_drew1 | refine below_set ?_ GE737.out) | exact HB.out)⟩
    · rw [if_neg c7] at H
      have c7b0 : (a0_0 == 3) = false := beq_eq_false_iff_ne.mpr c7
      have c7b1 : (a0_0 != 3) = true := bne_iff_ne.mpr c7
      by_cases c12 : a0_0 = 2
      · rw [if_pos c12] at H
        have c12b0 : (a0_0 == 2) = true := beq_iff_eq.mpr c12
        have c12b1 : (a0_0 != 2) = false := bne_eq_false_iff_eq.mpr c12
        clear c12
        obtain ⟨y744, hy744⟩ : ∃ y_ : List Int, y_ = (([2] : List Int)) := ⟨_, rfl⟩
        replace H : (alumref19_words.l0 k y744 0 a0_0 a0_1 a0_2) = some r := by first | (rw [hy744]; with_reducible exact H) | (have H2_ := (Option.bind_some _ _).symm.trans H; rw [hy744]; with_reducible exact H2_) | (have H2_ := (Option.bind_some _ _).symm.trans H; with_reducible exact H2_) | with_reducible exact H | (rw [hy744]; exact H) | exact H
        have Ny744 := Aside0.mk hy744
        clear hy744
        have H' := Aside0.mk H
        clear H
        go_enter Tryd.func62, Tryd.ntmps62
        go_wp2_with (first | ((with_reducible refine gate_dst (N := 1) rfl ?_); refine box_event ?hg (N := 1) ?hd (cs := #[.int .i64 a0_0, .int .i64 a0_1, .string a0_2]) (t := 23) ?hr ?_; (case hd => rfl); (case hg => rfl); (case hr => first | (go_simp; done) | (go_simp; rfl)); intro gb737 hg w13 hbox hb; have n0_ := Aside0.mk (below_step (by repeat (first | (with_reducible first | exact HB.out | apply below_alloc | apply pw_below_drewN | apply below_drew1) | exact HB.out)) hb); have n1_ := Aside0.mk (hbox); have n2_ := Aside0.mk ((by rw [hg]; exact (below_size (by repeat (first | (with_reducible first | exact HB.out | apply below_alloc | apply pw_below_drewN | apply below_drew1) | exact HB.out))) : w.heap.size ≤ gb737)); have n3_ := Aside0.mk ((by rw [hg]; exact (below_size (by repeat (first | (with_reducible first | exact HB.out | apply below_alloc | apply pw_below_drewN | apply below_drew1) | exact HB.out))) : w.heap.size ≤ gb737)); clear HB; have HB := n0_; have BK737 := n1_; have GW737 := n2_; have GE737 := n3_; clear n0_ n1_ n2_ n3_; clear hb hbox hg; have hcz14_0 : w13.cell? ⟨gb737, 0, none⟩ = some (.int .i64 a0_0) := (blk_cell BK737.out 0).trans rfl; have hcz14_1 : w13.cell? ⟨gb737, 1, none⟩ = some (.int .i64 a0_1) := (blk_cell BK737.out 1).trans rfl; have hcz14_2 : w13.cell? ⟨gb737, 2, none⟩ = some (.string a0_2) := (blk_cell BK737.out 2).trans rfl; have hfz14_0 := blk_frozen BK737.out 0; have hfz14_1 := blk_frozen BK737.out 1; have hfz14_2 := blk_frozen BK737.out 2) | ((with_reducible refine gate_dst (N := 24) rfl ?_); refine Kd.R_lit (Kd.int .i64) _ 3 ?hg (N := 24) ?hd (xs := ([2] : List Int)) (inner := [.int .i64 2]) (ok := fun _ => True) (okp := fun _ => True) ?hr ?hp (fun _ hk => hk) trivial (Below.refl _ _) (Nat.le_refl _) (by simp) ?_; (case hd => rfl); (case hg => rfl); (case hr => first | (go_simp; done) | (go_simp; rfl)); (case hp => exact (Reps.one (show Kd.M (Kd.int .i64) _ _ _ 2 [.int .i64 2] from rfl) (Reps.none _ _))); intro v745 w15 ho16 hb hg_ hnew_; clear hg_ hnew_; (first | rw [← Ny744.out] at ho16 | (simp only [Int.reduceToNat] at ho16; rw [← Ny744.out] at ho16)); have n0_ := Aside0.mk (Kd.R_lower ho16 (below_size (by repeat (first | (with_reducible first | exact HB.out | apply below_alloc | apply pw_below_drewN | apply below_drew1 | refine below_set ?_ GE737.out) | exact HB.out)))); have n1_ := Aside0.mk (blk_below (g := gb737) (o := .cells #[.int .i64 a0_0, .int .i64 a0_1, .string a0_2] 23 (0, 0)) (by (with_reducible repeat (first | refine blk_drewN ?_ _ | refine blk_drew ?_ | refine blk_alloc ?_ _)); exact BK737.out) hb); have n2_ := Aside0.mk (below_step (by repeat (first | (with_reducible first | exact HB.out | apply below_alloc | apply pw_below_drewN | apply below_drew1 | refine below_set ?_ GE737.out) | exact HB.out)) hb); clear BK737; clear HB; have HO746 := n0_; have BK737 := n1_; have HB := n2_; clear n0_ n1_ n2_; clear hb ho16))
        go_loopg [3, 4] k (fun kq v3 v4 w' => ∃ (x3_1 : List Int) (x4_1 : Int), v4 = .int .i64 x4_1 ∧ Aside0 (alumref19_words.l0 kq x3_1 x4_1 a0_0 a0_1 a0_2 = some r) ∧ Aside0 (kq ≤ k) ∧ Aside0 (Kd.R (Kd.int .i64) 3 w' w.heap.size (fun _ => True) v3 x3_1) ∧ Aside0 (w'.heap[gb737]? = some (.cells #[.int .i64 a0_0, .int .i64 a0_1, .string a0_2] 23 (0, 0))) ∧ Aside0 (Below w.heap.size w w'))
        case atStart => exact ⟨(y744), (0), (by first | rfl | (simp; done) | (simp [*]; done)), H', ⟨Nat.le_refl _⟩, ⟨by (with_reducible repeat (first | apply Kd.R_alloc | apply Kd.R_drewN | apply Kd.R_drew)); exact HO746.out⟩, ⟨by (with_reducible repeat (first | refine blk_drewN ?_ _ | refine blk_drew ?_ | refine blk_alloc ?_ _)); exact BK737.out⟩, ⟨by repeat (first | (with_reducible first | exact HB.out | apply below_alloc | apply pw_below_drewN | apply below_drew1 | refine below_set ?_ GE737.out) | exact HB.out)⟩⟩
        case round =>
          clear H'
          try clear c1
          try clear c2
          try clear c2b0
          try clear c2b1
          try clear p2
          try clear c6
          try clear p6
          try clear c7
          try clear c7b0
          try clear c7b1
          try clear c12
          try clear c12b0
          try clear c12b1
          try clear hcz14_0
          try clear hcz14_1
          try clear hcz14_2
          try clear hcz4_0
          try clear hcz4_1
          try clear hcz4_2
          try clear hcz9_0
          try clear hcz9_1
          try clear hcz9_2
          try clear hfz14_0
          try clear hfz14_1
          try clear hfz14_2
          try clear hfz4_0
          try clear hfz4_1
          try clear hfz4_2
          try clear hfz9_0
          try clear hfz9_1
          try clear hfz9_2
          obtain ⟨x3_1, x4_1, rfl, HA, HK1, HO_3, BK737, HB⟩ := hrel
          cases gk with
          | zero => exact absurd HA.out (by simp [alumref19_words.l0])
          | succ k1 =>
            have H := HA.out
            clear HA
            simp only [alumref19_words.l0] at H
            by_cases c17 : x4_1 ≤ (a0_2.size : Int)
            · rw [if_pos c17] at H
              have c17b0 : decide (x4_1 ≤ (a0_2.size : Int)) = true := decide_eq_true c17
              clear c17
              have H' := Aside0.mk H
              clear H
              have hcz18_0 : wr.cell? ⟨gb737, 0, none⟩ = some (.int .i64 a0_0) := (blk_cell BK737.out 0).trans rfl
              have hcz18_1 : wr.cell? ⟨gb737, 1, none⟩ = some (.int .i64 a0_1) := (blk_cell BK737.out 1).trans rfl
              have hcz18_2 : wr.cell? ⟨gb737, 2, none⟩ = some (.string a0_2) := (blk_cell BK737.out 2).trans rfl
              have hfz18_0 := blk_frozen BK737.out 0
              have hfz18_1 := blk_frozen BK737.out 1
              have hfz18_2 := blk_frozen BK737.out 2
              go_wp2
              go_loopg [5, 6, 7] k1 (fun kq v5 v6 v7 w' => ∃ (x5_2 : Int) (x6_2 : Int) (x7_2 : Int), v5 = .int .i64 x5_2 ∧ v6 = .int .i64 x6_2 ∧ v7 = .int .i64 x7_2 ∧ Aside0 (alumref19_words.l1 kq x3_1 x4_1 x5_2 x6_2 x7_2 a0_0 a0_1 a0_2 = some r) ∧ Aside0 (kq ≤ k1) ∧ Aside0 (Kd.R (Kd.int .i64) 3 w' w.heap.size (fun _ => True) u3 x3_1) ∧ Aside0 (w'.heap[gb737]? = some (.cells #[.int .i64 a0_0, .int .i64 a0_1, .string a0_2] 23 (0, 0))) ∧ Aside0 (Below w.heap.size w w'))
              case atStart => exact ⟨(0), (0), (x4_1), (by first | rfl | (simp; done) | (simp [*]; done)), (by first | rfl | (simp; done) | (simp [*]; done)), (by first | rfl | (simp; done) | (simp [*]; done)), H', ⟨Nat.le_refl _⟩, ⟨by (with_reducible repeat (first | apply Kd.R_alloc | apply Kd.R_drewN | apply Kd.R_drew)); exact HO_3.out⟩, ⟨by (with_reducible repeat (first | refine blk_drewN ?_ _ | refine blk_drew ?_ | refine blk_alloc ?_ _)); exact BK737.out⟩, ⟨by repeat (first | (with_reducible first | exact HB.out | apply below_alloc | apply pw_below_drewN | apply below_drew1 | refine below_set ?_ GE737.out) | exact HB.out)⟩⟩
              case round =>
                clear H'
                try clear c1
                try clear c2
                try clear c2b0
                try clear c2b1
                try clear p2
                try clear c6
                try clear p6
                try clear c7
                try clear c7b0
                try clear c7b1
                try clear c12
                try clear c12b0
                try clear c12b1
                try clear c17
                try clear c17b0
                try clear hcz14_0
                try clear hcz14_1
                try clear hcz14_2
                try clear hcz18_0
                try clear hcz18_1
                try clear hcz18_2
                try clear hcz4_0
                try clear hcz4_1
                try clear hcz4_2
                try clear hcz9_0
                try clear hcz9_1
                try clear hcz9_2
                try clear hfz14_0
                try clear hfz14_1
                try clear hfz14_2
                try clear hfz18_0
                try clear hfz18_1
                try clear hfz18_2
                try clear hfz4_0
                try clear hfz4_1
                try clear hfz4_2
                try clear hfz9_0
                try clear hfz9_1
                try clear hfz9_2
                try clear p2
                try clear p6
                obtain ⟨x5_2, x6_2, x7_2, rfl, rfl, rfl, HA, HK2, HO_3, BK737, HB⟩ := hrel
                cases gk with
                | zero => exact absurd HA.out (by simp [alumref19_words.l1])
                | succ k2 =>
                  have H := HA.out
                  clear HA
                  simp only [alumref19_words.l1] at H
                  by_cases c19 : x7_2 < (wrap64 (x4_1 + 4))
                  · rw [if_pos c19] at H
                    have c19b0 : decide (x7_2 < (wrap64 (x4_1 + 4))) = true := decide_eq_true c19
                    clear c19
                    by_cases c20 : x7_2 < (a0_2.size : Int)
                    · rw [if_pos c20] at H
                      have c20b0 : decide (x7_2 < (a0_2.size : Int)) = true := decide_eq_true c20
                      clear c20
                      by_cases c21 : 0 ≤ x7_2
                      · rw [if_pos c21] at H
                        have c21b0 : decide (0 ≤ x7_2) = true := decide_eq_true c21
                        clear c21
                        have H' := Aside0.mk H
                        clear H
                        have hcz23_0 : wr.cell? ⟨gb737, 0, none⟩ = some (.int .i64 a0_0) := (blk_cell BK737.out 0).trans rfl
                        have hcz23_1 : wr.cell? ⟨gb737, 1, none⟩ = some (.int .i64 a0_1) := (blk_cell BK737.out 1).trans rfl
                        have hcz23_2 : wr.cell? ⟨gb737, 2, none⟩ = some (.string a0_2) := (blk_cell BK737.out 2).trans rfl
                        have hfz23_0 := blk_frozen BK737.out 0
                        have hfz23_1 := blk_frozen BK737.out 1
                        have hfz23_2 := blk_frozen BK737.out 2
                        have p22 : 0 ≤ (x7_2 : Int) := of_decide_eq_true (by first | (with_reducible assumption) | assumption)
                        have q22 : x7_2 < (a0_2.size : Int) := of_decide_eq_true (by first | (with_reducible assumption) | assumption)
                        have hx22 := bt_at a0_2 x7_2
                        replace p22 := eq_true p22
                        replace q22 := eq_true q22
                        go_wp2
                        go_roundg k2
                        case measure => have := HK1.out; have := HK2.out; omega
                        case rel => exact ⟨(wrap64 ((wrap64 (x5_2 * 256)) + (wrap64 (bt a0_2 x7_2)))), (wrap64 (x6_2 + 1)), (wrap64 (x7_2 + 1)), (by first | rfl | (simp; done) | (simp [*]; done)), (by first | rfl | (simp; done) | (simp [*]; done)), (by first | rfl | (simp; done) | (simp [*]; done)), H', ⟨by have := HK1.out; have := HK2.out; omega⟩, ⟨by (with_reducible repeat (first | apply Kd.R_alloc | apply Kd.R_drewN | apply Kd.R_drew)); exact HO_3.out⟩, ⟨by (with_reducible repeat (first | refine blk_drewN ?_ _ | refine blk_drew ?_ | refine blk_alloc ?_ _)); exact BK737.out⟩, ⟨by repeat (first | (with_reducible first | exact HB.out | apply below_alloc | apply pw_below_drewN | apply below_drew1 | refine below_set ?_ GE737.out) | exact HB.out)⟩⟩
                      · rw [if_neg c21] at H
                        exact absurd H (by simp)
                    · rw [if_neg c20] at H
                      have c20b0 : decide (x7_2 < (a0_2.size : Int)) = false := decide_eq_false c20
                      clear c20
                      have H' := Aside0.mk H
                      clear H
                      have hcz24_0 : wr.cell? ⟨gb737, 0, none⟩ = some (.int .i64 a0_0) := (blk_cell BK737.out 0).trans rfl
                      have hcz24_1 : wr.cell? ⟨gb737, 1, none⟩ = some (.int .i64 a0_1) := (blk_cell BK737.out 1).trans rfl
                      have hcz24_2 : wr.cell? ⟨gb737, 2, none⟩ = some (.string a0_2) := (blk_cell BK737.out 2).trans rfl
                      have hfz24_0 := blk_frozen BK737.out 0
                      have hfz24_1 := blk_frozen BK737.out 1
                      have hfz24_2 := blk_frozen BK737.out 2
                      go_wp2
                      go_roundg k2
                      case measure => have := HK1.out; have := HK2.out; omega
                      case rel => exact ⟨(wrap64 ((wrap64 (x5_2 * 256)) + 0)), (x6_2), (wrap64 (x7_2 + 1)), (by first | rfl | (simp; done) | (simp [*]; done)), (by first | rfl | (simp; done) | (simp [*]; done)), (by first | rfl | (simp; done) | (simp [*]; done)), H', ⟨by have := HK1.out; have := HK2.out; omega⟩, ⟨by (with_reducible repeat (first | apply Kd.R_alloc | apply Kd.R_drewN | apply Kd.R_drew)); exact HO_3.out⟩, ⟨by (with_reducible repeat (first | refine blk_drewN ?_ _ | refine blk_drew ?_ | refine blk_alloc ?_ _)); exact BK737.out⟩, ⟨by repeat (first | (with_reducible first | exact HB.out | apply below_alloc | apply pw_below_drewN | apply below_drew1 | refine below_set ?_ GE737.out) | exact HB.out)⟩⟩
                  · rw [if_neg c19] at H
                    have c19b0 : decide (x7_2 < (wrap64 (x4_1 + 4))) = false := decide_eq_false c19
                    clear c19
                    by_cases c25 : x3_1.length < 17592186044416
                    · rw [if_pos c25] at H
                      have LMc25 := Aside0.mk c25
                      clear c25
                      obtain ⟨y747, hy747⟩ : ∃ y_ : List Int, y_ = (x3_1 ++ [wrap64 ((wrap64 (x5_2 * 256)) + x6_2)]) := ⟨_, rfl⟩
                      replace H : (alumref19_words.l0 k2 y747 (wrap64 (x4_1 + 4)) a0_0 a0_1 a0_2) = some r := by first | (rw [hy747]; with_reducible exact H) | (have H2_ := (Option.bind_some _ _).symm.trans H; rw [hy747]; with_reducible exact H2_) | (have H2_ := (Option.bind_some _ _).symm.trans H; with_reducible exact H2_) | with_reducible exact H | (rw [hy747]; exact H) | exact H
                      have Ny747 := Aside0.mk hy747
                      clear hy747
                      have H' := Aside0.mk H
                      clear H
                      go_wp2_with (first | ((with_reducible refine gate_builtin (b := .append) (xs := #[.tmp 55, .tmp 60]) rfl ?_); at_builtin; refine Kd.R_append (Kd.int .i64) (w0 := w) w.heap.size rfl (.tmp 55) (.tmp 60) 28 3 (.int .i64 0) 8 rfl Tryd.underlying28 info3 rfl (by decide) (by omega) u3 x3_1 (wrap64 ((wrap64 (x5_2 * 256)) + x6_2)) [.int .i64 (wrap64 ((wrap64 (x5_2 * 256)) + x6_2))] (fun _ => True) (fun _ => False) rfl rfl ?aP (fun _ hk => hk.elim) ?aF ?aO ?aB ?aS ?aL ?_; (case aP => exact rfl); (case aB => exact (by repeat (first | (with_reducible first | exact HB.out | apply below_alloc | apply pw_below_drewN | apply below_drew1 | refine below_set ?_ GE737.out) | exact HB.out))); (case aF => exact (fun _ _ => trivial)); (case aO => exact (by (with_reducible repeat (first | apply Kd.R_alloc | apply Kd.R_drewN | apply Kd.R_drew)); exact HO_3.out)); (case aS => exact (below_size (by repeat (first | (with_reducible first | exact HB.out | apply below_alloc | apply pw_below_drewN | apply below_drew1 | refine below_set ?_ GE737.out) | exact HB.out)))); (case aL => have := LMc25.out; omega); intro v748 w26 ho hb hg hat; rw [← Ny747.out] at ho; have n0_ := Aside0.mk (blk_grown (g := gb737) (o := .cells #[.int .i64 a0_0, .int .i64 a0_1, .string a0_2] 23 (0, 0)) (by (with_reducible repeat (first | refine blk_drewN ?_ _ | refine blk_drew ?_ | refine blk_alloc ?_ _)); exact BK737.out) hg (Kd.R_ne HO_3.out BK737.out (by decide))); have n1_ := Aside0.mk (hb); have n2_ := Aside0.mk (ho); clear BK737; clear HB; clear HO_3; have BK737 := n0_; have HB := n1_; have HO749 := n2_; clear n0_ n1_ n2_; clear ho hb hg hat))
                      go_roundg k2
                      case measure => have := HK1.out; have := HK2.out; omega
                      case rel => exact ⟨(y747), (wrap64 (x4_1 + 4)), (by first | rfl | (simp; done) | (simp [*]; done)), H', ⟨by have := HK1.out; have := HK2.out; omega⟩, ⟨by (with_reducible repeat (first | apply Kd.R_alloc | apply Kd.R_drewN | apply Kd.R_drew)); exact HO749.out⟩, ⟨by (with_reducible repeat (first | refine blk_drewN ?_ _ | refine blk_drew ?_ | refine blk_alloc ?_ _)); exact BK737.out⟩, ⟨by repeat (first | (with_reducible first | exact HB.out | apply below_alloc | apply pw_below_drewN | apply below_drew1 | refine below_set ?_ GE737.out) | exact HB.out)⟩⟩
                    · rw [if_neg c25] at H
                      exact absurd H (by simp)
            · rw [if_neg c17] at H
              have c17b0 : decide (x4_1 ≤ (a0_2.size : Int)) = false := decide_eq_false c17
              clear c17
              obtain rfl := Option.some.inj H
              have hcz27_0 : wr.cell? ⟨gb737, 0, none⟩ = some (.int .i64 a0_0) := (blk_cell BK737.out 0).trans rfl
              have hcz27_1 : wr.cell? ⟨gb737, 1, none⟩ = some (.int .i64 a0_1) := (blk_cell BK737.out 1).trans rfl
              have hcz27_2 : wr.cell? ⟨gb737, 2, none⟩ = some (.string a0_2) := (blk_cell BK737.out 2).trans rfl
              have hfz27_0 := blk_frozen BK737.out 0
              have hfz27_1 := blk_frozen BK737.out 1
              have hfz27_2 := blk_frozen BK737.out 2
              go_wp2
              go_ret
              exact ⟨_, by first | rfl | (simp [errW_none, errW_some] <;> rfl) | (simp [*, errW_none, errW_some] <;> rfl), by (with_reducible repeat (first | apply Kd.R_alloc | apply Kd.R_drewN | apply Kd.R_drew)); exact HO_3.out, by repeat (first | (with_reducible first | exact HB.out | apply below_alloc | apply pw_below_drewN | apply below_drew1 | refine below_set ?_ GE737.out) | exact HB.out)⟩
      · rw [if_neg c12] at H
        have c12b0 : (a0_0 == 2) = false := beq_eq_false_iff_ne.mpr c12
        have c12b1 : (a0_0 != 2) = true := bne_iff_ne.mpr c12
        obtain ⟨y750, hy750⟩ : ∃ y_ : List Int, y_ = (([0] : List Int)) := ⟨_, rfl⟩
        replace H : (some y750) = some r := by first | (rw [hy750]; with_reducible exact H) | (have H2_ := (Option.bind_some _ _).symm.trans H; rw [hy750]; with_reducible exact H2_) | (have H2_ := (Option.bind_some _ _).symm.trans H; with_reducible exact H2_) | with_reducible exact H | (rw [hy750]; exact H) | exact H
        have Ny750 := Aside0.mk hy750
        clear hy750
        obtain rfl := Option.some.inj H
        go_enter Tryd.func62, Tryd.ntmps62
        go_wp2_with (first | ((with_reducible refine gate_dst (N := 1) rfl ?_); refine box_event ?hg (N := 1) ?hd (cs := #[.int .i64 a0_0, .int .i64 a0_1, .string a0_2]) (t := 23) ?hr ?_; (case hd => rfl); (case hg => rfl); (case hr => first | (go_simp; done) | (go_simp; rfl)); intro gb737 hg w28 hbox hb; have n0_ := Aside0.mk (below_step (by repeat (first | (with_reducible first | exact HB.out | apply below_alloc | apply pw_below_drewN | apply below_drew1) | exact HB.out)) hb); have n1_ := Aside0.mk (hbox); have n2_ := Aside0.mk ((by rw [hg]; exact (below_size (by repeat (first | (with_reducible first | exact HB.out | apply below_alloc | apply pw_below_drewN | apply below_drew1) | exact HB.out))) : w.heap.size ≤ gb737)); have n3_ := Aside0.mk ((by rw [hg]; exact (below_size (by repeat (first | (with_reducible first | exact HB.out | apply below_alloc | apply pw_below_drewN | apply below_drew1) | exact HB.out))) : w.heap.size ≤ gb737)); clear HB; have HB := n0_; have BK737 := n1_; have GW737 := n2_; have GE737 := n3_; clear n0_ n1_ n2_ n3_; clear hb hbox hg; have hcz29_0 : w28.cell? ⟨gb737, 0, none⟩ = some (.int .i64 a0_0) := (blk_cell BK737.out 0).trans rfl; have hcz29_1 : w28.cell? ⟨gb737, 1, none⟩ = some (.int .i64 a0_1) := (blk_cell BK737.out 1).trans rfl; have hcz29_2 : w28.cell? ⟨gb737, 2, none⟩ = some (.string a0_2) := (blk_cell BK737.out 2).trans rfl; have hfz29_0 := blk_frozen BK737.out 0; have hfz29_1 := blk_frozen BK737.out 1; have hfz29_2 := blk_frozen BK737.out 2) | ((with_reducible refine gate_dst (N := 63) rfl ?_); refine Kd.R_lit (Kd.int .i64) _ 3 ?hg (N := 63) ?hd (xs := ([0] : List Int)) (inner := [.int .i64 0]) (ok := fun _ => True) (okp := fun _ => True) ?hr ?hp (fun _ hk => hk) trivial (Below.refl _ _) (Nat.le_refl _) (by simp) ?_; (case hd => rfl); (case hg => rfl); (case hr => first | (go_simp; done) | (go_simp; rfl)); (case hp => exact (Reps.one (show Kd.M (Kd.int .i64) _ _ _ 0 [.int .i64 0] from rfl) (Reps.none _ _))); intro v751 w30 ho31 hb hg_ hnew_; clear hg_ hnew_; (first | rw [← Ny750.out] at ho31 | (simp only [Int.reduceToNat] at ho31; rw [← Ny750.out] at ho31)); have n0_ := Aside0.mk (Kd.R_lower ho31 (below_size (by repeat (first | (with_reducible first | exact HB.out | apply below_alloc | apply pw_below_drewN | apply below_drew1 | refine below_set ?_ GE737.out) | exact HB.out)))); have n1_ := Aside0.mk (blk_below (g := gb737) (o := .cells #[.int .i64 a0_0, .int .i64 a0_1, .string a0_2] 23 (0, 0)) (by (with_reducible repeat (first | refine blk_drewN ?_ _ | refine blk_drew ?_ | refine blk_alloc ?_ _)); exact BK737.out) hb); have n2_ := Aside0.mk (below_step (by repeat (first | (with_reducible first | exact HB.out | apply below_alloc | apply pw_below_drewN | apply below_drew1 | refine below_set ?_ GE737.out) | exact HB.out)) hb); clear BK737; clear HB; have HO752 := n0_; have BK737 := n1_; have HB := n2_; clear n0_ n1_ n2_; clear hb ho31))
        go_ret
        exact ⟨_, by first | rfl | (simp [errW_none, errW_some] <;> rfl) | (simp [*, errW_none, errW_some] <;> rfl), by (with_reducible repeat (first | apply Kd.R_alloc | apply Kd.R_drewN | apply Kd.R_drew)); exact HO752.out, by repeat (first | (with_reducible first | exact HB.out | apply below_alloc | apply pw_below_drewN | apply below_drew1 | refine below_set ?_ GE737.out) | exact HB.out)⟩
end Go.Proofs.YtmhnfdgegejlkaaDoor.P
end

section
namespace Go.Proofs.YtmhnfdgegejlkaaDoor.P
open Go.RowKit Go.Proofs.YtmhnfdgegejlkaaDoorW.PrintWords Go.Proofs.YtmhnfdgegejlkaaDoorW.PrintLast Go.Proofs.YtmhnfdgegejlkaaDoorW.PrintMore
attribute [local go_sem] max2_int min2_int max_two min_two max_three min_three max_four min_four
set_option linter.unusedVariables false
set_option linter.unusedSimpArgs false
def alumref19_Key.l0 : Nat → List (S23) → Int → List Int → Int → Option (List Int)
  | 0, _, _, _, _ => none
  | k + 1, x0, x1, x5, x6 => if x6 < (x0.length : Int) then (if 0 ≤ x6 then ((alumref19_words.f k ((rd_T23 x0 x6).f0) ((rd_T23 x0 x6).f1) ((rd_T23 x0 x6).f2)).bind fun t754 => (if x5.length + t754.length < 17592186044416 then (alumref19_Key.l0 k x0 x1 (x5 ++ t754) (wrap64 (x6 + 1))) else (none))) else (none)) else (if 0 ≤ (mx 0 (mn x1 (x5.length : Int))) then (if (mx 0 (mn x1 (x5.length : Int))) ≤ (x5.length : Int) then (some (x5.take ((mx 0 (mn x1 (x5.length : Int))) : Int).toNat)) else (none)) else (none))
def alumref19_Key.f (k : Nat) (l0 : List (S23)) (a1 : Int) : Option (List Int) := alumref19_Key.l0 k l0 a1 ([] : List Int) 0
set_option maxHeartbeats 8000000 in
set_option maxRecDepth 100000 in
theorem alumref19_Key.calls (k : Nat) (A0 : Option Addr) (c0 : Nat) (l0 : List (S23)) (a1 : Int) (r : List Int) (w : World) (hr0 : Kd.C k23 w A0 l0.length l0) (hc0 : l0.length ≤ c0) (h : alumref19_Key.f k l0 a1 = some r) :
    Calls Tryd.prog 36 #[.slice A0 l0.length c0, .int .i64 a1] w fun e w' => ∃ v0_ : Value, e = .returned (v0_) ∧ Kd.R (Kd.int .i64) 3 w' w.heap.size (fun _ => True) v0_ r ∧ Below w.heap.size w w' := by
  have hu23 := Tryd.underlying23
  have HR0 := Aside0.mk hr0
  have HC0 := Aside0.mk hc0
  clear hr0 hc0
  have HB := Aside0.mk (Below.refl w.heap.size w)
  have H : (alumref19_Key.l0 k l0 a1 ([] : List Int) 0) = some r := h
  clear h
  have H' := Aside0.mk H
  clear H
  go_enter Tryd.func36, Tryd.ntmps36
  go_wp2
  go_loopg [5, 6] k (fun kq v5 v6 w' => ∃ (x5_1 : List Int) (x6_1 : Int), v6 = .int .i64 x6_1 ∧ Aside0 (alumref19_Key.l0 kq l0 a1 x5_1 x6_1 = some r) ∧ Aside0 (kq ≤ k) ∧ Aside0 (Kd.R (Kd.int .i64) 3 w' w.heap.size (fun _ => True) v5 x5_1) ∧ Aside0 (Below w.heap.size w w'))
  case atStart => exact ⟨(([] : List Int)), (0), (by first | rfl | (simp; done) | (simp [*]; done)), H', ⟨Nat.le_refl _⟩, ⟨by first | exact Kd.R_nil _ _ _ _ _ | exact Kd.N_nil _ _ _ _ _ | exact Kd.V_nil _ _ _ _ _ | exact Kd.Q_nil _ _ _ _ _ | exact Kd.S_nil _ _ _ _ _⟩, ⟨by repeat (first | (with_reducible first | exact HB.out | apply below_alloc | apply pw_below_drewN | apply below_drew1) | exact HB.out)⟩⟩
  case round =>
    clear H'
    try clear p2
    obtain ⟨x5_1, x6_1, rfl, HA, HK1, HO_5, HB⟩ := hrel
    cases gk with
    | zero => exact absurd HA.out (by simp [alumref19_Key.l0])
    | succ k1 =>
      have H := HA.out
      clear HA
      simp only [alumref19_Key.l0] at H
      by_cases c3 : x6_1 < (l0.length : Int)
      · rw [if_pos c3] at H
        have c3b0 : decide (x6_1 < (l0.length : Int)) = true := decide_eq_true c3
        clear c3
        by_cases c4 : 0 ≤ x6_1
        · rw [if_pos c4] at H
          have c4b0 : decide (0 ≤ x6_1) = true := decide_eq_true c4
          clear c4
          replace H := Option.bind_eq_some_iff.mp H
          obtain ⟨t754, A50, H⟩ := H
          replace H : (if x5_1.length + t754.length < 17592186044416 then (alumref19_Key.l0 k1 l0 a1 (x5_1 ++ t754) (wrap64 (x6_1 + 1))) else (none)) = some r := H
          have A5 := Aside0.mk A50
          clear A50
          by_cases c6 : x5_1.length + t754.length < 17592186044416
          · rw [if_pos c6] at H
            have LMc6 := Aside0.mk c6
            clear c6
            obtain ⟨y757, hy757⟩ : ∃ y_ : List Int, y_ = (x5_1 ++ t754) := ⟨_, rfl⟩
            replace H : (alumref19_Key.l0 k1 l0 a1 y757 (wrap64 (x6_1 + 1))) = some r := by first | (rw [hy757]; with_reducible exact H) | (have H2_ := (Option.bind_some _ _).symm.trans H; rw [hy757]; with_reducible exact H2_) | (have H2_ := (Option.bind_some _ _).symm.trans H; with_reducible exact H2_) | with_reducible exact H | (rw [hy757]; exact H) | exact H
            have Ny757 := Aside0.mk hy757
            clear hy757
            have H' := Aside0.mk H
            clear H
            have p753 : 0 ≤ (x6_1 : Int) := of_decide_eq_true (by first | (with_reducible assumption) | assumption)
            have q753 : x6_1 < (l0.length : Int) := of_decide_eq_true (by first | (with_reducible assumption) | assumption)
            obtain ⟨ad753, e753, hx753_0, hx753_1, hx753_2⟩ := at_T23 HR0.out x6_1 p753 q753
            cases e753
            replace hx753_0 := (HB.out.cell (World.block_lt_of_cell? w _ hx753_0)).trans hx753_0
            replace hx753_1 := (HB.out.cell (World.block_lt_of_cell? w _ hx753_1)).trans hx753_1
            replace hx753_2 := (HB.out.cell (World.block_lt_of_cell? w _ hx753_2)).trans hx753_2
            replace p753 := eq_true p753
            replace q753 := eq_true q753
            go_wp2_with (first | ((with_reducible refine gate_callee (f := 62) rfl ?_); refine goesL_ (some 18) rfl rfl Tryd.func62 (by kernel_rfl) rfl #[.agg #[.int .i64 ((rd_T23 l0 x6_1).f0), .int .i64 ((rd_T23 l0 x6_1).f1), .string ((rd_T23 l0 x6_1).f2)]] rfl (by (try simp only [List.map_toArray, List.map_cons, List.map_nil]); first | done | rfl | (simp only [List.length_drop, List.length_take]; rfl)) ?_; (with_reducible refine (alumref19_words.calls k1 ((rd_T23 l0 x6_1).f0) ((rd_T23 l0 x6_1).f1) ((rd_T23 l0 x6_1).f2) t754 _ A5.out).mono ?_); rintro e w7 ⟨v755, rfl, ho0, hb⟩; refine ⟨_, rfl, ?_⟩; have n0_ := Aside0.mk (Kd.R_elder' (by (with_reducible repeat (first | apply Kd.R_alloc | apply Kd.R_drewN | apply Kd.R_drew)); exact HO_5.out) (Kd.R_base ho0) hb); have n1_ := Aside0.mk (Kd.R_lower (Kd.R_new' ho0 (Kd.R_lt (by (with_reducible repeat (first | apply Kd.R_alloc | apply Kd.R_drewN | apply Kd.R_drew)); exact HO_5.out))) (below_size (by repeat (first | (with_reducible first | exact HB.out | apply below_alloc | apply pw_below_drewN | apply below_drew1) | exact HB.out)))); have n2_ := Aside0.mk (below_step (by repeat (first | (with_reducible first | exact HB.out | apply below_alloc | apply pw_below_drewN | apply below_drew1) | exact HB.out)) hb); clear HO_5; clear HB; have HO_5 := n0_; have HO756 := n1_; have HB := n2_; clear n0_ n1_ n2_; (try clear hb); (try clear hb2); (try clear hk); (try clear hi); (try clear ho0); obtain ⟨Ao9, co9, eo9⟩ := Kd.R_slice HO756.out; subst eo9) | ((with_reducible refine gate_builtin (b := .append) (xs := #[.tmp 13, .tmp 18]) rfl ?_); at_builtin; refine Kd.R_append_rows (Kd.int .i64) (w0 := w) w.heap.size rfl (.tmp 13) (.tmp 18) 28 3 (.int .i64 0) 8 rfl Tryd.underlying28 info3 rfl (by decide) (by omega) u5 x5_1 t754 _ _ _ (fun k_ => some k_ ≠ (.slice Ao9 t754.length co9 : Value).ownBlock) (fun _ => False) rfl rfl ?aO ?aR (fun _ _ h => h) (fun _ h => h.elim) ?aF ?aB ?aS ?aL ?_; (case aR => repeat (first | exact (Kd.R_reads' HO756.out).2.2 | (with_reducible refine Kd.C_alloc ?_ _) | (with_reducible refine Kd.C_drewN ?_ _) | (with_reducible refine Kd.C_drew ?_))); (case aB => exact (by repeat (first | (with_reducible first | exact HB.out | apply below_alloc | apply pw_below_drewN | apply below_drew1) | exact HB.out))); (case aF => exact (fun k_ hk => Kd.fresh' (Kd.R_lt (by (with_reducible repeat (first | apply Kd.R_alloc | apply Kd.R_drewN | apply Kd.R_drew)); exact HO756.out)) k_ hk)); (case aO => exact (by (with_reducible repeat (first | apply Kd.R_alloc | apply Kd.R_drewN | apply Kd.R_drew)); exact Kd.R_mono HO_5.out (fun _ hk => hk.2))); (case aS => exact (below_size (by repeat (first | (with_reducible first | exact HB.out | apply below_alloc | apply pw_below_drewN | apply below_drew1) | exact HB.out)))); (case aL => have := LMc6.out; omega); intro v758 w8 ho hb hg hat; rw [← Ny757.out] at ho; have n0_ := Aside0.mk (Kd.R_after (ok := (fun _ => True)) (by (with_reducible repeat (first | apply Kd.R_alloc | apply Kd.R_drewN | apply Kd.R_drew)); exact HO756.out) hg hat); have n1_ := Aside0.mk (hb); have n2_ := Aside0.mk (ho); clear HO756; clear HB; clear HO_5; have HO756 := n0_; have HB := n1_; have HO759 := n2_; clear n0_ n1_ n2_; clear ho hb hg hat))
            go_roundg k1
            case measure => have := HK1.out; omega
            case rel => exact ⟨(y757), (wrap64 (x6_1 + 1)), (by first | rfl | (simp; done) | (simp [*]; done)), H', ⟨by have := HK1.out; omega⟩, ⟨by (with_reducible repeat (first | apply Kd.R_alloc | apply Kd.R_drewN | apply Kd.R_drew)); exact Kd.R_mono HO759.out (fun _ hk => trivial)⟩, ⟨by repeat (first | (with_reducible first | exact HB.out | apply below_alloc | apply pw_below_drewN | apply below_drew1) | exact HB.out)⟩⟩
          · rw [if_neg c6] at H
            exact absurd H (by simp)
        · rw [if_neg c4] at H
          exact absurd H (by simp)
      · rw [if_neg c3] at H
        have c3b0 : decide (x6_1 < (l0.length : Int)) = false := decide_eq_false c3
        clear c3
        obtain ⟨ji10, hji10⟩ : ∃ j_ : Int, (mn a1 (x5_1.length : Int)) = j_ := ⟨_, rfl⟩
        replace H : (if 0 ≤ (mx 0 (ji10)) then (if (mx 0 (ji10)) ≤ (x5_1.length : Int) then (some (x5_1.take ((mx 0 (ji10)) : Int).toNat)) else (none)) else (none)) = some r := by first | (rw [hji10] at H; exact H) | (simp only [hji10] at H ⊢; exact H)
        have hji10_ : (if (x5_1.length : Int) < a1 then (x5_1.length : Int) else a1) = ji10 := hji10
        obtain ⟨ji11, hji11⟩ : ∃ j_ : Int, (mx 0 (ji10)) = j_ := ⟨_, rfl⟩
        replace H : (if 0 ≤ (ji11) then (if (ji11) ≤ (x5_1.length : Int) then (some (x5_1.take ((ji11) : Int).toNat)) else (none)) else (none)) = some r := by first | (rw [hji11] at H; exact H) | (simp only [hji11] at H ⊢; exact H)
        have hji11_ : (if 0 < (ji10) then (ji10) else 0) = ji11 := hji11
        by_cases c12 : 0 ≤ (ji11)
        · rw [if_pos c12] at H
          have c12b0 := eq_true c12
          have c12b1 : decide (0 ≤ (ji11)) = true := decide_eq_true c12
          clear c12
          by_cases c13 : (ji11) ≤ (x5_1.length : Int)
          · rw [if_pos c13] at H
            have c13b0 := eq_true c13
            have c13b1 : decide ((ji11) ≤ (x5_1.length : Int)) = true := decide_eq_true c13
            clear c13
            obtain ⟨y760, hy760⟩ : ∃ y_ : List Int, y_ = (x5_1.take ((ji11) : Int).toNat) := ⟨_, rfl⟩
            replace H : (some y760) = some r := by first | (rw [hy760]; with_reducible exact H) | (have H2_ := (Option.bind_some _ _).symm.trans H; rw [hy760]; with_reducible exact H2_) | (have H2_ := (Option.bind_some _ _).symm.trans H; with_reducible exact H2_) | with_reducible exact H | (rw [hy760]; exact H) | exact H
            have Ny760 := Aside0.mk hy760
            clear hy760
            obtain rfl := Option.some.inj H
            obtain ⟨Ao14, co14, eo14⟩ := Kd.R_slice HO_5.out
            subst eo14
            have q15 : ((ji11) : Int) ≤ ((x5_1.length : Int) : Int) := of_decide_eq_true (by first | (with_reducible assumption) | assumption)
            obtain ⟨i015, hi015, _, hsz15, _⟩ := info_parts info3
            have hcut15 := cut_to (P := Tryd.prog) 28 3 .i64 Tryd.underlying28 hi015 Ao14 x5_1.length co14 (ji11) (of_decide_eq_true (by first | (with_reducible assumption) | assumption)) q15 (Kd.R_reads' HO_5.out).2.1
            have hr15 := Kd.R_take (m := ((ji11) : Int).toNat) HO_5.out (by omega)
            have hy15 : y760.length = ((ji11) : Int).toNat := (by rw [Ny760.out, List.length_take]; omega)
            rw [← Ny760.out] at hr15
            rw [← hy15] at hr15 hcut15
            clear hy15 hi015 hsz15 HO_5
            have HO762 := Aside0.mk hr15
            clear hr15
            replace q15 := eq_true q15
            go_wp2
            go_ret
            exact ⟨_, by first | rfl | (simp [errW_none, errW_some] <;> rfl) | (simp only [← hji10, ← hji11]; first | rfl | (simp [errW_none, errW_some] <;> rfl)) | (simp [*, errW_none, errW_some] <;> rfl), by (with_reducible repeat (first | apply Kd.R_alloc | apply Kd.R_drewN | apply Kd.R_drew)); exact HO762.out, by repeat (first | (with_reducible first | exact HB.out | apply below_alloc | apply pw_below_drewN | apply below_drew1) | exact HB.out)⟩
          · rw [if_neg c13] at H
            exact absurd H (by simp)
        · rw [if_neg c12] at H
          exact absurd H (by simp)
end Go.Proofs.YtmhnfdgegejlkaaDoor.P
end

section
namespace Go.Proofs.YtmhnfdgegejlkaaDoor.P
open Go.RowKit Go.Proofs.YtmhnfdgegejlkaaDoorW.PrintWords Go.Proofs.YtmhnfdgegejlkaaDoorW.PrintLast Go.Proofs.YtmhnfdgegejlkaaDoorW.PrintMore
attribute [local go_sem] max2_int min2_int max_two min_two max_three min_three max_four min_four
set_option linter.unusedVariables false
set_option linter.unusedSimpArgs false
def slices_Compare_Lint_int.l0 : Nat → List Int → List Int → List Int → Int → Int → Option (Int)
  | 0, _, _, _, _, _ => none
  | k + 1, x0, x1, x9, x10, x11 => if x11 < x10 then (if 0 ≤ x11 then (if x11 < (x9.length : Int) then (if x11 ≥ (x1.length : Int) then (some 1) else (if x11 < (x1.length : Int) then ((cmp_Compare_int.f (rd x9 x11) (rd x1 x11)).bind fun t765 => (if t765 = 0 then (slices_Compare_Lint_int.l0 k x0 x1 x9 x10 (wrap64 (x11 + 1))) else (some t765))) else (none))) else (none)) else (none)) else (if (x0.length : Int) < (x1.length : Int) then (some (-1)) else (some 0))
def slices_Compare_Lint_int.f (k : Nat) (l0 : List Int) (l1 : List Int) : Option (Int) := slices_Compare_Lint_int.l0 k l0 l1 l0 (l0.length : Int) 0
set_option maxHeartbeats 8000000 in
set_option maxRecDepth 100000 in
theorem slices_Compare_Lint_int.calls (k : Nat) (A0 : Option Addr) (c0 : Nat) (l0 : List Int) (A1 : Option Addr) (c1 : Nat) (l1 : List Int) (r : Int) (w : World) (hr0 : Kd.C (Kd.int .i64) w A0 l0.length l0) (hc0 : l0.length ≤ c0) (hr1 : Kd.C (Kd.int .i64) w A1 l1.length l1) (hc1 : l1.length ≤ c1) (h : slices_Compare_Lint_int.f k l0 l1 = some r) :
    Calls Tryd.prog 63 #[.slice A0 l0.length c0, .slice A1 l1.length c1] w fun e w' => e = .returned (.int .i64 r) ∧ Drawn0 w w' := by
  have HR0 := Aside0.mk hr0
  have HC0 := Aside0.mk hc0
  clear hr0 hc0
  have HR1 := Aside0.mk hr1
  have HC1 := Aside0.mk hc1
  clear hr1 hc1
  have H : (slices_Compare_Lint_int.l0 k l0 l1 l0 (l0.length : Int) 0) = some r := h
  clear h
  have H' := Aside0.mk H
  clear H
  go_enter Tryd.func63, Tryd.ntmps63
  go_wp2
  go_loopg [11] k (fun kq v11 w' => ∃ (x11_1 : Int), v11 = .int .i64 x11_1 ∧ Aside0 (slices_Compare_Lint_int.l0 kq l0 l1 l0 (l0.length : Int) x11_1 = some r) ∧ Aside0 (kq ≤ k) ∧ Drawn0 w w')
  case atStart => exact ⟨(0), (by first | rfl | (simp; done) | (simp [*]; done)), H', ⟨Nat.le_refl _⟩, by repeat (first | exact Drawn0.refl _ | apply Drawn0.step)⟩
  case round =>
    clear H'
    try clear c1
    try clear p2
    obtain ⟨x11_1, rfl, HA, HK1, ⟨m1, rfl⟩⟩ := hrel
    cases gk with
    | zero => exact absurd HA.out (by simp [slices_Compare_Lint_int.l0])
    | succ k1 =>
      have H := HA.out
      clear HA
      simp only [slices_Compare_Lint_int.l0] at H
      by_cases c3 : x11_1 < (l0.length : Int)
      · rw [if_pos c3] at H
        have c3b0 : decide (x11_1 < (l0.length : Int)) = true := decide_eq_true c3
        clear c3
        by_cases c4 : 0 ≤ x11_1
        · rw [if_pos c4] at H
          have c4b0 : decide (0 ≤ x11_1) = true := decide_eq_true c4
          clear c4
          by_cases c5 : x11_1 < (l0.length : Int)
          · rw [if_pos c5] at H
            have c5b0 : decide (x11_1 < (l0.length : Int)) = true := decide_eq_true c5
            clear c5
            by_cases c6 : x11_1 ≥ (l1.length : Int)
            · rw [if_pos c6] at H
              have c6b0 : decide ((l1.length : Int) ≤ x11_1) = true := decide_eq_true c6
              clear c6
              obtain rfl := Option.some.inj H
              have p763 : 0 ≤ (x11_1 : Int) := of_decide_eq_true (by first | (with_reducible assumption) | assumption)
              have q763 : x11_1 < (l0.length : Int) := of_decide_eq_true (by first | (with_reducible assumption) | assumption)
              obtain ⟨ad763, e763, hx763_0⟩ := Kd.at_int HR0.out x11_1 p763 q763
              cases e763
              replace p763 := eq_true p763
              replace q763 := eq_true q763
              go_wp2
              go_ret
              exact ⟨by first | rfl | (simp; done) | (simp [*]; done), by repeat (first | exact Drawn0.refl _ | apply Drawn0.step)⟩
            · rw [if_neg c6] at H
              have c6b0 : decide ((l1.length : Int) ≤ x11_1) = false := decide_eq_false c6
              clear c6
              by_cases c7 : x11_1 < (l1.length : Int)
              · rw [if_pos c7] at H
                have c7b0 : decide (x11_1 < (l1.length : Int)) = true := decide_eq_true c7
                clear c7
                replace H := Option.bind_eq_some_iff.mp H
                obtain ⟨t765, A80, H⟩ := H
                replace H : (if t765 = 0 then (slices_Compare_Lint_int.l0 k1 l0 l1 l0 (l0.length : Int) (wrap64 (x11_1 + 1))) else (some t765)) = some r := H
                have A8 := Aside0.mk A80
                clear A80
                by_cases c9 : t765 = 0
                · rw [if_pos c9] at H
                  have c9b0 : (t765 == 0) = true := beq_iff_eq.mpr c9
                  have c9b1 : (t765 != 0) = false := bne_eq_false_iff_eq.mpr c9
                  clear c9
                  have H' := Aside0.mk H
                  clear H
                  have p763 : 0 ≤ (x11_1 : Int) := of_decide_eq_true (by first | (with_reducible assumption) | assumption)
                  have q763 : x11_1 < (l0.length : Int) := of_decide_eq_true (by first | (with_reducible assumption) | assumption)
                  obtain ⟨ad763, e763, hx763_0⟩ := Kd.at_int HR0.out x11_1 p763 q763
                  cases e763
                  replace p763 := eq_true p763
                  replace q763 := eq_true q763
                  have p764 : 0 ≤ (x11_1 : Int) := of_decide_eq_true (by first | (with_reducible assumption) | assumption)
                  have q764 : x11_1 < (l1.length : Int) := of_decide_eq_true (by first | (with_reducible assumption) | assumption)
                  obtain ⟨ad764, e764, hx764_0⟩ := Kd.at_int HR1.out x11_1 p764 q764
                  cases e764
                  replace p764 := eq_true p764
                  replace q764 := eq_true q764
                  go_wp2_with (first | ((with_reducible refine gate_callee (f := 44) rfl ?_); refine goesL_ (some 26) rfl rfl Tryd.func44 (by kernel_rfl) rfl #[.int .i64 (rd l0 x11_1), .int .i64 (rd l1 x11_1)] rfl (by (try simp only [List.map_toArray, List.map_cons, List.map_nil]); first | done | rfl | (simp only [List.length_drop, List.length_take]; rfl)) ?_; (with_reducible refine (cmp_Compare_int.calls (rd l0 x11_1) (rd l1 x11_1) t765 _ A8.out).mono ?_); rintro e w' ⟨rfl, ⟨nd, rfl⟩⟩; refine ⟨_, rfl, ?_⟩))
                  go_roundg k1
                  case measure => have := HK1.out; omega
                  case rel => exact ⟨(wrap64 (x11_1 + 1)), (by first | rfl | (simp; done) | (simp [*]; done)), H', ⟨by have := HK1.out; omega⟩, by repeat (first | exact Drawn0.refl _ | apply Drawn0.step)⟩
                · rw [if_neg c9] at H
                  have c9b0 : (t765 == 0) = false := beq_eq_false_iff_ne.mpr c9
                  have c9b1 : (t765 != 0) = true := bne_iff_ne.mpr c9
                  obtain rfl := Option.some.inj H
                  have p763 : 0 ≤ (x11_1 : Int) := of_decide_eq_true (by first | (with_reducible assumption) | assumption)
                  have q763 : x11_1 < (l0.length : Int) := of_decide_eq_true (by first | (with_reducible assumption) | assumption)
                  obtain ⟨ad763, e763, hx763_0⟩ := Kd.at_int HR0.out x11_1 p763 q763
                  cases e763
                  replace p763 := eq_true p763
                  replace q763 := eq_true q763
                  have p764 : 0 ≤ (x11_1 : Int) := of_decide_eq_true (by first | (with_reducible assumption) | assumption)
                  have q764 : x11_1 < (l1.length : Int) := of_decide_eq_true (by first | (with_reducible assumption) | assumption)
                  obtain ⟨ad764, e764, hx764_0⟩ := Kd.at_int HR1.out x11_1 p764 q764
                  cases e764
                  replace p764 := eq_true p764
                  replace q764 := eq_true q764
                  go_wp2_with (first | ((with_reducible refine gate_callee (f := 44) rfl ?_); refine goesL_ (some 26) rfl rfl Tryd.func44 (by kernel_rfl) rfl #[.int .i64 (rd l0 x11_1), .int .i64 (rd l1 x11_1)] rfl (by (try simp only [List.map_toArray, List.map_cons, List.map_nil]); first | done | rfl | (simp only [List.length_drop, List.length_take]; rfl)) ?_; (with_reducible refine (cmp_Compare_int.calls (rd l0 x11_1) (rd l1 x11_1) t765 _ A8.out).mono ?_); rintro e w' ⟨rfl, ⟨nd, rfl⟩⟩; refine ⟨_, rfl, ?_⟩))
                  go_ret
                  exact ⟨by first | rfl | (simp; done) | (simp [*]; done), by repeat (first | exact Drawn0.refl _ | apply Drawn0.step)⟩
              · rw [if_neg c7] at H
                exact absurd H (by simp)
          · rw [if_neg c5] at H
            exact absurd H (by simp)
        · rw [if_neg c4] at H
          exact absurd H (by simp)
      · rw [if_neg c3] at H
        have c3b0 : decide (x11_1 < (l0.length : Int)) = false := decide_eq_false c3
        clear c3
        by_cases c10 : (l0.length : Int) < (l1.length : Int)
        · rw [if_pos c10] at H
          have c10b0 : decide ((l0.length : Int) < (l1.length : Int)) = true := decide_eq_true c10
          have c10b1 : decide (l0.length < l1.length) = true := decide_eq_true (Int.ofNat_lt.mp c10)
          clear c10
          obtain rfl := Option.some.inj H
          go_wp2
          go_ret
          exact ⟨by first | rfl | (simp; done) | (simp [*]; done), by repeat (first | exact Drawn0.refl _ | apply Drawn0.step)⟩
        · rw [if_neg c10] at H
          have c10b0 : decide ((l0.length : Int) < (l1.length : Int)) = false := decide_eq_false c10
          have c10b1 : decide (l0.length < l1.length) = false := decide_eq_false (fun h => c10 (Int.ofNat_lt.mpr h))
          clear c10
          obtain rfl := Option.some.inj H
          go_wp2
          go_ret
          exact ⟨by first | rfl | (simp; done) | (simp [*]; done), by repeat (first | exact Drawn0.refl _ | apply Drawn0.step)⟩
end Go.Proofs.YtmhnfdgegejlkaaDoor.P
end

section
namespace Go.Proofs.YtmhnfdgegejlkaaDoor.P
open Go.RowKit Go.Proofs.YtmhnfdgegejlkaaDoorW.PrintWords Go.Proofs.YtmhnfdgegejlkaaDoorW.PrintLast Go.Proofs.YtmhnfdgegejlkaaDoorW.PrintMore
attribute [local go_sem] max2_int min2_int max_two min_two max_three min_three max_four min_four
set_option linter.unusedVariables false
set_option linter.unusedSimpArgs false
def value_CompareKeys.f (k : Nat) (l0 : List Int) (l1 : List Int) : Option (Int) := (slices_Compare_Lint_int.f k l0 l1).bind fun t766 => (some t766)
set_option maxHeartbeats 8000000 in
set_option maxRecDepth 100000 in
theorem value_CompareKeys.calls (k : Nat) (A0 : Option Addr) (c0 : Nat) (l0 : List Int) (A1 : Option Addr) (c1 : Nat) (l1 : List Int) (r : Int) (w : World) (hr0 : Kd.C (Kd.int .i64) w A0 l0.length l0) (hc0 : l0.length ≤ c0) (hr1 : Kd.C (Kd.int .i64) w A1 l1.length l1) (hc1 : l1.length ≤ c1) (h : value_CompareKeys.f k l0 l1 = some r) :
    Calls Tryd.prog 37 #[.slice A0 l0.length c0, .slice A1 l1.length c1] w fun e w' => e = .returned (.int .i64 r) ∧ Drawn0 w w' := by
  have HR0 := Aside0.mk hr0
  have HC0 := Aside0.mk hc0
  clear hr0 hc0
  have HR1 := Aside0.mk hr1
  have HC1 := Aside0.mk hc1
  clear hr1 hc1
  have H : ((slices_Compare_Lint_int.f k l0 l1).bind fun t766 => (some t766)) = some r := h
  clear h
  replace H := Option.bind_eq_some_iff.mp H
  obtain ⟨t766, A30, H⟩ := H
  replace H : (some t766) = some r := H
  have A3 := Aside0.mk A30
  clear A30
  obtain rfl := Option.some.inj H
  go_enter Tryd.func37, Tryd.ntmps37
  go_wp2_with (first | ((with_reducible refine gate_callee (f := 63) rfl ?_); refine goesL_ (some 7) rfl rfl Tryd.func63 (by kernel_rfl) rfl #[.slice A0 l0.length c0, .slice A1 l1.length c1] rfl (by (try simp only [List.map_toArray, List.map_cons, List.map_nil]); first | done | rfl | (simp only [List.length_drop, List.length_take]; rfl)) ?_; (with_reducible refine (slices_Compare_Lint_int.calls k _ _ l0 _ _ l1 t766 _ ?side1 ?side2 ?side3 ?side4 A3.out).mono ?_); (case side1 => repeat (first | exact HR0.out | (with_reducible refine Kd.C_alloc ?_ _) | (with_reducible refine Kd.C_drewN ?_ _) | (with_reducible refine Kd.C_drew ?_))); (case side2 => exact HC0.out); (case side3 => repeat (first | exact HR1.out | (with_reducible refine Kd.C_alloc ?_ _) | (with_reducible refine Kd.C_drewN ?_ _) | (with_reducible refine Kd.C_drew ?_))); (case side4 => exact HC1.out); rintro e w' ⟨rfl, ⟨nd, rfl⟩⟩; refine ⟨_, rfl, ?_⟩))
  go_ret
  exact ⟨by first | rfl | (simp; done) | (simp [*]; done), by repeat (first | exact Drawn0.refl _ | apply Drawn0.step)⟩
end Go.Proofs.YtmhnfdgegejlkaaDoor.P
end

section
namespace Go.Proofs.YtmhnfdgegejlkaaDoor.P
open Go.RowKit Go.Proofs.YtmhnfdgegejlkaaDoorW.PrintWords Go.Proofs.YtmhnfdgegejlkaaDoorW.PrintLast Go.Proofs.YtmhnfdgegejlkaaDoorW.PrintMore
attribute [local go_sem] max2_int min2_int max_two min_two max_three min_three max_four min_four
set_option linter.unusedVariables false
set_option linter.unusedSimpArgs false
def slices_CompareFunc_Row_Row_Value_Value_value_Compare.l0 : Nat → List (S23) → List (S23) → List (S23) → Int → Int → Option (Int)
  | 0, _, _, _, _, _ => none
  | k + 1, x0, x1, x11, x12, x13 => if x13 < x12 then (if 0 ≤ x13 then (if x13 < (x11.length : Int) then (if x13 ≥ (x1.length : Int) then (some 1) else (if x13 < (x1.length : Int) then ((value_Compare.f k ((rd_T23 x11 x13).f0) ((rd_T23 x11 x13).f1) ((rd_T23 x11 x13).f2) ((rd_T23 x1 x13).f0) ((rd_T23 x1 x13).f1) ((rd_T23 x1 x13).f2)).bind fun t646 => (if t646 = 0 then (slices_CompareFunc_Row_Row_Value_Value_value_Compare.l0 k x0 x1 x11 x12 (wrap64 (x13 + 1))) else (some t646))) else (none))) else (none)) else (none)) else (if (x0.length : Int) < (x1.length : Int) then (some (-1)) else (some 0))
def slices_CompareFunc_Row_Row_Value_Value_value_Compare.f (k : Nat) (l0 : List (S23)) (l1 : List (S23))  : Option (Int) := slices_CompareFunc_Row_Row_Value_Value_value_Compare.l0 k l0 l1 l0 (l0.length : Int) 0
set_option maxHeartbeats 8000000 in
set_option maxRecDepth 100000 in
theorem slices_CompareFunc_Row_Row_Value_Value_value_Compare.calls (k : Nat) (A0 : Option Addr) (c0 : Nat) (l0 : List (S23)) (A1 : Option Addr) (c1 : Nat) (l1 : List (S23))  (r : Int) (w : World) (hr0 : Kd.C k23 w A0 l0.length l0) (hc0 : l0.length ≤ c0) (hr1 : Kd.C k23 w A1 l1.length l1) (hc1 : l1.length ≤ c1) (h : slices_CompareFunc_Row_Row_Value_Value_value_Compare.f k l0 l1 = some r) :
    Calls Tryd.prog 58 #[.slice A0 l0.length c0, .slice A1 l1.length c1, .func (.func 13) #[] #[]] w fun e w' => e = .returned (.int .i64 r) ∧ Below w.heap.size w w' := by
  have hu23 := Tryd.underlying23
  have HR0 := Aside0.mk hr0
  have HC0 := Aside0.mk hc0
  clear hr0 hc0
  have HR1 := Aside0.mk hr1
  have HC1 := Aside0.mk hc1
  clear hr1 hc1
  have HB := Aside0.mk (Below.refl w.heap.size w)
  have H : (slices_CompareFunc_Row_Row_Value_Value_value_Compare.l0 k l0 l1 l0 (l0.length : Int) 0) = some r := h
  clear h
  have H' := Aside0.mk H
  clear H
  go_enter Tryd.func58, Tryd.ntmps58
  go_wp2
  go_loopg [13] k (fun kq v13 w' => ∃ (x13_1 : Int), v13 = .int .i64 x13_1 ∧ Aside0 (slices_CompareFunc_Row_Row_Value_Value_value_Compare.l0 kq l0 l1 l0 (l0.length : Int) x13_1 = some r) ∧ Aside0 (kq ≤ k) ∧ Aside0 (Below w.heap.size w w'))
  case atStart => exact ⟨(0), (by first | rfl | (simp; done) | (simp [*]; done)), H', ⟨Nat.le_refl _⟩, ⟨by repeat (first | (with_reducible first | exact HB.out | apply below_alloc | apply pw_below_drewN | apply below_drew1) | exact HB.out)⟩⟩
  case round =>
    clear H'
    try clear c1
    try clear p2
    obtain ⟨x13_1, rfl, HA, HK1, HB⟩ := hrel
    cases gk with
    | zero => exact absurd HA.out (by simp [slices_CompareFunc_Row_Row_Value_Value_value_Compare.l0])
    | succ k1 =>
      have H := HA.out
      clear HA
      simp only [slices_CompareFunc_Row_Row_Value_Value_value_Compare.l0] at H
      by_cases c4 : x13_1 < (l0.length : Int)
      · rw [if_pos c4] at H
        have c4b0 : decide (x13_1 < (l0.length : Int)) = true := decide_eq_true c4
        clear c4
        by_cases c5 : 0 ≤ x13_1
        · rw [if_pos c5] at H
          have c5b0 : decide (0 ≤ x13_1) = true := decide_eq_true c5
          clear c5
          by_cases c6 : x13_1 < (l0.length : Int)
          · rw [if_pos c6] at H
            have c6b0 : decide (x13_1 < (l0.length : Int)) = true := decide_eq_true c6
            clear c6
            by_cases c7 : x13_1 ≥ (l1.length : Int)
            · rw [if_pos c7] at H
              have c7b0 : decide ((l1.length : Int) ≤ x13_1) = true := decide_eq_true c7
              clear c7
              obtain rfl := Option.some.inj H
              have p642 : 0 ≤ (x13_1 : Int) := of_decide_eq_true (by first | (with_reducible assumption) | assumption)
              have q642 : x13_1 < (l0.length : Int) := of_decide_eq_true (by first | (with_reducible assumption) | assumption)
              obtain ⟨ad642, e642, hx642_0, hx642_1, hx642_2⟩ := at_T23 HR0.out x13_1 p642 q642
              cases e642
              replace hx642_0 := (HB.out.cell (World.block_lt_of_cell? w _ hx642_0)).trans hx642_0
              replace hx642_1 := (HB.out.cell (World.block_lt_of_cell? w _ hx642_1)).trans hx642_1
              replace hx642_2 := (HB.out.cell (World.block_lt_of_cell? w _ hx642_2)).trans hx642_2
              replace p642 := eq_true p642
              replace q642 := eq_true q642
              go_wp2_with (first | ((with_reducible refine gate_dst (N := 8) rfl ?_); refine box_event ?hg (N := 8) ?hd (cs := #[.int .i64 0, .int .i64 0, .string (⟨#[]⟩ : ByteArray)]) (t := 23) ?hr ?_; (case hd => rfl); (case hg => rfl); (case hr => first | (go_simp; done) | (go_simp; rfl)); intro gb643 hg w8 hbox hb; have n0_ := Aside0.mk (below_step (by repeat (first | (with_reducible first | exact HB.out | apply below_alloc | apply pw_below_drewN | apply below_drew1) | exact HB.out)) hb); have n1_ := Aside0.mk (hbox); have n2_ := Aside0.mk ((by rw [hg]; exact (below_size (by repeat (first | (with_reducible first | exact HB.out | apply below_alloc | apply pw_below_drewN | apply below_drew1) | exact HB.out))) : w.heap.size ≤ gb643)); have n3_ := Aside0.mk ((by rw [hg]; exact (below_size (by repeat (first | (with_reducible first | exact HB.out | apply below_alloc | apply pw_below_drewN | apply below_drew1) | exact HB.out))) : w.heap.size ≤ gb643)); clear HB; have HB := n0_; have BK643 := n1_; have GW643 := n2_; have GE643 := n3_; clear n0_ n1_ n2_ n3_; clear hb hbox hg; have hcz9_0 : w8.cell? ⟨gb643, 0, none⟩ = some (.int .i64 0) := (blk_cell BK643.out 0).trans rfl; have hcz9_1 : w8.cell? ⟨gb643, 1, none⟩ = some (.int .i64 0) := (blk_cell BK643.out 1).trans rfl; have hcz9_2 : w8.cell? ⟨gb643, 2, none⟩ = some (.string (⟨#[]⟩ : ByteArray)) := (blk_cell BK643.out 2).trans rfl; have hfz9_0 := blk_frozen BK643.out 0; have hfz9_1 := blk_frozen BK643.out 1; have hfz9_2 := blk_frozen BK643.out 2))
              go_ret
              exact ⟨by first | rfl | (simp [errW_none, errW_some] <;> rfl) | (simp [*, errW_none, errW_some] <;> rfl), by repeat (first | (with_reducible first | exact HB.out | apply below_alloc | apply pw_below_drewN | apply below_drew1 | refine below_set ?_ GE643.out) | exact HB.out)⟩
            · rw [if_neg c7] at H
              have c7b0 : decide ((l1.length : Int) ≤ x13_1) = false := decide_eq_false c7
              clear c7
              by_cases c10 : x13_1 < (l1.length : Int)
              · rw [if_pos c10] at H
                have c10b0 : decide (x13_1 < (l1.length : Int)) = true := decide_eq_true c10
                clear c10
                replace H := Option.bind_eq_some_iff.mp H
                obtain ⟨t646, A110, H⟩ := H
                replace H : (if t646 = 0 then (slices_CompareFunc_Row_Row_Value_Value_value_Compare.l0 k1 l0 l1 l0 (l0.length : Int) (wrap64 (x13_1 + 1))) else (some t646)) = some r := H
                have A11 := Aside0.mk A110
                clear A110
                by_cases c12 : t646 = 0
                · rw [if_pos c12] at H
                  have c12b0 : (t646 == 0) = true := beq_iff_eq.mpr c12
                  have c12b1 : (t646 != 0) = false := bne_eq_false_iff_eq.mpr c12
                  clear c12
                  have H' := Aside0.mk H
                  clear H
                  have p642 : 0 ≤ (x13_1 : Int) := of_decide_eq_true (by first | (with_reducible assumption) | assumption)
                  have q642 : x13_1 < (l0.length : Int) := of_decide_eq_true (by first | (with_reducible assumption) | assumption)
                  obtain ⟨ad642, e642, hx642_0, hx642_1, hx642_2⟩ := at_T23 HR0.out x13_1 p642 q642
                  cases e642
                  replace hx642_0 := (HB.out.cell (World.block_lt_of_cell? w _ hx642_0)).trans hx642_0
                  replace hx642_1 := (HB.out.cell (World.block_lt_of_cell? w _ hx642_1)).trans hx642_1
                  replace hx642_2 := (HB.out.cell (World.block_lt_of_cell? w _ hx642_2)).trans hx642_2
                  replace p642 := eq_true p642
                  replace q642 := eq_true q642
                  go_wp2_with (first | ((with_reducible refine gate_dst (N := 8) rfl ?_); refine box_event ?hg (N := 8) ?hd (cs := #[.int .i64 0, .int .i64 0, .string (⟨#[]⟩ : ByteArray)]) (t := 23) ?hr ?_; (case hd => rfl); (case hg => rfl); (case hr => first | (go_simp; done) | (go_simp; rfl)); intro gb643 hg w13 hbox hb; have n0_ := Aside0.mk (below_step (by repeat (first | (with_reducible first | exact HB.out | apply below_alloc | apply pw_below_drewN | apply below_drew1) | exact HB.out)) hb); have n1_ := Aside0.mk (hbox); have n2_ := Aside0.mk ((by rw [hg]; exact (below_size (by repeat (first | (with_reducible first | exact HB.out | apply below_alloc | apply pw_below_drewN | apply below_drew1) | exact HB.out))) : w.heap.size ≤ gb643)); have n3_ := Aside0.mk ((by rw [hg]; exact (below_size (by repeat (first | (with_reducible first | exact HB.out | apply below_alloc | apply pw_below_drewN | apply below_drew1) | exact HB.out))) : w.heap.size ≤ gb643)); clear HB; have HB := n0_; have BK643 := n1_; have GW643 := n2_; have GE643 := n3_; clear n0_ n1_ n2_ n3_; clear hb hbox hg; have hcz14_0 : w13.cell? ⟨gb643, 0, none⟩ = some (.int .i64 0) := (blk_cell BK643.out 0).trans rfl; have hcz14_1 : w13.cell? ⟨gb643, 1, none⟩ = some (.int .i64 0) := (blk_cell BK643.out 1).trans rfl; have hcz14_2 : w13.cell? ⟨gb643, 2, none⟩ = some (.string (⟨#[]⟩ : ByteArray)) := (blk_cell BK643.out 2).trans rfl; have hfz14_0 := blk_frozen BK643.out 0; have hfz14_1 := blk_frozen BK643.out 1; have hfz14_2 := blk_frozen BK643.out 2; have p644 : 0 ≤ (x13_1 : Int) := of_decide_eq_true (by first | (with_reducible assumption) | assumption); have q644 : x13_1 < (l1.length : Int) := of_decide_eq_true (by first | (with_reducible assumption) | assumption); obtain ⟨ad644, e644, hx644_0, hx644_1, hx644_2⟩ := at_T23 HR1.out x13_1 p644 q644; cases e644; have hn644_0 : ad644.block ≠ gb643 := Nat.ne_of_lt (Nat.lt_of_lt_of_le (by have := World.block_lt_of_cell? _ _ hx644_0; first | rwa [add_block] at this | exact this) GW643.out); have hn644_1 : ad644.block ≠ gb643 := Nat.ne_of_lt (Nat.lt_of_lt_of_le (by have := World.block_lt_of_cell? _ _ hx644_0; first | rwa [add_block] at this | exact this) GW643.out); have hn644_2 : ad644.block ≠ gb643 := Nat.ne_of_lt (Nat.lt_of_lt_of_le (by have := World.block_lt_of_cell? _ _ hx644_0; first | rwa [add_block] at this | exact this) GW643.out); replace hx644_0 := (HB.out.cell (World.block_lt_of_cell? w _ hx644_0)).trans hx644_0; replace hx644_1 := (HB.out.cell (World.block_lt_of_cell? w _ hx644_1)).trans hx644_1; replace hx644_2 := (HB.out.cell (World.block_lt_of_cell? w _ hx644_2)).trans hx644_2; replace hx644_0 := (cell_far (p := ⟨gb643, 0, none⟩) (by first | (rw [add_block]; exact hn644_0) | (show (Addr.add _ _).block ≠ _; rw [add_block]; exact hn644_0) | exact hn644_0) (.int .i64 ((rd_T23 l0 x13_1).f0))).trans hx644_0; replace hx644_1 := (cell_far (p := ⟨gb643, 0, none⟩) (by first | (rw [add_block]; exact hn644_0) | (show (Addr.add _ _).block ≠ _; rw [add_block]; exact hn644_0) | exact hn644_0) (.int .i64 ((rd_T23 l0 x13_1).f0))).trans hx644_1; replace hx644_2 := (cell_far (p := ⟨gb643, 0, none⟩) (by first | (rw [add_block]; exact hn644_0) | (show (Addr.add _ _).block ≠ _; rw [add_block]; exact hn644_0) | exact hn644_0) (.int .i64 ((rd_T23 l0 x13_1).f0))).trans hx644_2; replace hx644_0 := (cell_far (p := ⟨gb643, 1, none⟩) (by first | (rw [add_block]; exact hn644_1) | (show (Addr.add _ _).block ≠ _; rw [add_block]; exact hn644_1) | exact hn644_1) (.int .i64 ((rd_T23 l0 x13_1).f1))).trans hx644_0; replace hx644_1 := (cell_far (p := ⟨gb643, 1, none⟩) (by first | (rw [add_block]; exact hn644_1) | (show (Addr.add _ _).block ≠ _; rw [add_block]; exact hn644_1) | exact hn644_1) (.int .i64 ((rd_T23 l0 x13_1).f1))).trans hx644_1; replace hx644_2 := (cell_far (p := ⟨gb643, 1, none⟩) (by first | (rw [add_block]; exact hn644_1) | (show (Addr.add _ _).block ≠ _; rw [add_block]; exact hn644_1) | exact hn644_1) (.int .i64 ((rd_T23 l0 x13_1).f1))).trans hx644_2; replace hx644_0 := (cell_far (p := ⟨gb643, 2, none⟩) (by first | (rw [add_block]; exact hn644_2) | (show (Addr.add _ _).block ≠ _; rw [add_block]; exact hn644_2) | exact hn644_2) (.string ((rd_T23 l0 x13_1).f2))).trans hx644_0; replace hx644_1 := (cell_far (p := ⟨gb643, 2, none⟩) (by first | (rw [add_block]; exact hn644_2) | (show (Addr.add _ _).block ≠ _; rw [add_block]; exact hn644_2) | exact hn644_2) (.string ((rd_T23 l0 x13_1).f2))).trans hx644_1; replace hx644_2 := (cell_far (p := ⟨gb643, 2, none⟩) (by first | (rw [add_block]; exact hn644_2) | (show (Addr.add _ _).block ≠ _; rw [add_block]; exact hn644_2) | exact hn644_2) (.string ((rd_T23 l0 x13_1).f2))).trans hx644_2; clear hn644_0; clear hn644_1; clear hn644_2; replace p644 := eq_true p644; replace q644 := eq_true q644) | ((with_reducible refine gate_dst (N := 9) rfl ?_); refine box_event ?hg (N := 9) ?hd (cs := #[.int .i64 0, .int .i64 0, .string (⟨#[]⟩ : ByteArray)]) (t := 23) ?hr ?_; (case hd => rfl); (case hg => rfl); (case hr => first | (go_simp; done) | (go_simp; rfl)); intro gb645 hg w15 hbox hb; have n0_ := Aside0.mk (blk_below (g := gb643) (o := .cells #[.int .i64 ((rd_T23 l0 x13_1).f0), .int .i64 ((rd_T23 l0 x13_1).f1), .string ((rd_T23 l0 x13_1).f2)] 23 (0, 0)) (by (with_reducible repeat (first | refine blk_drewN ?_ _ | refine blk_drew ?_ | refine blk_alloc ?_ _)); refine blk_put (cs := #[.int .i64 ((rd_T23 l0 x13_1).f0), .int .i64 ((rd_T23 l0 x13_1).f1), .string (⟨#[]⟩ : ByteArray)]) ?_ 2 _ rfl; (with_reducible repeat (first | refine blk_drewN ?_ _ | refine blk_drew ?_ | refine blk_alloc ?_ _)); refine blk_put (cs := #[.int .i64 ((rd_T23 l0 x13_1).f0), .int .i64 0, .string (⟨#[]⟩ : ByteArray)]) ?_ 1 _ rfl; (with_reducible repeat (first | refine blk_drewN ?_ _ | refine blk_drew ?_ | refine blk_alloc ?_ _)); refine blk_put (cs := #[.int .i64 0, .int .i64 0, .string (⟨#[]⟩ : ByteArray)]) ?_ 0 _ rfl; (with_reducible repeat (first | refine blk_drewN ?_ _ | refine blk_drew ?_ | refine blk_alloc ?_ _)); exact BK643.out) hb); have n1_ := Aside0.mk (below_step (by repeat (first | (with_reducible first | exact HB.out | apply below_alloc | apply pw_below_drewN | apply below_drew1 | refine below_set ?_ GE643.out) | exact HB.out)) hb); have n2_ := Aside0.mk (hbox); have n3_ := Aside0.mk ((by rw [hg]; exact (below_size (by repeat (first | (with_reducible first | exact HB.out | apply below_alloc | apply pw_below_drewN | apply below_drew1 | refine below_set ?_ GE643.out) | exact HB.out))) : w.heap.size ≤ gb645)); have n4_ := Aside0.mk ((by rw [hg]; exact (below_size (by repeat (first | (with_reducible first | exact HB.out | apply below_alloc | apply pw_below_drewN | apply below_drew1 | refine below_set ?_ GE643.out) | exact HB.out))) : w.heap.size ≤ gb645)); have n5_ := Aside0.mk ((by rw [hg]; exact Nat.ne_of_lt (blk_lt (g := gb643) (o := .cells #[.int .i64 ((rd_T23 l0 x13_1).f0), .int .i64 ((rd_T23 l0 x13_1).f1), .string ((rd_T23 l0 x13_1).f2)] 23 (0, 0)) (by (with_reducible repeat (first | refine blk_drewN ?_ _ | refine blk_drew ?_ | refine blk_alloc ?_ _)); refine blk_put (cs := #[.int .i64 ((rd_T23 l0 x13_1).f0), .int .i64 ((rd_T23 l0 x13_1).f1), .string (⟨#[]⟩ : ByteArray)]) ?_ 2 _ rfl; (with_reducible repeat (first | refine blk_drewN ?_ _ | refine blk_drew ?_ | refine blk_alloc ?_ _)); refine blk_put (cs := #[.int .i64 ((rd_T23 l0 x13_1).f0), .int .i64 0, .string (⟨#[]⟩ : ByteArray)]) ?_ 1 _ rfl; (with_reducible repeat (first | refine blk_drewN ?_ _ | refine blk_drew ?_ | refine blk_alloc ?_ _)); refine blk_put (cs := #[.int .i64 0, .int .i64 0, .string (⟨#[]⟩ : ByteArray)]) ?_ 0 _ rfl; (with_reducible repeat (first | refine blk_drewN ?_ _ | refine blk_drew ?_ | refine blk_alloc ?_ _)); exact BK643.out)) : gb643 ≠ gb645)); have n6_ := Aside0.mk ((by rw [hg]; exact Nat.ne_of_gt (blk_lt (g := gb643) (o := .cells #[.int .i64 ((rd_T23 l0 x13_1).f0), .int .i64 ((rd_T23 l0 x13_1).f1), .string ((rd_T23 l0 x13_1).f2)] 23 (0, 0)) (by (with_reducible repeat (first | refine blk_drewN ?_ _ | refine blk_drew ?_ | refine blk_alloc ?_ _)); refine blk_put (cs := #[.int .i64 ((rd_T23 l0 x13_1).f0), .int .i64 ((rd_T23 l0 x13_1).f1), .string (⟨#[]⟩ : ByteArray)]) ?_ 2 _ rfl; (with_reducible repeat (first | refine blk_drewN ?_ _ | refine blk_drew ?_ | refine blk_alloc ?_ _)); refine blk_put (cs := #[.int .i64 ((rd_T23 l0 x13_1).f0), .int .i64 0, .string (⟨#[]⟩ : ByteArray)]) ?_ 1 _ rfl; (with_reducible repeat (first | refine blk_drewN ?_ _ | refine blk_drew ?_ | refine blk_alloc ?_ _)); refine blk_put (cs := #[.int .i64 0, .int .i64 0, .string (⟨#[]⟩ : ByteArray)]) ?_ 0 _ rfl; (with_reducible repeat (first | refine blk_drewN ?_ _ | refine blk_drew ?_ | refine blk_alloc ?_ _)); exact BK643.out)) : gb645 ≠ gb643)); clear BK643; clear HB; have BK643 := n0_; have HB := n1_; have BK645 := n2_; have GW645 := n3_; have GE645 := n4_; have NB643_645 := n5_; have NB645_643 := n6_; clear n0_ n1_ n2_ n3_ n4_ n5_ n6_; clear hb hbox hg; have hnb16 := NB645_643.out; have hnc16 := NB643_645.out; have hcz17_0 : w15.cell? ⟨gb645, 0, none⟩ = some (.int .i64 0) := (blk_cell BK645.out 0).trans rfl; have hcz17_1 : w15.cell? ⟨gb645, 1, none⟩ = some (.int .i64 0) := (blk_cell BK645.out 1).trans rfl; have hcz17_2 : w15.cell? ⟨gb645, 2, none⟩ = some (.string (⟨#[]⟩ : ByteArray)) := (blk_cell BK645.out 2).trans rfl; have hfz17_0 := blk_frozen BK645.out 0; have hfz17_1 := blk_frozen BK645.out 1; have hfz17_2 := blk_frozen BK645.out 2; have hcz18_0 : w15.cell? ⟨gb643, 0, none⟩ = some (.int .i64 ((rd_T23 l0 x13_1).f0)) := (blk_cell BK643.out 0).trans rfl; have hcz18_1 : w15.cell? ⟨gb643, 1, none⟩ = some (.int .i64 ((rd_T23 l0 x13_1).f1)) := (blk_cell BK643.out 1).trans rfl; have hcz18_2 : w15.cell? ⟨gb643, 2, none⟩ = some (.string ((rd_T23 l0 x13_1).f2)) := (blk_cell BK643.out 2).trans rfl; have hfz18_0 := blk_frozen BK643.out 0; have hfz18_1 := blk_frozen BK643.out 1; have hfz18_2 := blk_frozen BK643.out 2) | ((with_reducible refine gate_dst (N := 29) rfl ?_); refine goesV_ (some 29) rfl rfl Tryd.func13 (by kernel_rfl) rfl #[.agg #[.int .i64 ((rd_T23 l0 x13_1).f0), .int .i64 ((rd_T23 l0 x13_1).f1), .string ((rd_T23 l0 x13_1).f2)], .agg #[.int .i64 ((rd_T23 l1 x13_1).f0), .int .i64 ((rd_T23 l1 x13_1).f1), .string ((rd_T23 l1 x13_1).f2)]] rfl rfl (by (try simp only [List.map_toArray, List.map_cons, List.map_nil]); first | done | rfl | (simp only [List.length_drop, List.length_take]; rfl)) ?_; (with_reducible refine (value_Compare.calls k1 ((rd_T23 l0 x13_1).f0) ((rd_T23 l0 x13_1).f1) ((rd_T23 l0 x13_1).f2) ((rd_T23 l1 x13_1).f0) ((rd_T23 l1 x13_1).f1) ((rd_T23 l1 x13_1).f2) t646 _ A11.out).mono ?_); rintro e w19 ⟨rfl, hb⟩; refine ⟨_, rfl, ?_⟩; have n0_ := Aside0.mk (blk_below (g := gb643) (o := .cells #[.int .i64 ((rd_T23 l0 x13_1).f0), .int .i64 ((rd_T23 l0 x13_1).f1), .string ((rd_T23 l0 x13_1).f2)] 23 (0, 0)) (by (with_reducible repeat (first | refine blk_drewN ?_ _ | refine blk_drew ?_ | refine blk_alloc ?_ _)); refine blk_far ?_ NB643_645.out _; (with_reducible repeat (first | refine blk_drewN ?_ _ | refine blk_drew ?_ | refine blk_alloc ?_ _)); refine blk_far ?_ NB643_645.out _; (with_reducible repeat (first | refine blk_drewN ?_ _ | refine blk_drew ?_ | refine blk_alloc ?_ _)); refine blk_far ?_ NB643_645.out _; (with_reducible repeat (first | refine blk_drewN ?_ _ | refine blk_drew ?_ | refine blk_alloc ?_ _)); exact BK643.out) hb); have n1_ := Aside0.mk (blk_below (g := gb645) (o := .cells #[.int .i64 ((rd_T23 l1 x13_1).f0), .int .i64 ((rd_T23 l1 x13_1).f1), .string ((rd_T23 l1 x13_1).f2)] 23 (0, 0)) (by (with_reducible repeat (first | refine blk_drewN ?_ _ | refine blk_drew ?_ | refine blk_alloc ?_ _)); refine blk_put (cs := #[.int .i64 ((rd_T23 l1 x13_1).f0), .int .i64 ((rd_T23 l1 x13_1).f1), .string (⟨#[]⟩ : ByteArray)]) ?_ 2 _ rfl; (with_reducible repeat (first | refine blk_drewN ?_ _ | refine blk_drew ?_ | refine blk_alloc ?_ _)); refine blk_put (cs := #[.int .i64 ((rd_T23 l1 x13_1).f0), .int .i64 0, .string (⟨#[]⟩ : ByteArray)]) ?_ 1 _ rfl; (with_reducible repeat (first | refine blk_drewN ?_ _ | refine blk_drew ?_ | refine blk_alloc ?_ _)); refine blk_put (cs := #[.int .i64 0, .int .i64 0, .string (⟨#[]⟩ : ByteArray)]) ?_ 0 _ rfl; (with_reducible repeat (first | refine blk_drewN ?_ _ | refine blk_drew ?_ | refine blk_alloc ?_ _)); exact BK645.out) hb); have n2_ := Aside0.mk (below_step (by repeat (first | (with_reducible first | exact HB.out | apply below_alloc | apply pw_below_drewN | apply below_drew1 | refine below_set ?_ GE643.out | refine below_set ?_ GE645.out) | exact HB.out)) hb); clear BK643; clear BK645; clear HB; have BK643 := n0_; have BK645 := n1_; have HB := n2_; clear n0_ n1_ n2_; (try clear hb); (try clear hb2); (try clear hk); (try clear hi)))
                  go_roundg k1
                  case measure => have := HK1.out; omega
                  case rel => exact ⟨(wrap64 (x13_1 + 1)), (by first | rfl | (simp; done) | (simp [*]; done)), H', ⟨by have := HK1.out; omega⟩, ⟨by repeat (first | (with_reducible first | exact HB.out | apply below_alloc | apply pw_below_drewN | apply below_drew1 | refine below_set ?_ GE643.out | refine below_set ?_ GE645.out) | exact HB.out)⟩⟩
                · rw [if_neg c12] at H
                  have c12b0 : (t646 == 0) = false := beq_eq_false_iff_ne.mpr c12
                  have c12b1 : (t646 != 0) = true := bne_iff_ne.mpr c12
                  obtain rfl := Option.some.inj H
                  have p642 : 0 ≤ (x13_1 : Int) := of_decide_eq_true (by first | (with_reducible assumption) | assumption)
                  have q642 : x13_1 < (l0.length : Int) := of_decide_eq_true (by first | (with_reducible assumption) | assumption)
                  obtain ⟨ad642, e642, hx642_0, hx642_1, hx642_2⟩ := at_T23 HR0.out x13_1 p642 q642
                  cases e642
                  replace hx642_0 := (HB.out.cell (World.block_lt_of_cell? w _ hx642_0)).trans hx642_0
                  replace hx642_1 := (HB.out.cell (World.block_lt_of_cell? w _ hx642_1)).trans hx642_1
                  replace hx642_2 := (HB.out.cell (World.block_lt_of_cell? w _ hx642_2)).trans hx642_2
                  replace p642 := eq_true p642
                  replace q642 := eq_true q642
                  go_wp2_with (first | ((with_reducible refine gate_dst (N := 8) rfl ?_); refine box_event ?hg (N := 8) ?hd (cs := #[.int .i64 0, .int .i64 0, .string (⟨#[]⟩ : ByteArray)]) (t := 23) ?hr ?_; (case hd => rfl); (case hg => rfl); (case hr => first | (go_simp; done) | (go_simp; rfl)); intro gb643 hg w20 hbox hb; have n0_ := Aside0.mk (below_step (by repeat (first | (with_reducible first | exact HB.out | apply below_alloc | apply pw_below_drewN | apply below_drew1) | exact HB.out)) hb); have n1_ := Aside0.mk (hbox); have n2_ := Aside0.mk ((by rw [hg]; exact (below_size (by repeat (first | (with_reducible first | exact HB.out | apply below_alloc | apply pw_below_drewN | apply below_drew1) | exact HB.out))) : w.heap.size ≤ gb643)); have n3_ := Aside0.mk ((by rw [hg]; exact (below_size (by repeat (first | (with_reducible first | exact HB.out | apply below_alloc | apply pw_below_drewN | apply below_drew1) | exact HB.out))) : w.heap.size ≤ gb643)); clear HB; have HB := n0_; have BK643 := n1_; have GW643 := n2_; have GE643 := n3_; clear n0_ n1_ n2_ n3_; clear hb hbox hg; have hcz21_0 : w20.cell? ⟨gb643, 0, none⟩ = some (.int .i64 0) := (blk_cell BK643.out 0).trans rfl; have hcz21_1 : w20.cell? ⟨gb643, 1, none⟩ = some (.int .i64 0) := (blk_cell BK643.out 1).trans rfl; have hcz21_2 : w20.cell? ⟨gb643, 2, none⟩ = some (.string (⟨#[]⟩ : ByteArray)) := (blk_cell BK643.out 2).trans rfl; have hfz21_0 := blk_frozen BK643.out 0; have hfz21_1 := blk_frozen BK643.out 1; have hfz21_2 := blk_frozen BK643.out 2; have p644 : 0 ≤ (x13_1 : Int) := of_decide_eq_true (by first | (with_reducible assumption) | assumption); have q644 : x13_1 < (l1.length : Int) := of_decide_eq_true (by first | (with_reducible assumption) | assumption); obtain ⟨ad644, e644, hx644_0, hx644_1, hx644_2⟩ := at_T23 HR1.out x13_1 p644 q644; cases e644; have hn644_0 : ad644.block ≠ gb643 := Nat.ne_of_lt (Nat.lt_of_lt_of_le (by have := World.block_lt_of_cell? _ _ hx644_0; first | rwa [add_block] at this | exact this) GW643.out); have hn644_1 : ad644.block ≠ gb643 := Nat.ne_of_lt (Nat.lt_of_lt_of_le (by have := World.block_lt_of_cell? _ _ hx644_0; first | rwa [add_block] at this | exact this) GW643.out); have hn644_2 : ad644.block ≠ gb643 := Nat.ne_of_lt (Nat.lt_of_lt_of_le (by have := World.block_lt_of_cell? _ _ hx644_0; first | rwa [add_block] at this | exact this) GW643.out); replace hx644_0 := (HB.out.cell (World.block_lt_of_cell? w _ hx644_0)).trans hx644_0; replace hx644_1 := (HB.out.cell (World.block_lt_of_cell? w _ hx644_1)).trans hx644_1; replace hx644_2 := (HB.out.cell (World.block_lt_of_cell? w _ hx644_2)).trans hx644_2; replace hx644_0 := (cell_far (p := ⟨gb643, 0, none⟩) (by first | (rw [add_block]; exact hn644_0) | (show (Addr.add _ _).block ≠ _; rw [add_block]; exact hn644_0) | exact hn644_0) (.int .i64 ((rd_T23 l0 x13_1).f0))).trans hx644_0; replace hx644_1 := (cell_far (p := ⟨gb643, 0, none⟩) (by first | (rw [add_block]; exact hn644_0) | (show (Addr.add _ _).block ≠ _; rw [add_block]; exact hn644_0) | exact hn644_0) (.int .i64 ((rd_T23 l0 x13_1).f0))).trans hx644_1; replace hx644_2 := (cell_far (p := ⟨gb643, 0, none⟩) (by first | (rw [add_block]; exact hn644_0) | (show (Addr.add _ _).block ≠ _; rw [add_block]; exact hn644_0) | exact hn644_0) (.int .i64 ((rd_T23 l0 x13_1).f0))).trans hx644_2; replace hx644_0 := (cell_far (p := ⟨gb643, 1, none⟩) (by first | (rw [add_block]; exact hn644_1) | (show (Addr.add _ _).block ≠ _; rw [add_block]; exact hn644_1) | exact hn644_1) (.int .i64 ((rd_T23 l0 x13_1).f1))).trans hx644_0; replace hx644_1 := (cell_far (p := ⟨gb643, 1, none⟩) (by first | (rw [add_block]; exact hn644_1) | (show (Addr.add _ _).block ≠ _; rw [add_block]; exact hn644_1) | exact hn644_1) (.int .i64 ((rd_T23 l0 x13_1).f1))).trans hx644_1; replace hx644_2 := (cell_far (p := ⟨gb643, 1, none⟩) (by first | (rw [add_block]; exact hn644_1) | (show (Addr.add _ _).block ≠ _; rw [add_block]; exact hn644_1) | exact hn644_1) (.int .i64 ((rd_T23 l0 x13_1).f1))).trans hx644_2; replace hx644_0 := (cell_far (p := ⟨gb643, 2, none⟩) (by first | (rw [add_block]; exact hn644_2) | (show (Addr.add _ _).block ≠ _; rw [add_block]; exact hn644_2) | exact hn644_2) (.string ((rd_T23 l0 x13_1).f2))).trans hx644_0; replace hx644_1 := (cell_far (p := ⟨gb643, 2, none⟩) (by first | (rw [add_block]; exact hn644_2) | (show (Addr.add _ _).block ≠ _; rw [add_block]; exact hn644_2) | exact hn644_2) (.string ((rd_T23 l0 x13_1).f2))).trans hx644_1; replace hx644_2 := (cell_far (p := ⟨gb643, 2, none⟩) (by first | (rw [add_block]; exact hn644_2) | (show (Addr.add _ _).block ≠ _; rw [add_block]; exact hn644_2) | exact hn644_2) (.string ((rd_T23 l0 x13_1).f2))).trans hx644_2; clear hn644_0; clear hn644_1; clear hn644_2; replace p644 := eq_true p644; replace q644 := eq_true q644) | ((with_reducible refine gate_dst (N := 9) rfl ?_); refine box_event ?hg (N := 9) ?hd (cs := #[.int .i64 0, .int .i64 0, .string (⟨#[]⟩ : ByteArray)]) (t := 23) ?hr ?_; (case hd => rfl); (case hg => rfl); (case hr => first | (go_simp; done) | (go_simp; rfl)); intro gb645 hg w22 hbox hb; have n0_ := Aside0.mk (blk_below (g := gb643) (o := .cells #[.int .i64 ((rd_T23 l0 x13_1).f0), .int .i64 ((rd_T23 l0 x13_1).f1), .string ((rd_T23 l0 x13_1).f2)] 23 (0, 0)) (by (with_reducible repeat (first | refine blk_drewN ?_ _ | refine blk_drew ?_ | refine blk_alloc ?_ _)); refine blk_put (cs := #[.int .i64 ((rd_T23 l0 x13_1).f0), .int .i64 ((rd_T23 l0 x13_1).f1), .string (⟨#[]⟩ : ByteArray)]) ?_ 2 _ rfl; (with_reducible repeat (first | refine blk_drewN ?_ _ | refine blk_drew ?_ | refine blk_alloc ?_ _)); refine blk_put (cs := #[.int .i64 ((rd_T23 l0 x13_1).f0), .int .i64 0, .string (⟨#[]⟩ : ByteArray)]) ?_ 1 _ rfl; (with_reducible repeat (first | refine blk_drewN ?_ _ | refine blk_drew ?_ | refine blk_alloc ?_ _)); refine blk_put (cs := #[.int .i64 0, .int .i64 0, .string (⟨#[]⟩ : ByteArray)]) ?_ 0 _ rfl; (with_reducible repeat (first | refine blk_drewN ?_ _ | refine blk_drew ?_ | refine blk_alloc ?_ _)); exact BK643.out) hb); have n1_ := Aside0.mk (below_step (by repeat (first | (with_reducible first | exact HB.out | apply below_alloc | apply pw_below_drewN | apply below_drew1 | refine below_set ?_ GE643.out) | exact HB.out)) hb); have n2_ := Aside0.mk (hbox); have n3_ := Aside0.mk ((by rw [hg]; exact (below_size (by repeat (first | (with_reducible first | exact HB.out | apply below_alloc | apply pw_below_drewN | apply below_drew1 | refine below_set ?_ GE643.out) | exact HB.out))) : w.heap.size ≤ gb645)); have n4_ := Aside0.mk ((by rw [hg]; exact (below_size (by repeat (first | (with_reducible first | exact HB.out | apply below_alloc | apply pw_below_drewN | apply below_drew1 | refine below_set ?_ GE643.out) | exact HB.out))) : w.heap.size ≤ gb645)); have n5_ := Aside0.mk ((by rw [hg]; exact Nat.ne_of_lt (blk_lt (g := gb643) (o := .cells #[.int .i64 ((rd_T23 l0 x13_1).f0), .int .i64 ((rd_T23 l0 x13_1).f1), .string ((rd_T23 l0 x13_1).f2)] 23 (0, 0)) (by (with_reducible repeat (first | refine blk_drewN ?_ _ | refine blk_drew ?_ | refine blk_alloc ?_ _)); refine blk_put (cs := #[.int .i64 ((rd_T23 l0 x13_1).f0), .int .i64 ((rd_T23 l0 x13_1).f1), .string (⟨#[]⟩ : ByteArray)]) ?_ 2 _ rfl; (with_reducible repeat (first | refine blk_drewN ?_ _ | refine blk_drew ?_ | refine blk_alloc ?_ _)); refine blk_put (cs := #[.int .i64 ((rd_T23 l0 x13_1).f0), .int .i64 0, .string (⟨#[]⟩ : ByteArray)]) ?_ 1 _ rfl; (with_reducible repeat (first | refine blk_drewN ?_ _ | refine blk_drew ?_ | refine blk_alloc ?_ _)); refine blk_put (cs := #[.int .i64 0, .int .i64 0, .string (⟨#[]⟩ : ByteArray)]) ?_ 0 _ rfl; (with_reducible repeat (first | refine blk_drewN ?_ _ | refine blk_drew ?_ | refine blk_alloc ?_ _)); exact BK643.out)) : gb643 ≠ gb645)); have n6_ := Aside0.mk ((by rw [hg]; exact Nat.ne_of_gt (blk_lt (g := gb643) (o := .cells #[.int .i64 ((rd_T23 l0 x13_1).f0), .int .i64 ((rd_T23 l0 x13_1).f1), .string ((rd_T23 l0 x13_1).f2)] 23 (0, 0)) (by (with_reducible repeat (first | refine blk_drewN ?_ _ | refine blk_drew ?_ | refine blk_alloc ?_ _)); refine blk_put (cs := #[.int .i64 ((rd_T23 l0 x13_1).f0), .int .i64 ((rd_T23 l0 x13_1).f1), .string (⟨#[]⟩ : ByteArray)]) ?_ 2 _ rfl; (with_reducible repeat (first | refine blk_drewN ?_ _ | refine blk_drew ?_ | refine blk_alloc ?_ _)); refine blk_put (cs := #[.int .i64 ((rd_T23 l0 x13_1).f0), .int .i64 0, .string (⟨#[]⟩ : ByteArray)]) ?_ 1 _ rfl; (with_reducible repeat (first | refine blk_drewN ?_ _ | refine blk_drew ?_ | refine blk_alloc ?_ _)); refine blk_put (cs := #[.int .i64 0, .int .i64 0, .string (⟨#[]⟩ : ByteArray)]) ?_ 0 _ rfl; (with_reducible repeat (first | refine blk_drewN ?_ _ | refine blk_drew ?_ | refine blk_alloc ?_ _)); exact BK643.out)) : gb645 ≠ gb643)); clear BK643; clear HB; have BK643 := n0_; have HB := n1_; have BK645 := n2_; have GW645 := n3_; have GE645 := n4_; have NB643_645 := n5_; have NB645_643 := n6_; clear n0_ n1_ n2_ n3_ n4_ n5_ n6_; clear hb hbox hg; have hnb23 := NB645_643.out; have hnc23 := NB643_645.out; have hcz24_0 : w22.cell? ⟨gb645, 0, none⟩ = some (.int .i64 0) := (blk_cell BK645.out 0).trans rfl; have hcz24_1 : w22.cell? ⟨gb645, 1, none⟩ = some (.int .i64 0) := (blk_cell BK645.out 1).trans rfl; have hcz24_2 : w22.cell? ⟨gb645, 2, none⟩ = some (.string (⟨#[]⟩ : ByteArray)) := (blk_cell BK645.out 2).trans rfl; have hfz24_0 := blk_frozen BK645.out 0; have hfz24_1 := blk_frozen BK645.out 1; have hfz24_2 := blk_frozen BK645.out 2; have hcz25_0 : w22.cell? ⟨gb643, 0, none⟩ = some (.int .i64 ((rd_T23 l0 x13_1).f0)) := (blk_cell BK643.out 0).trans rfl; have hcz25_1 : w22.cell? ⟨gb643, 1, none⟩ = some (.int .i64 ((rd_T23 l0 x13_1).f1)) := (blk_cell BK643.out 1).trans rfl; have hcz25_2 : w22.cell? ⟨gb643, 2, none⟩ = some (.string ((rd_T23 l0 x13_1).f2)) := (blk_cell BK643.out 2).trans rfl; have hfz25_0 := blk_frozen BK643.out 0; have hfz25_1 := blk_frozen BK643.out 1; have hfz25_2 := blk_frozen BK643.out 2) | ((with_reducible refine gate_dst (N := 29) rfl ?_); refine goesV_ (some 29) rfl rfl Tryd.func13 (by kernel_rfl) rfl #[.agg #[.int .i64 ((rd_T23 l0 x13_1).f0), .int .i64 ((rd_T23 l0 x13_1).f1), .string ((rd_T23 l0 x13_1).f2)], .agg #[.int .i64 ((rd_T23 l1 x13_1).f0), .int .i64 ((rd_T23 l1 x13_1).f1), .string ((rd_T23 l1 x13_1).f2)]] rfl rfl (by (try simp only [List.map_toArray, List.map_cons, List.map_nil]); first | done | rfl | (simp only [List.length_drop, List.length_take]; rfl)) ?_; (with_reducible refine (value_Compare.calls k1 ((rd_T23 l0 x13_1).f0) ((rd_T23 l0 x13_1).f1) ((rd_T23 l0 x13_1).f2) ((rd_T23 l1 x13_1).f0) ((rd_T23 l1 x13_1).f1) ((rd_T23 l1 x13_1).f2) t646 _ A11.out).mono ?_); rintro e w26 ⟨rfl, hb⟩; refine ⟨_, rfl, ?_⟩; have n0_ := Aside0.mk (blk_below (g := gb643) (o := .cells #[.int .i64 ((rd_T23 l0 x13_1).f0), .int .i64 ((rd_T23 l0 x13_1).f1), .string ((rd_T23 l0 x13_1).f2)] 23 (0, 0)) (by (with_reducible repeat (first | refine blk_drewN ?_ _ | refine blk_drew ?_ | refine blk_alloc ?_ _)); refine blk_far ?_ NB643_645.out _; (with_reducible repeat (first | refine blk_drewN ?_ _ | refine blk_drew ?_ | refine blk_alloc ?_ _)); refine blk_far ?_ NB643_645.out _; (with_reducible repeat (first | refine blk_drewN ?_ _ | refine blk_drew ?_ | refine blk_alloc ?_ _)); refine blk_far ?_ NB643_645.out _; (with_reducible repeat (first | refine blk_drewN ?_ _ | refine blk_drew ?_ | refine blk_alloc ?_ _)); exact BK643.out) hb); have n1_ := Aside0.mk (blk_below (g := gb645) (o := .cells #[.int .i64 ((rd_T23 l1 x13_1).f0), .int .i64 ((rd_T23 l1 x13_1).f1), .string ((rd_T23 l1 x13_1).f2)] 23 (0, 0)) (by (with_reducible repeat (first | refine blk_drewN ?_ _ | refine blk_drew ?_ | refine blk_alloc ?_ _)); refine blk_put (cs := #[.int .i64 ((rd_T23 l1 x13_1).f0), .int .i64 ((rd_T23 l1 x13_1).f1), .string (⟨#[]⟩ : ByteArray)]) ?_ 2 _ rfl; (with_reducible repeat (first | refine blk_drewN ?_ _ | refine blk_drew ?_ | refine blk_alloc ?_ _)); refine blk_put (cs := #[.int .i64 ((rd_T23 l1 x13_1).f0), .int .i64 0, .string (⟨#[]⟩ : ByteArray)]) ?_ 1 _ rfl; (with_reducible repeat (first | refine blk_drewN ?_ _ | refine blk_drew ?_ | refine blk_alloc ?_ _)); refine blk_put (cs := #[.int .i64 0, .int .i64 0, .string (⟨#[]⟩ : ByteArray)]) ?_ 0 _ rfl; (with_reducible repeat (first | refine blk_drewN ?_ _ | refine blk_drew ?_ | refine blk_alloc ?_ _)); exact BK645.out) hb); have n2_ := Aside0.mk (below_step (by repeat (first | (with_reducible first | exact HB.out | apply below_alloc | apply pw_below_drewN | apply below_drew1 | refine below_set ?_ GE643.out | refine below_set ?_ GE645.out) | exact HB.out)) hb); clear BK643; clear BK645; clear HB; have BK643 := n0_; have BK645 := n1_; have HB := n2_; clear n0_ n1_ n2_; (try clear hb); (try clear hb2); (try clear hk); (try clear hi)))
                  go_ret
                  exact ⟨by first | rfl | (simp [errW_none, errW_some] <;> rfl) | (simp [*, errW_none, errW_some] <;> rfl), by repeat (first | (with_reducible first | exact HB.out | apply below_alloc | apply pw_below_drewN | apply below_drew1 | refine below_set ?_ GE643.out | refine below_set ?_ GE645.out) | exact HB.out)⟩
              · rw [if_neg c10] at H
                exact absurd H (by simp)
          · rw [if_neg c6] at H
            exact absurd H (by simp)
        · rw [if_neg c5] at H
          exact absurd H (by simp)
      · rw [if_neg c4] at H
        have c4b0 : decide (x13_1 < (l0.length : Int)) = false := decide_eq_false c4
        clear c4
        by_cases c27 : (l0.length : Int) < (l1.length : Int)
        · rw [if_pos c27] at H
          have c27b0 : decide ((l0.length : Int) < (l1.length : Int)) = true := decide_eq_true c27
          have c27b1 : decide (l0.length < l1.length) = true := decide_eq_true (Int.ofNat_lt.mp c27)
          clear c27
          obtain rfl := Option.some.inj H
          go_wp2
          go_ret
          exact ⟨by first | rfl | (simp [errW_none, errW_some] <;> rfl) | (simp [*, errW_none, errW_some] <;> rfl), by repeat (first | (with_reducible first | exact HB.out | apply below_alloc | apply pw_below_drewN | apply below_drew1) | exact HB.out)⟩
        · rw [if_neg c27] at H
          have c27b0 : decide ((l0.length : Int) < (l1.length : Int)) = false := decide_eq_false c27
          have c27b1 : decide (l0.length < l1.length) = false := decide_eq_false (fun h => c27 (Int.ofNat_lt.mpr h))
          clear c27
          obtain rfl := Option.some.inj H
          go_wp2
          go_ret
          exact ⟨by first | rfl | (simp [errW_none, errW_some] <;> rfl) | (simp [*, errW_none, errW_some] <;> rfl), by repeat (first | (with_reducible first | exact HB.out | apply below_alloc | apply pw_below_drewN | apply below_drew1) | exact HB.out)⟩
end Go.Proofs.YtmhnfdgegejlkaaDoor.P
end

section
namespace Go.Proofs.YtmhnfdgegejlkaaDoor.P
open Go.RowKit Go.Proofs.YtmhnfdgegejlkaaDoorW.PrintWords Go.Proofs.YtmhnfdgegejlkaaDoorW.PrintLast Go.Proofs.YtmhnfdgegejlkaaDoorW.PrintMore
attribute [local go_sem] max2_int min2_int max_two min_two max_three min_three max_four min_four
set_option linter.unusedVariables false
set_option linter.unusedSimpArgs false
def value_CompareRows.f (k : Nat) (l0 : List (S23)) (l1 : List (S23)) : Option (Int) := (slices_CompareFunc_Row_Row_Value_Value_value_Compare.f k l0 l1).bind fun t647 => (some t647)
set_option maxHeartbeats 8000000 in
set_option maxRecDepth 100000 in
theorem value_CompareRows.calls (k : Nat) (A0 : Option Addr) (c0 : Nat) (l0 : List (S23)) (A1 : Option Addr) (c1 : Nat) (l1 : List (S23)) (r : Int) (w : World) (hr0 : Kd.C k23 w A0 l0.length l0) (hc0 : l0.length ≤ c0) (hr1 : Kd.C k23 w A1 l1.length l1) (hc1 : l1.length ≤ c1) (h : value_CompareRows.f k l0 l1 = some r) :
    Calls Tryd.prog 31 #[.slice A0 l0.length c0, .slice A1 l1.length c1] w fun e w' => e = .returned (.int .i64 r) ∧ Below w.heap.size w w' := by
  have HR0 := Aside0.mk hr0
  have HC0 := Aside0.mk hc0
  clear hr0 hc0
  have HR1 := Aside0.mk hr1
  have HC1 := Aside0.mk hc1
  clear hr1 hc1
  have HB := Aside0.mk (Below.refl w.heap.size w)
  have H : ((slices_CompareFunc_Row_Row_Value_Value_value_Compare.f k l0 l1).bind fun t647 => (some t647)) = some r := h
  clear h
  replace H := Option.bind_eq_some_iff.mp H
  obtain ⟨t647, A30, H⟩ := H
  replace H : (some t647) = some r := H
  have A3 := Aside0.mk A30
  clear A30
  obtain rfl := Option.some.inj H
  go_enter Tryd.func31, Tryd.ntmps31
  go_wp2_with (first | ((with_reducible refine gate_callee (f := 58) rfl ?_); refine goesL_ (some 7) rfl rfl Tryd.func58 (by kernel_rfl) rfl #[.slice A0 l0.length c0, .slice A1 l1.length c1, .func (.func 13) #[] #[]] rfl (by (try simp only [List.map_toArray, List.map_cons, List.map_nil]); first | done | rfl | (simp only [List.length_drop, List.length_take]; rfl)) ?_; (with_reducible refine (slices_CompareFunc_Row_Row_Value_Value_value_Compare.calls k _ _ l0 _ _ l1  t647 _ ?side1 ?side2 ?side3 ?side4 A3.out).mono ?_); (case side1 => repeat (first | exact HR0.out | (with_reducible refine Kd.C_alloc ?_ _) | (with_reducible refine Kd.C_drewN ?_ _) | (with_reducible refine Kd.C_drew ?_))); (case side2 => exact HC0.out); (case side3 => repeat (first | exact HR1.out | (with_reducible refine Kd.C_alloc ?_ _) | (with_reducible refine Kd.C_drewN ?_ _) | (with_reducible refine Kd.C_drew ?_))); (case side4 => exact HC1.out); rintro e w4 ⟨rfl, hb⟩; refine ⟨_, rfl, ?_⟩; have n0_ := Aside0.mk (below_step (by repeat (first | (with_reducible first | exact HB.out | apply below_alloc | apply pw_below_drewN | apply below_drew1) | exact HB.out)) hb); clear HB; have HB := n0_; clear n0_; (try clear hb); (try clear hb2); (try clear hk); (try clear hi)))
  go_ret
  exact ⟨by first | rfl | (simp [errW_none, errW_some] <;> rfl) | (simp [*, errW_none, errW_some] <;> rfl), by repeat (first | (with_reducible first | exact HB.out | apply below_alloc | apply pw_below_drewN | apply below_drew1) | exact HB.out)⟩
end Go.Proofs.YtmhnfdgegejlkaaDoor.P
end

section
namespace Go.Proofs.YtmhnfdgegejlkaaDoor.P
open Go.RowKit Go.Proofs.YtmhnfdgegejlkaaDoorW.PrintWords Go.Proofs.YtmhnfdgegejlkaaDoorW.PrintLast Go.Proofs.YtmhnfdgegejlkaaDoorW.PrintMore
attribute [local go_sem] max2_int min2_int max_two min_two max_three min_three max_four min_four
set_option linter.unusedVariables false
set_option linter.unusedSimpArgs false
def alumlaw19_ValueRowsMatchSpec.j0 : Nat → List (S23) → List (S23) → Int → List Int → List Int → Bool → Option (Bool)
  | 0, _, _, _, _, _, _ => none
  | k + 1, x0, x1, x2, x3, x4, x28 => if x28 = true then ((alumlaw19_sanity.f k).bind fun t775 => (some t775)) else ((alumlaw19_sanity.f k).bind fun t776 => (if t776 = true then ((value_CompareRows.f k x0 x1).bind fun t777 => ((alumref19_CompareRows.f k x0 x1).bind fun t778 => (if t777 = t778 then ((value_Key.f k x0 x2).bind fun t779 => ((alumref19_Key.f k x0 x2).bind fun t782 => ((alumref19_SameInts.f k t779 t782).bind fun t785 => (if t785 = true then ((value_CompareKeys.f k x3 x4).bind fun t786 => ((alumref19_CompareKeys.f k x3 x4).bind fun t787 => (some (t786 == t787)))) else (none))))) else (none)))) else (none)))
def alumlaw19_ValueRowsMatchSpec.f (k : Nat) (l0 : List (S23)) (l1 : List (S23)) (a2 : Int) (l3 : List Int) (l4 : List Int) : Option (Bool) := (alumlaw19_few.f k l0).bind fun t773 => (if t773 = true then ((alumlaw19_few.f k l1).bind fun t774 => (if t774 = true then (if (l3.length : Int) > 100 then (alumlaw19_ValueRowsMatchSpec.j0 k l0 l1 a2 l3 l4 true) else (alumlaw19_ValueRowsMatchSpec.j0 k l0 l1 a2 l3 l4 (decide ((l4.length : Int) > 100)))) else (alumlaw19_ValueRowsMatchSpec.j0 k l0 l1 a2 l3 l4 true))) else (alumlaw19_ValueRowsMatchSpec.j0 k l0 l1 a2 l3 l4 true))
set_option maxHeartbeats 8000000 in
set_option maxRecDepth 100000 in
theorem alumlaw19_ValueRowsMatchSpec.calls (k : Nat) (A0 : Option Addr) (c0 : Nat) (l0 : List (S23)) (A1 : Option Addr) (c1 : Nat) (l1 : List (S23)) (a2 : Int) (A3 : Option Addr) (c3 : Nat) (l3 : List Int) (A4 : Option Addr) (c4 : Nat) (l4 : List Int) (r : Bool) (w : World) (hr0 : Kd.C k23 w A0 l0.length l0) (hc0 : l0.length ≤ c0) (hr1 : Kd.C k23 w A1 l1.length l1) (hc1 : l1.length ≤ c1) (hr3 : Kd.C (Kd.int .i64) w A3 l3.length l3) (hc3 : l3.length ≤ c3) (hr4 : Kd.C (Kd.int .i64) w A4 l4.length l4) (hc4 : l4.length ≤ c4) (h : alumlaw19_ValueRowsMatchSpec.f k l0 l1 a2 l3 l4 = some r) :
    Calls Tryd.prog 7 #[.slice A0 l0.length c0, .slice A1 l1.length c1, .int .i64 a2, .slice A3 l3.length c3, .slice A4 l4.length c4] w fun e w' => e = .returned (.bool r) ∧ Below w.heap.size w w' := by
  have HR0 := Aside0.mk hr0
  have HC0 := Aside0.mk hc0
  clear hr0 hc0
  have HR1 := Aside0.mk hr1
  have HC1 := Aside0.mk hc1
  clear hr1 hc1
  have HR3 := Aside0.mk hr3
  have HC3 := Aside0.mk hc3
  clear hr3 hc3
  have HR4 := Aside0.mk hr4
  have HC4 := Aside0.mk hc4
  clear hr4 hc4
  have HB := Aside0.mk (Below.refl w.heap.size w)
  have H : ((alumlaw19_few.f k l0).bind fun t773 => (if t773 = true then ((alumlaw19_few.f k l1).bind fun t774 => (if t774 = true then (if (l3.length : Int) > 100 then (alumlaw19_ValueRowsMatchSpec.j0 k l0 l1 a2 l3 l4 true) else (alumlaw19_ValueRowsMatchSpec.j0 k l0 l1 a2 l3 l4 (decide ((l4.length : Int) > 100)))) else (alumlaw19_ValueRowsMatchSpec.j0 k l0 l1 a2 l3 l4 true))) else (alumlaw19_ValueRowsMatchSpec.j0 k l0 l1 a2 l3 l4 true))) = some r := h
  clear h
  have HC6 := Aside0.mk H
  clear H
  go_enter Tryd.func7, Tryd.ntmps7
  go_upto_region 1 with (fail)
  go_cut [28] (fun v28 wc => ∃ (kq : Nat) (x28_5 : Bool), v28 = .bool x28_5 ∧ Aside0 (alumlaw19_ValueRowsMatchSpec.j0 kq l0 l1 a2 l3 l4 x28_5 = some r) ∧ Aside0 (kq ≤ k) ∧ Aside0 (Below w.heap.size w wc))
  case first =>
    have H := HC6.out
    clear HC6
    replace H := Option.bind_eq_some_iff.mp H
    obtain ⟨t773, A70, H⟩ := H
    replace H : (if t773 = true then ((alumlaw19_few.f k l1).bind fun t774 => (if t774 = true then (if (l3.length : Int) > 100 then (alumlaw19_ValueRowsMatchSpec.j0 k l0 l1 a2 l3 l4 true) else (alumlaw19_ValueRowsMatchSpec.j0 k l0 l1 a2 l3 l4 (decide ((l4.length : Int) > 100)))) else (alumlaw19_ValueRowsMatchSpec.j0 k l0 l1 a2 l3 l4 true))) else (alumlaw19_ValueRowsMatchSpec.j0 k l0 l1 a2 l3 l4 true)) = some r := H
    have A7 := Aside0.mk A70
    clear A70
    by_cases c8 : t773 = true
    · subst c8
      have H1 : ((alumlaw19_few.f k l1).bind fun t774 => (if t774 = true then (if (l3.length : Int) > 100 then (alumlaw19_ValueRowsMatchSpec.j0 k l0 l1 a2 l3 l4 true) else (alumlaw19_ValueRowsMatchSpec.j0 k l0 l1 a2 l3 l4 (decide ((l4.length : Int) > 100)))) else (alumlaw19_ValueRowsMatchSpec.j0 k l0 l1 a2 l3 l4 true))) = some r := by rw [if_pos rfl] at H; exact H
      clear H
      have H := H1
      clear H1
      replace H := Option.bind_eq_some_iff.mp H
      obtain ⟨t774, A90, H⟩ := H
      replace H : (if t774 = true then (if (l3.length : Int) > 100 then (alumlaw19_ValueRowsMatchSpec.j0 k l0 l1 a2 l3 l4 true) else (alumlaw19_ValueRowsMatchSpec.j0 k l0 l1 a2 l3 l4 (decide ((l4.length : Int) > 100)))) else (alumlaw19_ValueRowsMatchSpec.j0 k l0 l1 a2 l3 l4 true)) = some r := H
      have A9 := Aside0.mk A90
      clear A90
      by_cases c10 : t774 = true
      · subst c10
        have H1 : (if (l3.length : Int) > 100 then (alumlaw19_ValueRowsMatchSpec.j0 k l0 l1 a2 l3 l4 true) else (alumlaw19_ValueRowsMatchSpec.j0 k l0 l1 a2 l3 l4 (decide ((l4.length : Int) > 100)))) = some r := by rw [if_pos rfl] at H; exact H
        clear H
        have H := H1
        clear H1
        by_cases c11 : (l3.length : Int) > 100
        · rw [if_pos c11] at H
          have c11b0 : decide (100 < (l3.length : Int)) = true := decide_eq_true c11
          have c11b1 : decide (100 < l3.length) = true := decide_eq_true (by omega)
          clear c11
          (first | rw [c11b0] | (simp only [i64_w, i32_w]; rw [c11b0]) | skip)
          have H' := Aside0.mk H
          clear H
          go_wp2_with (first | ((with_reducible refine gate_callee (f := 32) rfl ?_); refine goesL_ (some 12) rfl rfl Tryd.func32 (by kernel_rfl) rfl #[.slice A0 l0.length c0] rfl (by (try simp only [List.map_toArray, List.map_cons, List.map_nil]); first | done | rfl | (simp only [List.length_drop, List.length_take]; rfl)) ?_; (with_reducible refine (alumlaw19_few.calls k _ _ l0 true _ ?side1 ?side2 A7.out).mono ?_); (case side1 => repeat (first | exact (Kd.C_below HR0.out HB.out) | (with_reducible refine Kd.C_alloc ?_ _) | (with_reducible refine Kd.C_drewN ?_ _) | (with_reducible refine Kd.C_drew ?_))); (case side2 => exact HC0.out); rintro e w12 ⟨rfl, hb⟩; refine ⟨_, rfl, ?_⟩; have n0_ := Aside0.mk (below_step (by repeat (first | (with_reducible first | exact HB.out | apply below_alloc | apply pw_below_drewN | apply below_drew1) | exact HB.out)) hb); clear HB; have HB := n0_; clear n0_; (try clear hb); (try clear hb2); (try clear hk); (try clear hi)) | (go_at_call 32; (with_reducible refine (alumlaw19_few.calls k _ _ l1 true _ ?side1 ?side2 A9.out).mono ?_); (case side1 => repeat (first | exact (Kd.C_below HR1.out HB.out) | (with_reducible refine Kd.C_alloc ?_ _) | (with_reducible refine Kd.C_drewN ?_ _) | (with_reducible refine Kd.C_drew ?_))); (case side2 => exact HC1.out); rintro e w13 ⟨rfl, hb⟩; have n0_ := Aside0.mk (below_step (by repeat (first | (with_reducible first | exact HB.out | apply below_alloc | apply pw_below_drewN | apply below_drew1) | exact HB.out)) hb); clear HB; have HB := n0_; clear n0_; (try clear hb); (try clear hb2); (try clear hk); (try clear hi)))
          go_meet
          case rel => exact ⟨_, (true), (by first | rfl | (simp; done) | (simp [*]; done)), H', ⟨by first | omega | exact Nat.le_refl _⟩, ⟨by repeat (first | (with_reducible first | exact HB.out | apply below_alloc | apply pw_below_drewN | apply below_drew1) | exact HB.out)⟩⟩
        · rw [if_neg c11] at H
          have c11b0 : decide (100 < (l3.length : Int)) = false := decide_eq_false c11
          have c11b1 : decide (100 < l3.length) = false := decide_eq_false (by omega)
          clear c11
          (first | rw [c11b0] | (simp only [i64_w, i32_w]; rw [c11b0]) | skip)
          have H' := Aside0.mk H
          clear H
          go_wp2_with (first | ((with_reducible refine gate_callee (f := 32) rfl ?_); refine goesL_ (some 12) rfl rfl Tryd.func32 (by kernel_rfl) rfl #[.slice A0 l0.length c0] rfl (by (try simp only [List.map_toArray, List.map_cons, List.map_nil]); first | done | rfl | (simp only [List.length_drop, List.length_take]; rfl)) ?_; (with_reducible refine (alumlaw19_few.calls k _ _ l0 true _ ?side1 ?side2 A7.out).mono ?_); (case side1 => repeat (first | exact (Kd.C_below HR0.out HB.out) | (with_reducible refine Kd.C_alloc ?_ _) | (with_reducible refine Kd.C_drewN ?_ _) | (with_reducible refine Kd.C_drew ?_))); (case side2 => exact HC0.out); rintro e w14 ⟨rfl, hb⟩; refine ⟨_, rfl, ?_⟩; have n0_ := Aside0.mk (below_step (by repeat (first | (with_reducible first | exact HB.out | apply below_alloc | apply pw_below_drewN | apply below_drew1) | exact HB.out)) hb); clear HB; have HB := n0_; clear n0_; (try clear hb); (try clear hb2); (try clear hk); (try clear hi)) | (go_at_call 32; (with_reducible refine (alumlaw19_few.calls k _ _ l1 true _ ?side1 ?side2 A9.out).mono ?_); (case side1 => repeat (first | exact (Kd.C_below HR1.out HB.out) | (with_reducible refine Kd.C_alloc ?_ _) | (with_reducible refine Kd.C_drewN ?_ _) | (with_reducible refine Kd.C_drew ?_))); (case side2 => exact HC1.out); rintro e w15 ⟨rfl, hb⟩; have n0_ := Aside0.mk (below_step (by repeat (first | (with_reducible first | exact HB.out | apply below_alloc | apply pw_below_drewN | apply below_drew1) | exact HB.out)) hb); clear HB; have HB := n0_; clear n0_; (try clear hb); (try clear hb2); (try clear hk); (try clear hi)))
          go_meet
          case rel => exact ⟨_, (decide ((l4.length : Int) > 100)), (by first | rfl | (simp; done) | (simp [*]; done)), H', ⟨by first | omega | exact Nat.le_refl _⟩, ⟨by repeat (first | (with_reducible first | exact HB.out | apply below_alloc | apply pw_below_drewN | apply below_drew1) | exact HB.out)⟩⟩
      · replace c10 := Bool.eq_false_iff.mpr c10
        subst c10
        have H1 : (alumlaw19_ValueRowsMatchSpec.j0 k l0 l1 a2 l3 l4 true) = some r := by rw [if_neg (show ¬ (false = true) by decide)] at H; exact H
        clear H
        have H := H1
        clear H1
        have H' := Aside0.mk H
        clear H
        go_wp2_with (first | ((with_reducible refine gate_callee (f := 32) rfl ?_); refine goesL_ (some 12) rfl rfl Tryd.func32 (by kernel_rfl) rfl #[.slice A0 l0.length c0] rfl (by (try simp only [List.map_toArray, List.map_cons, List.map_nil]); first | done | rfl | (simp only [List.length_drop, List.length_take]; rfl)) ?_; (with_reducible refine (alumlaw19_few.calls k _ _ l0 true _ ?side1 ?side2 A7.out).mono ?_); (case side1 => repeat (first | exact (Kd.C_below HR0.out HB.out) | (with_reducible refine Kd.C_alloc ?_ _) | (with_reducible refine Kd.C_drewN ?_ _) | (with_reducible refine Kd.C_drew ?_))); (case side2 => exact HC0.out); rintro e w16 ⟨rfl, hb⟩; refine ⟨_, rfl, ?_⟩; have n0_ := Aside0.mk (below_step (by repeat (first | (with_reducible first | exact HB.out | apply below_alloc | apply pw_below_drewN | apply below_drew1) | exact HB.out)) hb); clear HB; have HB := n0_; clear n0_; (try clear hb); (try clear hb2); (try clear hk); (try clear hi)) | (go_at_call 32; (with_reducible refine (alumlaw19_few.calls k _ _ l1 false _ ?side1 ?side2 A9.out).mono ?_); (case side1 => repeat (first | exact (Kd.C_below HR1.out HB.out) | (with_reducible refine Kd.C_alloc ?_ _) | (with_reducible refine Kd.C_drewN ?_ _) | (with_reducible refine Kd.C_drew ?_))); (case side2 => exact HC1.out); rintro e w17 ⟨rfl, hb⟩; have n0_ := Aside0.mk (below_step (by repeat (first | (with_reducible first | exact HB.out | apply below_alloc | apply pw_below_drewN | apply below_drew1) | exact HB.out)) hb); clear HB; have HB := n0_; clear n0_; (try clear hb); (try clear hb2); (try clear hk); (try clear hi)))
        go_meet
        case rel => exact ⟨_, (true), (by first | rfl | (simp; done) | (simp [*]; done)), H', ⟨by first | omega | exact Nat.le_refl _⟩, ⟨by repeat (first | (with_reducible first | exact HB.out | apply below_alloc | apply pw_below_drewN | apply below_drew1) | exact HB.out)⟩⟩
    · replace c8 := Bool.eq_false_iff.mpr c8
      subst c8
      have H1 : (alumlaw19_ValueRowsMatchSpec.j0 k l0 l1 a2 l3 l4 true) = some r := by rw [if_neg (show ¬ (false = true) by decide)] at H; exact H
      clear H
      have H := H1
      clear H1
      have H' := Aside0.mk H
      clear H
      go_wp2_with (first | ((with_reducible refine gate_callee (f := 32) rfl ?_); refine goesL_ (some 12) rfl rfl Tryd.func32 (by kernel_rfl) rfl #[.slice A0 l0.length c0] rfl (by (try simp only [List.map_toArray, List.map_cons, List.map_nil]); first | done | rfl | (simp only [List.length_drop, List.length_take]; rfl)) ?_; (with_reducible refine (alumlaw19_few.calls k _ _ l0 false _ ?side1 ?side2 A7.out).mono ?_); (case side1 => repeat (first | exact (Kd.C_below HR0.out HB.out) | (with_reducible refine Kd.C_alloc ?_ _) | (with_reducible refine Kd.C_drewN ?_ _) | (with_reducible refine Kd.C_drew ?_))); (case side2 => exact HC0.out); rintro e w18 ⟨rfl, hb⟩; refine ⟨_, rfl, ?_⟩; have n0_ := Aside0.mk (below_step (by repeat (first | (with_reducible first | exact HB.out | apply below_alloc | apply pw_below_drewN | apply below_drew1) | exact HB.out)) hb); clear HB; have HB := n0_; clear n0_; (try clear hb); (try clear hb2); (try clear hk); (try clear hi)))
      go_meet
      case rel => exact ⟨_, (true), (by first | rfl | (simp; done) | (simp [*]; done)), H', ⟨by first | omega | exact Nat.le_refl _⟩, ⟨by repeat (first | (with_reducible first | exact HB.out | apply below_alloc | apply pw_below_drewN | apply below_drew1) | exact HB.out)⟩⟩
  case rest =>
    clear HC6
    try clear c1
    try clear p2
    try clear c3
    try clear c4
    try clear c7
    try clear c8
    try clear c10
    try clear c11
    try clear c11b0
    try clear c11b1
    obtain ⟨kq, x28_5, rfl, HA, HJ5, HB⟩ := hcut
    cases kq with
    | zero => exact absurd HA.out (by simp [alumlaw19_ValueRowsMatchSpec.j0])
    | succ kj5 =>
      have H := HA.out
      clear HA
      simp only [alumlaw19_ValueRowsMatchSpec.j0] at H
      by_cases c19 : x28_5 = true
      · subst c19
        have H1 : ((alumlaw19_sanity.f kj5).bind fun t775 => (some t775)) = some r := by rw [if_pos rfl] at H; exact H
        clear H
        have H := H1
        clear H1
        replace H := Option.bind_eq_some_iff.mp H
        obtain ⟨t775, A200, H⟩ := H
        replace H : (some t775) = some r := H
        have A20 := Aside0.mk A200
        clear A200
        obtain rfl := Option.some.inj H
        go_wp2_with (first | ((with_reducible refine gate_callee (f := 12) rfl ?_); refine goesL_ (some 29) rfl rfl Tryd.func12 (by kernel_rfl) rfl #[] rfl (by (try simp only [List.map_toArray, List.map_cons, List.map_nil]); first | done | rfl | (simp only [List.length_drop, List.length_take]; rfl)) ?_; (with_reducible refine (alumlaw19_sanity.calls kj5  t775 _ A20.out).mono ?_); rintro e w21 ⟨rfl, hb⟩; refine ⟨_, rfl, ?_⟩; have n0_ := Aside0.mk (below_step (by repeat (first | (with_reducible first | exact HB.out | apply below_alloc | apply pw_below_drewN | apply below_drew1) | exact HB.out)) hb); clear HB; have HB := n0_; clear n0_; (try clear hb); (try clear hb2); (try clear hk); (try clear hi)))
        go_ret
        exact ⟨by first | rfl | (simp [errW_none, errW_some] <;> rfl) | (simp [*, errW_none, errW_some] <;> rfl), by repeat (first | (with_reducible first | exact HB.out | apply below_alloc | apply pw_below_drewN | apply below_drew1) | exact HB.out)⟩
      · replace c19 := Bool.eq_false_iff.mpr c19
        subst c19
        have H1 : ((alumlaw19_sanity.f kj5).bind fun t776 => (if t776 = true then ((value_CompareRows.f kj5 l0 l1).bind fun t777 => ((alumref19_CompareRows.f kj5 l0 l1).bind fun t778 => (if t777 = t778 then ((value_Key.f kj5 l0 a2).bind fun t779 => ((alumref19_Key.f kj5 l0 a2).bind fun t782 => ((alumref19_SameInts.f kj5 t779 t782).bind fun t785 => (if t785 = true then ((value_CompareKeys.f kj5 l3 l4).bind fun t786 => ((alumref19_CompareKeys.f kj5 l3 l4).bind fun t787 => (some (t786 == t787)))) else (none))))) else (none)))) else (none))) = some r := by rw [if_neg (show ¬ (false = true) by decide)] at H; exact H
        clear H
        have H := H1
        clear H1
        replace H := Option.bind_eq_some_iff.mp H
        obtain ⟨t776, A220, H⟩ := H
        replace H : (if t776 = true then ((value_CompareRows.f kj5 l0 l1).bind fun t777 => ((alumref19_CompareRows.f kj5 l0 l1).bind fun t778 => (if t777 = t778 then ((value_Key.f kj5 l0 a2).bind fun t779 => ((alumref19_Key.f kj5 l0 a2).bind fun t782 => ((alumref19_SameInts.f kj5 t779 t782).bind fun t785 => (if t785 = true then ((value_CompareKeys.f kj5 l3 l4).bind fun t786 => ((alumref19_CompareKeys.f kj5 l3 l4).bind fun t787 => (some (t786 == t787)))) else (none))))) else (none)))) else (none)) = some r := H
        have A22 := Aside0.mk A220
        clear A220
        by_cases c23 : t776 = true
        · subst c23
          have H1 : ((value_CompareRows.f kj5 l0 l1).bind fun t777 => ((alumref19_CompareRows.f kj5 l0 l1).bind fun t778 => (if t777 = t778 then ((value_Key.f kj5 l0 a2).bind fun t779 => ((alumref19_Key.f kj5 l0 a2).bind fun t782 => ((alumref19_SameInts.f kj5 t779 t782).bind fun t785 => (if t785 = true then ((value_CompareKeys.f kj5 l3 l4).bind fun t786 => ((alumref19_CompareKeys.f kj5 l3 l4).bind fun t787 => (some (t786 == t787)))) else (none))))) else (none)))) = some r := by rw [if_pos rfl] at H; exact H
          clear H
          have H := H1
          clear H1
          replace H := Option.bind_eq_some_iff.mp H
          obtain ⟨t777, A240, H⟩ := H
          replace H : ((alumref19_CompareRows.f kj5 l0 l1).bind fun t778 => (if t777 = t778 then ((value_Key.f kj5 l0 a2).bind fun t779 => ((alumref19_Key.f kj5 l0 a2).bind fun t782 => ((alumref19_SameInts.f kj5 t779 t782).bind fun t785 => (if t785 = true then ((value_CompareKeys.f kj5 l3 l4).bind fun t786 => ((alumref19_CompareKeys.f kj5 l3 l4).bind fun t787 => (some (t786 == t787)))) else (none))))) else (none))) = some r := H
          have A24 := Aside0.mk A240
          clear A240
          replace H := Option.bind_eq_some_iff.mp H
          obtain ⟨t778, A250, H⟩ := H
          replace H : (if t777 = t778 then ((value_Key.f kj5 l0 a2).bind fun t779 => ((alumref19_Key.f kj5 l0 a2).bind fun t782 => ((alumref19_SameInts.f kj5 t779 t782).bind fun t785 => (if t785 = true then ((value_CompareKeys.f kj5 l3 l4).bind fun t786 => ((alumref19_CompareKeys.f kj5 l3 l4).bind fun t787 => (some (t786 == t787)))) else (none))))) else (none)) = some r := H
          have A25 := Aside0.mk A250
          clear A250
          by_cases c26 : t777 = t778
          · rw [if_pos c26] at H
            have c26b0 : (t777 == t778) = true := beq_iff_eq.mpr c26
            have c26b1 : (t777 != t778) = false := bne_eq_false_iff_eq.mpr c26
            clear c26
            replace H := Option.bind_eq_some_iff.mp H
            obtain ⟨t779, A270, H⟩ := H
            replace H : ((alumref19_Key.f kj5 l0 a2).bind fun t782 => ((alumref19_SameInts.f kj5 t779 t782).bind fun t785 => (if t785 = true then ((value_CompareKeys.f kj5 l3 l4).bind fun t786 => ((alumref19_CompareKeys.f kj5 l3 l4).bind fun t787 => (some (t786 == t787)))) else (none)))) = some r := H
            have A27 := Aside0.mk A270
            clear A270
            replace H := Option.bind_eq_some_iff.mp H
            obtain ⟨t782, A280, H⟩ := H
            replace H : ((alumref19_SameInts.f kj5 t779 t782).bind fun t785 => (if t785 = true then ((value_CompareKeys.f kj5 l3 l4).bind fun t786 => ((alumref19_CompareKeys.f kj5 l3 l4).bind fun t787 => (some (t786 == t787)))) else (none))) = some r := H
            have A28 := Aside0.mk A280
            clear A280
            replace H := Option.bind_eq_some_iff.mp H
            obtain ⟨t785, A290, H⟩ := H
            replace H : (if t785 = true then ((value_CompareKeys.f kj5 l3 l4).bind fun t786 => ((alumref19_CompareKeys.f kj5 l3 l4).bind fun t787 => (some (t786 == t787)))) else (none)) = some r := H
            have A29 := Aside0.mk A290
            clear A290
            by_cases c30 : t785 = true
            · subst c30
              have H1 : ((value_CompareKeys.f kj5 l3 l4).bind fun t786 => ((alumref19_CompareKeys.f kj5 l3 l4).bind fun t787 => (some (t786 == t787)))) = some r := by rw [if_pos rfl] at H; exact H
              clear H
              have H := H1
              clear H1
              replace H := Option.bind_eq_some_iff.mp H
              obtain ⟨t786, A310, H⟩ := H
              replace H : ((alumref19_CompareKeys.f kj5 l3 l4).bind fun t787 => (some (t786 == t787))) = some r := H
              have A31 := Aside0.mk A310
              clear A310
              replace H := Option.bind_eq_some_iff.mp H
              obtain ⟨t787, A320, H⟩ := H
              replace H : (some (t786 == t787)) = some r := H
              have A32 := Aside0.mk A320
              clear A320
              obtain rfl := Option.some.inj H
              go_wp2_with (first | ((with_reducible refine gate_callee (f := 12) rfl ?_); refine goesL_ (some 30) rfl rfl Tryd.func12 (by kernel_rfl) rfl #[] rfl (by (try simp only [List.map_toArray, List.map_cons, List.map_nil]); first | done | rfl | (simp only [List.length_drop, List.length_take]; rfl)) ?_; (with_reducible refine (alumlaw19_sanity.calls kj5  true _ A22.out).mono ?_); rintro e w33 ⟨rfl, hb⟩; refine ⟨_, rfl, ?_⟩; have n0_ := Aside0.mk (below_step (by repeat (first | (with_reducible first | exact HB.out | apply below_alloc | apply pw_below_drewN | apply below_drew1) | exact HB.out)) hb); clear HB; have HB := n0_; clear n0_; (try clear hb); (try clear hb2); (try clear hk); (try clear hi)) | (go_at_call 31; (with_reducible refine (value_CompareRows.calls kj5 _ _ l0 _ _ l1 t777 _ ?side1 ?side2 ?side3 ?side4 A24.out).mono ?_); (case side1 => repeat (first | exact (Kd.C_below HR0.out HB.out) | (with_reducible refine Kd.C_alloc ?_ _) | (with_reducible refine Kd.C_drewN ?_ _) | (with_reducible refine Kd.C_drew ?_))); (case side2 => exact HC0.out); (case side3 => repeat (first | exact (Kd.C_below HR1.out HB.out) | (with_reducible refine Kd.C_alloc ?_ _) | (with_reducible refine Kd.C_drewN ?_ _) | (with_reducible refine Kd.C_drew ?_))); (case side4 => exact HC1.out); rintro e w34 ⟨rfl, hb⟩; have n0_ := Aside0.mk (below_step (by repeat (first | (with_reducible first | exact HB.out | apply below_alloc | apply pw_below_drewN | apply below_drew1) | exact HB.out)) hb); clear HB; have HB := n0_; clear n0_; (try clear hb); (try clear hb2); (try clear hk); (try clear hi)) | (go_at_call 33; (with_reducible refine (alumref19_CompareRows.calls kj5 _ _ l0 _ _ l1 t778 _ ?side1 ?side2 ?side3 ?side4 A25.out).mono ?_); (case side1 => repeat (first | exact (Kd.C_below HR0.out HB.out) | (with_reducible refine Kd.C_alloc ?_ _) | (with_reducible refine Kd.C_drewN ?_ _) | (with_reducible refine Kd.C_drew ?_))); (case side2 => exact HC0.out); (case side3 => repeat (first | exact (Kd.C_below HR1.out HB.out) | (with_reducible refine Kd.C_alloc ?_ _) | (with_reducible refine Kd.C_drewN ?_ _) | (with_reducible refine Kd.C_drew ?_))); (case side4 => exact HC1.out); rintro e w35 ⟨rfl, hb⟩; have n0_ := Aside0.mk (below_step (by repeat (first | (with_reducible first | exact HB.out | apply below_alloc | apply pw_below_drewN | apply below_drew1) | exact HB.out)) hb); clear HB; have HB := n0_; clear n0_; (try clear hb); (try clear hb2); (try clear hk); (try clear hi)) | (go_at_call 35; (with_reducible refine (value_Key.calls kj5 _ _ l0 a2 t779 _ ?side1 ?side2 A27.out).mono ?_); (case side1 => repeat (first | exact (Kd.C_below HR0.out HB.out) | (with_reducible refine Kd.C_alloc ?_ _) | (with_reducible refine Kd.C_drewN ?_ _) | (with_reducible refine Kd.C_drew ?_))); (case side2 => exact HC0.out); rintro e w36 ⟨v780, rfl, ho0, hb⟩; have n0_ := Aside0.mk (Kd.R_lower ho0 (below_size (by repeat (first | (with_reducible first | exact HB.out | apply below_alloc | apply pw_below_drewN | apply below_drew1) | exact HB.out)))); have n1_ := Aside0.mk (below_step (by repeat (first | (with_reducible first | exact HB.out | apply below_alloc | apply pw_below_drewN | apply below_drew1) | exact HB.out)) hb); clear HB; have HO781 := n0_; have HB := n1_; clear n0_ n1_; (try clear hb); (try clear hb2); (try clear hk); (try clear hi); (try clear ho0)) | (go_at_call 36; (with_reducible refine (alumref19_Key.calls kj5 _ _ l0 a2 t782 _ ?side1 ?side2 A28.out).mono ?_); (case side1 => repeat (first | exact (Kd.C_below HR0.out HB.out) | (with_reducible refine Kd.C_alloc ?_ _) | (with_reducible refine Kd.C_drewN ?_ _) | (with_reducible refine Kd.C_drew ?_))); (case side2 => exact HC0.out); rintro e w37 ⟨v783, rfl, ho0, hb⟩; have n0_ := Aside0.mk (Kd.R_elder' (by (with_reducible repeat (first | apply Kd.R_alloc | apply Kd.R_drewN | apply Kd.R_drew)); exact HO781.out) (Kd.R_base ho0) hb); have n1_ := Aside0.mk (Kd.R_lower (Kd.R_new' ho0 (Kd.R_lt (by (with_reducible repeat (first | apply Kd.R_alloc | apply Kd.R_drewN | apply Kd.R_drew)); exact HO781.out))) (below_size (by repeat (first | (with_reducible first | exact HB.out | apply below_alloc | apply pw_below_drewN | apply below_drew1) | exact HB.out)))); have n2_ := Aside0.mk (below_step (by repeat (first | (with_reducible first | exact HB.out | apply below_alloc | apply pw_below_drewN | apply below_drew1) | exact HB.out)) hb); clear HO781; clear HB; have HO781 := n0_; have HO784 := n1_; have HB := n2_; clear n0_ n1_ n2_; (try clear hb); (try clear hb2); (try clear hk); (try clear hi); (try clear ho0); obtain ⟨Ao38, co38, eo38⟩ := Kd.R_slice HO781.out; subst eo38; obtain ⟨Ao39, co39, eo39⟩ := Kd.R_slice HO784.out; subst eo39) | (go_at_call 34; (with_reducible refine (alumref19_SameInts.calls kj5 _ _ t779 _ _ t782 true _ ?side1 ?side2 ?side3 ?side4 A29.out).mono ?_); (case side1 => repeat (first | exact (Kd.R_reads' HO781.out).2.2 | (with_reducible refine Kd.C_alloc ?_ _) | (with_reducible refine Kd.C_drewN ?_ _) | (with_reducible refine Kd.C_drew ?_))); (case side2 => exact (Kd.R_reads' HO781.out).2.1); (case side3 => repeat (first | exact (Kd.R_reads' HO784.out).2.2 | (with_reducible refine Kd.C_alloc ?_ _) | (with_reducible refine Kd.C_drewN ?_ _) | (with_reducible refine Kd.C_drew ?_))); (case side4 => exact (Kd.R_reads' HO784.out).2.1); rintro e w' ⟨rfl, ⟨nd, rfl⟩⟩) | (go_at_call 37; (with_reducible refine (value_CompareKeys.calls kj5 _ _ l3 _ _ l4 t786 _ ?side1 ?side2 ?side3 ?side4 A31.out).mono ?_); (case side1 => repeat (first | exact (Kd.C_below HR3.out (by repeat (first | (with_reducible first | exact HB.out | apply below_alloc | apply pw_below_drewN | apply below_drew1) | exact HB.out))) | (with_reducible refine Kd.C_alloc ?_ _) | (with_reducible refine Kd.C_drewN ?_ _) | (with_reducible refine Kd.C_drew ?_))); (case side2 => exact HC3.out); (case side3 => repeat (first | exact (Kd.C_below HR4.out (by repeat (first | (with_reducible first | exact HB.out | apply below_alloc | apply pw_below_drewN | apply below_drew1) | exact HB.out))) | (with_reducible refine Kd.C_alloc ?_ _) | (with_reducible refine Kd.C_drewN ?_ _) | (with_reducible refine Kd.C_drew ?_))); (case side4 => exact HC4.out); rintro e w' ⟨rfl, ⟨nd, rfl⟩⟩) | (go_at_call 38; (with_reducible refine (alumref19_CompareKeys.calls kj5 _ _ l3 _ _ l4 t787 _ ?side1 ?side2 ?side3 ?side4 A32.out).mono ?_); (case side1 => repeat (first | exact (Kd.C_below HR3.out (by repeat (first | (with_reducible first | exact HB.out | apply below_alloc | apply pw_below_drewN | apply below_drew1) | exact HB.out))) | (with_reducible refine Kd.C_alloc ?_ _) | (with_reducible refine Kd.C_drewN ?_ _) | (with_reducible refine Kd.C_drew ?_))); (case side2 => exact HC3.out); (case side3 => repeat (first | exact (Kd.C_below HR4.out (by repeat (first | (with_reducible first | exact HB.out | apply below_alloc | apply pw_below_drewN | apply below_drew1) | exact HB.out))) | (with_reducible refine Kd.C_alloc ?_ _) | (with_reducible refine Kd.C_drewN ?_ _) | (with_reducible refine Kd.C_drew ?_))); (case side4 => exact HC4.out); rintro e w' ⟨rfl, ⟨nd, rfl⟩⟩))
              go_ret
              exact ⟨by first | rfl | (simp [errW_none, errW_some] <;> rfl) | (simp [*, errW_none, errW_some] <;> rfl), by repeat (first | (with_reducible first | exact HB.out | apply below_alloc | apply pw_below_drewN | apply below_drew1) | exact HB.out)⟩
            · replace c30 := Bool.eq_false_iff.mpr c30
              subst c30
              have H1 : (none) = some r := by rw [if_neg (show ¬ (false = true) by decide)] at H; exact H
              clear H
              have H := H1
              clear H1
              exact absurd H (by simp)
          · rw [if_neg c26] at H
            exact absurd H (by simp)
        · replace c23 := Bool.eq_false_iff.mpr c23
          subst c23
          have H1 : (none) = some r := by rw [if_neg (show ¬ (false = true) by decide)] at H; exact H
          clear H
          have H := H1
          clear H1
          exact absurd H (by simp)
end Go.Proofs.YtmhnfdgegejlkaaDoor.P
end

section
namespace Go.Proofs.YtmhnfdgegejlkaaDoor.P
open Go.RowKit Go.Proofs.YtmhnfdgegejlkaaDoorW.PrintWords
section
variable {H : Type} {enc : TypeId × Value → H} {P : Program} {W : World}
def Opens {α : Type} (enc : TypeId × Value → H) (P : Program) (W : World) (d : Kd α) (t : TypeId) (good : α → Prop) : Prop :=
  P.cellsOf t = d.sz ∧ ∀ (fuel : Nat) (cs : List Value) (x : DataW H) (ps : List MemPlace), DataW.trod enc P W 0 (fun _ => true) true fuel t cs = some (x, ps) → (∀ n ∈ x.weights P t, n ≤ reachBytes) → ∃ a : α, d.K W a cs ∧ good a
theorem opens_int {t : TypeId} {k : IntKind} (hu : P.underlying t = some (.int k)) (hc : P.cellsOf t = 1) : Opens enc P W (Kd.int k) t (fun a => (Lit.int k a).wf = true) := by
  refine ⟨hc, fun fuel cs x ps h _ => ?_⟩
  obtain ⟨n, rfl, _, hw⟩ := DataW.trod_int hu h
  exact ⟨n, rfl, hw⟩
theorem opens_string {t : TypeId} (hu : P.underlying t = some .string) (hc : P.cellsOf t = 1) : Opens enc P W Kd.string t (fun s => s.size ≤ 140737488351232) := by
  refine ⟨hc, fun fuel cs x ps h hw => ?_⟩
  obtain ⟨s, rfl, hx, _⟩ := DataW.trod_string hu h
  obtain ⟨rfl, rfl⟩ := Prod.mk.inj hx
  refine ⟨s, rfl, ?_⟩
  have := hw s.data.toList.length (by simp [DataW.weights])
  rw [Array.length_toList] at this
  exact this
def OpensFs {α : Type} (enc : TypeId × Value → H) (P : Program) (W : World) (d : Kd α) (fs : List Field) (o : Nat) (good : α → Prop) : Prop :=
  ∀ (n : Nat) (cs : List Value) (xs : List (DataW H × List MemPlace)), xs.length = fs.length → cs.length = o + d.sz →
    (∀ (i : Nat) (f : Field), fs[i]? = some f → DataW.trod enc P W 0 (fun _ => true) true n f.type ((cs.drop f.offset).take (P.cellsOf f.type)) = xs[i]?) →
    (∀ m ∈ DataW.weightsEach P (fs.map (·.type)) (xs.map (·.1)), m ≤ reachBytes) → ∃ a : α, d.K W a (cs.drop o) ∧ good a
theorem opensFs_one {α : Type} {d : Kd α} {f : Field} {o : Nat} {good : α → Prop} (ho : f.offset = o) (hf : Opens enc P W d f.type good) : OpensFs enc P W d [f] o good := by
  intro n cs xs hl hcs h hw
  match xs, hl with
  | [x], _ =>
    have h0 := h 0 f rfl
    rw [ho, hf.1, List.take_of_length_le (by simp; omega)] at h0
    exact hf.2 n _ x.1 x.2 h0 (fun m hm => hw m (by simpa [DataW.weightsEach] using hm))
theorem opensFs_cons {α β : Type} {d : Kd α} {e : Kd β} {f : Field} {fs : List Field} {o o' : Nat} {good : α → Prop} {good' : β → Prop} (ho : f.offset = o) (hf : Opens enc P W d f.type good) (ho' : o + d.sz = o') (hfs : OpensFs enc P W e fs o' good') :
    OpensFs enc P W (Kd.pair d e) (f :: fs) o (fun p => good p.1 ∧ good' p.2) := by
  intro n cs xs hl hcs h hw
  match xs, hl with
  | x :: xs, hl =>
    have hsz : (Kd.pair d e).sz = d.sz + e.sz := rfl
    have h0 := h 0 f rfl
    rw [ho, hf.1] at h0
    obtain ⟨a, ha, ga⟩ := hf.2 n _ x.1 x.2 h0 (fun m hm => hw m (by simp [DataW.weightsEach]; exact Or.inl hm))
    obtain ⟨b, hb, gb⟩ := hfs n cs xs (by simpa using hl) (by omega) (fun i g hg => h (i + 1) g (by simpa using hg)) (fun m hm => hw m (by simp [DataW.weightsEach]; exact Or.inr (by simpa using hm)))
    refine ⟨(a, b), ⟨(cs.drop o).take d.sz, cs.drop o', ?_, ha, hb⟩, ga, gb⟩
    rw [← ho', ← List.drop_drop, List.take_append_drop]
theorem opens_struct {α : Type} {d : Kd α} {t : TypeId} {fs : Array Field} {good : α → Prop} (hu : P.underlying t = some (.struct fs)) (hc : P.cellsOf t = d.sz) (h : OpensFs enc P W d fs.toList 0 good) : Opens enc P W d t good := by
  refine ⟨hc, fun fuel cs x ps hx hw => ?_⟩
  obtain ⟨xs, n, _, he, hl, hn, hf⟩ := DataW.trod_struct hu hx
  obtain ⟨rfl, rfl⟩ := Prod.mk.inj he
  have := h n cs xs (by simpa using hn) (by omega) (fun i f hi => hf i f (by simpa using hi)) (fun m hm => hw m (by simp only [DataW.weights, hu]; exact hm))
  simpa using this
theorem opens_iso {α β : Type} {d : Kd α} {t : TypeId} {good : α → Prop} (f : β → α) (g : α → β) (hfg : ∀ a, f (g a) = a) (h : Opens enc P W d t good) : Opens enc P W (Kd.iso d f) t (fun b => good (f b)) := by
  refine ⟨h.1, fun fuel cs x ps hx hw => ?_⟩
  obtain ⟨a, ha, ga⟩ := h.2 fuel cs x ps hx hw
  exact ⟨g a, by show d.K W (f (g a)) cs; rw [hfg]; exact ha, by show good (f (g a)); rw [hfg]; exact ga⟩
theorem weights_mem_all {P : Program} {e : TypeId} : ∀ {ds : List (DataW H)} {d : DataW H}, d ∈ ds → ∀ n ∈ d.weights P e, n ∈ DataW.weightsAll P e ds
  | _ :: _, _, .head _, n, hn => by simp only [DataW.weightsAll, List.mem_append]; exact Or.inl hn
  | _ :: _, _, .tail _ h, n, hn => by simp only [DataW.weightsAll, List.mem_append]; exact Or.inr (weights_mem_all h n hn)
theorem cells?_cell {w : World} {a : Addr} {n : Nat} {cs : List Value} (h : w.cells? 0 a n = some cs) : cs.length = n ∧ ∀ i u, cs[i]? = some u → w.cell? (a.add i) = some u := by
  unfold World.cells? at h
  rw [if_pos (Nat.zero_le _)] at h
  have hl := mapM_some_length h
  refine ⟨by simpa using hl, fun i u hu => ?_⟩
  have hi : i < n := by
    have := (List.getElem?_eq_some_iff.1 hu).1
    rw [hl] at this
    simpa using this
  have := mapM_some_get h i i (by simp [hi])
  rw [this, hu]
theorem add_add_ (a : Addr) (i j : Nat) : (a.add i).add j = a.add (i + j) := by
  unfold Addr.add
  by_cases h1 : i = 0 <;> by_cases h2 : j = 0 <;> simp [h1, h2, Nat.add_assoc]
theorem list_of_each {α : Type} (n : Nat) (R : Nat → α → Prop) (h : ∀ i, i < n → ∃ a, R i a) : ∃ l : List α, l.length = n ∧ ∀ i a, l[i]? = some a → R i a := by
  induction n with
  | zero => exact ⟨[], rfl, fun i a h => by simp at h⟩
  | succ n ih =>
    obtain ⟨l, hl, hr⟩ := ih (fun i hi => h i (by omega))
    obtain ⟨a, ha⟩ := h n (by omega)
    refine ⟨l ++ [a], by simp [hl], fun i b hb => ?_⟩
    rcases Nat.lt_trichotomy i n with hi | hi | hi
    · rw [List.getElem?_append_left (by omega)] at hb
      exact hr i b hb
    · subst hi
      rw [List.getElem?_append_right (by omega)] at hb
      simp [hl] at hb
      subst hb
      exact ha
    · rw [List.getElem?_eq_none (by simp; omega)] at hb
      cases hb
theorem opens_slice {α : Type} {d : Kd α} {t e : TypeId} {good : α → Prop} {B : Nat} (hu : P.underlying t = some (.slice e)) (hc : P.cellsOf t = 1) (hB : P.bytesOf e = B) (he : Opens enc P W d e good) :
    Opens enc P W (Kd.slice e d) t (fun l => l.length ≤ maxLen ∧ l.length * B ≤ 140737488351232 ∧ ∀ a ∈ l, good a) := by
  refine ⟨hc, fun fuel cs x ps h hw => ?_⟩
  rcases DataW.trod_slice hu h with ⟨rfl, _⟩ | ⟨a, len, cap, elems, rest, n, _, rfl, hx, _, hlc, hcm, hle, hel, _⟩
  · exact ⟨[], ⟨none, 0, rfl, Nat.le_refl _, rfl, by simp, fun h => absurd h (by simp)⟩, by simp, by simp, fun a h => by simp at h⟩
  obtain ⟨rfl, rfl⟩ := Prod.mk.inj hx
  simp only [DataW.weights, hu] at hw
  obtain ⟨l, hl, hr⟩ := list_of_each len (fun i (b : α) => ∃ c, d.K W b c ∧ good b ∧ ∀ j u, c[j]? = some u → W.cell? (a.add (i * d.sz + j)) = some u) (fun i hi => by
    have h1 := hel i hi
    rw [List.getElem?_eq_getElem (by omega)] at h1
    obtain ⟨c, hc1, hc2⟩ := Option.bind_eq_some_iff.1 h1
    have hm : elems[i] ∈ elems := List.getElem_mem _
    obtain ⟨b, hb, gb⟩ := he.2 n c elems[i].1 elems[i].2 hc2 (fun m hm' => hw m (List.mem_cons_of_mem _ (List.mem_append.2 (Or.inl (weights_mem_all (List.mem_map_of_mem hm) m hm')))))
    refine ⟨b, c, hb, gb, fun j u hj => ?_⟩
    have := (cells?_cell hc1).2 j u hj
    rwa [add_add_, he.1] at this)
  have hsz := hw _ (List.mem_cons_self)
  simp only [List.length_map] at hsz
  rw [hB] at hsz
  refine ⟨l, ⟨some a, cap, by rw [hl], by omega, rfl, by unfold maxLen at hcm; omega, fun _ => ⟨a, rfl, fun j p hj => ?_⟩⟩, by omega, ?_, fun b hb => ?_⟩
  · obtain ⟨c, h1, _, h3⟩ := hr j p hj
    exact ⟨c, d.K_len h1, h1, h3⟩
  · have h1 : l.length * B ≤ (elems.length + rest.length) * B := Nat.mul_le_mul_right _ (by omega)
    exact Nat.le_trans h1 hsz
  · obtain ⟨i, hi⟩ := List.mem_iff_getElem?.1 hb
    obtain ⟨c, _, h2, _⟩ := hr i b hi
    exact h2
end
end Go.Proofs.YtmhnfdgegejlkaaDoor.P
end

section
namespace Go.Proofs.YtmhnfdgegejlkaaDoor.P
open Go Go.RowKit Go.Proofs.YtmhnfdgegejlkaaDoorW.PrintWords
set_option linter.unusedVariables false
theorem op3 {H : Type} (enc : TypeId × Value → H) (W : World) : Opens enc Tryd.prog W (Kd.int .i64) 3 (fun a => (Lit.int .i64 a).wf = true) := opens_int Tryd.underlying3 (by kernel_rfl)
theorem op9 {H : Type} (enc : TypeId × Value → H) (W : World) : Opens enc Tryd.prog W Kd.string 9 (fun s => s.size ≤ 140737488351232) := opens_string Tryd.underlying9 (by kernel_rfl)
def G23 (x : S23) : Prop := (Lit.int .i64 x.f0).wf = true ∧ (Lit.int .i64 x.f1).wf = true ∧ x.f2.size ≤ 140737488351232
theorem op23 {H : Type} (enc : TypeId × Value → H) (W : World) : Opens enc Tryd.prog W k23 23 G23 := opens_iso (fun x : S23 => (x.f0, x.f1, x.f2)) (fun p => ⟨p.1, p.2.1, p.2.2⟩) (fun _ => rfl) (opens_struct Tryd.underlying23 (by kernel_rfl) (opensFs_cons rfl (op3 enc W) rfl (opensFs_cons rfl (op3 enc W) rfl (opensFs_one rfl (op9 enc W)))))
def G39 (l : List S23) : Prop := l.length ≤ maxLen ∧ l.length * 32 ≤ 140737488351232 ∧ ∀ a ∈ l, G23 a
theorem op39 {H : Type} (enc : TypeId × Value → H) (W : World) : Opens enc Tryd.prog W (Kd.slice 23 k23) 39 G39 := opens_slice Tryd.underlying39 (by kernel_rfl) (by kernel_rfl) (op23 enc W)
def G28 (l : List Int) : Prop := l.length ≤ maxLen ∧ l.length * 8 ≤ 140737488351232 ∧ ∀ a ∈ l, (Lit.int .i64 a).wf = true
theorem op28 {H : Type} (enc : TypeId × Value → H) (W : World) : Opens enc Tryd.prog W (Kd.slice 3 (Kd.int .i64)) 28 G28 := opens_slice Tryd.underlying28 (by kernel_rfl) (by kernel_rfl) (op3 enc W)
def alumlaw19_ValueRowsMatchSpec.Pure : Prop := ∀ (x0 : List S23) (x1 : List S23) (x2 : Int) (x3 : List Int) (x4 : List Int), G39 x0 → G39 x1 → (Lit.int .i64 x2).wf = true → G28 x3 → G28 x4 → ∃ k, alumlaw19_ValueRowsMatchSpec.f k x0 x1 x2 x3 x4 = some true
end Go.Proofs.YtmhnfdgegejlkaaDoor.P
end

section
namespace Go.Proofs.YtmhnfdgegejlkaaDoor.V
open Go Go.RowKit Go.Proofs.YtmhnfdgegejlkaaDoor.P Go.Proofs.YtmhnfdgegejlkaaDoorW.PrintWords
theorem sanity_at : alumlaw19_sanity.f 40 = some true := by kernel_rfl
theorem ev_sanity (k : Nat) (hk : 40 ≤ k) : alumlaw19_sanity.f k = some true := at_rounds (fun k => alumlaw19_sanity.mono k) hk sanity_at
end Go.Proofs.YtmhnfdgegejlkaaDoor.V
end

section
namespace Go.Proofs.YtmhnfdgegejlkaaDoor.V
open Go
set_option linter.unusedSimpArgs false
set_option linter.unusedVariables false
structure TC {α : Type} (f : α → α → Int) : Prop where
  rng : ∀ a b, f a b = -1 ∨ f a b = 0 ∨ f a b = 1
  eq0 : ∀ a b, f a b = 0 ↔ a = b
  sym : ∀ a b, f b a = - f a b
  tr : ∀ a b c, f a b = -1 → f b c = -1 → f a c = -1
namespace TC
variable {α : Type} {f : α → α → Int} (h : TC f)
include h
theorem refl (a : α) : f a a = 0 := (h.eq0 a a).2 rfl
theorem le_trans {a b c : α} (h1 : f a b ≤ 0) (h2 : f b c ≤ 0) : f a c ≤ 0 := by
  have r1 := h.rng a b; have r2 := h.rng b c
  rcases r1 with r1 | r1 | r1
  · rcases r2 with r2 | r2 | r2
    · have := h.tr a b c r1 r2; omega
    · rw [h.eq0] at r2; subst r2; omega
    · omega
  · rw [h.eq0] at r1; subst r1; exact h2
  · omega
end TC
def cmpI (a b : Int) : Int := if a < b then -1 else if b < a then 1 else 0
theorem tcI : TC cmpI where
  rng a b := by unfold cmpI; split; · omega
                split <;> omega
  eq0 a b := by unfold cmpI; split; · omega
                split <;> omega
  sym a b := by unfold cmpI; split <;> split <;> (try split) <;> omega
  tr a b c := by
    unfold cmpI
    intro h1 h2
    have h3 : a < b := by
      split at h1
      · assumption
      · split at h1 <;> omega
    have h4 : b < c := by
      split at h2
      · assumption
      · split at h2 <;> omega
    rw [if_pos (by omega)]
def lcmp {α : Type} (f : α → α → Int) : List α → List α → Int
  | [], [] => 0
  | [], _ :: _ => -1
  | _ :: _, [] => 1
  | a :: x, b :: y => if f a b = 0 then lcmp f x y else f a b
theorem tcL {α : Type} {f : α → α → Int} (h : TC f) : TC (lcmp f) where
  rng a := by
    induction a with
    | nil => intro b; cases b <;> simp [lcmp]
    | cons x a ih =>
      intro b
      cases b with
      | nil => simp [lcmp]
      | cons y b => unfold lcmp; split; exact ih b; exact h.rng x y
  eq0 a := by
    induction a with
    | nil => intro b; cases b <;> simp [lcmp]
    | cons x a ih =>
      intro b
      cases b with
      | nil => simp [lcmp]
      | cons y b =>
        unfold lcmp
        split
        · rename_i h0
          rw [ih, List.cons.injEq, (h.eq0 x y).1 h0]
          simp
        · rename_i h0
          refine ⟨fun e => absurd e h0, fun e => ?_⟩
          rw [List.cons.injEq] at e
          exact absurd ((h.eq0 x y).2 e.1) h0
  sym a := by
    induction a with
    | nil => intro b; cases b <;> simp [lcmp]
    | cons x a ih =>
      intro b
      cases b with
      | nil => simp [lcmp]
      | cons y b =>
        unfold lcmp
        have := h.sym x y
        by_cases h0 : f x y = 0
        · rw [if_pos h0, if_pos (by omega), ih]
        · rw [if_neg h0, if_neg (by omega), this]
  tr a := by
    induction a with
    | nil => intro b c h1 h2; cases c <;> cases b <;> simp_all [lcmp]
    | cons x a ih =>
      intro b c h1 h2
      cases b with
      | nil => simp [lcmp] at h1
      | cons y b =>
        cases c with
        | nil => simp [lcmp] at h2
        | cons z c =>
          unfold lcmp at h1 h2 ⊢
          by_cases h3 : f x y = 0
          · have := (h.eq0 x y).1 h3
            subst this
            rw [if_pos h3] at h1
            by_cases h4 : f x z = 0
            · rw [if_pos h4] at h2 ⊢; exact ih b c h1 h2
            · rw [if_neg h4] at h2 ⊢; exact h2
          · rw [if_neg h3] at h1
            by_cases h4 : f y z = 0
            · have := (h.eq0 y z).1 h4
              subst this
              rw [if_neg h3]; exact h1
            · rw [if_neg h4] at h2
              have := h.tr x y z h1 h2
              rw [if_neg (by omega)]; exact this
def cmpU (a b : UInt8) : Int := if a < b then -1 else if b < a then 1 else 0
theorem tcU : TC cmpU where
  rng a b := by unfold cmpU; split; · omega
                split <;> omega
  eq0 a b := by
    unfold cmpU
    constructor
    · intro h0
      split at h0
      · omega
      · split at h0
        · omega
        · exact UInt8.le_antisymm (UInt8.not_lt.1 ‹¬ b < a›) (UInt8.not_lt.1 ‹¬ a < b›)
    · rintro rfl
      rw [if_neg (UInt8.lt_irrefl a), if_neg (UInt8.lt_irrefl a)]
  sym a b := by
    unfold cmpU
    by_cases h1 : a < b
    · rw [if_pos h1, if_neg (UInt8.lt_asymm h1), if_pos h1]; rfl
    · by_cases h2 : b < a
      · rw [if_pos h2, if_neg h1, if_pos h2]
      · rw [if_neg h1, if_neg h2, if_neg h2, if_neg h1]; rfl
  tr a b c := by
    unfold cmpU
    intro h1 h2
    have h3 : a < b := by
      split at h1
      · assumption
      · split at h1 <;> omega
    have h4 : b < c := by
      split at h2
      · assumption
      · split at h2 <;> omega
    rw [if_pos (UInt8.lt_trans h3 h4)]
theorem compareBytes_eq : ∀ a b : List UInt8, Lib.compareBytes a b = lcmp cmpU a b
  | [], [] => rfl
  | [], _ :: _ => rfl
  | _ :: _, [] => rfl
  | x :: a, y :: b => by
    have ih := compareBytes_eq a b
    unfold Lib.compareBytes lcmp
    have hU : cmpU x y = if x < y then -1 else if y < x then 1 else 0 := rfl
    rw [hU]
    by_cases h1 : x < y
    · simp [h1]
    · by_cases h2 : y < x
      · simp [h1, h2]
      · simp [h1, h2, ih]
def cmpS (a b : ByteArray) : Int := Lib.compareBytes a.data.toList b.data.toList
theorem bytes_ext {a b : ByteArray} (h : a.data.toList = b.data.toList) : a = b := ByteArray.ext (Array.toList_inj.1 h)
theorem tcS : TC cmpS where
  rng a b := by unfold cmpS; rw [compareBytes_eq]; exact (tcL tcU).rng _ _
  eq0 a b := by
    unfold cmpS; rw [compareBytes_eq, (tcL tcU).eq0]
    exact ⟨bytes_ext, fun h => by rw [h]⟩
  sym a b := by unfold cmpS; rw [compareBytes_eq, compareBytes_eq]; exact (tcL tcU).sym _ _
  tr a b c := by unfold cmpS; simp only [compareBytes_eq]; exact (tcL tcU).tr _ _ _
theorem bytesLess_cmp : ∀ a b : List UInt8, (Op.bytesLess a b = true) ↔ lcmp cmpU a b = -1
  | [], [] => by simp [Op.bytesLess, lcmp]
  | [], _ :: _ => by simp [Op.bytesLess, lcmp]
  | _ :: _, [] => by simp [Op.bytesLess, lcmp]
  | x :: a, y :: b => by
    have ih := bytesLess_cmp a b
    unfold Op.bytesLess lcmp
    have hU : cmpU x y = if x < y then -1 else if y < x then 1 else 0 := rfl
    rw [hU]
    by_cases h1 : x < y
    · simp [h1]
    · by_cases h2 : y < x
      · have h3 : x ≠ y := by rintro rfl; exact h1 h2
        simp [h1, h2, h3]
      · have h3 : x = y := UInt8.le_antisymm (UInt8.not_lt.1 h2) (UInt8.not_lt.1 h1)
        subst h3
        simpa [h1] using ih
theorem less_cmpS (a b : ByteArray) : Op.bytesLess a.toList b.toList = decide (cmpS a b = -1) := by
  rw [Bool.eq_iff_iff, bytesLess_cmp, ByteArray.toList_eq, ByteArray.toList_eq, decide_eq_true_eq]
  unfold cmpS
  rw [compareBytes_eq]
def cmp2 {α β : Type} (f : α → α → Int) (g : β → β → Int) (a b : α × β) : Int := if f a.1 b.1 = 0 then g a.2 b.2 else f a.1 b.1
end Go.Proofs.YtmhnfdgegejlkaaDoor.V
end

section
namespace Go.Proofs.YtmhnfdgegejlkaaDoor.V
open Go Go.RowKit Go.Proofs.YtmhnfdgegejlkaaDoor.P Go.Proofs.YtmhnfdgegejlkaaDoorW.PrintWords
set_option linter.unusedSimpArgs false
set_option linter.unusedVariables false
abbrev V := S23
abbrev e0 : ByteArray := ⟨#[]⟩
theorem V_ext {a b : V} (h0 : a.f0 = b.f0) (h1 : a.f1 = b.f1) (h2 : a.f2 = b.f2) : a = b := by cases a; cases b; simp_all
instance : DecidableEq V := fun a b => decidable_of_iff (a.f0 = b.f0 ∧ a.f1 = b.f1 ∧ a.f2 = b.f2) ⟨fun h => V_ext h.1 h.2.1 h.2.2, fun h => by rw [h]; exact ⟨rfl, rfl, rfl⟩⟩
theorem wrap64_id {x : Int} (h1 : -9223372036854775808 ≤ x) (h2 : x ≤ 9223372036854775807) : wrap64 x = x := by unfold wrap64; omega
def vcmp (a b : V) : Int := cmp2 cmpI (cmp2 cmpI cmpS) (a.f0, a.f1, a.f2) (b.f0, b.f1, b.f2)
theorem ev_cmpInt (a b : Int) : cmp_Compare_int.f a b = some (cmpI a b) := by
  unfold cmp_Compare_int.f cmp_isNaN_int.f cmpI
  simp only [bne_self_eq_false, Option.bind_some, Bool.false_eq_true, if_false]
  split
  · rfl
  · split <;> rfl
theorem ev_Or (k : Nat) (x y z : Int) : cmp_Or_int.f (k + 4) [x, y, z] = some (if x = 0 then if y = 0 then z else y else x) := by
  have r0 : rd [x, y, z] 0 = x := rfl
  have r1 : rd [x, y, z] 1 = y := rfl
  have r2 : rd [x, y, z] 2 = z := rfl
  have w1 : wrap64 (0 + 1) = 1 := wrap64_id (by omega) (by omega)
  have w2 : wrap64 (1 + 1) = 2 := wrap64_id (by omega) (by omega)
  have w3 : wrap64 (2 + 1) = 3 := wrap64_id (by omega) (by omega)
  unfold cmp_Or_int.f
  simp only [cmp_Or_int.l0, r0, r1, r2, w1, w2, w3, List.length_cons, List.length_nil]
  by_cases hx : x = 0 <;> by_cases hy : y = 0 <;> by_cases hz : z = 0 <;> simp [hx, hy, hz]
theorem ev_Compare (k : Nat) (a b : V) : value_Compare.f (k + 4) a.f0 a.f1 a.f2 b.f0 b.f1 b.f2 = some (vcmp a b) := by
  unfold value_Compare.f
  simp only [ev_cmpInt, Option.bind_some, strings_Compare.f, ev_Or, vcmp, cmp2]
  by_cases h0 : cmpI a.f0 b.f0 = 0 <;> by_cases h1 : cmpI a.f1 b.f1 = 0 <;> simp [h0, h1, cmpS]
theorem ev_Compare' (k : Nat) (hk : 4 ≤ k) (a b : V) : value_Compare.f k a.f0 a.f1 a.f2 b.f0 b.f1 b.f2 = some (vcmp a b) := by
  obtain ⟨k, rfl⟩ : ∃ m, k = m + 4 := ⟨k - 4, by omega⟩
  exact ev_Compare k a b
end Go.Proofs.YtmhnfdgegejlkaaDoor.V
end

section
namespace Go.Proofs.YtmhnfdgegejlkaaDoor.V
open Go Go.RowKit Go.Proofs.YtmhnfdgegejlkaaDoor.P Go.Proofs.YtmhnfdgegejlkaaDoorW.PrintWords
set_option linter.unusedSimpArgs false
set_option linter.unusedVariables false
theorem rdV (l : List V) (i : Nat) (h : i < l.length) : rd_T23 l (i : Int) = l[i] := by
  unfold rd_T23
  rw [Int.toNat_natCast, List.getD_eq_getElem?_getD, List.getElem?_eq_getElem h]
  rfl
theorem wrap_succ (i : Nat) (h : i < 9223372036854775807) : wrap64 ((i : Int) + 1) = ((i + 1 : Nat) : Int) := by rw [wrap64_id (by omega) (by omega)]; rfl
theorem rows_loop (x y : List V) (hx : x.length ≤ 9223372036854775807) (d : Nat) : ∀ (k i : Nat), x.length - i = d → i ≤ x.length → i ≤ y.length → d + 6 ≤ k →
    slices_CompareFunc_Row_Row_Value_Value_value_Compare.l0 k x y x x.length i = some (lcmp vcmp (x.drop i) (y.drop i)) := by
  induction d with
  | zero =>
    intro k i hd h1 h2 hk
    obtain ⟨k, rfl⟩ : ∃ m, k = m + 1 := ⟨k - 1, by omega⟩
    have hi : i = x.length := by omega
    simp only [slices_CompareFunc_Row_Row_Value_Value_value_Compare.l0]
    rw [if_neg (by omega), hi, List.drop_length]
    by_cases hl : x.length < y.length
    · rw [if_pos (by omega)]
      have : y.drop x.length ≠ [] := by simp; omega
      match h : y.drop x.length, this with
      | a :: l, _ => rfl
    · rw [if_neg (by omega), List.drop_eq_nil_of_le (by omega)]; rfl
  | succ d ih =>
    intro k i hd h1 h2 hk
    obtain ⟨k, rfl⟩ : ∃ m, k = m + 1 := ⟨k - 1, by omega⟩
    have hi : i < x.length := by omega
    simp only [slices_CompareFunc_Row_Row_Value_Value_value_Compare.l0]
    rw [if_pos (by omega), if_pos (by omega), if_pos (by omega)]
    by_cases hy : i < y.length
    · rw [if_neg (by omega), if_pos (by omega), rdV x i hi, rdV y i hy, ev_Compare' k (by omega)]
      simp only [Option.bind_some]
      rw [List.drop_eq_getElem_cons hi, List.drop_eq_getElem_cons hy]
      unfold lcmp
      by_cases hc : vcmp x[i] y[i] = 0
      · rw [if_pos hc, if_pos hc, wrap_succ i (by omega)]
        exact ih k (i + 1) (by omega) (by omega) (by omega) (by omega)
      · rw [if_neg hc, if_neg hc]
    · rw [if_pos (by omega), List.drop_eq_getElem_cons hi, show y.drop i = [] from List.drop_eq_nil_of_le (by omega)]; rfl
theorem ev_CompareRows (k : Nat) (x y : List V) (hx : x.length ≤ 9223372036854775807) (hk : x.length + 6 ≤ k) : value_CompareRows.f k x y = some (lcmp vcmp x y) := by
  unfold value_CompareRows.f slices_CompareFunc_Row_Row_Value_Value_value_Compare.f
  have := rows_loop x y hx x.length k 0 (by omega) (by omega) (by omega) hk
  rw [Int.natCast_zero] at this
  rw [this]
  rfl
end Go.Proofs.YtmhnfdgegejlkaaDoor.V
end

section
namespace Go.Proofs.YtmhnfdgegejlkaaDoor.V
open Go Go.RowKit Go.Proofs.YtmhnfdgegejlkaaDoor.P Go.Proofs.YtmhnfdgegejlkaaDoorW.PrintWords
set_option linter.unusedSimpArgs false
set_option linter.unusedVariables false
def Rt (v : V) : Prop := (v.f0 = 0 ∧ v.f1 = 0 ∧ v.f2 = e0) ∨ (v.f0 = 1 ∧ -549755813888 ≤ v.f1 ∧ v.f1 ≤ 549755813887 ∧ v.f2 = e0) ∨ (v.f0 = 2 ∧ v.f1 = 0 ∧ v.f2.size ≤ 40) ∨ (v.f0 = 3 ∧ (v.f1 = 0 ∨ v.f1 = 1) ∧ v.f2 = e0)
theorem empty_beq (s : ByteArray) : (s.toList == ([] : List UInt8)) = true ↔ s = e0 := by
  rw [beq_iff_eq, ByteArray.toList_eq]
  constructor
  · intro h; exact bytes_ext h
  · rintro rfl; rfl
theorem refRight_some (v : V) : ∃ b, alumref19_Right.f v.f0 v.f1 v.f2 = some b ∧ (b = true ↔ Rt v) := by
  unfold alumref19_Right.f Rt
  by_cases h0 : v.f0 = 0
  · rw [if_pos h0]
    by_cases h1 : v.f1 = 0
    · rw [if_pos h1]; exact ⟨_, rfl, by rw [empty_beq]; simp [h0, h1]⟩
    · rw [if_neg h1]; exact ⟨_, rfl, by simp [h0, h1]⟩
  · rw [if_neg h0]
    by_cases h1 : v.f0 = 1
    · rw [if_pos h1]
      by_cases h2 : v.f1 ≥ -549755813888
      · rw [if_pos h2]
        by_cases h3 : v.f1 ≤ 549755813887
        · rw [if_pos h3]; exact ⟨_, rfl, by rw [empty_beq]; simp [h1, h3]; omega⟩
        · rw [if_neg h3]; exact ⟨_, rfl, by simp [h1, h3]⟩
      · rw [if_neg h2]; exact ⟨_, rfl, by simp [h1]; omega⟩
    · rw [if_neg h1]
      by_cases h2 : v.f0 = 2
      · rw [if_pos h2]
        by_cases h3 : v.f1 = 0
        · rw [if_pos h3]; exact ⟨_, rfl, by simp [h2, h3]; omega⟩
        · rw [if_neg h3]; exact ⟨_, rfl, by simp [h2, h3]⟩
      · rw [if_neg h2]
        by_cases h3 : v.f0 = 3
        · rw [if_pos h3]
          by_cases h4 : v.f1 = 0
          · rw [if_pos h4]; exact ⟨_, rfl, by rw [empty_beq]; simp [h3, h4]⟩
          · rw [if_neg h4]
            by_cases h5 : v.f1 = 1
            · rw [if_pos h5]; exact ⟨_, rfl, by rw [empty_beq]; simp [h3, h4, h5]⟩
            · rw [if_neg h5]; exact ⟨_, rfl, by simp [h3, h4, h5]⟩
        · rw [if_neg h3]; exact ⟨_, rfl, by simp [h0, h1, h2, h3]⟩
theorem refRight_yes {v : V} (h : Rt v) : alumref19_Right.f v.f0 v.f1 v.f2 = some true := by
  obtain ⟨b, hb, hi⟩ := refRight_some v
  rw [hb, hi.2 h]
theorem refRight_no {v : V} (h : ¬ Rt v) : alumref19_Right.f v.f0 v.f1 v.f2 = some false := by
  obtain ⟨b, hb, hi⟩ := refRight_some v
  rw [hb]
  cases b with
  | false => rfl
  | true => exact absurd (hi.1 rfl) h
end Go.Proofs.YtmhnfdgegejlkaaDoor.V
end

section
namespace Go.Proofs.YtmhnfdgegejlkaaDoor.V
open Go Go.RowKit Go.Proofs.YtmhnfdgegejlkaaDoor.P Go.Proofs.YtmhnfdgegejlkaaDoorW.PrintWords Go.Proofs.YtmhnfdgegejlkaaDoorW.PrintMore
set_option linter.unusedSimpArgs false
set_option linter.unusedVariables false
def bts (s : ByteArray) : List Int := s.data.toList.map fun b => (b.toNat : Int)
theorem bts_len (s : ByteArray) : (bts s).length = s.size := by simp [bts]
theorem bts_rng (s : ByteArray) : ∀ b ∈ bts s, 0 ≤ b ∧ b < 256 := by
  intro b hb
  simp only [bts, List.mem_map] at hb
  obtain ⟨u, _, rfl⟩ := hb
  exact ⟨by omega, by have := u.toNat_lt; omega⟩
theorem bt_get (s : ByteArray) (i : Nat) : bt s (i : Int) = (bts s).getD i 0 := by
  unfold bt
  rw [Int.toNat_natCast]
  by_cases h : i < s.size
  · rw [dif_pos h, List.getD_eq_getElem?_getD, List.getElem?_eq_getElem (by rw [bts_len]; exact h)]
    simp [bts]
    rfl
  · rw [dif_neg h, List.getD_eq_getElem?_getD, List.getElem?_eq_none (by rw [bts_len]; omega)]
    rfl
theorem bts_extract (s : ByteArray) (i : Nat) : bts (s.extract i s.size) = (bts s).drop i := by
  unfold bts
  rw [← List.map_drop]
  congr 1
  simp only [ByteArray.data_extract, Array.toList_extract, List.extract_eq_take_drop]
  rw [List.take_of_length_le]
  rw [List.length_drop, Array.length_toList]
  exact Nat.le_refl _
def w4 (a b c d n : Int) : Int := (((a * 256 + b) * 256 + c) * 256 + d) * 256 + n
def tw : List Int → List Int
  | [] => [w4 0 0 0 0 0]
  | [a] => [w4 a 0 0 0 1]
  | [a, b] => [w4 a b 0 0 2]
  | [a, b, c] => [w4 a b c 0 3]
  | a :: b :: c :: d :: r => w4 a b c d 4 :: tw r
def W (v : V) : List Int := if v.f0 = 1 then [1, v.f1 + 549755813888] else if v.f0 = 3 then [3, v.f1] else if v.f0 = 0 then [0] else 2 :: tw (bts v.f2)
theorem p63 : (2 : Int) ^ 63 = 9223372036854775808 := by decide
theorem p8 : (2 : Int) ^ 8 = 256 := by decide
theorem wrapk (n : Int) (h : 0 ≤ n) (h2 : n < 2 ^ 63) : IntKind.i64.wrap n = n := by
  rw [p63] at h2
  have e : n % 2 ^ 64 = n := Int.emod_eq_of_lt h (by omega)
  simp only [IntKind.wrap, IntKind.bits, IntKind.signed, e]
  rw [if_neg]
  simp
  omega
theorem or_i64 (x y : Int) (h0 : 0 ≤ x) (h1 : x % 256 = 0) (h2 : x < 9223372036854775808) (h3 : 0 ≤ y) (h4 : y < 256) : Go.bits .or .i64 x y = x + y :=
  bits_join .i64 63 (by decide) wrapk 8 x y h0 (by rw [p8]; exact h1) (by rw [p63]; exact h2) h3 (by rw [p8]; exact h4) (by rw [p63]; omega)
theorem vstep_in (k : Nat) (out : List Int) (s : ByteArray) (n x i j : Int) (hj : j = i + 1) (h0 : 0 ≤ i) (hi : i < 4) (hn : i < n) (hs : i < (s.size : Int)) (hx : 0 ≤ x) (hx2 : x < 4294967296) (hb : 0 ≤ bt s i ∧ bt s i < 256) :
    value_words.l1 (k + 1) out s n x i = value_words.l1 k out s n (x * 256 + bt s i) j := by
  subst hj
  rw [value_words.l1, if_pos hi, if_pos hn, if_pos h0, if_pos hs, wrap64_id (x := x * 256) (by omega) (by omega), wrap64_id (x := bt s i) (by omega) (by omega), wrap64_id (x := i + 1) (by omega) (by omega), or_i64 _ _ (by omega) (by omega) (by omega) hb.1 hb.2]
theorem vstep_out (k : Nat) (out : List Int) (s : ByteArray) (n x i j : Int) (hj : j = i + 1) (h0 : 0 ≤ i) (hi : i < 4) (hn : ¬ i < n) (hx : 0 ≤ x) (hx2 : x < 4294967296) :
    value_words.l1 (k + 1) out s n x i = value_words.l1 k out s n (x * 256 + 0) j := by
  subst hj
  rw [value_words.l1, if_pos hi, if_neg hn, wrap64_id (x := x * 256) (by omega) (by omega), wrap64_id (x := i + 1) (by omega) (by omega), Int.add_zero]
theorem vend (k : Nat) (out : List Int) (s : ByteArray) (n x : Int) (ho : out.length < 17592186044416) (hx : 0 ≤ x) (hx2 : x < 4294967296) (h0 : 0 ≤ n) (h4 : n ≤ 4) :
    value_words.l1 (k + 1) out s n x 4 = if n < 4 then some (out ++ [x * 256 + n]) else if 4 ≤ (s.size : Int) then value_words.l0 k (out ++ [x * 256 + n]) (s.extract 4 s.size) else none := by
  rw [value_words.l1, if_neg (by omega), if_pos ho, wrap64_id (x := x * 256) (by omega) (by omega), or_i64 _ _ (by omega) (by omega) (by omega) h0 (by omega)]
  rfl
theorem bt0 {s : ByteArray} {l : List Int} (h : bts s = l) : bt s 0 = l.getD 0 0 := by rw [← h]; exact bt_get s 0
theorem bt1 {s : ByteArray} {l : List Int} (h : bts s = l) : bt s 1 = l.getD 1 0 := by rw [← h]; exact bt_get s 1
theorem bt2 {s : ByteArray} {l : List Int} (h : bts s = l) : bt s 2 = l.getD 2 0 := by rw [← h]; exact bt_get s 2
theorem bt3 {s : ByteArray} {l : List Int} (h : bts s = l) : bt s 3 = l.getD 3 0 := by rw [← h]; exact bt_get s 3
theorem vwords (s' : List Int) : ∀ (k : Nat) (out : List Int) (s : ByteArray), bts s = s' → out.length + s'.length < 17592186044416 → 2 * s'.length + 10 ≤ k → value_words.l0 k out s = some (out ++ tw s') := by
  induction s' using tw.induct with
  | case1 =>
    intro k out s h hl hk
    have hz : (s.size : Int) = 0 := by rw [← bts_len, h]; rfl
    obtain ⟨k, rfl⟩ : ∃ m, k = m + 6 := ⟨k - 6, by omega⟩
    rw [value_words.l0, hz, show mn 0 4 = 0 from rfl, vstep_out _ _ _ _ _ 0 1 rfl (by omega) (by omega) (by omega) (by omega) (by omega), vstep_out _ _ _ _ _ 1 2 rfl (by omega) (by omega) (by omega) (by omega) (by omega), vstep_out _ _ _ _ _ 2 3 rfl (by omega) (by omega) (by omega) (by omega) (by omega), vstep_out _ _ _ _ _ 3 4 rfl (by omega) (by omega) (by omega) (by omega) (by omega), vend _ _ _ _ _ (by omega) (by omega) (by omega) (by omega) (by omega), if_pos (by omega)]
    rfl
  | case2 a =>
    intro k out s h hl hk
    have hz : (s.size : Int) = 1 := by rw [← bts_len, h]; rfl
    have ha := bts_rng s a (by rw [h]; simp)
    have e0 : bt s 0 = a := bt0 h
    obtain ⟨k, rfl⟩ : ∃ m, k = m + 6 := ⟨k - 6, by omega⟩
    rw [value_words.l0, hz, show mn 1 4 = 1 from rfl, vstep_in _ _ _ _ _ 0 1 rfl (by omega) (by omega) (by omega) (by omega) (by omega) (by omega) (by omega), vstep_out _ _ _ _ _ 1 2 rfl (by omega) (by omega) (by omega) (by omega) (by omega), vstep_out _ _ _ _ _ 2 3 rfl (by omega) (by omega) (by omega) (by omega) (by omega), vstep_out _ _ _ _ _ 3 4 rfl (by omega) (by omega) (by omega) (by omega) (by omega), vend _ _ _ _ _ (by simp at hl; omega) (by omega) (by omega) (by omega) (by omega), if_pos (by omega), e0]
    simp only [tw, w4, Int.zero_mul, Int.zero_add]
  | case3 a b =>
    intro k out s h hl hk
    have hz : (s.size : Int) = 2 := by rw [← bts_len, h]; rfl
    have ha := bts_rng s a (by rw [h]; simp)
    have hb := bts_rng s b (by rw [h]; simp)
    have e0 : bt s 0 = a := bt0 h
    have e1 : bt s 1 = b := bt1 h
    obtain ⟨k, rfl⟩ : ∃ m, k = m + 6 := ⟨k - 6, by omega⟩
    rw [value_words.l0, hz, show mn 2 4 = 2 from rfl, vstep_in _ _ _ _ _ 0 1 rfl (by omega) (by omega) (by omega) (by omega) (by omega) (by omega) (by omega), vstep_in _ _ _ _ _ 1 2 rfl (by omega) (by omega) (by omega) (by omega) (by omega) (by omega) (by omega), vstep_out _ _ _ _ _ 2 3 rfl (by omega) (by omega) (by omega) (by omega) (by omega), vstep_out _ _ _ _ _ 3 4 rfl (by omega) (by omega) (by omega) (by omega) (by omega), vend _ _ _ _ _ (by simp at hl; omega) (by omega) (by omega) (by omega) (by omega), if_pos (by omega), e0, e1]
    simp only [tw, w4, Int.zero_mul, Int.zero_add]
  | case4 a b c =>
    intro k out s h hl hk
    have hz : (s.size : Int) = 3 := by rw [← bts_len, h]; rfl
    have ha := bts_rng s a (by rw [h]; simp)
    have hb := bts_rng s b (by rw [h]; simp)
    have hc := bts_rng s c (by rw [h]; simp)
    have e0 : bt s 0 = a := bt0 h
    have e1 : bt s 1 = b := bt1 h
    have e2 : bt s 2 = c := bt2 h
    obtain ⟨k, rfl⟩ : ∃ m, k = m + 6 := ⟨k - 6, by omega⟩
    rw [value_words.l0, hz, show mn 3 4 = 3 from rfl, vstep_in _ _ _ _ _ 0 1 rfl (by omega) (by omega) (by omega) (by omega) (by omega) (by omega) (by omega), vstep_in _ _ _ _ _ 1 2 rfl (by omega) (by omega) (by omega) (by omega) (by omega) (by omega) (by omega), vstep_in _ _ _ _ _ 2 3 rfl (by omega) (by omega) (by omega) (by omega) (by omega) (by omega) (by omega), vstep_out _ _ _ _ _ 3 4 rfl (by omega) (by omega) (by omega) (by omega) (by omega), vend _ _ _ _ _ (by simp at hl; omega) (by omega) (by omega) (by omega) (by omega), if_pos (by omega), e0, e1, e2]
    simp only [tw, w4, Int.zero_mul, Int.zero_add]
  | case5 a b c d r ih =>
    intro k out s h hl hk
    have hz : (s.size : Int) = r.length + 4 := by rw [← bts_len, h]; simp only [List.length_cons]; omega
    have ha := bts_rng s a (by rw [h]; simp)
    have hb := bts_rng s b (by rw [h]; simp)
    have hc := bts_rng s c (by rw [h]; simp)
    have hd := bts_rng s d (by rw [h]; simp)
    have e0 : bt s 0 = a := bt0 h
    have e1 : bt s 1 = b := bt1 h
    have e2 : bt s 2 = c := bt2 h
    have e3 : bt s 3 = d := bt3 h
    simp only [List.length_cons] at hl hk
    obtain ⟨k, rfl⟩ : ∃ m, k = m + 6 := ⟨k - 6, by omega⟩
    rw [value_words.l0, show mn (s.size : Int) 4 = 4 from by unfold mn; split <;> omega, vstep_in _ _ _ _ _ 0 1 rfl (by omega) (by omega) (by omega) (by omega) (by omega) (by omega) (by omega), vstep_in _ _ _ _ _ 1 2 rfl (by omega) (by omega) (by omega) (by omega) (by omega) (by omega) (by omega), vstep_in _ _ _ _ _ 2 3 rfl (by omega) (by omega) (by omega) (by omega) (by omega) (by omega) (by omega), vstep_in _ _ _ _ _ 3 4 rfl (by omega) (by omega) (by omega) (by omega) (by omega) (by omega) (by omega), vend _ _ _ _ _ (by omega) (by omega) (by omega) (by omega) (by omega), if_neg (by omega), if_pos (by omega), e0, e1, e2, e3]
    rw [ih k _ _ (by rw [bts_extract, h]; rfl) (by simp only [List.length_append, List.length_cons, List.length_nil]; omega) (by omega)]
    simp only [tw, w4, Int.zero_mul, Int.zero_add, List.append_assoc, List.cons_append, List.nil_append]
theorem tw_len : ∀ l : List Int, (tw l).length ≤ l.length / 4 + 1
  | [] => by simp [tw]
  | [a] => by simp [tw]
  | [a, b] => by simp [tw]
  | [a, b, c] => by simp [tw]
  | a :: b :: c :: d :: r => by have := tw_len r; simp only [tw, List.length_cons]; omega
theorem W_len {v : V} (h : Rt v) : (W v).length ≤ 12 := by
  unfold W
  split
  · simp
  · split
    · simp
    · split
      · simp
      · have h2 : v.f2.size ≤ 40 := by
          rcases h with h | h | h | h
          · omega
          · omega
          · exact h.2.2
          · omega
        have := tw_len (bts v.f2)
        rw [bts_len] at this
        simp only [List.length_cons]
        omega
theorem ev_words (k : Nat) (hk : 100 ≤ k) (out : List Int) (ho : out.length ≤ 1000000) (v : V) (h : Rt v) : value_words.f k out v.f0 v.f1 v.f2 = some (out ++ W v) := by
  unfold value_words.f W
  by_cases h1 : v.f0 = 1
  · have : -549755813888 ≤ v.f1 ∧ v.f1 ≤ 549755813887 := by rcases h with h | h | h | h <;> omega
    rw [if_pos h1, if_pos h1, wrap64_id (by omega) (by omega)]
    simp only [Option.bind_some, List.length_cons, List.length_nil]
    rw [if_pos (by omega), Int.sub_neg]
  · rw [if_neg h1, if_neg h1]
    by_cases h3 : v.f0 = 3
    · rw [if_pos h3, if_pos h3]
      simp only [Option.bind_some, List.length_cons, List.length_nil]
      rw [if_pos (by omega)]
    · rw [if_neg h3, if_neg h3]
      by_cases h0 : v.f0 = 0
      · rw [if_pos h0, if_pos h0, if_pos (by omega)]
      · have h2 : v.f2.size ≤ 40 := by
          rcases h with h | h | h | h
          · omega
          · omega
          · exact h.2.2
          · omega
        rw [if_neg h0, if_neg h0, if_pos (by omega), vwords (bts v.f2) k _ _ rfl (by rw [bts_len]; simp only [List.length_append, List.length_cons, List.length_nil]; omega) (by rw [bts_len]; omega), List.append_assoc]
        rfl
theorem rstep_in (k : Nat) (out : List Int) (i w n x y : Int) (p q : Int) (s : ByteArray) (hy : y = x + 1) (h0 : 0 ≤ i) (hi : i < 1000000) (hx0 : 0 ≤ x) (hx : x < i + 4) (hs : x < (s.size : Int)) (hw : 0 ≤ w) (hw2 : w < 4294967296) (hn : 0 ≤ n) (hn2 : n < 1000) (hb : 0 ≤ bt s x ∧ bt s x < 256) :
    alumref19_words.l1 (k + 1) out i w n x p q s = alumref19_words.l1 k out i (w * 256 + bt s x) (n + 1) y p q s := by
  subst hy
  rw [alumref19_words.l1, wrap64_id (x := i + 4) (by omega) (by omega), if_pos hx, if_pos hs, if_pos hx0, wrap64_id (x := w * 256) (by omega) (by omega), wrap64_id (x := bt s x) (by omega) (by omega), wrap64_id (x := w * 256 + bt s x) (by omega) (by omega), wrap64_id (x := n + 1) (by omega) (by omega), wrap64_id (x := x + 1) (by omega) (by omega)]
theorem rstep_out (k : Nat) (out : List Int) (i w n x y : Int) (p q : Int) (s : ByteArray) (hy : y = x + 1) (h0 : 0 ≤ i) (hi : i < 1000000) (hx0 : 0 ≤ x) (hx : x < i + 4) (hs : ¬ x < (s.size : Int)) (hw : 0 ≤ w) (hw2 : w < 4294967296) :
    alumref19_words.l1 (k + 1) out i w n x p q s = alumref19_words.l1 k out i (w * 256 + 0) n y p q s := by
  subst hy
  rw [alumref19_words.l1, wrap64_id (x := i + 4) (by omega) (by omega), if_pos hx, if_neg hs, wrap64_id (x := w * 256) (by omega) (by omega), wrap64_id (x := w * 256 + 0) (by omega) (by omega), wrap64_id (x := x + 1) (by omega) (by omega)]
theorem rend (k : Nat) (out : List Int) (i w n x : Int) (p q : Int) (s : ByteArray) (h0 : 0 ≤ i) (hi : i < 1000000) (hx : x = i + 4) (ho : out.length < 17592186044416) (hw : 0 ≤ w) (hw2 : w < 4294967296) (hn : 0 ≤ n) (hn2 : n ≤ 4) :
    alumref19_words.l1 (k + 1) out i w n x p q s = alumref19_words.l0 k (out ++ [w * 256 + n]) (i + 4) p q s := by
  rw [alumref19_words.l1, wrap64_id (x := i + 4) (by omega) (by omega), if_neg (by omega), if_pos ho, wrap64_id (x := w * 256) (by omega) (by omega), wrap64_id (x := w * 256 + n) (by omega) (by omega)]
theorem btd {s : ByteArray} {i : Nat} {l : List Int} (h : (bts s).drop i = l) (j : Nat) (x : Int) (hx : x = (i : Int) + j) : bt s x = l.getD j 0 := by
  subst hx
  rw [show (i : Int) + j = ((i + j : Nat) : Int) from by omega, bt_get, ← h, List.getD_eq_getElem?_getD, List.getD_eq_getElem?_getD, List.getElem?_drop]
theorem rwords (s : ByteArray) (p q : Int) (hs : s.size < 1000) (s' : List Int) : ∀ (k i : Nat) (out : List Int), (bts s).drop i = s' → i ≤ s.size → out.length + s'.length < 17592186044416 → 2 * s'.length + 10 ≤ k → alumref19_words.l0 k out i p q s = some (out ++ tw s') := by
  induction s' using tw.induct with
  | case1 =>
    intro k i out h hi hl hk
    have hz : s.size = i := by have := congrArg List.length h; simp only [List.length_drop, bts_len, List.length_nil] at this; omega
    obtain ⟨k, rfl⟩ : ∃ m, k = m + 7 := ⟨k - 7, by omega⟩
    rw [alumref19_words.l0, if_pos (by omega), rstep_out _ _ _ _ _ _ (i + 1) _ _ _ rfl (by omega) (by omega) (by omega) (by omega) (by omega) (by omega) (by omega), rstep_out _ _ _ _ _ _ (i + 2) _ _ _ (by omega) (by omega) (by omega) (by omega) (by omega) (by omega) (by omega) (by omega), rstep_out _ _ _ _ _ _ (i + 3) _ _ _ (by omega) (by omega) (by omega) (by omega) (by omega) (by omega) (by omega) (by omega), rstep_out _ _ _ _ _ _ (i + 4) _ _ _ (by omega) (by omega) (by omega) (by omega) (by omega) (by omega) (by omega) (by omega), rend _ _ _ _ _ _ _ _ _ (by omega) (by omega) rfl (by omega) (by omega) (by omega) (by omega) (by omega), alumref19_words.l0, if_neg (by omega)]
    rfl
  | case2 a =>
    intro k i out h hi hl hk
    have hz : s.size = i + 1 := by have := congrArg List.length h; simp only [List.length_drop, bts_len, List.length_nil, List.length_cons] at this; omega
    have ha := bts_rng s a (List.mem_of_mem_drop (by rw [h]; simp : a ∈ (bts s).drop i))
    have e0 : bt s i = a := btd h 0 _ (by omega)
    simp only [List.length_cons, List.length_nil] at hl hk
    obtain ⟨k, rfl⟩ : ∃ m, k = m + 7 := ⟨k - 7, by omega⟩
    rw [alumref19_words.l0, if_pos (by omega), rstep_in _ _ _ _ _ _ (i + 1) _ _ _ rfl (by omega) (by omega) (by omega) (by omega) (by omega) (by omega) (by omega) (by omega) (by omega) (by omega), e0, rstep_out _ _ _ _ _ _ (i + 2) _ _ _ (by omega) (by omega) (by omega) (by omega) (by omega) (by omega) (by omega) (by omega), rstep_out _ _ _ _ _ _ (i + 3) _ _ _ (by omega) (by omega) (by omega) (by omega) (by omega) (by omega) (by omega) (by omega), rstep_out _ _ _ _ _ _ (i + 4) _ _ _ (by omega) (by omega) (by omega) (by omega) (by omega) (by omega) (by omega) (by omega), rend _ _ _ _ _ _ _ _ _ (by omega) (by omega) rfl (by omega) (by omega) (by omega) (by omega) (by omega), alumref19_words.l0, if_neg (by omega)]
    simp only [tw, w4, Int.zero_mul, Int.zero_add]
  | case3 a b =>
    intro k i out h hi hl hk
    have hz : s.size = i + 2 := by have := congrArg List.length h; simp only [List.length_drop, bts_len, List.length_nil, List.length_cons] at this; omega
    have ha := bts_rng s a (List.mem_of_mem_drop (by rw [h]; simp : a ∈ (bts s).drop i))
    have hb := bts_rng s b (List.mem_of_mem_drop (by rw [h]; simp : b ∈ (bts s).drop i))
    have e0 : bt s i = a := btd h 0 _ (by omega)
    have e1 : bt s (i + 1) = b := btd h 1 _ (by omega)
    simp only [List.length_cons, List.length_nil] at hl hk
    obtain ⟨k, rfl⟩ : ∃ m, k = m + 7 := ⟨k - 7, by omega⟩
    rw [alumref19_words.l0, if_pos (by omega), rstep_in _ _ _ _ _ _ (i + 1) _ _ _ rfl (by omega) (by omega) (by omega) (by omega) (by omega) (by omega) (by omega) (by omega) (by omega) (by omega), e0, rstep_in _ _ _ _ _ _ (i + 2) _ _ _ (by omega) (by omega) (by omega) (by omega) (by omega) (by omega) (by omega) (by omega) (by omega) (by omega) (by omega), e1, rstep_out _ _ _ _ _ _ (i + 3) _ _ _ (by omega) (by omega) (by omega) (by omega) (by omega) (by omega) (by omega) (by omega), rstep_out _ _ _ _ _ _ (i + 4) _ _ _ (by omega) (by omega) (by omega) (by omega) (by omega) (by omega) (by omega) (by omega), rend _ _ _ _ _ _ _ _ _ (by omega) (by omega) rfl (by omega) (by omega) (by omega) (by omega) (by omega), alumref19_words.l0, if_neg (by omega)]
    simp only [tw, w4, Int.zero_mul, Int.zero_add]
    rfl
  | case4 a b c =>
    intro k i out h hi hl hk
    have hz : s.size = i + 3 := by have := congrArg List.length h; simp only [List.length_drop, bts_len, List.length_nil, List.length_cons] at this; omega
    have ha := bts_rng s a (List.mem_of_mem_drop (by rw [h]; simp : a ∈ (bts s).drop i))
    have hb := bts_rng s b (List.mem_of_mem_drop (by rw [h]; simp : b ∈ (bts s).drop i))
    have hc := bts_rng s c (List.mem_of_mem_drop (by rw [h]; simp : c ∈ (bts s).drop i))
    have e0 : bt s i = a := btd h 0 _ (by omega)
    have e1 : bt s (i + 1) = b := btd h 1 _ (by omega)
    have e2 : bt s (i + 2) = c := btd h 2 _ (by omega)
    simp only [List.length_cons, List.length_nil] at hl hk
    obtain ⟨k, rfl⟩ : ∃ m, k = m + 7 := ⟨k - 7, by omega⟩
    rw [alumref19_words.l0, if_pos (by omega), rstep_in _ _ _ _ _ _ (i + 1) _ _ _ rfl (by omega) (by omega) (by omega) (by omega) (by omega) (by omega) (by omega) (by omega) (by omega) (by omega), e0, rstep_in _ _ _ _ _ _ (i + 2) _ _ _ (by omega) (by omega) (by omega) (by omega) (by omega) (by omega) (by omega) (by omega) (by omega) (by omega) (by omega), e1, rstep_in _ _ _ _ _ _ (i + 3) _ _ _ (by omega) (by omega) (by omega) (by omega) (by omega) (by omega) (by omega) (by omega) (by omega) (by omega) (by omega), e2, rstep_out _ _ _ _ _ _ (i + 4) _ _ _ (by omega) (by omega) (by omega) (by omega) (by omega) (by omega) (by omega) (by omega), rend _ _ _ _ _ _ _ _ _ (by omega) (by omega) rfl (by omega) (by omega) (by omega) (by omega) (by omega), alumref19_words.l0, if_neg (by omega)]
    simp only [tw, w4, Int.zero_mul, Int.zero_add]
    rfl
  | case5 a b c d r ih =>
    intro k i out h hi hl hk
    have hz : s.size = i + 4 + r.length := by have := congrArg List.length h; simp only [List.length_drop, bts_len, List.length_nil, List.length_cons] at this; omega
    have ha := bts_rng s a (List.mem_of_mem_drop (by rw [h]; simp : a ∈ (bts s).drop i))
    have hb := bts_rng s b (List.mem_of_mem_drop (by rw [h]; simp : b ∈ (bts s).drop i))
    have hc := bts_rng s c (List.mem_of_mem_drop (by rw [h]; simp : c ∈ (bts s).drop i))
    have hd := bts_rng s d (List.mem_of_mem_drop (by rw [h]; simp : d ∈ (bts s).drop i))
    have e0 : bt s i = a := btd h 0 _ (by omega)
    have e1 : bt s (i + 1) = b := btd h 1 _ (by omega)
    have e2 : bt s (i + 2) = c := btd h 2 _ (by omega)
    have e3 : bt s (i + 3) = d := btd h 3 _ (by omega)
    simp only [List.length_cons, List.length_nil] at hl hk
    obtain ⟨k, rfl⟩ : ∃ m, k = m + 6 := ⟨k - 6, by omega⟩
    rw [alumref19_words.l0, if_pos (by omega), rstep_in _ _ _ _ _ _ (i + 1) _ _ _ rfl (by omega) (by omega) (by omega) (by omega) (by omega) (by omega) (by omega) (by omega) (by omega) (by omega), e0, rstep_in _ _ _ _ _ _ (i + 2) _ _ _ (by omega) (by omega) (by omega) (by omega) (by omega) (by omega) (by omega) (by omega) (by omega) (by omega) (by omega), e1, rstep_in _ _ _ _ _ _ (i + 3) _ _ _ (by omega) (by omega) (by omega) (by omega) (by omega) (by omega) (by omega) (by omega) (by omega) (by omega) (by omega), e2, rstep_in _ _ _ _ _ _ (i + 4) _ _ _ (by omega) (by omega) (by omega) (by omega) (by omega) (by omega) (by omega) (by omega) (by omega) (by omega) (by omega), e3, rend _ _ _ _ _ _ _ _ _ (by omega) (by omega) rfl (by omega) (by omega) (by omega) (by omega) (by omega)]
    have hd4 : (bts s).drop (i + 4) = r := by rw [← List.drop_drop, h]; rfl
    have := ih k (i + 4) (out ++ [(((0 * 256 + a) * 256 + b) * 256 + c) * 256 + d * 1 + 0]) hd4 (by omega) (by simp only [List.length_append, List.length_cons, List.length_nil]; omega) (by omega)
    rw [show ((i : Int) + 4) = ((i + 4 : Nat) : Int) from by omega]
    rw [ih k (i + 4) _ hd4 (by omega) (by simp only [List.length_append, List.length_cons, List.length_nil]; omega) (by omega)]
    simp only [tw, w4, Int.zero_mul, Int.zero_add, List.append_assoc, List.cons_append, List.nil_append]
    rfl
theorem ev_refwords (k : Nat) (hk : 100 ≤ k) (v : V) (h : Rt v) : alumref19_words.f k v.f0 v.f1 v.f2 = some (W v) := by
  unfold alumref19_words.f W
  by_cases h1 : v.f0 = 1
  · have : -549755813888 ≤ v.f1 ∧ v.f1 ≤ 549755813887 := by rcases h with h | h | h | h <;> omega
    rw [if_pos h1, if_pos h1, wrap64_id (by omega) (by omega), Int.sub_neg]
  · rw [if_neg h1, if_neg h1]
    by_cases h3 : v.f0 = 3
    · rw [if_pos h3, if_pos h3]
    · rw [if_neg h3, if_neg h3]
      by_cases h0 : v.f0 = 0
      · rw [if_pos h0, if_neg (by omega)]
      · have h2 : v.f0 = 2 ∧ v.f2.size ≤ 40 := by
          rcases h with h | h | h | h
          · omega
          · omega
          · exact ⟨h.1, h.2.2⟩
          · omega
        rw [if_neg h0, if_pos h2.1]
        have := rwords v.f2 v.f0 v.f1 (by omega) (bts v.f2) k 0 [2] rfl (by omega) (by rw [bts_len]; simp only [List.length_cons, List.length_nil]; omega) (by rw [bts_len]; omega)
        rw [Int.natCast_zero] at this
        rw [this]
        rfl
end Go.Proofs.YtmhnfdgegejlkaaDoor.V
end

section
namespace Go.Proofs.YtmhnfdgegejlkaaDoor.V
open Go Go.RowKit Go.Proofs.YtmhnfdgegejlkaaDoor.P Go.Proofs.YtmhnfdgegejlkaaDoorW.PrintWords Go.Proofs.YtmhnfdgegejlkaaDoorW.PrintMore
set_option linter.unusedSimpArgs false
set_option linter.unusedVariables false
def Few (l : List V) : Prop := l.length ≤ 20 ∧ ∀ v ∈ l, Rt v
theorem right_loop (l : List V) (hl : l.length ≤ 20) (d : Nat) : ∀ (k i : Nat), l.length - i = d → i ≤ l.length → d + 1 ≤ k → ∃ b, alumref19_RightRow.l0 k l i = some b ∧ (b = true ↔ ∀ v ∈ l.drop i, Rt v) := by
  induction d with
  | zero =>
    intro k i hd h1 hk
    obtain ⟨k, rfl⟩ : ∃ m, k = m + 1 := ⟨k - 1, by omega⟩
    refine ⟨true, by rw [alumref19_RightRow.l0, if_neg (by omega)], ?_⟩
    rw [List.drop_eq_nil_of_le (by omega)]
    simp
  | succ d ih =>
    intro k i hd h1 hk
    obtain ⟨k, rfl⟩ : ∃ m, k = m + 1 := ⟨k - 1, by omega⟩
    have hi : i < l.length := by omega
    rw [alumref19_RightRow.l0, if_pos (by omega), if_pos (by omega), rdV l i hi, List.drop_eq_getElem_cons hi]
    by_cases hr : Rt l[i]
    · rw [refRight_yes hr]
      simp only [Option.bind_some, if_true]
      rw [wrap_succ i (by omega)]
      obtain ⟨b, hb, hc⟩ := ih k (i + 1) (by omega) (by omega) (by omega)
      refine ⟨b, hb, ?_⟩
      rw [hc, List.forall_mem_cons]
      exact ⟨fun h => ⟨hr, h⟩, fun h => h.2⟩
    · rw [refRight_no hr]
      refine ⟨false, rfl, ?_⟩
      rw [List.forall_mem_cons]
      exact ⟨fun h => (by cases h), fun h => absurd h.1 hr⟩
theorem ev_few (k : Nat) (hk : 30 ≤ k) (l : List V) : ∃ b, alumlaw19_few.f k l = some b ∧ (b = true ↔ Few l) := by
  unfold alumlaw19_few.f Few
  by_cases h : (l.length : Int) ≤ 20
  · rw [if_pos h]
    have h' : l.length ≤ 20 := by omega
    obtain ⟨b, hb, hc⟩ := right_loop l h' l.length k 0 (by omega) (by omega) (by omega)
    rw [Int.natCast_zero] at hb
    rw [List.drop_zero] at hc
    unfold alumref19_RightRow.f
    rw [hb]
    exact ⟨b, rfl, by rw [hc]; exact ⟨fun x => ⟨h', x⟩, fun x => x.2⟩⟩
  · rw [if_neg h]
    exact ⟨false, rfl, by constructor; · intro h; cases h
                          · intro x; omega⟩
theorem ev_sign (a b : Int) : alumref19_sign.f a b = some (cmpI a b) := by
  unfold alumref19_sign.f cmpI
  by_cases h : a < b
  · rw [if_pos h, if_pos h]
  · rw [if_neg h, if_neg h]
    by_cases h2 : b < a
    · rw [if_pos h2, if_pos h2]
    · rw [if_neg (by omega), if_neg h2]
theorem cmpS_self (s : ByteArray) : cmpS s s = 0 := tcS.refl s
theorem ev_refCompare (a b : V) (ha : Rt a) (hb : Rt b) : alumref19_Compare.f a.f0 a.f1 a.f2 b.f0 b.f1 b.f2 = some (vcmp a b) := by
  unfold alumref19_Compare.f vcmp cmp2
  simp only [ev_sign, Option.bind_some]
  by_cases h : a.f0 = b.f0
  · have h0 : cmpI a.f0 b.f0 = 0 := (tcI.eq0 _ _).2 h
    rw [if_pos h, if_pos h0, less_cmpS, less_cmpS]
    have ht : a.f2 = b.f2 ∨ a.f1 = b.f1 := by
      rcases ha with ha | ha | ha | ha <;> rcases hb with hb | hb | hb | hb
      all_goals first
        | exact Or.inr (by omega)
        | exact Or.inl (by rw [ha.2.2, hb.2.2])
        | exact Or.inl (by rw [ha.2.2.2, hb.2.2.2])
        | (exfalso; omega)
    have hs := tcS.sym a.f2 b.f2
    have hr := tcS.rng a.f2 b.f2
    rcases ht with ht | ht
    · have : cmpS a.f2 b.f2 = 0 := by rw [ht]; exact cmpS_self _
      rw [this] at hs
      rw [hs, this]
      simp only [Int.neg_zero, show ((0 : Int) = -1) = False from by simp, decide_false, Bool.false_eq_true, if_false]
      by_cases hz : cmpI a.f1 b.f1 = 0
      · rw [if_pos hz, hz]
      · rw [if_neg hz]
    · have hz : cmpI a.f1 b.f1 = 0 := (tcI.eq0 _ _).2 ht
      rw [if_pos hz, hz, hs]
      rcases hr with hr | hr | hr <;> simp [hr]
  · have h0 : ¬ cmpI a.f0 b.f0 = 0 := fun h' => h ((tcI.eq0 _ _).1 h')
    rw [if_neg h, if_neg h0]
theorem refrows_loop (x y : List V) (hx : x.length ≤ 20) (hxr : ∀ v ∈ x, Rt v) (hyr : ∀ v ∈ y, Rt v) (d : Nat) : ∀ (k i : Nat), x.length - i = d → i ≤ x.length → i ≤ y.length → 2 * d + 2 ≤ k →
    alumref19_CompareRows.l0 k x y i = some (lcmp vcmp (x.drop i) (y.drop i)) := by
  induction d with
  | zero =>
    intro k i hd h1 h2 hk
    obtain ⟨k, rfl⟩ : ∃ m, k = m + 2 := ⟨k - 2, by omega⟩
    have hi : i = x.length := by omega
    rw [alumref19_CompareRows.l0, if_neg (by omega), alumref19_CompareRows.j1, if_neg (by simp), ev_sign, hi, List.drop_length]
    simp only [Option.bind_some]
    unfold cmpI
    by_cases hl : x.length < y.length
    · rw [if_pos (by omega)]
      have : y.drop x.length ≠ [] := by simp; omega
      match h : y.drop x.length, this with
      | a :: l, _ => rfl
    · rw [if_neg (by omega), if_neg (by omega), List.drop_eq_nil_of_le (by omega)]; rfl
  | succ d ih =>
    intro k i hd h1 h2 hk
    obtain ⟨k, rfl⟩ : ∃ m, k = m + 2 := ⟨k - 2, by omega⟩
    have hi : i < x.length := by omega
    rw [alumref19_CompareRows.l0, if_pos (by omega), alumref19_CompareRows.j1]
    by_cases hy : i < y.length
    · rw [if_pos (by simp; omega), if_pos (by omega), if_pos (by omega), if_pos (by omega), rdV x i hi, rdV y i hy, ev_refCompare _ _ (hxr _ (List.getElem_mem hi)) (hyr _ (List.getElem_mem hy))]
      simp only [Option.bind_some]
      rw [List.drop_eq_getElem_cons hi, List.drop_eq_getElem_cons hy]
      unfold lcmp
      by_cases hc : vcmp x[i] y[i] = 0
      · rw [if_pos hc, if_pos hc, wrap_succ i (by omega)]
        exact ih k (i + 1) (by omega) (by omega) (by omega) (by omega)
      · rw [if_neg hc, if_neg hc]
    · rw [if_neg (by simp; omega), List.drop_eq_getElem_cons hi, show y.drop i = [] from List.drop_eq_nil_of_le (by omega), ev_sign]
      simp only [Option.bind_some]
      unfold cmpI
      rw [if_neg (by omega), if_pos (by omega)]
      rfl
theorem ev_refCompareRows (k : Nat) (hk : 60 ≤ k) (x y : List V) (hx : Few x) (hy : Few y) : alumref19_CompareRows.f k x y = some (lcmp vcmp x y) := by
  have := refrows_loop x y hx.1 hx.2 hy.2 x.length k 0 (by omega) (by omega) (by omega) (by have := hx.1; omega)
  rw [Int.natCast_zero] at this
  exact this
theorem rdI (l : List Int) (i : Nat) (h : i < l.length) : rd l (i : Int) = l[i] := by
  unfold rd
  rw [Int.toNat_natCast, List.getD_eq_getElem?_getD, List.getElem?_eq_getElem h]
  rfl
theorem keys_loop (x y : List Int) (hx : x.length ≤ 1000) (d : Nat) : ∀ (k i : Nat), x.length - i = d → i ≤ x.length → i ≤ y.length → d + 1 ≤ k →
    slices_Compare_Lint_int.l0 k x y x x.length i = some (lcmp cmpI (x.drop i) (y.drop i)) := by
  induction d with
  | zero =>
    intro k i hd h1 h2 hk
    obtain ⟨k, rfl⟩ : ∃ m, k = m + 1 := ⟨k - 1, by omega⟩
    have hi : i = x.length := by omega
    rw [slices_Compare_Lint_int.l0, if_neg (by omega), hi, List.drop_length]
    by_cases hl : x.length < y.length
    · rw [if_pos (by omega)]
      have : y.drop x.length ≠ [] := by simp; omega
      match h : y.drop x.length, this with
      | a :: l, _ => rfl
    · rw [if_neg (by omega), List.drop_eq_nil_of_le (by omega)]; rfl
  | succ d ih =>
    intro k i hd h1 h2 hk
    obtain ⟨k, rfl⟩ : ∃ m, k = m + 1 := ⟨k - 1, by omega⟩
    have hi : i < x.length := by omega
    rw [slices_Compare_Lint_int.l0, if_pos (by omega), if_pos (by omega), if_pos (by omega)]
    by_cases hy : i < y.length
    · rw [if_neg (by omega), if_pos (by omega), rdI x i hi, rdI y i hy, ev_cmpInt]
      simp only [Option.bind_some]
      rw [List.drop_eq_getElem_cons hi, List.drop_eq_getElem_cons hy]
      unfold lcmp
      by_cases hc : cmpI x[i] y[i] = 0
      · rw [if_pos hc, if_pos hc, wrap_succ i (by omega)]
        exact ih k (i + 1) (by omega) (by omega) (by omega) (by omega)
      · rw [if_neg hc, if_neg hc]
    · rw [if_pos (by omega), List.drop_eq_getElem_cons hi, show y.drop i = [] from List.drop_eq_nil_of_le (by omega)]; rfl
theorem ev_CompareKeys (k : Nat) (hk : 1010 ≤ k) (x y : List Int) (hx : x.length ≤ 1000) : value_CompareKeys.f k x y = some (lcmp cmpI x y) := by
  have := keys_loop x y hx x.length k 0 (by omega) (by omega) (by omega) (by omega)
  rw [Int.natCast_zero] at this
  unfold value_CompareKeys.f slices_Compare_Lint_int.f
  rw [this]
  rfl
theorem refkeys_loop (x y : List Int) (hx : x.length ≤ 100) (d : Nat) : ∀ (k i : Nat), x.length - i = d → i ≤ x.length → i ≤ y.length → 2 * d + 2 ≤ k →
    alumref19_CompareKeys.l0 k x y i = some (lcmp cmpI (x.drop i) (y.drop i)) := by
  induction d with
  | zero =>
    intro k i hd h1 h2 hk
    obtain ⟨k, rfl⟩ : ∃ m, k = m + 2 := ⟨k - 2, by omega⟩
    have hi : i = x.length := by omega
    rw [alumref19_CompareKeys.l0, if_neg (by omega), alumref19_CompareKeys.j1, if_neg (by simp), ev_sign, hi, List.drop_length]
    simp only [Option.bind_some]
    unfold cmpI
    by_cases hl : x.length < y.length
    · rw [if_pos (by omega)]
      have : y.drop x.length ≠ [] := by simp; omega
      match h : y.drop x.length, this with
      | a :: l, _ => rfl
    · rw [if_neg (by omega), if_neg (by omega), List.drop_eq_nil_of_le (by omega)]; rfl
  | succ d ih =>
    intro k i hd h1 h2 hk
    obtain ⟨k, rfl⟩ : ∃ m, k = m + 2 := ⟨k - 2, by omega⟩
    have hi : i < x.length := by omega
    rw [alumref19_CompareKeys.l0, if_pos (by omega), alumref19_CompareKeys.j1]
    by_cases hy : i < y.length
    · rw [if_pos (by simp; omega), if_pos (by omega), if_pos (by omega), if_pos (by omega), rdI x i hi, rdI y i hy, ev_sign]
      simp only [Option.bind_some]
      rw [List.drop_eq_getElem_cons hi, List.drop_eq_getElem_cons hy]
      unfold lcmp
      have he := tcI.eq0 x[i] y[i]
      by_cases hc : cmpI x[i] y[i] = 0
      · rw [if_pos (he.1 hc), if_pos hc, wrap_succ i (by omega)]
        exact ih k (i + 1) (by omega) (by omega) (by omega) (by omega)
      · rw [if_neg (fun h => hc (he.2 h)), if_neg hc]
    · rw [if_neg (by simp; omega), List.drop_eq_getElem_cons hi, show y.drop i = [] from List.drop_eq_nil_of_le (by omega), ev_sign]
      simp only [Option.bind_some]
      unfold cmpI
      rw [if_neg (by omega), if_pos (by omega)]
      rfl
theorem ev_refCompareKeys (k : Nat) (hk : 300 ≤ k) (x y : List Int) (hx : x.length ≤ 100) : alumref19_CompareKeys.f k x y = some (lcmp cmpI x y) := by
  have := refkeys_loop x y hx x.length k 0 (by omega) (by omega) (by omega) (by omega)
  rw [Int.natCast_zero] at this
  exact this
theorem same_loop (x : List Int) (hx : x.length ≤ 1000) (d : Nat) : ∀ (k i : Nat), x.length - i = d → i ≤ x.length → d + 1 ≤ k → alumref19_SameInts.l0 k x x i = some true := by
  induction d with
  | zero =>
    intro k i hd h1 hk
    obtain ⟨k, rfl⟩ : ∃ m, k = m + 1 := ⟨k - 1, by omega⟩
    rw [alumref19_SameInts.l0, if_neg (by omega)]
  | succ d ih =>
    intro k i hd h1 hk
    obtain ⟨k, rfl⟩ : ∃ m, k = m + 1 := ⟨k - 1, by omega⟩
    rw [alumref19_SameInts.l0, if_pos (by omega), if_pos (by omega), if_pos (by omega), if_pos rfl, wrap_succ i (by omega)]
    exact ih k (i + 1) (by omega) (by omega) (by omega)
theorem ev_SameInts (k : Nat) (hk : 1010 ≤ k) (x : List Int) (hx : x.length ≤ 1000) : alumref19_SameInts.f k x x = some true := by
  have := same_loop x hx x.length k 0 (by omega) (by omega) (by omega)
  rw [Int.natCast_zero] at this
  unfold alumref19_SameInts.f
  rw [if_pos rfl]
  exact this
def flat (l : List V) : List Int := l.flatMap W
theorem flat_cons (v : V) (l : List V) : flat (v :: l) = W v ++ flat l := by simp [flat]
theorem flat_len (l : List V) (h : ∀ v ∈ l, Rt v) : (flat l).length ≤ 12 * l.length := by
  induction l with
  | nil => simp [flat]
  | cons v l ih =>
    rw [flat_cons, List.length_append, List.length_cons]
    have := W_len (h v (by simp))
    have := ih (fun u hu => h u (by simp [hu]))
    omega
theorem take_mx (most : Int) (l : List Int) : l.take (mx 0 (mn most (l.length : Int))).toNat = l.take most.toNat := by
  unfold mx mn
  by_cases h : (l.length : Int) < most
  · rw [if_pos h]
    rw [List.take_of_length_le (i := most.toNat) (by omega)]
    apply List.take_of_length_le
    split <;> omega
  · rw [if_neg h]
    by_cases h2 : 0 < most
    · rw [if_pos h2]
    · rw [if_neg h2, show most.toNat = 0 from by omega]; rfl
theorem mx_rng (most : Int) (l : List Int) : 0 ≤ mx 0 (mn most (l.length : Int)) ∧ mx 0 (mn most (l.length : Int)) ≤ (l.length : Int) := by
  unfold mx mn
  constructor <;> (repeat split) <;> omega
theorem key_loop (most : Int) (x : List V) (hx : x.length ≤ 20) (hr : ∀ v ∈ x, Rt v) (d : Nat) : ∀ (k i : Nat) (out : List Int), x.length - i = d → i ≤ x.length → out.length ≤ 12 * i → d + 120 ≤ k →
    value_Key.l0 k most out x x.length i = some ((out ++ flat (x.drop i)).take most.toNat) := by
  induction d with
  | zero =>
    intro k i out hd h1 ho hk
    obtain ⟨k, rfl⟩ : ∃ m, k = m + 1 := ⟨k - 1, by omega⟩
    have hm := mx_rng most out
    rw [value_Key.l0, if_neg (by omega), if_pos hm.1, if_pos hm.2, take_mx]
    unfold slices_Clone_Lint_int.f
    have : (out.take most.toNat).length ≤ out.length := by rw [List.length_take]; omega
    rw [if_pos (by omega), List.drop_eq_nil_of_le (by omega)]
    simp [flat]
  | succ d ih =>
    intro k i out hd h1 ho hk
    obtain ⟨k, rfl⟩ : ∃ m, k = m + 1 := ⟨k - 1, by omega⟩
    have hi : i < x.length := by omega
    have hv := hr _ (List.getElem_mem hi)
    rw [value_Key.l0, if_pos (by omega), if_pos (by omega), if_pos (by omega), List.drop_eq_getElem_cons hi, flat_cons]
    by_cases hm : (out.length : Int) < most
    · rw [if_pos hm, rdV x i hi, ev_words k (by omega) out (by omega) _ hv]
      simp only [Option.bind_some]
      have := W_len hv
      rw [wrap_succ i (by omega), ih k (i + 1) _ (by omega) (by omega) (by rw [List.length_append]; omega) (by omega), List.append_assoc]
    · rw [if_neg hm, wrap_succ i (by omega), ih k (i + 1) _ (by omega) (by omega) (by omega) (by omega), List.take_append_of_le_length (by omega), List.take_append_of_le_length (by omega)]
theorem ev_Key (k : Nat) (hk : 150 ≤ k) (x : List V) (hx : Few x) (most : Int) : value_Key.f k x most = some ((flat x).take most.toNat) := by
  have := key_loop most x hx.1 hx.2 x.length k 0 [] (by omega) (by omega) (by simp) (by have := hx.1; omega)
  rw [Int.natCast_zero] at this
  exact this
theorem refkey_loop (most : Int) (x : List V) (hx : x.length ≤ 20) (hr : ∀ v ∈ x, Rt v) (d : Nat) : ∀ (k i : Nat) (out : List Int), x.length - i = d → i ≤ x.length → out.length ≤ 12 * i → d + 120 ≤ k →
    alumref19_Key.l0 k x most out i = some ((out ++ flat (x.drop i)).take most.toNat) := by
  induction d with
  | zero =>
    intro k i out hd h1 ho hk
    obtain ⟨k, rfl⟩ : ∃ m, k = m + 1 := ⟨k - 1, by omega⟩
    have hm := mx_rng most out
    rw [alumref19_Key.l0, if_neg (by omega), if_pos hm.1, if_pos hm.2, take_mx, List.drop_eq_nil_of_le (by omega)]
    simp [flat]
  | succ d ih =>
    intro k i out hd h1 ho hk
    obtain ⟨k, rfl⟩ : ∃ m, k = m + 1 := ⟨k - 1, by omega⟩
    have hi : i < x.length := by omega
    have hv := hr _ (List.getElem_mem hi)
    have := W_len hv
    rw [alumref19_Key.l0, if_pos (by omega), if_pos (by omega), List.drop_eq_getElem_cons hi, flat_cons, rdV x i hi, ev_refwords k (by omega) _ hv]
    simp only [Option.bind_some]
    rw [if_pos (by omega), wrap_succ i (by omega), ih k (i + 1) _ (by omega) (by omega) (by rw [List.length_append]; omega) (by omega), List.append_assoc]
theorem ev_refKey (k : Nat) (hk : 150 ≤ k) (x : List V) (hx : Few x) (most : Int) : alumref19_Key.f k x most = some ((flat x).take most.toNat) := by
  have := refkey_loop most x hx.1 hx.2 x.length k 0 [] (by omega) (by omega) (by simp) (by have := hx.1; omega)
  rw [Int.natCast_zero] at this
  exact this
theorem key_len (x : List V) (hx : Few x) (m : Nat) : ((flat x).take m).length ≤ 240 := by
  have := flat_len x hx.2
  have := hx.1
  rw [List.length_take]
  omega
end Go.Proofs.YtmhnfdgegejlkaaDoor.V
end

section
namespace Go.Proofs.YtmhnfdgegejlkaaDoor.V
open Go Go.RowKit Go.Proofs.YtmhnfdgegejlkaaDoor.P Go.Proofs.YtmhnfdgegejlkaaDoorW.PrintWords
set_option linter.unusedSimpArgs false
set_option linter.unusedVariables false
theorem ValueRowsMatchSpec : alumlaw19_ValueRowsMatchSpec.Pure := by
  intro a b most x y ga gb gm gx gy
  refine ⟨2000, ?_⟩
  unfold alumlaw19_ValueRowsMatchSpec.f
  have hs : alumlaw19_ValueRowsMatchSpec.j0 2000 a b most x y true = some true := by rw [alumlaw19_ValueRowsMatchSpec.j0, if_pos rfl, ev_sanity _ (by omega)]; rfl
  obtain ⟨fa, ha, ha'⟩ := ev_few 2000 (by omega) a
  obtain ⟨fb, hb, hb'⟩ := ev_few 2000 (by omega) b
  rw [ha, hb]
  simp only [Option.bind_some]
  cases fa with
  | false => exact hs
  | true =>
    rw [if_pos rfl]
    cases fb with
    | false => exact hs
    | true =>
      rw [if_pos rfl]
      have ra := ha'.1 rfl
      have rb := hb'.1 rfl
      by_cases h1 : (x.length : Int) > 100
      · rw [if_pos h1]; exact hs
      · rw [if_neg h1]
        by_cases h2 : (y.length : Int) > 100
        · rw [decide_eq_true h2]; exact hs
        · rw [decide_eq_false h2, alumlaw19_ValueRowsMatchSpec.j0, if_neg (by simp), ev_sanity _ (by omega)]
          have := ra.1
          simp only [Option.bind_some, if_true]
          rw [ev_CompareRows _ a b (by omega) (by omega), ev_refCompareRows _ (by omega) a b ra rb]
          simp only [Option.bind_some, if_true]
          rw [ev_Key _ (by omega) a ra, ev_refKey _ (by omega) a ra]
          simp only [Option.bind_some]
          have := key_len a ra most.toNat
          rw [ev_SameInts _ (by omega) _ (by omega)]
          simp only [Option.bind_some, if_true]
          rw [ev_CompareKeys _ (by omega) x y (by omega), ev_refCompareKeys _ (by omega) x y (by omega)]
          simp
end Go.Proofs.YtmhnfdgegejlkaaDoor.V
end

section
namespace Go.Proofs.YtmhnfdgegejlkaaDoor.valueRowsMatchSpec
open Go Go.ChangeShapes Go.WideShapes Go.ChangeAt Go.RowKit Go.Proofs.YtmhnfdgegejlkaaDoor.P Go.Proofs.YtmhnfdgegejlkaaDoorW.PrintWords
open Go.ChangeMaps (open_string shut_string)
set_option linter.unusedVariables false
theorem own : ownKnob Tryd.prog.godebug = none := by kernel_rfl
theorem laidOut : laidOutB Tryd.prog = true := by kernel_rfl
theorem door_met (os : Os) (args : Array Value) : laidMetH Tryd.prog Rows.valueRowsMatchSpecRow.laid ((World.doorLaid Tryd.prog 72 os).forCall (fun _ _ => 0) ⟨#[], args, []⟩).memory :=
  laidMetH_of_parts3 (fuel := 8) (laidMet_of_run' 8 (by kernel_rfl) (by kernel_rfl)) (by kernel_rfl) (by kernel_rfl)
set_option maxRecDepth 100000 in
set_option maxHeartbeats 4000000 in
theorem lifted (os : Os) (started : os.Started) (H : Type) (enc : TypeId × Value → H) :
    ReturnsInHanded {} Tryd.checked os 7 .any (fun w args => (Rows.valueRowsMatchSpecSpec.pre enc Tryd.prog Tryd.f7 [] false w args ∧ laidMetH Tryd.prog Rows.valueRowsMatchSpecRow.laid w) ∧ sizedMet enc Tryd.prog Tryd.f7 (OpenSpec.ofChange Rows.valueRowsMatchSpecSpec) false w args)
      (Rows.valueRowsMatchSpecSpec.post enc Tryd.prog Tryd.f7 false true false false) := by
  refine returnsInHanded_of_change_and (C := Tryd.checked) (X := fun w _ => laidMetH Tryd.prog Rows.valueRowsMatchSpecRow.laid w) (fun _ _ _ hh h => h.of_heap hh) own started (by kernel_rfl) Tryd.func7
    (ChangeSpec.witness_shaped (enc := enc) (C := Tryd.checked) (os := os) (X := fun w _ => laidMetH Tryd.prog Rows.valueRowsMatchSpecRow.laid w) false (World.doorLaid Tryd.prog 72 os) #[.slice none 0 0, .slice none 0 0, .int .i64 0, .slice none 0 0, .slice none 0 0] 8 rfl (World.shaped_of_RefB (by kernel_rfl) (by kernel_rfl)) (by kernel_rfl) (by kernel_rfl) (by kernel_rfl) (door_met os _)) ?_
  intro W base args ds gs before hval0 hW hcnd hsz0 hL _
  have hsz : (DataW.weightsEach Tryd.prog (Tryd.f7.params.toList ++ Rows.valueRowsMatchSpecSpec.plain.varTypes Tryd.prog) (ds ++ gs)).all (· ≤ reachBytes) = true := hsz0
  have hval : ∀ (j : Nat) t v, Tryd.f7.params[j]? = some t → args[j]? = some v → Value.okWide Tryd.prog W .any base t v := hval0
  have hW' := hW
  obtain ⟨p, q, hA0, hV, rfl, hfz, hnd⟩ := hW
  have hA : DataW.TrodAll enc Tryd.prog W 0 (fun _ => true) true Tryd.f7.params.toList args.toList ds p := hA0
  rw [Tryd.params7] at hA hval hsz
  obtain ⟨v0, vs0, d0, ds0, p0, q0, hargs, rfl, rfl, h0, r0⟩ := trodAll_cons hA
  obtain ⟨v1, vs1, d1, ds1, p1, q1, rfl, rfl, rfl, h1, r1⟩ := trodAll_cons r0
  obtain ⟨v2, vs2, d2, ds2, p2, q2, rfl, rfl, rfl, h2, r2⟩ := trodAll_cons r1
  obtain ⟨v3, vs3, d3, ds3, p3, q3, rfl, rfl, rfl, h3, r3⟩ := trodAll_cons r2
  obtain ⟨v4, vs4, d4, ds4, p4, q4, rfl, rfl, rfl, h4, r4⟩ := trodAll_cons r3
  obtain ⟨rfl, rfl, rfl⟩ := trodAll_nil r4
  obtain rfl : args = #[v0, v1, v2, v3, v4] := Array.toList_inj.1 hargs
  obtain ⟨rfl, rfl⟩ := trodVars_none hV
  have wt0 : ∀ m ∈ d0.weights Tryd.prog 39, m ≤ reachBytes := fun m hm => of_decide_eq_true (List.all_eq_true.1 hsz m (DataW.weights_mem_each (j := 0) rfl rfl m hm))
  have k0 := h0
  have lt0 : ∀ x ∈ p0, x.block < W.heap.size := by obtain ⟨m, hm⟩ := k0; exact DataW.trod_lt m _ _ _ hm
  obtain ⟨a0, len0, cap0, rfl⟩ := okWide_slice Tryd.underlying39 (hval 0 39 v0 rfl rfl)
  obtain ⟨fu0, hf0⟩ := h0
  obtain ⟨x0, K0, g0⟩ := (op39 enc W).2 fu0 _ _ _ hf0 wt0
  obtain ⟨A0, c0, e0, hc0, hr0⟩ := K0
  obtain ⟨rfl, rfl, rfl⟩ : A0 = a0 ∧ len0 = x0.length ∧ c0 = cap0 := by have := Value.slice.inj (List.head_eq_of_cons_eq e0); exact ⟨this.1.symm, this.2.1, this.2.2.symm⟩
  have wt1 : ∀ m ∈ d1.weights Tryd.prog 39, m ≤ reachBytes := fun m hm => of_decide_eq_true (List.all_eq_true.1 hsz m (DataW.weights_mem_each (j := 1) rfl rfl m hm))
  have k1 := h1
  have lt1 : ∀ x ∈ p1, x.block < W.heap.size := by obtain ⟨m, hm⟩ := k1; exact DataW.trod_lt m _ _ _ hm
  obtain ⟨a1, len1, cap1, rfl⟩ := okWide_slice Tryd.underlying39 (hval 1 39 v1 rfl rfl)
  obtain ⟨fu1, hf1⟩ := h1
  obtain ⟨x1, K1, g1⟩ := (op39 enc W).2 fu1 _ _ _ hf1 wt1
  obtain ⟨A1, c1, e1, hc1, hr1⟩ := K1
  obtain ⟨rfl, rfl, rfl⟩ : A1 = a1 ∧ len1 = x1.length ∧ c1 = cap1 := by have := Value.slice.inj (List.head_eq_of_cons_eq e1); exact ⟨this.1.symm, this.2.1, this.2.2.symm⟩
  have wt2 : ∀ m ∈ d2.weights Tryd.prog 3, m ≤ reachBytes := fun m hm => of_decide_eq_true (List.all_eq_true.1 hsz m (DataW.weights_mem_each (j := 2) rfl rfl m hm))
  have k2 := h2
  obtain ⟨fu2, hf2⟩ := h2
  obtain ⟨x2, K2, g2⟩ := (op3 enc W).2 fu2 _ _ _ hf2 wt2
  obtain ⟨y2, rfl, rfl, rfl, w2⟩ := open_int Tryd.underlying3 (hval 2 3 v2 rfl rfl) k2
  obtain rfl : x2 = y2 := (Value.int.inj (List.head_eq_of_cons_eq K2)).2.symm
  have wt3 : ∀ m ∈ d3.weights Tryd.prog 28, m ≤ reachBytes := fun m hm => of_decide_eq_true (List.all_eq_true.1 hsz m (DataW.weights_mem_each (j := 3) rfl rfl m hm))
  have k3 := h3
  have lt3 : ∀ x ∈ p3, x.block < W.heap.size := by obtain ⟨m, hm⟩ := k3; exact DataW.trod_lt m _ _ _ hm
  obtain ⟨a3, len3, cap3, rfl⟩ := okWide_slice Tryd.underlying28 (hval 3 28 v3 rfl rfl)
  obtain ⟨fu3, hf3⟩ := h3
  obtain ⟨x3, K3, g3⟩ := (op28 enc W).2 fu3 _ _ _ hf3 wt3
  obtain ⟨A3, c3, e3, hc3, hr3⟩ := K3
  obtain ⟨rfl, rfl, rfl⟩ : A3 = a3 ∧ len3 = x3.length ∧ c3 = cap3 := by have := Value.slice.inj (List.head_eq_of_cons_eq e3); exact ⟨this.1.symm, this.2.1, this.2.2.symm⟩
  have wt4 : ∀ m ∈ d4.weights Tryd.prog 28, m ≤ reachBytes := fun m hm => of_decide_eq_true (List.all_eq_true.1 hsz m (DataW.weights_mem_each (j := 4) rfl rfl m hm))
  have k4 := h4
  have lt4 : ∀ x ∈ p4, x.block < W.heap.size := by obtain ⟨m, hm⟩ := k4; exact DataW.trod_lt m _ _ _ hm
  obtain ⟨a4, len4, cap4, rfl⟩ := okWide_slice Tryd.underlying28 (hval 4 28 v4 rfl rfl)
  obtain ⟨fu4, hf4⟩ := h4
  obtain ⟨x4, K4, g4⟩ := (op28 enc W).2 fu4 _ _ _ hf4 wt4
  obtain ⟨A4, c4, e4, hc4, hr4⟩ := K4
  obtain ⟨rfl, rfl, rfl⟩ : A4 = a4 ∧ len4 = x4.length ∧ c4 = cap4 := by have := Value.slice.inj (List.head_eq_of_cons_eq e4); exact ⟨this.1.symm, this.2.1, this.2.2.symm⟩
  clear hA0 hval0 hsz0 hsz
  obtain ⟨k, h⟩ := V.ValueRowsMatchSpec x0 x1 x2 x3 x4 g0 g1 g2 g3 g4
  refine (alumlaw19_ValueRowsMatchSpec.calls k _ _ x0 _ _ x1 x2 _ _ x3 _ _ x4 true W hr0 hc0 hr1 hc1 hr3 hc3 hr4 hc4 h).mono fun e W' ⟨he, bel⟩ => ?_
  subst he
  exact ⟨_, rfl, _, _, _, [], _, [], hW', trodAll_mk1 (shut_bool Tryd.underlying4 _), (trodAll_cons_mk (Below.trod laidOut (by kernel_rfl) (of_decide_eq_true (by kernel_rfl)) k0 bel lt0) (trodAll_cons_mk (Below.trod laidOut (by kernel_rfl) (of_decide_eq_true (by kernel_rfl)) k1 bel lt1) (trodAll_cons_mk (shut_int Tryd.underlying3 w2) (trodAll_cons_mk (Below.trod laidOut (by kernel_rfl) (of_decide_eq_true (by kernel_rfl)) k3 bel lt3) (trodAll_cons_mk (Below.trod laidOut (by kernel_rfl) (of_decide_eq_true (by kernel_rfl)) k4 bel lt4) trodAll_mk0))))), rfl, bel.frame _, fun h => by cases h⟩
theorem over : Rows.valueRowsMatchSpecRow.holds Tryd.pinned (OpenSpec.ofChange Rows.valueRowsMatchSpecSpec) :=
  OpenClaim.holds_of_wide 7 Tryd.f7 rfl rfl rfl rfl rfl rfl rfl ⟨rfl, rfl, rfl, rfl, rfl⟩ rfl rfl rfl rfl rfl (by kernel_rfl) Tryd.func7 (by kernel_rfl)
    (of_decide_eq_true (by kernel_rfl)) (by unfold Func.isWrapper; first | (rw [if_pos (by decide +kernel)]; kernel_rfl) | (rw [if_neg (by decide +kernel)]; exact ⟨rfl, rfl⟩))
    (fun os started H enc _ => lifted os started H enc)
theorem proved : Rows.ValueRowsMatchSpecSaid := over
theorem card : Rows.ValueRowsMatchSpecCardSaid :=
  Claim7.holds_tied_plain_at .later [] [.data, .data, .data] true (true, "eaa6d28c6d451e0ea154fbe0a4847d0661ee0ec78c71484efcf210b047928753") true
    proved (fun _ h => by cases h) (by kernel_rfl) (fun _ h => by cases h) valueRowsMatchSpec_row_tie rfl ⟨rfl, rfl⟩ (by kernel_rfl) rfl
    (fun f fn hf hfn => by
      obtain rfl : f = 7 := Option.some.inj ((show Tryd.prog.funcNamed "alum/alumlaw19.ValueRowsMatchSpec" = some 7 by kernel_rfl).symm.trans hf) |>.symm
      obtain rfl : fn = Tryd.f7 := (Option.some.inj (Tryd.func7.symm.trans hfn)).symm
      exact ⟨by kernel_rfl, fun j t ht => by
        rw [Tryd.params7] at ht
        have hm : t ∈ [39, 39, 3, 28, 28] := by simpa using Array.mem_of_getElem? ht
        have hall : ([39, 39, 3, 28, 28].all fun u => !Tryd.prog.wantsStandIn u) = true := by kernel_rfl
        exact (show Tryd.prog.wantsStandIn t = false by simpa using List.all_eq_true.1 hall t hm)⟩)
    (by kernel_rfl)
#print axioms card
end Go.Proofs.YtmhnfdgegejlkaaDoor.valueRowsMatchSpec
end
