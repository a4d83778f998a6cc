/- The law ValueMatchesSpec holds: at any two values and any operator the law alumlaw19.ValueMatchesSpec answers true, wherever the tied tables are laid -/
import Derived.Test.YtmhnfdgegejlkaaDoorBValueMatchesSpec0
import Derived.Test.YtmhnfdgegejlkaaDoorBValueMatchesSpec1
import Derived.Test.YtmhnfdgegejlkaaDoorBValueMatchesSpec2
import Derived.Test.YtmhnfdgegejlkaaDoorWWordsq
import Derived.WalkKit
import Derived.ProofKit
import Derived.SizedLaws
import Derived.DataReads
import Derived.OpenShut
import Derived.ShutString
import Derived.ChangeOld
import Derived.Below
import Derived.LaidMore
import Derived.Stop.Joined
import Derived.KernelRfl
import Derived.Lib.Bytealg
import Derived.Laws.BitsLemmas
import Derived.Lib.QuoteBits
import Derived.Lib.ItoaNum
import Derived.Lib.LazyBuf
import Derived.Test.YtmhnfdgegejlkaaDoorRows
import Derived.Test.YtmhnfdgegejlkaaDoorCards
import Derived.Test.YtmhnfdgegejlkaaDoorTie
import Derived.SevenTiedAt
section
namespace Go.Proofs.YtmhnfdgegejlkaaDoor.P
open Go.RowKit Go.Proofs.YtmhnfdgegejlkaaDoorW.PrintWords Go.Proofs.YtmhnfdgegejlkaaDoorW.PrintLast Go.Proofs.YtmhnfdgegejlkaaDoorW.PrintMore
attribute [local go_sem] max2_int min2_int max_two min_two max_three min_three max_four min_four
set_option linter.unusedVariables false
set_option linter.unusedSimpArgs false
def value_PrintT.l0 : Nat → List Int → Int → Int → Int → Int → ByteArray → Option (ByteArray)
 | 0, _, _, _, _, _, _ => none
 | k + 1, x3, x24, x25, x220000, x220001, x220002 => if x25 < x24 then (if 0 ≤ x25 then (if x25 < (x220002.size : Int) then ((value_plain.f (bt x220002 x25)).bind fun t225 => (if t225 = true then (if x3.length < 140737488355328 then (value_PrintT.l0 k (x3 ++ [bt x220002 x25]) x24 (wrap64 (x25 + 1)) x220000 x220001 x220002) else (none)) else (if 0 ≤ ((bt x220002 x25) / 16) then (if ((bt x220002 x25) / 16) < 16 then (if 0 ≤ (Go.bits .and .u8 (bt x220002 x25) 15) then (if (Go.bits .and .u8 (bt x220002 x25) 15) < 16 then ((some (([92, bt (⟨#[48, 49, 50, 51, 52, 53, 54, 55, 56, 57, 97, 98, 99, 100, 101, 102]⟩ : ByteArray) ((bt x220002 x25) / 16), bt (⟨#[48, 49, 50, 51, 52, 53, 54, 55, 56, 57, 97, 98, 99, 100, 101, 102]⟩ : ByteArray) (Go.bits .and .u8 (bt x220002 x25) 15)] : List Int) : List Int)).bind fun y229 => (if x3.length + y229.length < 140737488355328 then (value_PrintT.l0 k (x3 ++ y229) x24 (wrap64 (x25 + 1)) x220000 x220001 x220002) else (none))) else (none)) else (none)) else (none)) else (none)))) else (none)) else (none)) else (if x3.length < 140737488355328 then (some (strOfNums (x3 ++ [39]))) else (none))
def value_PrintT.f (k : Nat) (a0_0 : Int) (a0_1 : Int) (a0_2 : ByteArray) : Option (ByteArray) := if a0_0 = 1 then ((strconv_ItoaT.f a0_1).bind fun t220 => (some t220)) else (if a0_0 = 3 then ((strconv_FormatBool.f (a0_1 == 1)).bind fun t221 => (some t221)) else (if a0_0 = 0 then (some (⟨#[110, 117, 108, 108]⟩ : ByteArray)) else (value_PrintT.l0 k (([39] : List Int)) (a0_2.size : Int) 0 a0_0 a0_1 a0_2)))
def value_PrintT.T15 : Bool × List (List Nat × List Nat) := (true, [([], []), ([], []), ([1], [1]), ([2], [2]), ([], []), ([4], [4]), ([5], [5]), ([3, 6], [3, 6]), ([0, 7], [0, 7]), ([8, 8, 0, 1, 2, 3, 4, 5, 6, 7, 8], [0, 8])])
def value_PrintT.B15 : List Nat := [0, 0, 2, 6, 0, 16, 48, 126, 255, 511]
theorem value_PrintT.tab15 : rtab .any (opsOf Tryd.f29 15) = value_PrintT.T15 := by kernel_rfl
theorem value_PrintT.bits15 : waitsOk value_PrintT.T15.2 value_PrintT.B15 = true := by kernel_rfl
set_option maxHeartbeats 8000000 in
set_option maxRecDepth 100000 in
theorem value_PrintT.calls (k : Nat) (a0_0 : Int) (a0_1 : Int) (a0_2 : ByteArray) (r : ByteArray) (w : World) (htab : TabW w) (h : value_PrintT.f k a0_0 a0_1 a0_2 = some r) :
  Calls Tryd.prog 29 #[.agg #[.int .i64 a0_0, .int .i64 a0_1, .string a0_2]] w fun e w' => e = .returned (.string r) ∧ Below w.heap.size w w' := by
 have hu23 := Tryd.underlying23
 have HB := Aside0.mk (Below.refl w.heap.size w)
 have HTAB := Aside0.mk htab
 clear htab
 have H : (if a0_0 = 1 then ((strconv_ItoaT.f a0_1).bind fun t220 => (some t220)) else (if a0_0 = 3 then ((strconv_FormatBool.f (a0_1 == 1)).bind fun t221 => (some t221)) else (if a0_0 = 0 then (some (⟨#[110, 117, 108, 108]⟩ : ByteArray)) else (value_PrintT.l0 k (([39] : List Int)) (a0_2.size : Int) 0 a0_0 a0_1 a0_2)))) = some r := h
 clear h
 by_cases c2 : a0_0 = 1
 ·rw [if_pos c2] at H
  have c2b0 : (a0_0 == 1) = true := beq_iff_eq.mpr c2
  have c2b1 : (a0_0 != 1) = false := bne_eq_false_iff_eq.mpr c2
  clear c2
  replace H := Option.bind_eq_some_iff.mp H
  obtain ⟨t220, A30, H⟩ := H
  replace H : (some t220) = some r := H
  have A3 := Aside0.mk A30
  clear A30
  obtain rfl := Option.some.inj H
  go_enter Tryd.func29, Tryd.ntmps29
  go_wp2_with (first | ((with_reducible refine gate_dst (N := 1) rfl ?_); refine box_event ?hg (N := 1) ?hd (cs := #[.int .i64 a0_0, .int .i64 a0_1, .string a0_2]) (t := 23) ?hr ?_; (case hd => rfl); (case hg => rfl); (case hr => first | (go_simp; done) | (go_simp; rfl)); intro gb219 hg w4 hbox hb; have BK219 := Aside0.mk (hbox); have GW219 := (sizeB HB hg : Aside0 (w.heap.size ≤ gb219)); have GE219 := (sizeB HB hg : Aside0 (w.heap.size ≤ gb219)); replace HB := stepB HB hb; clear hb hbox hg; have hcz5_0 : w4.cell? ⟨gb219, 0, none⟩ = some (.int .i64 a0_0) := (blk_cell BK219.out 0).trans rfl; have hcz5_1 : w4.cell? ⟨gb219, 1, none⟩ = some (.int .i64 a0_1) := (blk_cell BK219.out 1).trans rfl; have hcz5_2 : w4.cell? ⟨gb219, 2, none⟩ = some (.string a0_2) := (blk_cell BK219.out 2).trans rfl; have hfz5_0 := blk_frozen BK219.out 0; have hfz5_1 := blk_frozen BK219.out 1; have hfz5_2 := blk_frozen BK219.out 2) | ((with_reducible refine gate_callee (f := 53) rfl ?_); refine goesL_ (some 12) rfl rfl Tryd.func53 (by kernel_rfl) rfl #[.int .i64 a0_1] rfl (by (try simp only [List.map_toArray, List.map_cons, List.map_nil]); first | done | rfl | (simp only [List.length_drop, List.length_take]; rfl)) ?_; (with_reducible refine (strconv_ItoaT.calls (htab := tab_below HTAB.out (by repeat (first | (with_reducible first | exact HB.out | apply below_alloc | apply pw_below_drewN | apply below_drew1 | refine below_set ?_ GE219.out) | exact HB.out))) a0_1 t220 _ A3.out).mono ?_); rintro e w6 ⟨rfl, hb⟩; refine ⟨_, rfl, ?_⟩; replace BK219 := blkB BK219 hb; replace HB := stepB HB hb; (try clear hb); (try clear hb2); (try clear hk); (try clear hi)))
  go_ret
  exact ⟨by first | rfl | (simp [errW_none, errW_some] <;> rfl) | (simp [*, errW_none, errW_some] <;> rfl), by repeat (first | (with_reducible first | exact HB.out | apply below_alloc | apply pw_below_drewN | apply below_drew1 | refine below_set ?_ GE219.out) | exact HB.out)⟩
 ·rw [if_neg c2] at H
  have c2b0 : (a0_0 == 1) = false := beq_eq_false_iff_ne.mpr c2
  have c2b1 : (a0_0 != 1) = true := bne_iff_ne.mpr c2
  by_cases c7 : a0_0 = 3
  ·rw [if_pos c7] at H
   have c7b0 : (a0_0 == 3) = true := beq_iff_eq.mpr c7
   have c7b1 : (a0_0 != 3) = false := bne_eq_false_iff_eq.mpr c7
   clear c7
   replace H := Option.bind_eq_some_iff.mp H
   obtain ⟨t221, A80, H⟩ := H
   replace H : (some t221) = some r := H
   have A8 := Aside0.mk A80
   clear A80
   obtain rfl := Option.some.inj H
   go_enter Tryd.func29, Tryd.ntmps29
   go_wp2_with (first | ((with_reducible refine gate_dst (N := 1) rfl ?_); refine box_event ?hg (N := 1) ?hd (cs := #[.int .i64 a0_0, .int .i64 a0_1, .string a0_2]) (t := 23) ?hr ?_; (case hd => rfl); (case hg => rfl); (case hr => first | (go_simp; done) | (go_simp; rfl)); intro gb219 hg w9 hbox hb; have BK219 := Aside0.mk (hbox); have GW219 := (sizeB HB hg : Aside0 (w.heap.size ≤ gb219)); have GE219 := (sizeB HB hg : Aside0 (w.heap.size ≤ gb219)); replace HB := stepB HB hb; clear hb hbox hg; have hcz10_0 : w9.cell? ⟨gb219, 0, none⟩ = some (.int .i64 a0_0) := (blk_cell BK219.out 0).trans rfl; have hcz10_1 : w9.cell? ⟨gb219, 1, none⟩ = some (.int .i64 a0_1) := (blk_cell BK219.out 1).trans rfl; have hcz10_2 : w9.cell? ⟨gb219, 2, none⟩ = some (.string a0_2) := (blk_cell BK219.out 2).trans rfl; have hfz10_0 := blk_frozen BK219.out 0; have hfz10_1 := blk_frozen BK219.out 1; have hfz10_2 := blk_frozen BK219.out 2) | ((with_reducible refine gate_callee (f := 54) rfl ?_); refine goesL_ (some 18) rfl rfl Tryd.func54 (by kernel_rfl) rfl #[.bool (a0_1 == 1)] rfl (by (try simp only [List.map_toArray, List.map_cons, List.map_nil]); first | done | rfl | (simp only [List.length_drop, List.length_take]; rfl)) ?_; (with_reducible refine (strconv_FormatBool.calls (a0_1 == 1) t221 _ A8.out).mono ?_); rintro e w' ⟨rfl, ⟨nd, rfl⟩⟩; refine ⟨_, rfl, ?_⟩))
   go_ret
   exact ⟨by first | rfl | (simp [errW_none, errW_some] <;> rfl) | (simp [*, errW_none, errW_some] <;> rfl), by repeat (first | (with_reducible first | exact HB.out | apply below_alloc | apply pw_below_drewN | apply below_drew1 | refine below_set ?_ GE219.out) | exact HB.out)⟩
  ·rw [if_neg c7] at H
   have c7b0 : (a0_0 == 3) = false := beq_eq_false_iff_ne.mpr c7
   have c7b1 : (a0_0 != 3) = true := bne_iff_ne.mpr c7
   by_cases c11 : a0_0 = 0
   ·rw [if_pos c11] at H
    have c11b0 : (a0_0 == 0) = true := beq_iff_eq.mpr c11
    have c11b1 : (a0_0 != 0) = false := bne_eq_false_iff_eq.mpr c11
    clear c11
    obtain rfl := Option.some.inj H
    go_enter Tryd.func29, Tryd.ntmps29
    go_wp2_with (first | ((with_reducible refine gate_dst (N := 1) rfl ?_); refine box_event ?hg (N := 1) ?hd (cs := #[.int .i64 a0_0, .int .i64 a0_1, .string a0_2]) (t := 23) ?hr ?_; (case hd => rfl); (case hg => rfl); (case hr => first | (go_simp; done) | (go_simp; rfl)); intro gb219 hg w12 hbox hb; have BK219 := Aside0.mk (hbox); have GW219 := (sizeB HB hg : Aside0 (w.heap.size ≤ gb219)); have GE219 := (sizeB HB hg : Aside0 (w.heap.size ≤ gb219)); replace HB := stepB HB hb; clear hb hbox hg; have hcz13_0 : w12.cell? ⟨gb219, 0, none⟩ = some (.int .i64 a0_0) := (blk_cell BK219.out 0).trans rfl; have hcz13_1 : w12.cell? ⟨gb219, 1, none⟩ = some (.int .i64 a0_1) := (blk_cell BK219.out 1).trans rfl; have hcz13_2 : w12.cell? ⟨gb219, 2, none⟩ = some (.string a0_2) := (blk_cell BK219.out 2).trans rfl; have hfz13_0 := blk_frozen BK219.out 0; have hfz13_1 := blk_frozen BK219.out 1; have hfz13_2 := blk_frozen BK219.out 2))
    go_ret
    exact ⟨by first | rfl | (simp [errW_none, errW_some] <;> rfl) | (simp [*, errW_none, errW_some] <;> rfl), by repeat (first | (with_reducible first | exact HB.out | apply below_alloc | apply pw_below_drewN | apply below_drew1 | refine below_set ?_ GE219.out) | exact HB.out)⟩
   ·rw [if_neg c11] at H
    have c11b0 : (a0_0 == 0) = false := beq_eq_false_iff_ne.mpr c11
    have c11b1 : (a0_0 != 0) = true := bne_iff_ne.mpr c11
    obtain ⟨y222, hy222⟩ : ∃ y_ : List Int, y_ = (([39] : List Int)) := ⟨_, rfl⟩
    replace H : (value_PrintT.l0 k y222 (a0_2.size : Int) 0 a0_0 a0_1 a0_2) = some r := by first | (rw [hy222]; with_reducible exact H) | (have H2_ := (Option.bind_some _ _).symm.trans H; rw [hy222]; with_reducible exact H2_) | (have H2_ := (Option.bind_some _ _).symm.trans H; with_reducible exact H2_) | with_reducible exact H | (rw [hy222]; exact H) | exact H
    have Ny222 := Aside0.mk hy222
    clear hy222
    have H' := Aside0.mk H
    clear H
    go_enter Tryd.func29, Tryd.ntmps29
    go_wp2_with (first | ((with_reducible refine gate_dst (N := 1) rfl ?_); refine box_event ?hg (N := 1) ?hd (cs := #[.int .i64 a0_0, .int .i64 a0_1, .string a0_2]) (t := 23) ?hr ?_; (case hd => rfl); (case hg => rfl); (case hr => first | (go_simp; done) | (go_simp; rfl)); intro gb219 hg w14 hbox hb; have BK219 := Aside0.mk (hbox); have GW219 := (sizeB HB hg : Aside0 (w.heap.size ≤ gb219)); have GE219 := (sizeB HB hg : Aside0 (w.heap.size ≤ gb219)); replace HB := stepB HB hb; clear hb hbox hg; have hcz15_0 : w14.cell? ⟨gb219, 0, none⟩ = some (.int .i64 a0_0) := (blk_cell BK219.out 0).trans rfl; have hcz15_1 : w14.cell? ⟨gb219, 1, none⟩ = some (.int .i64 a0_1) := (blk_cell BK219.out 1).trans rfl; have hcz15_2 : w14.cell? ⟨gb219, 2, none⟩ = some (.string a0_2) := (blk_cell BK219.out 2).trans rfl; have hfz15_0 := blk_frozen BK219.out 0; have hfz15_1 := blk_frozen BK219.out 1; have hfz15_2 := blk_frozen BK219.out 2) | ((with_reducible refine gate_dst (N := 21) rfl ?_); refine Kd.R_lit (Kd.int .u8) _ 5 ?hg (N := 21) ?hd (xs := ([39] : List Int)) (inner := [.int .u8 39]) (ok := fun _ => True) (okp := fun _ => True) ?hr ?hp (fun _ hk => hk) trivial (Below.refl _ _) (Nat.le_refl _) (by simp) ?_; (case hd => rfl); (case hg => rfl); (case hr => first | (go_simp; done) | (go_simp; rfl)); (case hp => exact (Reps.one (show Kd.M (Kd.int .u8) _ _ _ 39 [.int .u8 39] from rfl) (Reps.none _ _))); intro v223 w16 ho17 hb hg_ hnew_; clear hg_ hnew_; (first | rw [← Ny222.out] at ho17 | (simp only [Int.reduceToNat] at ho17; rw [← Ny222.out] at ho17)); have HO224 := Aside0.mk (Kd.R_lower ho17 (below_size (by repeat (first | (with_reducible first | exact HB.out | apply below_alloc | apply pw_below_drewN | apply below_drew1 | refine below_set ?_ GE219.out) | exact HB.out)))); replace BK219 := blkB BK219 hb; replace HB := stepB HB hb; clear hb ho17; have hcz18_0 : w16.cell? ⟨gb219, 0, none⟩ = some (.int .i64 a0_0) := (blk_cell BK219.out 0).trans rfl; have hcz18_1 : w16.cell? ⟨gb219, 1, none⟩ = some (.int .i64 a0_1) := (blk_cell BK219.out 1).trans rfl; have hcz18_2 : w16.cell? ⟨gb219, 2, none⟩ = some (.string a0_2) := (blk_cell BK219.out 2).trans rfl; have hfz18_0 := blk_frozen BK219.out 0; have hfz18_1 := blk_frozen BK219.out 1; have hfz18_2 := blk_frozen BK219.out 2))
    go_loopg [3, 25] k (fun kq v3 v25 w' => ∃ (x3_1 : List Int) (x25_1 : Int), v25 = .int .i64 x25_1 ∧ Aside0 (value_PrintT.l0 kq x3_1 (a0_2.size : Int) x25_1 a0_0 a0_1 a0_2 = some r) ∧ Aside0 (kq ≤ k) ∧ Aside0 (Kd.R (Kd.int .u8) 5 w' w.heap.size (fun _ => True) v3 x3_1) ∧ Aside0 (w'.heap[gb219]? = some (.cells #[.int .i64 a0_0, .int .i64 a0_1, .string a0_2] 23 (0, 0))) ∧ Aside0 (Below w.heap.size w w'))
    case atStart => exact ⟨(y222), (0), (by first | rfl | (simp; done) | (simp [*]; done)), H', ⟨Nat.le_refl _⟩, ⟨by (with_reducible repeat (first | apply Kd.R_alloc | apply Kd.R_drewN | apply Kd.R_drew)); exact HO224.out⟩, ⟨by (with_reducible repeat (first | refine blk_drewN ?_ _ | refine blk_drew ?_ | refine blk_alloc ?_ _)); exact BK219.out⟩, ⟨by repeat (first | (with_reducible first | exact HB.out | apply below_alloc | apply pw_below_drewN | apply below_drew1 | refine below_set ?_ GE219.out) | exact HB.out)⟩⟩
    case round =>
     clear H'
     try clear c1
     try clear c2
     try clear c2b0
     try clear c2b1
     try clear p2
     try clear c5
     try clear c7
     try clear c7b0
     try clear c7b1
     try clear c11
     try clear c11b0
     try clear c11b1
     try clear hcz10_0
     try clear hcz10_1
     try clear hcz10_2
     try clear hcz13_0
     try clear hcz13_1
     try clear hcz13_2
     try clear hcz15_0
     try clear hcz15_1
     try clear hcz15_2
     try clear hcz18_0
     try clear hcz18_1
     try clear hcz18_2
     try clear hcz5_0
     try clear hcz5_1
     try clear hcz5_2
     try clear hfz10_0
     try clear hfz10_1
     try clear hfz10_2
     try clear hfz13_0
     try clear hfz13_1
     try clear hfz13_2
     try clear hfz15_0
     try clear hfz15_1
     try clear hfz15_2
     try clear hfz18_0
     try clear hfz18_1
     try clear hfz18_2
     try clear hfz5_0
     try clear hfz5_1
     try clear hfz5_2
     obtain ⟨x3_1, x25_1, rfl, HA, HK1, HO_3, BK219, HB⟩ := hrel
     cases gk with
     | zero => exact absurd HA.out (by simp [value_PrintT.l0])
     | succ k1 =>
      have H := HA.out
      clear HA
      simp only [value_PrintT.l0] at H
      by_cases c19 : x25_1 < (a0_2.size : Int)
      ·rw [if_pos c19] at H
       have c19b0 : decide (x25_1 < (a0_2.size : Int)) = true := decide_eq_true c19
       clear c19
       by_cases c20 : 0 ≤ x25_1
       ·rw [if_pos c20] at H
        have c20b0 : decide (0 ≤ x25_1) = true := decide_eq_true c20
        clear c20
        by_cases c21 : x25_1 < (a0_2.size : Int)
        ·rw [if_pos c21] at H
         have c21b0 : decide (x25_1 < (a0_2.size : Int)) = true := decide_eq_true c21
         clear c21
         replace H := Option.bind_eq_some_iff.mp H
         obtain ⟨t225, A230, H⟩ := H
         replace H : (if t225 = true then (if x3_1.length < 140737488355328 then (value_PrintT.l0 k1 (x3_1 ++ [bt a0_2 x25_1]) (a0_2.size : Int) (wrap64 (x25_1 + 1)) a0_0 a0_1 a0_2) else (none)) else (if 0 ≤ ((bt a0_2 x25_1) / 16) then (if ((bt a0_2 x25_1) / 16) < 16 then (if 0 ≤ (Go.bits .and .u8 (bt a0_2 x25_1) 15) then (if (Go.bits .and .u8 (bt a0_2 x25_1) 15) < 16 then ((some (([92, bt (⟨#[48, 49, 50, 51, 52, 53, 54, 55, 56, 57, 97, 98, 99, 100, 101, 102]⟩ : ByteArray) ((bt a0_2 x25_1) / 16), bt (⟨#[48, 49, 50, 51, 52, 53, 54, 55, 56, 57, 97, 98, 99, 100, 101, 102]⟩ : ByteArray) (Go.bits .and .u8 (bt a0_2 x25_1) 15)] : List Int) : List Int)).bind fun y229 => (if x3_1.length + y229.length < 140737488355328 then (value_PrintT.l0 k1 (x3_1 ++ y229) (a0_2.size : Int) (wrap64 (x25_1 + 1)) a0_0 a0_1 a0_2) else (none))) else (none)) else (none)) else (none)) else (none))) = some r := H
         have A23 := Aside0.mk A230
         clear A230
         by_cases c24 : t225 = true
         ·subst c24
          have H1 : (if x3_1.length < 140737488355328 then (value_PrintT.l0 k1 (x3_1 ++ [bt a0_2 x25_1]) (a0_2.size : Int) (wrap64 (x25_1 + 1)) a0_0 a0_1 a0_2) else (none)) = some r := by rw [if_pos rfl] at H; exact H
          clear H
          have H := H1
          clear H1
          by_cases c25 : x3_1.length < 140737488355328
          ·rw [if_pos c25] at H
           have LMc25 := Aside0.mk c25
           clear c25
           obtain ⟨y226, hy226⟩ : ∃ y_ : List Int, y_ = (x3_1 ++ [bt a0_2 x25_1]) := ⟨_, rfl⟩
           replace H : (value_PrintT.l0 k1 y226 (a0_2.size : Int) (wrap64 (x25_1 + 1)) a0_0 a0_1 a0_2) = some r := by first | (rw [hy226]; with_reducible exact H) | (have H2_ := (Option.bind_some _ _).symm.trans H; rw [hy226]; with_reducible exact H2_) | (have H2_ := (Option.bind_some _ _).symm.trans H; with_reducible exact H2_) | with_reducible exact H | (rw [hy226]; exact H) | exact H
           have Ny226 := Aside0.mk hy226
           clear hy226
           have H' := Aside0.mk H
           clear H
           have hcz26_0 : wr.cell? ⟨gb219, 0, none⟩ = some (.int .i64 a0_0) := (blk_cell BK219.out 0).trans rfl
           have hcz26_1 : wr.cell? ⟨gb219, 1, none⟩ = some (.int .i64 a0_1) := (blk_cell BK219.out 1).trans rfl
           have hcz26_2 : wr.cell? ⟨gb219, 2, none⟩ = some (.string a0_2) := (blk_cell BK219.out 2).trans rfl
           have hfz26_0 := blk_frozen BK219.out 0
           have hfz26_1 := blk_frozen BK219.out 1
           have hfz26_2 := blk_frozen BK219.out 2
           have p22 : 0 ≤ (x25_1 : Int) := of_decide_eq_true (by first | (with_reducible assumption) | assumption)
           have q22 : x25_1 < (a0_2.size : Int) := of_decide_eq_true (by first | (with_reducible assumption) | assumption)
           have hx22 := bt_at a0_2 x25_1
           replace p22 := eq_true p22
           replace q22 := eq_true q22
           go_wp2_with (first | ((with_reducible refine gate_callee (f := 55) rfl ?_); refine goesL_ (some 33) rfl rfl Tryd.func55 (by kernel_rfl) rfl #[.int .u8 (bt a0_2 x25_1)] rfl (by (try simp only [List.map_toArray, List.map_cons, List.map_nil]); first | done | rfl | (simp only [List.length_drop, List.length_take]; rfl)) ?_; (with_reducible refine (value_plain.calls (bt a0_2 x25_1) true _ A23.out).mono ?_); rintro e w' ⟨rfl, ⟨nd, rfl⟩⟩; refine ⟨_, rfl, ?_⟩) | ((with_reducible refine gate_builtin (b := .append) (xs := #[.tmp 34, .tmp 36]) rfl ?_); at_builtin; refine Kd.R_append (Kd.int .u8) (w0 := w) w.heap.size rfl (.tmp 34) (.tmp 36) 63 5 (.int .u8 0) 1 rfl Tryd.underlying63 info5 rfl (by decide) (by omega) u3 x3_1 (bt a0_2 x25_1) [.int .u8 (bt a0_2 x25_1)] (fun _ => True) (fun _ => False) rfl rfl ?aP (fun _ hk => hk.elim) ?aF ?aO ?aB ?aS ?aL ?_; (case aP => exact rfl); (case aB => exact (by repeat (first | (with_reducible first | exact HB.out | apply below_alloc | apply pw_below_drewN | apply below_drew1 | refine below_set ?_ GE219.out) | exact HB.out))); (case aF => exact (fun _ _ => trivial)); (case aO => exact (by (with_reducible repeat (first | apply Kd.R_alloc | apply Kd.R_drewN | apply Kd.R_drew)); exact HO_3.out)); (case aS => exact (below_size (by repeat (first | (with_reducible first | exact HB.out | apply below_alloc | apply pw_below_drewN | apply below_drew1 | refine below_set ?_ GE219.out) | exact HB.out)))); (case aL => have := LMc25.out; omega); intro v227 w27 ho hb hg hat; rw [← Ny226.out] at ho; have HO228 := Aside0.mk (ho); replace BK219 := Aside0.mk (blk_grown (g := gb219) (o := .cells #[.int .i64 a0_0, .int .i64 a0_1, .string a0_2] 23 (0, 0)) (by (with_reducible repeat (first | refine blk_drewN ?_ _ | refine blk_drew ?_ | refine blk_alloc ?_ _)); exact BK219.out) hg (Kd.R_ne HO_3.out BK219.out (by decide))); replace HB := Aside0.mk (hb); clear HO_3; clear ho hb hg hat))
           go_roundg k1
           case measure => have := HK1.out; omega
           case rel => exact ⟨(y226), (wrap64 (x25_1 + 1)), (by first | rfl | (simp; done) | (simp [*]; done)), H', ⟨by have := HK1.out; omega⟩, ⟨by (with_reducible repeat (first | apply Kd.R_alloc | apply Kd.R_drewN | apply Kd.R_drew)); exact HO228.out⟩, ⟨by (with_reducible repeat (first | refine blk_drewN ?_ _ | refine blk_drew ?_ | refine blk_alloc ?_ _)); exact BK219.out⟩, ⟨by repeat (first | (with_reducible first | exact HB.out | apply below_alloc | apply pw_below_drewN | apply below_drew1 | refine below_set ?_ GE219.out) | exact HB.out)⟩⟩
          ·rw [if_neg c25] at H
           exact absurd H (by simp)
         ·replace c24 := Bool.eq_false_iff.mpr c24
          subst c24
          have H1 : (if 0 ≤ ((bt a0_2 x25_1) / 16) then (if ((bt a0_2 x25_1) / 16) < 16 then (if 0 ≤ (Go.bits .and .u8 (bt a0_2 x25_1) 15) then (if (Go.bits .and .u8 (bt a0_2 x25_1) 15) < 16 then ((some (([92, bt (⟨#[48, 49, 50, 51, 52, 53, 54, 55, 56, 57, 97, 98, 99, 100, 101, 102]⟩ : ByteArray) ((bt a0_2 x25_1) / 16), bt (⟨#[48, 49, 50, 51, 52, 53, 54, 55, 56, 57, 97, 98, 99, 100, 101, 102]⟩ : ByteArray) (Go.bits .and .u8 (bt a0_2 x25_1) 15)] : List Int) : List Int)).bind fun y229 => (if x3_1.length + y229.length < 140737488355328 then (value_PrintT.l0 k1 (x3_1 ++ y229) (a0_2.size : Int) (wrap64 (x25_1 + 1)) a0_0 a0_1 a0_2) else (none))) else (none)) else (none)) else (none)) else (none)) = some r := by rw [if_neg (show ¬ (false = true) by decide)] at H; exact H
          clear H
          have H := H1
          clear H1
          obtain ⟨ji28, hji28⟩ : ∃ j_ : Int, ((bt a0_2 x25_1) / 16) = j_ := ⟨_, rfl⟩
          replace H : (if 0 ≤ (ji28) then (if (ji28) < 16 then (if 0 ≤ (Go.bits .and .u8 (bt a0_2 x25_1) 15) then (if (Go.bits .and .u8 (bt a0_2 x25_1) 15) < 16 then ((some (([92, bt (⟨#[48, 49, 50, 51, 52, 53, 54, 55, 56, 57, 97, 98, 99, 100, 101, 102]⟩ : ByteArray) (ji28), bt (⟨#[48, 49, 50, 51, 52, 53, 54, 55, 56, 57, 97, 98, 99, 100, 101, 102]⟩ : ByteArray) (Go.bits .and .u8 (bt a0_2 x25_1) 15)] : List Int) : List Int)).bind fun y229 => (if x3_1.length + y229.length < 140737488355328 then (value_PrintT.l0 k1 (x3_1 ++ y229) (a0_2.size : Int) (wrap64 (x25_1 + 1)) a0_0 a0_1 a0_2) else (none))) else (none)) else (none)) else (none)) else (none)) = some r := by first | (rw [hji28] at H; exact H) | (simp only [hji28] at H ⊢; exact H)
          (try rw [hji28] at A23)
          by_cases c29 : 0 ≤ (ji28)
          ·rw [if_pos c29] at H
           have c29b0 : decide (0 ≤ (ji28)) = true := decide_eq_true c29
           clear c29
           by_cases c30 : (ji28) < 16
           ·rw [if_pos c30] at H
            have c30b0 : decide ((ji28) < 16) = true := decide_eq_true c30
            clear c30
            by_cases c32 : 0 ≤ (Go.bits .and .u8 (bt a0_2 x25_1) 15)
            ·rw [if_pos c32] at H
             have c32b0 : decide (0 ≤ (Go.bits .and .u8 (bt a0_2 x25_1) 15)) = true := decide_eq_true c32
             clear c32
             by_cases c33 : (Go.bits .and .u8 (bt a0_2 x25_1) 15) < 16
             ·rw [if_pos c33] at H
              have c33b0 : decide ((Go.bits .and .u8 (bt a0_2 x25_1) 15) < 16) = true := decide_eq_true c33
              clear c33
              obtain ⟨y229, hy229⟩ : ∃ y_ : List Int, y_ = (([92, bt (⟨#[48, 49, 50, 51, 52, 53, 54, 55, 56, 57, 97, 98, 99, 100, 101, 102]⟩ : ByteArray) (ji28), bt (⟨#[48, 49, 50, 51, 52, 53, 54, 55, 56, 57, 97, 98, 99, 100, 101, 102]⟩ : ByteArray) (Go.bits .and .u8 (bt a0_2 x25_1) 15)] : List Int)) := ⟨_, rfl⟩
              replace H : (if x3_1.length + y229.length < 140737488355328 then (value_PrintT.l0 k1 (x3_1 ++ y229) (a0_2.size : Int) (wrap64 (x25_1 + 1)) a0_0 a0_1 a0_2) else (none)) = some r := by first | (rw [hy229]; with_reducible exact H) | (have H2_ := (Option.bind_some _ _).symm.trans H; rw [hy229]; with_reducible exact H2_) | (have H2_ := (Option.bind_some _ _).symm.trans H; with_reducible exact H2_) | with_reducible exact H | (rw [hy229]; exact H) | exact H
              have Ny229 := Aside0.mk hy229
              clear hy229
              by_cases c35 : x3_1.length + y229.length < 140737488355328
              ·rw [if_pos c35] at H
               have LMc35 := Aside0.mk c35
               clear c35
               obtain ⟨y232, hy232⟩ : ∃ y_ : List Int, y_ = (x3_1 ++ y229) := ⟨_, rfl⟩
               replace H : (value_PrintT.l0 k1 y232 (a0_2.size : Int) (wrap64 (x25_1 + 1)) a0_0 a0_1 a0_2) = some r := by first | (rw [hy232]; with_reducible exact H) | (have H2_ := (Option.bind_some _ _).symm.trans H; rw [hy232]; with_reducible exact H2_) | (have H2_ := (Option.bind_some _ _).symm.trans H; with_reducible exact H2_) | with_reducible exact H | (rw [hy232]; exact H) | exact H
               have Ny232 := Aside0.mk hy232
               clear hy232
               have H' := Aside0.mk H
               clear H
               have hcz36_0 : wr.cell? ⟨gb219, 0, none⟩ = some (.int .i64 a0_0) := (blk_cell BK219.out 0).trans rfl
               have hcz36_1 : wr.cell? ⟨gb219, 1, none⟩ = some (.int .i64 a0_1) := (blk_cell BK219.out 1).trans rfl
               have hcz36_2 : wr.cell? ⟨gb219, 2, none⟩ = some (.string a0_2) := (blk_cell BK219.out 2).trans rfl
               have hfz36_0 := blk_frozen BK219.out 0
               have hfz36_1 := blk_frozen BK219.out 1
               have hfz36_2 := blk_frozen BK219.out 2
               have p22 : 0 ≤ (x25_1 : Int) := of_decide_eq_true (by first | (with_reducible assumption) | assumption)
               have q22 : x25_1 < (a0_2.size : Int) := of_decide_eq_true (by first | (with_reducible assumption) | assumption)
               have hx22 := bt_at a0_2 x25_1
               replace p22 := eq_true p22
               replace q22 := eq_true q22
               try go_wp2_with (first | ((with_reducible refine gate_callee (f := 55) rfl ?_); refine goesL_ (some 33) rfl rfl Tryd.func55 (by kernel_rfl) rfl #[.int .u8 (bt a0_2 x25_1)] rfl (by (try simp only [List.map_toArray, List.map_cons, List.map_nil]); first | done | rfl | (simp only [List.length_drop, List.length_take]; rfl)) ?_; (with_reducible refine (value_plain.calls (bt a0_2 x25_1) false _ A23.out).mono ?_); rintro e w' ⟨rfl, ⟨nd, rfl⟩⟩; refine ⟨_, rfl, ?_⟩))
               (try (rw [drewN_self wr]; generalize hq_ : World.drewN wr _ = wr; replace HO_3 : Aside0 (Kd.R (Kd.int .u8) 5 wr w.heap.size (fun _ => True) u3 x3_1) := ⟨by rw [← hq_]; exact (by (with_reducible repeat (first | apply Kd.R_alloc | apply Kd.R_drewN | apply Kd.R_drew)); exact HO_3.out)⟩; replace BK219 : Aside0 (wr.heap[gb219]? = some (.cells #[.int .i64 a0_0, .int .i64 a0_1, .string a0_2] 23 (0, 0))) := ⟨by rw [← hq_]; exact (by (with_reducible repeat (first | refine blk_drewN ?_ _ | refine blk_drew ?_ | refine blk_alloc ?_ _)); exact BK219.out)⟩; replace HB : Aside0 (Below w.heap.size w wr) := ⟨by rw [← hq_]; exact (by repeat (first | (with_reducible first | exact HB.out | apply below_alloc | apply pw_below_drewN | apply below_drew1 | refine below_set ?_ GE219.out) | exact HB.out))⟩; clear hq_))
               replace HO_3 := Aside0.mk (Kd.R_drew HO_3.out)
               replace BK219 := Aside0.mk (blk_drew BK219.out)
               replace HB := Aside0.mk (below_drew1 HB.out)
               have p31 : 0 ≤ ((ji28) : Int) := of_decide_eq_true (by first | (with_reducible assumption) | assumption)
               have q31 : (ji28) < (16 : Int) := of_decide_eq_true (by first | (with_reducible assumption) | assumption)
               have hx31 := bt_at (⟨#[48, 49, 50, 51, 52, 53, 54, 55, 56, 57, 97, 98, 99, 100, 101, 102]⟩ : ByteArray) (ji28)
               replace p31 := eq_true p31
               replace q31 := eq_true q31
               have p34 : 0 ≤ ((Go.bits .and .u8 (bt a0_2 x25_1) 15) : Int) := of_decide_eq_true (by first | (with_reducible assumption) | assumption)
               have q34 : (Go.bits .and .u8 (bt a0_2 x25_1) 15) < (16 : Int) := of_decide_eq_true (by first | (with_reducible assumption) | assumption)
               have hx34 := bt_at (⟨#[48, 49, 50, 51, 52, 53, 54, 55, 56, 57, 97, 98, 99, 100, 101, 102]⟩ : ByteArray) (Go.bits .and .u8 (bt a0_2 x25_1) 15)
               replace p34 := eq_true p34
               replace q34 := eq_true q34
               refine start_ (n := 10) (S := fun w' => True) (ds := []) #[false, false, false, false, false, false, false, false, false, false] (by kernel_rfl) rfl rfl trivial (fun hHeld => ?_); refine with_tabW value_PrintT.tab15 value_PrintT.bits15 (fun HT_ HW_ => ?_)
               generalize wr.drew = w37 at HO_3 BK219 HB hHeld ⊢
               refine pure_ (i := 0) (N := some 38) (v := ?_) (a' := ?_) #[true, false, false, false, false, false, false, false, false, false] rfl rfl (any_of HT_.out (by kernel_rfl)) (fun _ _ _ h => h) (Or.inl ⟨by rfl, ?_⟩) ?_ ?_
               rotate_left
               ·intro w'
                go_simp
                with_reducible rfl
               rotate_left
               ·simp only [Act.put, List.setIfInBounds_toArray, List.set_cons_zero, List.set_cons_succ, i64_w, i32_w]
                rfl
               refine pure_ (i := 1) (N := some 39) (v := ?_) (a' := ?_) #[true, true, false, false, false, false, false, false, false, false] rfl rfl (any_of HT_.out (by kernel_rfl)) (fun _ _ _ h => h) (Or.inl ⟨by rfl, ?_⟩) ?_ ?_
               rotate_left
               ·intro w'
                go_simp
                with_reducible rfl
               rotate_left
               ·simp only [Act.put, List.setIfInBounds_toArray, List.set_cons_zero, List.set_cons_succ, i64_w, i32_w]
                rfl
               refine pure_ (i := 2) (N := some 40) (v := ?_) (a' := ?_) #[true, true, true, false, false, false, false, false, false, false] rfl rfl (any_of HT_.out (by kernel_rfl)) (fun _ _ _ h => h) (Or.inl ⟨by rfl, ?_⟩) ?_ ?_
               rotate_left
               ·intro w'
                go_simp
                with_reducible rfl
               rotate_left
               ·simp only [Act.put, List.setIfInBounds_toArray, List.set_cons_zero, List.set_cons_succ, i64_w, i32_w]
                rfl
               refine pure_ (i := 4) (N := some 42) (v := ?_) (a' := ?_) #[true, true, true, false, true, false, false, false, false, false] rfl rfl (any_of HT_.out (by kernel_rfl)) (fun _ _ _ h => h) (Or.inl ⟨by rfl, ?_⟩) ?_ ?_
               rotate_left
               ·intro w'
                go_simp
                with_reducible rfl
               rotate_left
               ·simp only [Act.put, List.setIfInBounds_toArray, List.set_cons_zero, List.set_cons_succ, i64_w, i32_w]
                rfl
               refine pure_ (i := 5) (N := some 43) (v := ?_) (a' := ?_) #[true, true, true, false, true, true, false, false, false, false] rfl rfl (any_of HT_.out (by kernel_rfl)) (fun _ _ _ h => h) (Or.inl ⟨by rfl, ?_⟩) ?_ ?_
               rotate_left
               ·intro w'
                go_simp
                with_reducible rfl
               rotate_left
               ·simp only [Act.put, List.setIfInBounds_toArray, List.set_cons_zero, List.set_cons_succ, i64_w, i32_w]
                rfl
               refine take_ (i := 3) (N := some 41) (v := ?_) (a' := ?_) #[true, true, true, true, true, true, false, false, false, false] rfl rfl (take_ofW HT_.out HW_.out (by kernel_rfl)) (fun _ _ _ h => h) (Or.inl ⟨by rfl, ?_⟩) hHeld ?_ ?_
               rotate_left
               ·intro w' _
                go_simp
                with_reducible rfl
               rotate_left
               ·simp only [Act.put, List.setIfInBounds_toArray, List.set_cons_zero, List.set_cons_succ, i64_w, i32_w]
                rfl
               refine take_ (i := 6) (N := some 44) (v := ?_) (a' := ?_) #[true, true, true, true, true, true, true, false, false, false] rfl rfl (take_ofW HT_.out HW_.out (by kernel_rfl)) (fun _ _ _ h => h) (Or.inl ⟨by rfl, ?_⟩) hHeld ?_ ?_
               rotate_left
               ·intro w' _
                go_simp
                with_reducible rfl
               rotate_left
               ·simp only [Act.put, List.setIfInBounds_toArray, List.set_cons_zero, List.set_cons_succ, i64_w, i32_w]
                rfl
               refine one_ (i := 7) (N := some 45) #[true, true, true, true, true, true, true, true, false, false] rfl rfl (one_of HT_.out (by kernel_rfl)) (by decide) (fun K hK => ?_)
               refine Kd.R_lit_step (Kd.int .u8) _ 5 ?hg (N := 45) ?hd (xs := ([92, bt (⟨#[48, 49, 50, 51, 52, 53, 54, 55, 56, 57, 97, 98, 99, 100, 101, 102]⟩ : ByteArray) (ji28), bt (⟨#[48, 49, 50, 51, 52, 53, 54, 55, 56, 57, 97, 98, 99, 100, 101, 102]⟩ : ByteArray) (Go.bits .and .u8 (bt a0_2 x25_1) 15)] : List Int)) (inner := [.int .u8 92, .int .u8 (bt (⟨#[48, 49, 50, 51, 52, 53, 54, 55, 56, 57, 97, 98, 99, 100, 101, 102]⟩ : ByteArray) (ji28)), .int .u8 (bt (⟨#[48, 49, 50, 51, 52, 53, 54, 55, 56, 57, 97, 98, 99, 100, 101, 102]⟩ : ByteArray) (Go.bits .and .u8 (bt a0_2 x25_1) 15))]) (ok := fun _ => True) (okp := fun _ => True) ?hr ?hp (fun _ hk => hk) trivial (Below.refl _ _) (Nat.le_refl _) (by simp) ?_; (case hd => rfl); (case hg => rfl); (case hr => first | (go_simp; done) | (go_simp; rfl)); (case hp => exact (Reps.one (show Kd.M (Kd.int .u8) _ _ _ 92 [.int .u8 92] from rfl) (Reps.one (show Kd.M (Kd.int .u8) _ _ _ (bt (⟨#[48, 49, 50, 51, 52, 53, 54, 55, 56, 57, 97, 98, 99, 100, 101, 102]⟩ : ByteArray) (ji28)) [.int .u8 (bt (⟨#[48, 49, 50, 51, 52, 53, 54, 55, 56, 57, 97, 98, 99, 100, 101, 102]⟩ : ByteArray) (ji28))] from rfl) (Reps.one (show Kd.M (Kd.int .u8) _ _ _ (bt (⟨#[48, 49, 50, 51, 52, 53, 54, 55, 56, 57, 97, 98, 99, 100, 101, 102]⟩ : ByteArray) (Go.bits .and .u8 (bt a0_2 x25_1) 15)) [.int .u8 (bt (⟨#[48, 49, 50, 51, 52, 53, 54, 55, 56, 57, 97, 98, 99, 100, 101, 102]⟩ : ByteArray) (Go.bits .and .u8 (bt a0_2 x25_1) 15))] from rfl) (Reps.none _ _)))))
               intro v230 w38 ho39 hb hg_ hnew_
               clear hg_ hnew_
               (first | rw [← Ny229.out] at ho39 | (simp only [Int.reduceToNat] at ho39; rw [← Ny229.out] at ho39))
               have HO231 := Aside0.mk (Kd.R_lower (Kd.R_new' ho39 (Kd.R_lt (by (with_reducible repeat (first | apply Kd.R_alloc | apply Kd.R_drewN | apply Kd.R_drew)); exact HO_3.out))) (below_size (by repeat (first | (with_reducible first | exact HB.out | apply below_alloc | apply pw_below_drewN | apply below_drew1 | refine below_set ?_ GE219.out) | exact HB.out))))
               replace HO_3 := Aside0.mk (Kd.R_elder' (by (with_reducible repeat (first | apply Kd.R_alloc | apply Kd.R_drewN | apply Kd.R_drew)); exact HO_3.out) (Kd.R_base ho39) hb)
               replace BK219 := blkB BK219 hb
               replace HB := stepB HB hb
               clear hb ho39
               obtain ⟨Ao41, co41, eo41⟩ := Kd.R_slice HO231.out
               (first | subst eo41 | (injection eo41 with f1_ f2_ f3_; have f4_ := f1_.symm; have f5_ := f3_.symm; clear f1_ f2_ f3_; subst f4_; subst f5_))
               refine hK.out _ _ trivial (fun hHeld => ?_)
               clear hK K
               refine norm_ (a' := ?_) ?_ ?_
               rotate_left
               ·show Act.put _ (some 45) _ = _
                simp only [Act.put, List.setIfInBounds_toArray, List.set_cons_zero, List.set_cons_succ, i64_w, i32_w]
                rfl
               refine one_ (i := 8) (N := some 46) #[true, true, true, true, true, true, true, true, true, false] rfl rfl (one_of HT_.out (by kernel_rfl)) (by decide) (fun K hK => ?_)
               refine Kd.R_append_rows_step (Kd.int .u8) (w0 := w) w.heap.size (by rfl) (.tmp 38) (.tmp 45) 63 5 (.int .u8 0) 1 rfl Tryd.underlying63 info5 rfl (by decide) (by omega) u3 x3_1 y229 _ _ _ (fun k_ => some k_ ≠ (.slice Ao41 y229.length co41 : Value).ownBlock) (fun _ => False) rfl rfl ?aO ?aR (fun _ _ h => h) (fun _ h => h.elim) ?aF ?aB ?aS ?aL ?_
               (case aR => repeat (first | exact (Kd.R_reads' HO231.out).2.2 | (with_reducible refine Kd.C_alloc ?_ _) | (with_reducible refine Kd.C_drewN ?_ _) | (with_reducible refine Kd.C_drew ?_)))
               (case aB => exact (by repeat (first | (with_reducible first | exact HB.out | apply below_alloc | apply pw_below_drewN | apply below_drew1 | refine below_set ?_ GE219.out) | exact HB.out)))
               (case aF => exact (fun k_ hk => Kd.fresh' (Kd.R_lt (by (with_reducible repeat (first | apply Kd.R_alloc | apply Kd.R_drewN | apply Kd.R_drew)); exact HO231.out)) k_ hk))
               (case aO => exact (by (with_reducible repeat (first | apply Kd.R_alloc | apply Kd.R_drewN | apply Kd.R_drew)); exact Kd.R_mono HO_3.out (fun _ hk => hk.2)))
               (case aS => exact (below_size (by repeat (first | (with_reducible first | exact HB.out | apply below_alloc | apply pw_below_drewN | apply below_drew1 | refine below_set ?_ GE219.out) | exact HB.out))))
               (case aL => have := LMc35.out; omega)
               intro v233 w40 ho hb hg hat
               rw [← Ny232.out] at ho
               have HO234 := Aside0.mk (ho)
               replace BK219 := Aside0.mk (blk_grown (g := gb219) (o := .cells #[.int .i64 a0_0, .int .i64 a0_1, .string a0_2] 23 (0, 0)) (by (with_reducible repeat (first | refine blk_drewN ?_ _ | refine blk_drew ?_ | refine blk_alloc ?_ _)); exact BK219.out) hg (Kd.R_ne HO_3.out BK219.out (by decide)))
               replace HO231 := Aside0.mk (Kd.R_after (ok := (fun _ => True)) (by (with_reducible repeat (first | apply Kd.R_alloc | apply Kd.R_drewN | apply Kd.R_drew)); exact HO231.out) hg hat)
               replace HB := Aside0.mk (hb)
               clear HO_3
               clear ho hb hg hat
               refine hK.out _ _ trivial (fun hHeld => ?_)
               clear hK K
               refine norm_ (a' := ?_) ?_ ?_
               rotate_left
               ·show Act.put _ (some 46) _ = _
                simp only [Act.put, List.setIfInBounds_toArray, List.set_cons_zero, List.set_cons_succ, i64_w, i32_w]
                rfl
               refine pure_ (i := 9) (N := some 3) (v := ?_) (a' := ?_) #[true, true, true, true, true, true, true, true, true, true] rfl rfl (any_of HT_.out (by kernel_rfl)) (fun _ _ _ h => h) (Or.inl ⟨by rfl, ?_⟩) ?_ ?_
               rotate_left
               ·intro w'
                go_simp
                with_reducible rfl
               rotate_left
               ·simp only [Act.put, List.setIfInBounds_toArray, List.set_cons_zero, List.set_cons_succ, i64_w, i32_w]
                rfl
               refine done_ (done_of HT_.out (by kernel_rfl)) ?_
               try go_wp2
               go_roundg k1
               case measure => have := HK1.out; omega
               case rel => exact ⟨(y232), (wrap64 (x25_1 + 1)), (by first | rfl | (simp; done) | (simp [*]; done)), H', ⟨by have := HK1.out; omega⟩, ⟨by (with_reducible repeat (first | apply Kd.R_alloc | apply Kd.R_drewN | apply Kd.R_drew)); exact Kd.R_mono HO234.out (fun _ hk => trivial)⟩, ⟨by (with_reducible repeat (first | refine blk_drewN ?_ _ | refine blk_drew ?_ | refine blk_alloc ?_ _)); exact BK219.out⟩, ⟨by repeat (first | (with_reducible first | exact HB.out | apply below_alloc | apply pw_below_drewN | apply below_drew1 | refine below_set ?_ GE219.out) | exact HB.out)⟩⟩
              ·rw [if_neg c35] at H
               exact absurd H (by simp)
             ·rw [if_neg c33] at H
              exact absurd H (by simp)
            ·rw [if_neg c32] at H
             exact absurd H (by simp)
           ·rw [if_neg c30] at H
            exact absurd H (by simp)
          ·rw [if_neg c29] at H
           exact absurd H (by simp)
        ·rw [if_neg c21] at H
         exact absurd H (by simp)
       ·rw [if_neg c20] at H
        exact absurd H (by simp)
      ·rw [if_neg c19] at H
       have c19b0 : decide (x25_1 < (a0_2.size : Int)) = false := decide_eq_false c19
       clear c19
       by_cases c42 : x3_1.length < 140737488355328
       ·rw [if_pos c42] at H
        have LMc42 := Aside0.mk c42
        clear c42
        obtain ⟨y235, hy235⟩ : ∃ y_ : List Int, y_ = (x3_1 ++ [39]) := ⟨_, rfl⟩
        replace H : (some (strOfNums y235)) = some r := by first | (rw [hy235]; with_reducible exact H) | (have H2_ := (Option.bind_some _ _).symm.trans H; rw [hy235]; with_reducible exact H2_) | (have H2_ := (Option.bind_some _ _).symm.trans H; with_reducible exact H2_) | with_reducible exact H | (rw [hy235]; exact H) | exact H
        have Ny235 := Aside0.mk hy235
        clear hy235
        obtain rfl := Option.some.inj H
        go_wp2_with (first | ((with_reducible refine gate_builtin (b := .append) (xs := #[.tmp 48, .tmp 49]) rfl ?_); at_builtin; refine Kd.R_append (Kd.int .u8) (w0 := w) w.heap.size rfl (.tmp 48) (.tmp 49) 63 5 (.int .u8 0) 1 rfl Tryd.underlying63 info5 rfl (by decide) (by omega) u3 x3_1 39 [.int .u8 39] (fun _ => True) (fun _ => False) rfl rfl ?aP (fun _ hk => hk.elim) ?aF ?aO ?aB ?aS ?aL ?_; (case aP => exact rfl); (case aB => exact (by repeat (first | (with_reducible first | exact HB.out | apply below_alloc | apply pw_below_drewN | apply below_drew1 | refine below_set ?_ GE219.out) | exact HB.out))); (case aF => exact (fun _ _ => trivial)); (case aO => exact (by (with_reducible repeat (first | apply Kd.R_alloc | apply Kd.R_drewN | apply Kd.R_drew)); exact HO_3.out)); (case aS => exact (below_size (by repeat (first | (with_reducible first | exact HB.out | apply below_alloc | apply pw_below_drewN | apply below_drew1 | refine below_set ?_ GE219.out) | exact HB.out)))); (case aL => have := LMc42.out; omega); intro v236 w43 ho hb hg hat; rw [← Ny235.out] at ho; have HO237 := Aside0.mk (ho); replace BK219 := Aside0.mk (blk_grown (g := gb219) (o := .cells #[.int .i64 a0_0, .int .i64 a0_1, .string a0_2] 23 (0, 0)) (by (with_reducible repeat (first | refine blk_drewN ?_ _ | refine blk_drew ?_ | refine blk_alloc ?_ _)); exact BK219.out) hg (Kd.R_ne HO_3.out BK219.out (by decide))); replace HB := Aside0.mk (hb); clear HO_3; clear ho hb hg hat; have hcv44 := own_string (P := Tryd.prog) Tryd.underlying63 Tryd.underlying5 Tryd.underlying9 (Kd.own_of_R HO237.out)))
        go_ret
        exact ⟨by first | rfl | (simp [errW_none, errW_some] <;> rfl) | (simp [*, errW_none, errW_some] <;> rfl), by repeat (first | (with_reducible first | exact HB.out | apply below_alloc | apply pw_below_drewN | apply below_drew1 | refine below_set ?_ GE219.out) | exact HB.out)⟩
       ·rw [if_neg c42] at H
        exact absurd H (by simp)
end Go.Proofs.YtmhnfdgegejlkaaDoor.P
end

section
namespace Go.Proofs.YtmhnfdgegejlkaaDoor.P
open Go.RowKit Go.Proofs.YtmhnfdgegejlkaaDoorW.PrintWords Go.Proofs.YtmhnfdgegejlkaaDoorW.PrintLast Go.Proofs.YtmhnfdgegejlkaaDoorW.PrintMore
attribute [local go_sem] max2_int min2_int max_two min_two max_three min_three max_four min_four
set_option linter.unusedVariables false
set_option linter.unusedSimpArgs false
def value_RightRow_1.f (a0_0 : Int) (a0_1 : Int) (a0_2 : ByteArray) : Option (Bool) := (value_Right.f a0_0 a0_1 a0_2).bind fun t492 => (some (!t492))
set_option maxHeartbeats 8000000 in
set_option maxRecDepth 100000 in
theorem value_RightRow_1.calls (a0_0 : Int) (a0_1 : Int) (a0_2 : ByteArray) (r : Bool) (w : World) (h : value_RightRow_1.f a0_0 a0_1 a0_2 = some r) :
  Calls Tryd.prog 48 #[.agg #[.int .i64 a0_0, .int .i64 a0_1, .string a0_2]] w fun e w' => e = .returned (.bool r) ∧ Below w.heap.size w w' := by
 have hu23 := Tryd.underlying23
 have HB := Aside0.mk (Below.refl w.heap.size w)
 have H : ((value_Right.f a0_0 a0_1 a0_2).bind fun t492 => (some (!t492))) = some r := h
 clear h
 replace H := Option.bind_eq_some_iff.mp H
 obtain ⟨t492, A20, H⟩ := H
 replace H : (some (!t492)) = some r := H
 have A2 := Aside0.mk A20
 clear A20
 obtain rfl := Option.some.inj H
 go_enter Tryd.func48, Tryd.ntmps48
 go_wp2_with (first | ((with_reducible refine gate_dst (N := 1) rfl ?_); refine box_event ?hg (N := 1) ?hd (cs := #[.int .i64 a0_0, .int .i64 a0_1, .string a0_2]) (t := 23) ?hr ?_; (case hd => rfl); (case hg => rfl); (case hr => first | (go_simp; done) | (go_simp; rfl)); intro gb491 hg w3 hbox hb; have BK491 := Aside0.mk (hbox); have GW491 := (sizeB HB hg : Aside0 (w.heap.size ≤ gb491)); have GE491 := (sizeB HB hg : Aside0 (w.heap.size ≤ gb491)); replace HB := stepB HB hb; clear hb hbox hg; have hcz4_0 : w3.cell? ⟨gb491, 0, none⟩ = some (.int .i64 a0_0) := (blk_cell BK491.out 0).trans rfl; have hcz4_1 : w3.cell? ⟨gb491, 1, none⟩ = some (.int .i64 a0_1) := (blk_cell BK491.out 1).trans rfl; have hcz4_2 : w3.cell? ⟨gb491, 2, none⟩ = some (.string a0_2) := (blk_cell BK491.out 2).trans rfl; have hfz4_0 := blk_frozen BK491.out 0; have hfz4_1 := blk_frozen BK491.out 1; have hfz4_2 := blk_frozen BK491.out 2) | ((with_reducible refine gate_callee (f := 19) rfl ?_); refine goesL_ (some 4) rfl rfl Tryd.func19 (by kernel_rfl) rfl #[.agg #[.int .i64 a0_0, .int .i64 a0_1, .string a0_2]] rfl (by (try simp only [List.map_toArray, List.map_cons, List.map_nil]); first | done | rfl | (simp only [List.length_drop, List.length_take]; rfl)) ?_; (with_reducible refine (value_Right.calls a0_0 a0_1 a0_2 t492 _ A2.out).mono ?_); rintro e w5 ⟨rfl, hb⟩; refine ⟨_, rfl, ?_⟩; replace BK491 := blkB BK491 hb; replace HB := stepB HB hb; (try clear hb); (try clear hb2); (try clear hk); (try clear hi)))
 go_ret
 exact ⟨by first | rfl | (simp [errW_none, errW_some] <;> rfl) | (simp [*, errW_none, errW_some] <;> rfl), by repeat (first | (with_reducible first | exact HB.out | apply below_alloc | apply pw_below_drewN | apply below_drew1 | refine below_set ?_ GE491.out) | exact HB.out)⟩
end Go.Proofs.YtmhnfdgegejlkaaDoor.P
end

section
namespace Go.Proofs.YtmhnfdgegejlkaaDoor.P
open Go.RowKit Go.Proofs.YtmhnfdgegejlkaaDoorW.PrintWords Go.Proofs.YtmhnfdgegejlkaaDoorW.PrintLast Go.Proofs.YtmhnfdgegejlkaaDoorW.PrintMore
attribute [local go_sem] max2_int min2_int max_two min_two max_three min_three max_four min_four
set_option linter.unusedVariables false
set_option linter.unusedSimpArgs false
def slices_IndexFunc_Row_Value_value_RightRow_1.l0 : Nat → List (S23) → Int → Int → Option (Int)
 | 0, _, _, _ => none
 | k + 1, x0, x7, x8 => if x8 < x7 then (if 0 ≤ x8 then (if x8 < (x0.length : Int) then ((value_RightRow_1.f ((rd_T23 x0 x8).f0) ((rd_T23 x0 x8).f1) ((rd_T23 x0 x8).f2)).bind fun t494 => (if t494 = true then (some x8) else (slices_IndexFunc_Row_Value_value_RightRow_1.l0 k x0 x7 (wrap64 (x8 + 1))))) else (none)) else (none)) else (some (-1))
def slices_IndexFunc_Row_Value_value_RightRow_1.f (k : Nat) (l0 : List (S23))  : Option (Int) := slices_IndexFunc_Row_Value_value_RightRow_1.l0 k l0 (l0.length : Int) 0
set_option maxHeartbeats 8000000 in
set_option maxRecDepth 100000 in
theorem slices_IndexFunc_Row_Value_value_RightRow_1.calls (k : Nat) (A0 : Option Addr) (c0 : Nat) (l0 : List (S23))  (r : Int) (w : World) (hr0 : Kd.C k23 w A0 l0.length l0) (hc0 : l0.length ≤ c0) (h : slices_IndexFunc_Row_Value_value_RightRow_1.f k l0 = some r) :
  Calls Tryd.prog 69 #[.slice A0 l0.length c0, .func (.func 48) #[] #[]] w fun e w' => e = .returned (.int .i64 r) ∧ Below w.heap.size w w' := by
 have hu23 := Tryd.underlying23
 have HR0 := Aside0.mk hr0
 have HC0 := Aside0.mk hc0
 clear hr0 hc0
 have HB := Aside0.mk (Below.refl w.heap.size w)
 have H : (slices_IndexFunc_Row_Value_value_RightRow_1.l0 k l0 (l0.length : Int) 0) = some r := h
 clear h
 have H' := Aside0.mk H
 clear H
 go_enter Tryd.func69, Tryd.ntmps69
 go_wp2
 go_loopg [8] k (fun kq v8 w' => ∃ (x8_1 : Int), v8 = .int .i64 x8_1 ∧ Aside0 (slices_IndexFunc_Row_Value_value_RightRow_1.l0 kq l0 (l0.length : Int) x8_1 = some r) ∧ Aside0 (kq ≤ k) ∧ Aside0 (Below w.heap.size w w'))
 case atStart => exact ⟨(0), (by first | rfl | (simp; done) | (simp [*]; done)), H', ⟨Nat.le_refl _⟩, ⟨by repeat (first | (with_reducible first | exact HB.out | apply below_alloc | apply pw_below_drewN | apply below_drew1) | exact HB.out)⟩⟩
 case round =>
  clear H'
  try clear p2
  obtain ⟨x8_1, rfl, HA, HK1, HB⟩ := hrel
  cases gk with
  | zero => exact absurd HA.out (by simp [slices_IndexFunc_Row_Value_value_RightRow_1.l0])
  | succ k1 =>
   have H := HA.out
   clear HA
   simp only [slices_IndexFunc_Row_Value_value_RightRow_1.l0] at H
   by_cases c3 : x8_1 < (l0.length : Int)
   ·rw [if_pos c3] at H
    have c3b0 : decide (x8_1 < (l0.length : Int)) = true := decide_eq_true c3
    clear c3
    by_cases c4 : 0 ≤ x8_1
    ·rw [if_pos c4] at H
     have c4b0 : decide (0 ≤ x8_1) = true := decide_eq_true c4
     clear c4
     by_cases c5 : x8_1 < (l0.length : Int)
     ·rw [if_pos c5] at H
      have c5b0 : decide (x8_1 < (l0.length : Int)) = true := decide_eq_true c5
      clear c5
      replace H := Option.bind_eq_some_iff.mp H
      obtain ⟨t494, A60, H⟩ := H
      replace H : (if t494 = true then (some x8_1) else (slices_IndexFunc_Row_Value_value_RightRow_1.l0 k1 l0 (l0.length : Int) (wrap64 (x8_1 + 1)))) = some r := H
      have A6 := Aside0.mk A60
      clear A60
      by_cases c7 : t494 = true
      ·subst c7
       have H1 : (some x8_1) = some r := by rw [if_pos rfl] at H; exact H
       clear H
       have H := H1
       clear H1
       obtain rfl := Option.some.inj H
       have p493 : 0 ≤ (x8_1 : Int) := of_decide_eq_true (by first | (with_reducible assumption) | assumption)
       have q493 : x8_1 < (l0.length : Int) := of_decide_eq_true (by first | (with_reducible assumption) | assumption)
       obtain ⟨ad493, e493, hx493_0, hx493_1, hx493_2⟩ := at_T23 HR0.out x8_1 p493 q493
       cases e493
       replace hx493_0 := (HB.out.cell (World.block_lt_of_cell? w _ hx493_0)).trans hx493_0
       replace hx493_1 := (HB.out.cell (World.block_lt_of_cell? w _ hx493_1)).trans hx493_1
       replace hx493_2 := (HB.out.cell (World.block_lt_of_cell? w _ hx493_2)).trans hx493_2
       replace p493 := eq_true p493
       replace q493 := eq_true q493
       go_wp2_with (first | ((with_reducible refine gate_dst (N := 16) rfl ?_); refine goesV_ (some 16) rfl rfl Tryd.func48 (by kernel_rfl) rfl #[.agg #[.int .i64 ((rd_T23 l0 x8_1).f0), .int .i64 ((rd_T23 l0 x8_1).f1), .string ((rd_T23 l0 x8_1).f2)]] rfl rfl (by (try simp only [List.map_toArray, List.map_cons, List.map_nil]); first | done | rfl | (simp only [List.length_drop, List.length_take]; rfl)) ?_; (with_reducible refine (value_RightRow_1.calls ((rd_T23 l0 x8_1).f0) ((rd_T23 l0 x8_1).f1) ((rd_T23 l0 x8_1).f2) true _ A6.out).mono ?_); rintro e w8 ⟨rfl, hb⟩; refine ⟨_, rfl, ?_⟩; replace HB := stepB HB hb; (try clear hb); (try clear hb2); (try clear hk); (try clear hi)))
       go_ret
       exact ⟨by first | rfl | (simp [errW_none, errW_some] <;> rfl) | (simp [*, errW_none, errW_some] <;> rfl), by repeat (first | (with_reducible first | exact HB.out | apply below_alloc | apply pw_below_drewN | apply below_drew1) | exact HB.out)⟩
      ·replace c7 := Bool.eq_false_iff.mpr c7
       subst c7
       have H1 : (slices_IndexFunc_Row_Value_value_RightRow_1.l0 k1 l0 (l0.length : Int) (wrap64 (x8_1 + 1))) = some r := by rw [if_neg (show ¬ (false = true) by decide)] at H; exact H
       clear H
       have H := H1
       clear H1
       have H' := Aside0.mk H
       clear H
       have p493 : 0 ≤ (x8_1 : Int) := of_decide_eq_true (by first | (with_reducible assumption) | assumption)
       have q493 : x8_1 < (l0.length : Int) := of_decide_eq_true (by first | (with_reducible assumption) | assumption)
       obtain ⟨ad493, e493, hx493_0, hx493_1, hx493_2⟩ := at_T23 HR0.out x8_1 p493 q493
       cases e493
       replace hx493_0 := (HB.out.cell (World.block_lt_of_cell? w _ hx493_0)).trans hx493_0
       replace hx493_1 := (HB.out.cell (World.block_lt_of_cell? w _ hx493_1)).trans hx493_1
       replace hx493_2 := (HB.out.cell (World.block_lt_of_cell? w _ hx493_2)).trans hx493_2
       replace p493 := eq_true p493
       replace q493 := eq_true q493
       go_wp2_with (first | ((with_reducible refine gate_dst (N := 16) rfl ?_); refine goesV_ (some 16) rfl rfl Tryd.func48 (by kernel_rfl) rfl #[.agg #[.int .i64 ((rd_T23 l0 x8_1).f0), .int .i64 ((rd_T23 l0 x8_1).f1), .string ((rd_T23 l0 x8_1).f2)]] rfl rfl (by (try simp only [List.map_toArray, List.map_cons, List.map_nil]); first | done | rfl | (simp only [List.length_drop, List.length_take]; rfl)) ?_; (with_reducible refine (value_RightRow_1.calls ((rd_T23 l0 x8_1).f0) ((rd_T23 l0 x8_1).f1) ((rd_T23 l0 x8_1).f2) false _ A6.out).mono ?_); rintro e w9 ⟨rfl, hb⟩; refine ⟨_, rfl, ?_⟩; replace HB := stepB HB hb; (try clear hb); (try clear hb2); (try clear hk); (try clear hi)))
       go_roundg k1
       case measure => have := HK1.out; omega
       case rel => exact ⟨(wrap64 (x8_1 + 1)), (by first | rfl | (simp; done) | (simp [*]; done)), H', ⟨by have := HK1.out; omega⟩, ⟨by repeat (first | (with_reducible first | exact HB.out | apply below_alloc | apply pw_below_drewN | apply below_drew1) | exact HB.out)⟩⟩
     ·rw [if_neg c5] at H
      exact absurd H (by simp)
    ·rw [if_neg c4] at H
     exact absurd H (by simp)
   ·rw [if_neg c3] at H
    have c3b0 : decide (x8_1 < (l0.length : Int)) = false := decide_eq_false c3
    clear c3
    obtain rfl := Option.some.inj H
    go_wp2
    go_ret
    exact ⟨by first | rfl | (simp [errW_none, errW_some] <;> rfl) | (simp [*, errW_none, errW_some] <;> rfl), by repeat (first | (with_reducible first | exact HB.out | apply below_alloc | apply pw_below_drewN | apply below_drew1) | exact HB.out)⟩
end Go.Proofs.YtmhnfdgegejlkaaDoor.P
end

section
namespace Go.Proofs.YtmhnfdgegejlkaaDoor.P
open Go.RowKit Go.Proofs.YtmhnfdgegejlkaaDoorW.PrintWords Go.Proofs.YtmhnfdgegejlkaaDoorW.PrintLast Go.Proofs.YtmhnfdgegejlkaaDoorW.PrintMore
attribute [local go_sem] max2_int min2_int max_two min_two max_three min_three max_four min_four
set_option linter.unusedVariables false
set_option linter.unusedSimpArgs false
def slices_ContainsFunc_Row_Value_value_RightRow_1.f (k : Nat) (l0 : List (S23))  : Option (Bool) := (slices_IndexFunc_Row_Value_value_RightRow_1.f k l0).bind fun t495 => (some (decide (t495 ≥ 0)))
set_option maxHeartbeats 8000000 in
set_option maxRecDepth 100000 in
theorem slices_ContainsFunc_Row_Value_value_RightRow_1.calls (k : Nat) (A0 : Option Addr) (c0 : Nat) (l0 : List (S23))  (r : Bool) (w : World) (hr0 : Kd.C k23 w A0 l0.length l0) (hc0 : l0.length ≤ c0) (h : slices_ContainsFunc_Row_Value_value_RightRow_1.f k l0 = some r) :
  Calls Tryd.prog 47 #[.slice A0 l0.length c0, .func (.func 48) #[] #[]] w fun e w' => e = .returned (.bool r) ∧ Below w.heap.size w w' := by
 have HR0 := Aside0.mk hr0
 have HC0 := Aside0.mk hc0
 clear hr0 hc0
 have HB := Aside0.mk (Below.refl w.heap.size w)
 have H : ((slices_IndexFunc_Row_Value_value_RightRow_1.f k l0).bind fun t495 => (some (decide (t495 ≥ 0)))) = some r := h
 clear h
 replace H := Option.bind_eq_some_iff.mp H
 obtain ⟨t495, A30, H⟩ := H
 replace H : (some (decide (t495 ≥ 0))) = some r := H
 have A3 := Aside0.mk A30
 clear A30
 obtain rfl := Option.some.inj H
 go_enter Tryd.func47, Tryd.ntmps47
 go_wp2_with (first | ((with_reducible refine gate_callee (f := 69) rfl ?_); refine goesL_ (some 7) rfl rfl Tryd.func69 (by kernel_rfl) rfl #[.slice A0 l0.length c0, .func (.func 48) #[] #[]] rfl (by (try simp only [List.map_toArray, List.map_cons, List.map_nil]); first | done | rfl | (simp only [List.length_drop, List.length_take]; rfl)) ?_; (with_reducible refine (slices_IndexFunc_Row_Value_value_RightRow_1.calls k _ _ l0  t495 _ ?side1 ?side2 A3.out).mono ?_); (case side1 => repeat (first | exact HR0.out | (with_reducible refine Kd.C_alloc ?_ _) | (with_reducible refine Kd.C_drewN ?_ _) | (with_reducible refine Kd.C_drew ?_))); (case side2 => exact HC0.out); rintro e w4 ⟨rfl, hb⟩; refine ⟨_, rfl, ?_⟩; replace HB := stepB HB hb; (try clear hb); (try clear hb2); (try clear hk); (try clear hi)))
 go_ret
 exact ⟨by first | rfl | (simp [errW_none, errW_some] <;> rfl) | (simp [*, errW_none, errW_some] <;> rfl), by repeat (first | (with_reducible first | exact HB.out | apply below_alloc | apply pw_below_drewN | apply below_drew1) | exact HB.out)⟩
end Go.Proofs.YtmhnfdgegejlkaaDoor.P
end

section
namespace Go.Proofs.YtmhnfdgegejlkaaDoor.P
open Go.RowKit Go.Proofs.YtmhnfdgegejlkaaDoorW.PrintWords Go.Proofs.YtmhnfdgegejlkaaDoorW.PrintLast Go.Proofs.YtmhnfdgegejlkaaDoorW.PrintMore
attribute [local go_sem] max2_int min2_int max_two min_two max_three min_three max_four min_four
set_option linter.unusedVariables false
set_option linter.unusedSimpArgs false
def value_RightRow.f (k : Nat) (l0 : List (S23)) : Option (Bool) := (slices_ContainsFunc_Row_Value_value_RightRow_1.f k l0).bind fun t496 => (some (!t496))
set_option maxHeartbeats 8000000 in
set_option maxRecDepth 100000 in
theorem value_RightRow.calls (k : Nat) (A0 : Option Addr) (c0 : Nat) (l0 : List (S23)) (r : Bool) (w : World) (hr0 : Kd.C k23 w A0 l0.length l0) (hc0 : l0.length ≤ c0) (h : value_RightRow.f k l0 = some r) :
  Calls Tryd.prog 20 #[.slice A0 l0.length c0] w fun e w' => e = .returned (.bool r) ∧ Below w.heap.size w w' := by
 have HR0 := Aside0.mk hr0
 have HC0 := Aside0.mk hc0
 clear hr0 hc0
 have HB := Aside0.mk (Below.refl w.heap.size w)
 have H : ((slices_ContainsFunc_Row_Value_value_RightRow_1.f k l0).bind fun t496 => (some (!t496))) = some r := h
 clear h
 replace H := Option.bind_eq_some_iff.mp H
 obtain ⟨t496, A20, H⟩ := H
 replace H : (some (!t496)) = some r := H
 have A2 := Aside0.mk A20
 clear A20
 obtain rfl := Option.some.inj H
 go_enter Tryd.func20, Tryd.ntmps20
 go_wp2_with (first | ((with_reducible refine gate_callee (f := 47) rfl ?_); refine goesL_ (some 4) rfl rfl Tryd.func47 (by kernel_rfl) rfl #[.slice A0 l0.length c0, .func (.func 48) #[] #[]] rfl (by (try simp only [List.map_toArray, List.map_cons, List.map_nil]); first | done | rfl | (simp only [List.length_drop, List.length_take]; rfl)) ?_; (with_reducible refine (slices_ContainsFunc_Row_Value_value_RightRow_1.calls k _ _ l0  t496 _ ?side1 ?side2 A2.out).mono ?_); (case side1 => repeat (first | exact HR0.out | (with_reducible refine Kd.C_alloc ?_ _) | (with_reducible refine Kd.C_drewN ?_ _) | (with_reducible refine Kd.C_drew ?_))); (case side2 => exact HC0.out); rintro e w3 ⟨rfl, hb⟩; refine ⟨_, rfl, ?_⟩; replace HB := stepB HB hb; (try clear hb); (try clear hb2); (try clear hk); (try clear hi)))
 go_ret
 exact ⟨by first | rfl | (simp [errW_none, errW_some] <;> rfl) | (simp [*, errW_none, errW_some] <;> rfl), by repeat (first | (with_reducible first | exact HB.out | apply below_alloc | apply pw_below_drewN | apply below_drew1) | exact HB.out)⟩
end Go.Proofs.YtmhnfdgegejlkaaDoor.P
end

section
namespace Go.Proofs.YtmhnfdgegejlkaaDoor.P
open Go.RowKit Go.Proofs.YtmhnfdgegejlkaaDoorW.PrintWords Go.Proofs.YtmhnfdgegejlkaaDoorW.PrintLast Go.Proofs.YtmhnfdgegejlkaaDoorW.PrintMore
attribute [local go_sem] max2_int min2_int max_two min_two max_three min_three max_four min_four
set_option linter.unusedVariables false
set_option linter.unusedSimpArgs false
attribute [local go_sem high] eqA23
mutual
def alumlaw19_ValueMatchesSpecT.j0 : Nat → Int → Bool → Bool → Bool → Int → Int → ByteArray → Int → Int → ByteArray → Option (Bool)
 | 0, _, _, _, _, _, _, _, _, _, _ => none
 | k + 1, x2, x7, x8, x37, x593000, x593001, x593002, x594000, x594001, x594002 => if x37 = true then (none) else (if x7 = true then (alumlaw19_ValueMatchesSpecT.j1 k x2 (!x8) x593000 x593001 x593002 x594000 x594001 x594002) else (alumlaw19_ValueMatchesSpecT.j1 k x2 true x593000 x593001 x593002 x594000 x594001 x594002))
def alumlaw19_ValueMatchesSpecT.j1 : Nat → Int → Bool → Int → Int → ByteArray → Int → Int → ByteArray → Option (Bool)
 | 0, _, _, _, _, _, _, _, _ => none
 | k + 1, x2, x43, x593000, x593001, x593002, x594000, x594001, x594002 => if x43 = true then ((alumlaw19_sanity.f k).bind fun t602 => (some t602)) else ((value_Test.f k x2 x593000 x593001 x593002 x594000 x594001 x594002).bind fun bt603 => ((alumref19_Test.f k x2 x593000 x593001 x593002 x594000 x594001 x594002).bind fun bt608 => (if (!(bt603.1 == bt608.1) || (!(bt603.2.1 == bt608.2.1) || (!(bt603.2.2.1.toList == bt608.2.2.1.toList)))) = true then (none) else (alumlaw19_ValueMatchesSpecT.j2 k (bt603.2.2.2 != bt608.2.2.2) x593000 x593001 x593002 x594000 x594001 x594002))))
def alumlaw19_ValueMatchesSpecT.j2 : Nat → Bool → Int → Int → ByteArray → Int → Int → ByteArray → Option (Bool)
 | 0, _, _, _, _, _, _, _ => none
 | k + 1, x66, x593000, x593001, x593002, x594000, x594001, x594002 => if x66 = true then (none) else ((value_And.f k x593000 x593001 x593002 x594000 x594001 x594002).bind fun bt613 => ((alumref19_And.f k x593000 x593001 x593002 x594000 x594001 x594002).bind fun bt617 => (if (!(bt613.1 == bt617.1) || (!(bt613.2.1 == bt617.2.1) || (!(bt613.2.2.1.toList == bt617.2.2.1.toList)))) = true then (none) else (alumlaw19_ValueMatchesSpecT.j3 k (bt613.2.2.2 != bt617.2.2.2) x593000 x593001 x593002 x594000 x594001 x594002))))
def alumlaw19_ValueMatchesSpecT.j3 : Nat → Bool → Int → Int → ByteArray → Int → Int → ByteArray → Option (Bool)
 | 0, _, _, _, _, _, _, _ => none
 | k + 1, x86, x593000, x593001, x593002, x594000, x594001, x594002 => if x86 = true then (none) else ((value_Or.f k x593000 x593001 x593002 x594000 x594001 x594002).bind fun bt621 => ((alumref19_Or.f k x593000 x593001 x593002 x594000 x594001 x594002).bind fun bt625 => (if (!(bt621.1 == bt625.1) || (!(bt621.2.1 == bt625.2.1) || (!(bt621.2.2.1.toList == bt625.2.2.1.toList)))) = true then (none) else (alumlaw19_ValueMatchesSpecT.j4 k (bt621.2.2.2 != bt625.2.2.2) x593000 x593001 x593002 x594000 x594001 x594002))))
def alumlaw19_ValueMatchesSpecT.j4 : Nat → Bool → Int → Int → ByteArray → Int → Int → ByteArray → Option (Bool)
 | 0, _, _, _, _, _, _, _ => none
 | k + 1, x106, x593000, x593001, x593002, x594000, x594001, x594002 => if x106 = true then (none) else ((value_Not.f k x593000 x593001 x593002).bind fun bt629 => ((alumref19_Not.f x593000 x593001 x593002).bind fun bt633 => ((alumlaw19_sanity.f k).bind fun t637 => (if t637 = true then (if (bt629.1 == bt633.1 && (bt629.2.1 == bt633.2.1 && (bt629.2.2.1.toList == bt633.2.2.1.toList))) = true then (if bt629.2.2.2 = bt633.2.2.2 then ((value_Compare.f k x593000 x593001 x593002 x594000 x594001 x594002).bind fun t638 => ((alumref19_Compare.f x593000 x593001 x593002 x594000 x594001 x594002).bind fun t639 => (if t638 = t639 then ((value_PrintT.f k x593000 x593001 x593002).bind fun t640 => ((alumref19_Print.f k x593000 x593001 x593002).bind fun t641 => (some (t640.toList == t641.toList)))) else (none)))) else (none)) else (none)) else (none)))))
end
def alumlaw19_ValueMatchesSpecT.f (k : Nat) (a0_0 : Int) (a0_1 : Int) (a0_2 : ByteArray) (a1_0 : Int) (a1_1 : Int) (a1_2 : ByteArray) (a2 : Int) : Option (Bool) := (alumref19_Right.f a0_0 a0_1 a0_2).bind fun t594 => ((alumref19_Right.f a1_0 a1_1 a1_2).bind fun t595 => ((value_Right.f a0_0 a0_1 a0_2).bind fun t596 => (if (t596 != t594) = true then (none) else ((value_Right.f a1_0 a1_1 a1_2).bind fun t597 => (if (t597 != t595) = true then (none) else ((value_RightRow.f k (([(⟨a0_0, a0_1, a0_2⟩ : S23), (⟨a1_0, a1_1, a1_2⟩ : S23)] : List (S23)))).bind fun t601 => (if t594 = true then (alumlaw19_ValueMatchesSpecT.j0 k a2 t594 t595 (t601 != t595) a0_0 a0_1 a0_2 a1_0 a1_1 a1_2) else (alumlaw19_ValueMatchesSpecT.j0 k a2 t594 t595 t601 a0_0 a0_1 a0_2 a1_0 a1_1 a1_2))))))))
def alumlaw19_ValueMatchesSpecT.T20 : Bool × List (List Nat × List Nat) := (true, [([], []), ([0, 0], [0]), ([1], [1]), ([1], [1]), ([2, 3, 1], [1, 2, 3]), ([1, 4], [1, 4]), ([5, 1], [5]), ([6], [6]), ([6], [6]), ([7, 8, 6], [6, 7, 8]), ([6, 9], [6, 9]), ([10, 6], [10]), ([11], [11]), ([11], [11]), ([12, 13, 11, 11], [11, 12, 13]), ([11], [11]), ([11], [11]), ([15, 16, 14, 11], [11, 15, 16]), ([14, 17, 11], [11, 14, 17]), ([11, 18], [11, 18]), ([19, 17], [19]), ([20], [20]), ([21, 20, 20], [20, 21]), ([20], [20]), ([23, 22, 20], [20, 23]), ([22, 24, 20], [20, 22, 24]), ([20, 25], [20, 25]), ([26, 24, 0, 1, 2, 3, 4, 5, 6, 7, 8, 9, 10, 11, 12, 13, 14, 15, 16, 17, 18, 19, 20, 21, 22, 23, 24, 25, 26], [26])])
def alumlaw19_ValueMatchesSpecT.B20 : List Nat := [0, 1, 3, 3, 15, 31, 63, 127, 127, 511, 1023, 2047, 4095, 4095, 16383, 4095, 4095, 131071, 262143, 524287, 1048575, 2097151, 4194303, 2097151, 16777215, 33554431, 67108863, 134217727]
theorem alumlaw19_ValueMatchesSpecT.tab20 : rtab .any (opsOf Tryd.f5 20) = alumlaw19_ValueMatchesSpecT.T20 := by kernel_rfl
theorem alumlaw19_ValueMatchesSpecT.bits20 : waitsOk alumlaw19_ValueMatchesSpecT.T20.2 alumlaw19_ValueMatchesSpecT.B20 = true := by kernel_rfl
set_option maxHeartbeats 8000000 in
set_option maxRecDepth 100000 in
theorem alumlaw19_ValueMatchesSpecT.calls (k : Nat) (a0_0 : Int) (a0_1 : Int) (a0_2 : ByteArray) (a1_0 : Int) (a1_1 : Int) (a1_2 : ByteArray) (a2 : Int) (r : Bool) (w : World) (htab : TabW w) (h : alumlaw19_ValueMatchesSpecT.f k a0_0 a0_1 a0_2 a1_0 a1_1 a1_2 a2 = some r) :
  Calls Tryd.prog 5 #[.agg #[.int .i64 a0_0, .int .i64 a0_1, .string a0_2], .agg #[.int .i64 a1_0, .int .i64 a1_1, .string a1_2], .int .i64 a2] w fun e w' => e = .returned (.bool r) ∧ Below w.heap.size w w' := by
 have hu23 := Tryd.underlying23
 have HB := Aside0.mk (Below.refl w.heap.size w)
 have HTAB := Aside0.mk htab
 clear htab
 have H : ((alumref19_Right.f a0_0 a0_1 a0_2).bind fun t594 => ((alumref19_Right.f a1_0 a1_1 a1_2).bind fun t595 => ((value_Right.f a0_0 a0_1 a0_2).bind fun t596 => (if (t596 != t594) = true then (none) else ((value_Right.f a1_0 a1_1 a1_2).bind fun t597 => (if (t597 != t595) = true then (none) else ((value_RightRow.f k (([(⟨a0_0, a0_1, a0_2⟩ : S23), (⟨a1_0, a1_1, a1_2⟩ : S23)] : List (S23)))).bind fun t601 => (if t594 = true then (alumlaw19_ValueMatchesSpecT.j0 k a2 t594 t595 (t601 != t595) a0_0 a0_1 a0_2 a1_0 a1_1 a1_2) else (alumlaw19_ValueMatchesSpecT.j0 k a2 t594 t595 t601 a0_0 a0_1 a0_2 a1_0 a1_1 a1_2))))))))) = some r := h
 clear h
 replace H := Option.bind_eq_some_iff.mp H
 obtain ⟨t594, A40, H⟩ := H
 replace H : ((alumref19_Right.f a1_0 a1_1 a1_2).bind fun t595 => ((value_Right.f a0_0 a0_1 a0_2).bind fun t596 => (if (t596 != t594) = true then (none) else ((value_Right.f a1_0 a1_1 a1_2).bind fun t597 => (if (t597 != t595) = true then (none) else ((value_RightRow.f k (([(⟨a0_0, a0_1, a0_2⟩ : S23), (⟨a1_0, a1_1, a1_2⟩ : S23)] : List (S23)))).bind fun t601 => (if t594 = true then (alumlaw19_ValueMatchesSpecT.j0 k a2 t594 t595 (t601 != t595) a0_0 a0_1 a0_2 a1_0 a1_1 a1_2) else (alumlaw19_ValueMatchesSpecT.j0 k a2 t594 t595 t601 a0_0 a0_1 a0_2 a1_0 a1_1 a1_2)))))))) = some r := H
 have A4 := Aside0.mk A40
 clear A40
 replace H := Option.bind_eq_some_iff.mp H
 obtain ⟨t595, A50, H⟩ := H
 replace H : ((value_Right.f a0_0 a0_1 a0_2).bind fun t596 => (if (t596 != t594) = true then (none) else ((value_Right.f a1_0 a1_1 a1_2).bind fun t597 => (if (t597 != t595) = true then (none) else ((value_RightRow.f k (([(⟨a0_0, a0_1, a0_2⟩ : S23), (⟨a1_0, a1_1, a1_2⟩ : S23)] : List (S23)))).bind fun t601 => (if t594 = true then (alumlaw19_ValueMatchesSpecT.j0 k a2 t594 t595 (t601 != t595) a0_0 a0_1 a0_2 a1_0 a1_1 a1_2) else (alumlaw19_ValueMatchesSpecT.j0 k a2 t594 t595 t601 a0_0 a0_1 a0_2 a1_0 a1_1 a1_2))))))) = some r := H
 have A5 := Aside0.mk A50
 clear A50
 have HC6 := Aside0.mk H
 clear H
 go_enter Tryd.func5, Tryd.ntmps5
 try go_wp2_with (first | ((with_reducible refine gate_dst (N := 3) rfl ?_); (try (refine gate_guard (by rfl) ?_; dsimp only)); refine box_event ?hg (N := 3) ?hd (cs := #[.int .i64 a0_0, .int .i64 a0_1, .string a0_2]) (t := 23) ?hr ?_; (case hd => rfl); (case hg => rfl); (case hr => first | (go_simp; done) | (go_simp; rfl)); intro gb592 hg w7 hbox hb; have BK592 := Aside0.mk (hbox); have GW592 := (sizeB HB hg : Aside0 (w.heap.size ≤ gb592)); have GE592 := (sizeB HB hg : Aside0 (w.heap.size ≤ gb592)); replace HB := stepB HB hb; clear hb hbox hg) | ((with_reducible refine gate_dst (N := 4) rfl ?_); (try (refine gate_guard (by rfl) ?_; dsimp only)); refine box_event ?hg (N := 4) ?hd (cs := #[.int .i64 a1_0, .int .i64 a1_1, .string a1_2]) (t := 23) ?hr ?_; (case hd => rfl); (case hg => rfl); (case hr => first | (go_simp; done) | (go_simp; rfl)); intro gb593 hg w8 hbox hb; have BK593 := Aside0.mk (hbox); have GW593 := (sizeB HB hg : Aside0 (w.heap.size ≤ gb593)); have GE593 := (sizeB HB hg : Aside0 (w.heap.size ≤ gb593)); have NB592_593 := neB BK592 hg; have NB593_592 := neC BK592 hg; replace BK592 := blkB BK592 hb; replace HB := stepB HB hb; clear hb hbox hg))
 replace BK592 := Aside0.mk (blk_drew BK592.out)
 replace BK593 := Aside0.mk (blk_drew BK593.out)
 replace HB := Aside0.mk (below_drew1 HB.out)
 refine start_ (n := 6) (S := fun w' => w'.cell? ⟨gb592, 0, none⟩ = some (.int .i64 a0_0) ∧ w'.cell? ⟨gb592, 1, none⟩ = some (.int .i64 a0_1) ∧ w'.cell? ⟨gb592, 2, none⟩ = some (.string a0_2) ∧ w'.cell? ⟨gb593, 0, none⟩ = some (.int .i64 a1_0) ∧ w'.cell? ⟨gb593, 1, none⟩ = some (.int .i64 a1_1) ∧ w'.cell? ⟨gb593, 2, none⟩ = some (.string a1_2)) (ds := []) #[false, false, false, false, false, false] (by kernel_rfl) rfl rfl ⟨(blk_cell BK592.out 0).trans rfl, (blk_cell BK592.out 1).trans rfl, (blk_cell BK592.out 2).trans rfl, (blk_cell BK593.out 0).trans rfl, (blk_cell BK593.out 1).trans rfl, (blk_cell BK593.out 2).trans rfl⟩ (fun hHeld => ?_)
 generalize w8.drew = w9 at BK592 BK593 HB hHeld ⊢
 refine take_ (i := 0) (N := some 13) (v := ?_) (a' := ?_) #[true, false, false, false, false, false] rfl rfl (by kernel_rfl) (fun _ _ _ h => h) (Or.inl ⟨by rfl, ?_⟩) hHeld ?_ ?_
 rotate_left
 ·rintro w' ⟨s0, s1, s2, s3, s4, s5⟩
  go_simp
  with_reducible rfl
 rotate_left
 ·simp only [Act.put, List.setIfInBounds_toArray, List.set_cons_zero, List.set_cons_succ, i64_w, i32_w]
  rfl
 refine take_ (i := 2) (N := some 15) (v := ?_) (a' := ?_) #[true, false, true, false, false, false] rfl rfl (by kernel_rfl) (fun _ _ _ h => h) (Or.inl ⟨by rfl, ?_⟩) hHeld ?_ ?_
 rotate_left
 ·rintro w' ⟨s0, s1, s2, s3, s4, s5⟩
  go_simp
  with_reducible rfl
 rotate_left
 ·simp only [Act.put, List.setIfInBounds_toArray, List.set_cons_zero, List.set_cons_succ, i64_w, i32_w]
  rfl
 refine one_ (i := 1) (N := some 14) #[true, true, true, false, false, false] rfl rfl (by kernel_rfl) (by decide) (fun K hK => ?_)
 refine goes_ Tryd.func11 (by kernel_rfl) rfl #[.agg #[.int .i64 a0_0, .int .i64 a0_1, .string a0_2]] (by rfl) rfl rfl (by (try simp only [List.map_toArray, List.map_cons, List.map_nil]); first | done | rfl | (simp only [List.length_drop, List.length_take]; rfl)) ?_
 with_reducible refine (alumref19_Right.calls a0_0 a0_1 a0_2 t594 _ A4.out).mono ?_
 rintro e w10 ⟨rfl, hb⟩
 refine ⟨_, rfl, ?_⟩
 replace BK592 := blkB BK592 hb
 replace BK593 := blkB BK593 hb
 replace HB := stepB HB hb
 (try clear hb)
 (try clear hb2)
 (try clear hk)
 (try clear hi)
 refine hK.out _ _ ⟨(blk_cell BK592.out 0).trans rfl, (blk_cell BK592.out 1).trans rfl, (blk_cell BK592.out 2).trans rfl, (blk_cell BK593.out 0).trans rfl, (blk_cell BK593.out 1).trans rfl, (blk_cell BK593.out 2).trans rfl⟩ (fun hHeld => ?_)
 clear hK K
 refine norm_ (a' := ?_) ?_ ?_
 rotate_left
 ·show Act.put _ (some 14) _ = _
  simp only [Act.put, List.setIfInBounds_toArray, List.set_cons_zero, List.set_cons_succ, i64_w, i32_w]
  rfl
 refine one_ (i := 3) (N := some 16) #[true, true, true, true, false, false] rfl rfl (by kernel_rfl) (by decide) (fun K hK => ?_)
 refine goes_ Tryd.func11 (by kernel_rfl) rfl #[.agg #[.int .i64 a1_0, .int .i64 a1_1, .string a1_2]] (by rfl) rfl rfl (by (try simp only [List.map_toArray, List.map_cons, List.map_nil]); first | done | rfl | (simp only [List.length_drop, List.length_take]; rfl)) ?_
 with_reducible refine (alumref19_Right.calls a1_0 a1_1 a1_2 t595 _ A5.out).mono ?_
 rintro e w11 ⟨rfl, hb⟩
 refine ⟨_, rfl, ?_⟩
 replace BK592 := blkB BK592 hb
 replace BK593 := blkB BK593 hb
 replace HB := stepB HB hb
 (try clear hb)
 (try clear hb2)
 (try clear hk)
 (try clear hi)
 refine hK.out _ _ ⟨(blk_cell BK592.out 0).trans rfl, (blk_cell BK592.out 1).trans rfl, (blk_cell BK592.out 2).trans rfl, (blk_cell BK593.out 0).trans rfl, (blk_cell BK593.out 1).trans rfl, (blk_cell BK593.out 2).trans rfl⟩ (fun hHeld => ?_)
 clear hK K
 refine norm_ (a' := ?_) ?_ ?_
 rotate_left
 ·show Act.put _ (some 16) _ = _
  simp only [Act.put, List.setIfInBounds_toArray, List.set_cons_zero, List.set_cons_succ, i64_w, i32_w]
  rfl
 refine pure_ (i := 4) (N := some 7) (v := ?_) (a' := ?_) #[true, true, true, true, true, false] rfl rfl (by kernel_rfl) (fun _ _ _ h => h) (Or.inl ⟨by rfl, ?_⟩) ?_ ?_
 rotate_left
 ·intro w'
  go_simp
  with_reducible rfl
 rotate_left
 ·simp only [Act.put, List.setIfInBounds_toArray, List.set_cons_zero, List.set_cons_succ, i64_w, i32_w]
  rfl
 refine pure_ (i := 5) (N := some 8) (v := ?_) (a' := ?_) #[true, true, true, true, true, true] rfl rfl (by kernel_rfl) (fun _ _ _ h => h) (Or.inl ⟨by rfl, ?_⟩) ?_ ?_
 rotate_left
 ·intro w'
  go_simp
  with_reducible rfl
 rotate_left
 ·simp only [Act.put, List.setIfInBounds_toArray, List.set_cons_zero, List.set_cons_succ, i64_w, i32_w]
  rfl
 refine done_ (by kernel_rfl) ?_
 go_upto_region 2 with (fail)
 go_cut [37] (fun v37 wc => ∃ (kq : Nat) (x37_5 : Bool), v37 = .bool x37_5 ∧ Aside0 (alumlaw19_ValueMatchesSpecT.j0 kq a2 t594 t595 x37_5 a0_0 a0_1 a0_2 a1_0 a1_1 a1_2 = some r) ∧ Aside0 (kq ≤ k) ∧ Aside0 (wc.heap[gb592]? = some (.cells #[.int .i64 a0_0, .int .i64 a0_1, .string a0_2] 23 (0, 0))) ∧ Aside0 (wc.heap[gb593]? = some (.cells #[.int .i64 a1_0, .int .i64 a1_1, .string a1_2] 23 (0, 0))) ∧ Aside0 (Below w.heap.size w wc))
 case first =>
  have H := HC6.out
  clear HC6
  replace H := Option.bind_eq_some_iff.mp H
  obtain ⟨t596, A120, H⟩ := H
  replace H : (if (t596 != t594) = true then (none) else ((value_Right.f a1_0 a1_1 a1_2).bind fun t597 => (if (t597 != t595) = true then (none) else ((value_RightRow.f k (([(⟨a0_0, a0_1, a0_2⟩ : S23), (⟨a1_0, a1_1, a1_2⟩ : S23)] : List (S23)))).bind fun t601 => (if t594 = true then (alumlaw19_ValueMatchesSpecT.j0 k a2 t594 t595 (t601 != t595) a0_0 a0_1 a0_2 a1_0 a1_1 a1_2) else (alumlaw19_ValueMatchesSpecT.j0 k a2 t594 t595 t601 a0_0 a0_1 a0_2 a1_0 a1_1 a1_2)))))) = some r := H
  have A12 := Aside0.mk A120
  clear A120
  by_cases c13 : (t596 != t594) = true
  ·rw [if_pos c13] at H
   exact absurd H (by simp)
  ·rw [if_neg c13] at H
   have c13b0 : (t596 != t594) = false := by simpa using c13
   (try (have c13b1 : decide (t596 = t594) = true := by simpa using c13))
   (try (have c13b2 : (t596 == t594) = true := by simpa using c13))
   clear c13
   (first | rw [c13b0] | (simp only [i64_w, i32_w]; rw [c13b0]) | skip)
   replace H := Option.bind_eq_some_iff.mp H
   obtain ⟨t597, A140, H⟩ := H
   replace H : (if (t597 != t595) = true then (none) else ((value_RightRow.f k (([(⟨a0_0, a0_1, a0_2⟩ : S23), (⟨a1_0, a1_1, a1_2⟩ : S23)] : List (S23)))).bind fun t601 => (if t594 = true then (alumlaw19_ValueMatchesSpecT.j0 k a2 t594 t595 (t601 != t595) a0_0 a0_1 a0_2 a1_0 a1_1 a1_2) else (alumlaw19_ValueMatchesSpecT.j0 k a2 t594 t595 t601 a0_0 a0_1 a0_2 a1_0 a1_1 a1_2)))) = some r := H
   have A14 := Aside0.mk A140
   clear A140
   by_cases c15 : (t597 != t595) = true
   ·rw [if_pos c15] at H
    exact absurd H (by simp)
   ·rw [if_neg c15] at H
    have c15b0 : (t597 != t595) = false := by simpa using c15
    (try (have c15b1 : decide (t597 = t595) = true := by simpa using c15))
    (try (have c15b2 : (t597 == t595) = true := by simpa using c15))
    clear c15
    obtain ⟨y598, hy598⟩ : ∃ y_ : List (S23), y_ = (([(⟨a0_0, a0_1, a0_2⟩ : S23), (⟨a1_0, a1_1, a1_2⟩ : S23)] : List (S23))) := ⟨_, rfl⟩
    replace H : ((value_RightRow.f k y598).bind fun t601 => (if t594 = true then (alumlaw19_ValueMatchesSpecT.j0 k a2 t594 t595 (t601 != t595) a0_0 a0_1 a0_2 a1_0 a1_1 a1_2) else (alumlaw19_ValueMatchesSpecT.j0 k a2 t594 t595 t601 a0_0 a0_1 a0_2 a1_0 a1_1 a1_2))) = some r := by first | (rw [hy598]; with_reducible exact H) | (have H2_ := (Option.bind_some _ _).symm.trans H; rw [hy598]; with_reducible exact H2_) | (have H2_ := (Option.bind_some _ _).symm.trans H; with_reducible exact H2_) | with_reducible exact H | (rw [hy598]; exact H) | exact H
    have Ny598 := Aside0.mk hy598
    clear hy598
    replace H := Option.bind_eq_some_iff.mp H
    obtain ⟨t601, A160, H⟩ := H
    replace H : (if t594 = true then (alumlaw19_ValueMatchesSpecT.j0 k a2 t594 t595 (t601 != t595) a0_0 a0_1 a0_2 a1_0 a1_1 a1_2) else (alumlaw19_ValueMatchesSpecT.j0 k a2 t594 t595 t601 a0_0 a0_1 a0_2 a1_0 a1_1 a1_2)) = some r := H
    have A16 := Aside0.mk A160
    clear A160
    by_cases c17 : t594 = true
    ·subst c17
     have H1 : (alumlaw19_ValueMatchesSpecT.j0 k a2 true t595 (t601 != t595) a0_0 a0_1 a0_2 a1_0 a1_1 a1_2) = some r := by rw [if_pos rfl] at H; exact H
     clear H
     have H := H1
     clear H1
     have H' := Aside0.mk H
     clear H
     have hnb18 := NB592_593.out
     have hnc18 := NB593_592.out
     have hcz19_0 : w11.cell? ⟨gb592, 0, none⟩ = some (.int .i64 a0_0) := (blk_cell BK592.out 0).trans rfl
     have hcz19_1 : w11.cell? ⟨gb592, 1, none⟩ = some (.int .i64 a0_1) := (blk_cell BK592.out 1).trans rfl
     have hcz19_2 : w11.cell? ⟨gb592, 2, none⟩ = some (.string a0_2) := (blk_cell BK592.out 2).trans rfl
     have hfz19_0 := blk_frozen BK592.out 0
     have hfz19_1 := blk_frozen BK592.out 1
     have hfz19_2 := blk_frozen BK592.out 2
     go_wp2_with (first | ((with_reducible refine gate_callee (f := 19) rfl ?_); refine goesL_ (some 18) rfl rfl Tryd.func19 (by kernel_rfl) rfl #[.agg #[.int .i64 a0_0, .int .i64 a0_1, .string a0_2]] rfl (by (try simp only [List.map_toArray, List.map_cons, List.map_nil]); first | done | rfl | (simp only [List.length_drop, List.length_take]; rfl)) ?_; (with_reducible refine (value_Right.calls a0_0 a0_1 a0_2 t596 _ A12.out).mono ?_); rintro e w20 ⟨rfl, hb⟩; refine ⟨_, rfl, ?_⟩; replace BK592 := blkB BK592 hb; replace BK593 := blkB BK593 hb; replace HB := stepB HB hb; (try clear hb); (try clear hb2); (try clear hk); (try clear hi); have hcz21_0 : w20.cell? ⟨gb593, 0, none⟩ = some (.int .i64 a1_0) := (blk_cell BK593.out 0).trans rfl; have hcz21_1 : w20.cell? ⟨gb593, 1, none⟩ = some (.int .i64 a1_1) := (blk_cell BK593.out 1).trans rfl; have hcz21_2 : w20.cell? ⟨gb593, 2, none⟩ = some (.string a1_2) := (blk_cell BK593.out 2).trans rfl; have hfz21_0 := blk_frozen BK593.out 0; have hfz21_1 := blk_frozen BK593.out 1; have hfz21_2 := blk_frozen BK593.out 2) | (go_at_call 19; (with_reducible refine (value_Right.calls a1_0 a1_1 a1_2 t597 _ A14.out).mono ?_); rintro e w22 ⟨rfl, hb⟩; replace BK592 := blkB BK592 hb; replace BK593 := blkB BK593 hb; replace HB := stepB HB hb; (try clear hb); (try clear hb2); (try clear hk); (try clear hi); have hcz23_0 : w22.cell? ⟨gb592, 0, none⟩ = some (.int .i64 a0_0) := (blk_cell BK592.out 0).trans rfl; have hcz23_1 : w22.cell? ⟨gb592, 1, none⟩ = some (.int .i64 a0_1) := (blk_cell BK592.out 1).trans rfl; have hcz23_2 : w22.cell? ⟨gb592, 2, none⟩ = some (.string a0_2) := (blk_cell BK592.out 2).trans rfl; have hfz23_0 := blk_frozen BK592.out 0; have hfz23_1 := blk_frozen BK592.out 1; have hfz23_2 := blk_frozen BK592.out 2; have hcz24_0 : w22.cell? ⟨gb593, 0, none⟩ = some (.int .i64 a1_0) := (blk_cell BK593.out 0).trans rfl; have hcz24_1 : w22.cell? ⟨gb593, 1, none⟩ = some (.int .i64 a1_1) := (blk_cell BK593.out 1).trans rfl; have hcz24_2 : w22.cell? ⟨gb593, 2, none⟩ = some (.string a1_2) := (blk_cell BK593.out 2).trans rfl; have hfz24_0 := blk_frozen BK593.out 0; have hfz24_1 := blk_frozen BK593.out 1; have hfz24_2 := blk_frozen BK593.out 2) | ((with_reducible refine gate_dst (N := 30) rfl ?_); (try (refine gate_guard (by rfl) ?_; dsimp only)); refine Kd.R_lit k23 _ 23 ?hg (N := 30) ?hd (xs := ([(⟨a0_0, a0_1, a0_2⟩ : S23), (⟨a1_0, a1_1, a1_2⟩ : S23)] : List (S23))) (inner := [.int .i64 a0_0, .int .i64 a0_1, .string a0_2, .int .i64 a1_0, .int .i64 a1_1, .string a1_2]) (ok := fun _ => True) (okp := fun _ => True) ?hr ?hp (fun _ hk => hk) trivial (Below.refl _ _) (Nat.le_refl _) (by simp) ?_; (case hd => rfl); (case hg => rfl); (case hr => first | (go_simp; done) | (go_simp; rfl)); (case hp => exact (Reps.c3 (show Kd.M k23 _ _ _ (⟨a0_0, a0_1, a0_2⟩ : S23) [.int .i64 a0_0, .int .i64 a0_1, .string a0_2] from (k23_mkM _ _ _ (⟨a0_0, a0_1, a0_2⟩ : S23) )) (Reps.c3 (show Kd.M k23 _ _ _ (⟨a1_0, a1_1, a1_2⟩ : S23) [.int .i64 a1_0, .int .i64 a1_1, .string a1_2] from (k23_mkM _ _ _ (⟨a1_0, a1_1, a1_2⟩ : S23) )) (Reps.none _ _)))); intro v599 w25 ho26 hb hg_ hnew_; clear hg_ hnew_; (first | rw [← Ny598.out] at ho26 | (simp only [Int.reduceToNat] at ho26; rw [← Ny598.out] at ho26)); have HO600 := Aside0.mk (Kd.R_lower (Kd.R_newB (Kd.R_newB ho26 (g := gb592) (o := .cells #[.int .i64 a0_0, .int .i64 a0_1, .string a0_2] 23 (0, 0)) (by (with_reducible repeat (first | refine blk_drewN ?_ _ | refine blk_drew ?_ | refine blk_alloc ?_ _)); exact BK592.out)) (g := gb593) (o := .cells #[.int .i64 a1_0, .int .i64 a1_1, .string a1_2] 23 (0, 0)) (by (with_reducible repeat (first | refine blk_drewN ?_ _ | refine blk_drew ?_ | refine blk_alloc ?_ _)); exact BK593.out)) (below_size (by repeat (first | (with_reducible first | exact HB.out | apply below_alloc | apply pw_below_drewN | apply below_drew1 | refine below_set ?_ GE592.out | refine below_set ?_ GE593.out) | exact HB.out)))); replace BK592 := blkB BK592 hb; replace BK593 := blkB BK593 hb; replace HB := stepB HB hb; clear hb ho26; obtain ⟨Ao27, co27, eo27⟩ := Kd.R_slice HO600.out; subst eo27) | (go_at_call 20; (with_reducible refine (value_RightRow.calls k _ _ y598 t601 _ ?side1 ?side2 A16.out).mono ?_); (case side1 => repeat (first | exact (Kd.R_reads' HO600.out).2.2 | (with_reducible refine Kd.C_alloc ?_ _) | (with_reducible refine Kd.C_drewN ?_ _) | (with_reducible refine Kd.C_drew ?_))); (case side2 => exact (Kd.R_reads' HO600.out).2.1); rintro e w28 ⟨rfl, hb⟩; replace HO600 := Aside0.mk (Kd.R_below (by (with_reducible repeat (first | apply Kd.R_alloc | apply Kd.R_drewN | apply Kd.R_drew)); exact HO600.out) hb); replace BK592 := blkB BK592 hb; replace BK593 := blkB BK593 hb; replace HB := stepB HB hb; (try clear hb); (try clear hb2); (try clear hk); (try clear hi)))
     go_meet
     case rel => exact ⟨_, ((t601 != t595)), (by first | rfl | (simp; done) | (simp [*]; done)), H', ⟨by first | omega | exact Nat.le_refl _⟩, ⟨by (with_reducible repeat (first | refine blk_drewN ?_ _ | refine blk_drew ?_ | refine blk_alloc ?_ _)); exact BK592.out⟩, ⟨by (with_reducible repeat (first | refine blk_drewN ?_ _ | refine blk_drew ?_ | refine blk_alloc ?_ _)); exact BK593.out⟩, ⟨by repeat (first | (with_reducible first | exact HB.out | apply below_alloc | apply pw_below_drewN | apply below_drew1 | refine below_set ?_ GE592.out | refine below_set ?_ GE593.out) | exact HB.out)⟩⟩
    ·replace c17 := Bool.eq_false_iff.mpr c17
     subst c17
     have H1 : (alumlaw19_ValueMatchesSpecT.j0 k a2 false t595 t601 a0_0 a0_1 a0_2 a1_0 a1_1 a1_2) = some r := by rw [if_neg (show ¬ (false = true) by decide)] at H; exact H
     clear H
     have H := H1
     clear H1
     have H' := Aside0.mk H
     clear H
     have hnb29 := NB592_593.out
     have hnc29 := NB593_592.out
     have hcz30_0 : w11.cell? ⟨gb592, 0, none⟩ = some (.int .i64 a0_0) := (blk_cell BK592.out 0).trans rfl
     have hcz30_1 : w11.cell? ⟨gb592, 1, none⟩ = some (.int .i64 a0_1) := (blk_cell BK592.out 1).trans rfl
     have hcz30_2 : w11.cell? ⟨gb592, 2, none⟩ = some (.string a0_2) := (blk_cell BK592.out 2).trans rfl
     have hfz30_0 := blk_frozen BK592.out 0
     have hfz30_1 := blk_frozen BK592.out 1
     have hfz30_2 := blk_frozen BK592.out 2
     go_wp2_with (first | ((with_reducible refine gate_callee (f := 19) rfl ?_); refine goesL_ (some 18) rfl rfl Tryd.func19 (by kernel_rfl) rfl #[.agg #[.int .i64 a0_0, .int .i64 a0_1, .string a0_2]] rfl (by (try simp only [List.map_toArray, List.map_cons, List.map_nil]); first | done | rfl | (simp only [List.length_drop, List.length_take]; rfl)) ?_; (with_reducible refine (value_Right.calls a0_0 a0_1 a0_2 t596 _ A12.out).mono ?_); rintro e w31 ⟨rfl, hb⟩; refine ⟨_, rfl, ?_⟩; replace BK592 := blkB BK592 hb; replace BK593 := blkB BK593 hb; replace HB := stepB HB hb; (try clear hb); (try clear hb2); (try clear hk); (try clear hi); have hcz32_0 : w31.cell? ⟨gb593, 0, none⟩ = some (.int .i64 a1_0) := (blk_cell BK593.out 0).trans rfl; have hcz32_1 : w31.cell? ⟨gb593, 1, none⟩ = some (.int .i64 a1_1) := (blk_cell BK593.out 1).trans rfl; have hcz32_2 : w31.cell? ⟨gb593, 2, none⟩ = some (.string a1_2) := (blk_cell BK593.out 2).trans rfl; have hfz32_0 := blk_frozen BK593.out 0; have hfz32_1 := blk_frozen BK593.out 1; have hfz32_2 := blk_frozen BK593.out 2) | (go_at_call 19; (with_reducible refine (value_Right.calls a1_0 a1_1 a1_2 t597 _ A14.out).mono ?_); rintro e w33 ⟨rfl, hb⟩; replace BK592 := blkB BK592 hb; replace BK593 := blkB BK593 hb; replace HB := stepB HB hb; (try clear hb); (try clear hb2); (try clear hk); (try clear hi); have hcz34_0 : w33.cell? ⟨gb592, 0, none⟩ = some (.int .i64 a0_0) := (blk_cell BK592.out 0).trans rfl; have hcz34_1 : w33.cell? ⟨gb592, 1, none⟩ = some (.int .i64 a0_1) := (blk_cell BK592.out 1).trans rfl; have hcz34_2 : w33.cell? ⟨gb592, 2, none⟩ = some (.string a0_2) := (blk_cell BK592.out 2).trans rfl; have hfz34_0 := blk_frozen BK592.out 0; have hfz34_1 := blk_frozen BK592.out 1; have hfz34_2 := blk_frozen BK592.out 2; have hcz35_0 : w33.cell? ⟨gb593, 0, none⟩ = some (.int .i64 a1_0) := (blk_cell BK593.out 0).trans rfl; have hcz35_1 : w33.cell? ⟨gb593, 1, none⟩ = some (.int .i64 a1_1) := (blk_cell BK593.out 1).trans rfl; have hcz35_2 : w33.cell? ⟨gb593, 2, none⟩ = some (.string a1_2) := (blk_cell BK593.out 2).trans rfl; have hfz35_0 := blk_frozen BK593.out 0; have hfz35_1 := blk_frozen BK593.out 1; have hfz35_2 := blk_frozen BK593.out 2) | ((with_reducible refine gate_dst (N := 30) rfl ?_); (try (refine gate_guard (by rfl) ?_; dsimp only)); refine Kd.R_lit k23 _ 23 ?hg (N := 30) ?hd (xs := ([(⟨a0_0, a0_1, a0_2⟩ : S23), (⟨a1_0, a1_1, a1_2⟩ : S23)] : List (S23))) (inner := [.int .i64 a0_0, .int .i64 a0_1, .string a0_2, .int .i64 a1_0, .int .i64 a1_1, .string a1_2]) (ok := fun _ => True) (okp := fun _ => True) ?hr ?hp (fun _ hk => hk) trivial (Below.refl _ _) (Nat.le_refl _) (by simp) ?_; (case hd => rfl); (case hg => rfl); (case hr => first | (go_simp; done) | (go_simp; rfl)); (case hp => exact (Reps.c3 (show Kd.M k23 _ _ _ (⟨a0_0, a0_1, a0_2⟩ : S23) [.int .i64 a0_0, .int .i64 a0_1, .string a0_2] from (k23_mkM _ _ _ (⟨a0_0, a0_1, a0_2⟩ : S23) )) (Reps.c3 (show Kd.M k23 _ _ _ (⟨a1_0, a1_1, a1_2⟩ : S23) [.int .i64 a1_0, .int .i64 a1_1, .string a1_2] from (k23_mkM _ _ _ (⟨a1_0, a1_1, a1_2⟩ : S23) )) (Reps.none _ _)))); intro v599 w36 ho37 hb hg_ hnew_; clear hg_ hnew_; (first | rw [← Ny598.out] at ho37 | (simp only [Int.reduceToNat] at ho37; rw [← Ny598.out] at ho37)); have HO600 := Aside0.mk (Kd.R_lower (Kd.R_newB (Kd.R_newB ho37 (g := gb592) (o := .cells #[.int .i64 a0_0, .int .i64 a0_1, .string a0_2] 23 (0, 0)) (by (with_reducible repeat (first | refine blk_drewN ?_ _ | refine blk_drew ?_ | refine blk_alloc ?_ _)); exact BK592.out)) (g := gb593) (o := .cells #[.int .i64 a1_0, .int .i64 a1_1, .string a1_2] 23 (0, 0)) (by (with_reducible repeat (first | refine blk_drewN ?_ _ | refine blk_drew ?_ | refine blk_alloc ?_ _)); exact BK593.out)) (below_size (by repeat (first | (with_reducible first | exact HB.out | apply below_alloc | apply pw_below_drewN | apply below_drew1 | refine below_set ?_ GE592.out | refine below_set ?_ GE593.out) | exact HB.out)))); replace BK592 := blkB BK592 hb; replace BK593 := blkB BK593 hb; replace HB := stepB HB hb; clear hb ho37; obtain ⟨Ao38, co38, eo38⟩ := Kd.R_slice HO600.out; subst eo38) | (go_at_call 20; (with_reducible refine (value_RightRow.calls k _ _ y598 t601 _ ?side1 ?side2 A16.out).mono ?_); (case side1 => repeat (first | exact (Kd.R_reads' HO600.out).2.2 | (with_reducible refine Kd.C_alloc ?_ _) | (with_reducible refine Kd.C_drewN ?_ _) | (with_reducible refine Kd.C_drew ?_))); (case side2 => exact (Kd.R_reads' HO600.out).2.1); rintro e w39 ⟨rfl, hb⟩; replace HO600 := Aside0.mk (Kd.R_below (by (with_reducible repeat (first | apply Kd.R_alloc | apply Kd.R_drewN | apply Kd.R_drew)); exact HO600.out) hb); replace BK592 := blkB BK592 hb; replace BK593 := blkB BK593 hb; replace HB := stepB HB hb; (try clear hb); (try clear hb2); (try clear hk); (try clear hi)))
     go_meet
     case rel => exact ⟨_, (t601), (by first | rfl | (simp; done) | (simp [*]; done)), H', ⟨by first | omega | exact Nat.le_refl _⟩, ⟨by (with_reducible repeat (first | refine blk_drewN ?_ _ | refine blk_drew ?_ | refine blk_alloc ?_ _)); exact BK592.out⟩, ⟨by (with_reducible repeat (first | refine blk_drewN ?_ _ | refine blk_drew ?_ | refine blk_alloc ?_ _)); exact BK593.out⟩, ⟨by repeat (first | (with_reducible first | exact HB.out | apply below_alloc | apply pw_below_drewN | apply below_drew1 | refine below_set ?_ GE592.out | refine below_set ?_ GE593.out) | exact HB.out)⟩⟩
 case rest =>
  clear HC6
  try clear c1
  try clear c2
  try clear p2
  try clear c3
  try clear c5
  try clear c11
  try clear c13
  try clear c13b0
  try clear c13b1
  try clear c13b2
  try clear c15
  try clear c15b0
  try clear c15b1
  try clear c15b2
  try clear c17
  try clear c18
  try clear c19
  try clear c29
  try clear hcz19_0
  try clear hcz19_1
  try clear hcz19_2
  try clear hcz21_0
  try clear hcz21_1
  try clear hcz21_2
  try clear hcz23_0
  try clear hcz23_1
  try clear hcz23_2
  try clear hcz24_0
  try clear hcz24_1
  try clear hcz24_2
  try clear hcz30_0
  try clear hcz30_1
  try clear hcz30_2
  try clear hcz32_0
  try clear hcz32_1
  try clear hcz32_2
  try clear hcz34_0
  try clear hcz34_1
  try clear hcz34_2
  try clear hcz35_0
  try clear hcz35_1
  try clear hcz35_2
  try clear hfz19_0
  try clear hfz19_1
  try clear hfz19_2
  try clear hfz21_0
  try clear hfz21_1
  try clear hfz21_2
  try clear hfz23_0
  try clear hfz23_1
  try clear hfz23_2
  try clear hfz24_0
  try clear hfz24_1
  try clear hfz24_2
  try clear hfz30_0
  try clear hfz30_1
  try clear hfz30_2
  try clear hfz32_0
  try clear hfz32_1
  try clear hfz32_2
  try clear hfz34_0
  try clear hfz34_1
  try clear hfz34_2
  try clear hfz35_0
  try clear hfz35_1
  try clear hfz35_2
  obtain ⟨kq, x37_5, rfl, HA, HJ5, BK592, BK593, HB⟩ := hcut
  cases kq with
  | zero => exact absurd HA.out (by simp [alumlaw19_ValueMatchesSpecT.j0])
  | succ kj5 =>
   have H := HA.out
   clear HA
   simp only [alumlaw19_ValueMatchesSpecT.j0] at H
   by_cases c40 : x37_5 = true
   ·subst c40
    have H1 : (none) = some r := by rw [if_pos rfl] at H; exact H
    clear H
    have H := H1
    clear H1
    exact absurd H (by simp)
   ·replace c40 := Bool.eq_false_iff.mpr c40
    subst c40
    have H1 : (if t594 = true then (alumlaw19_ValueMatchesSpecT.j1 kj5 a2 (!t595) a0_0 a0_1 a0_2 a1_0 a1_1 a1_2) else (alumlaw19_ValueMatchesSpecT.j1 kj5 a2 true a0_0 a0_1 a0_2 a1_0 a1_1 a1_2)) = some r := by rw [if_neg (show ¬ (false = true) by decide)] at H; exact H
    clear H
    have H := H1
    clear H1
    have HC41 := Aside0.mk H
    clear H
    go_upto_region 4 with (fail)
    go_cut [43] (fun v43 wc => ∃ (kq : Nat) (x43_40 : Bool), v43 = .bool x43_40 ∧ Aside0 (alumlaw19_ValueMatchesSpecT.j1 kq a2 x43_40 a0_0 a0_1 a0_2 a1_0 a1_1 a1_2 = some r) ∧ Aside0 (kq ≤ kj5) ∧ Aside0 (wc.heap[gb592]? = some (.cells #[.int .i64 a0_0, .int .i64 a0_1, .string a0_2] 23 (0, 0))) ∧ Aside0 (wc.heap[gb593]? = some (.cells #[.int .i64 a1_0, .int .i64 a1_1, .string a1_2] 23 (0, 0))) ∧ Aside0 (Below w.heap.size w wc))
    case first =>
     have H := HC41.out
     clear HC41
     by_cases c42 : t594 = true
     ·subst c42
      have H1 : (alumlaw19_ValueMatchesSpecT.j1 kj5 a2 (!t595) a0_0 a0_1 a0_2 a1_0 a1_1 a1_2) = some r := by rw [if_pos rfl] at H; exact H
      clear H
      have H := H1
      clear H1
      have H' := Aside0.mk H
      clear H
      go_wp2
      go_meet
      case rel => exact ⟨_, (!t595), (by first | rfl | (simp; done) | (simp [*]; done)), H', ⟨by have := HJ5.out; first | omega | exact Nat.le_refl _⟩, ⟨by (with_reducible repeat (first | refine blk_drewN ?_ _ | refine blk_drew ?_ | refine blk_alloc ?_ _)); exact BK592.out⟩, ⟨by (with_reducible repeat (first | refine blk_drewN ?_ _ | refine blk_drew ?_ | refine blk_alloc ?_ _)); exact BK593.out⟩, ⟨by repeat (first | (with_reducible first | exact HB.out | apply below_alloc | apply pw_below_drewN | apply below_drew1 | refine below_set ?_ GE592.out | refine below_set ?_ GE593.out) | exact HB.out)⟩⟩
     ·replace c42 := Bool.eq_false_iff.mpr c42
      subst c42
      have H1 : (alumlaw19_ValueMatchesSpecT.j1 kj5 a2 true a0_0 a0_1 a0_2 a1_0 a1_1 a1_2) = some r := by rw [if_neg (show ¬ (false = true) by decide)] at H; exact H
      clear H
      have H := H1
      clear H1
      have H' := Aside0.mk H
      clear H
      go_wp2
      go_meet
      case rel => exact ⟨_, (true), (by first | rfl | (simp; done) | (simp [*]; done)), H', ⟨by have := HJ5.out; first | omega | exact Nat.le_refl _⟩, ⟨by (with_reducible repeat (first | refine blk_drewN ?_ _ | refine blk_drew ?_ | refine blk_alloc ?_ _)); exact BK592.out⟩, ⟨by (with_reducible repeat (first | refine blk_drewN ?_ _ | refine blk_drew ?_ | refine blk_alloc ?_ _)); exact BK593.out⟩, ⟨by repeat (first | (with_reducible first | exact HB.out | apply below_alloc | apply pw_below_drewN | apply below_drew1 | refine below_set ?_ GE592.out | refine below_set ?_ GE593.out) | exact HB.out)⟩⟩
    case rest =>
     clear HC41
     try clear c1
     try clear c2
     try clear p2
     try clear c3
     try clear c4
     try clear c5
     try clear c11
     try clear c13
     try clear c13b0
     try clear c13b1
     try clear c13b2
     try clear c15
     try clear c15b0
     try clear c15b1
     try clear c15b2
     try clear c17
     try clear c18
     try clear c19
     try clear c29
     try clear c40
     try clear c42
     try clear hcz19_0
     try clear hcz19_1
     try clear hcz19_2
     try clear hcz21_0
     try clear hcz21_1
     try clear hcz21_2
     try clear hcz23_0
     try clear hcz23_1
     try clear hcz23_2
     try clear hcz24_0
     try clear hcz24_1
     try clear hcz24_2
     try clear hcz30_0
     try clear hcz30_1
     try clear hcz30_2
     try clear hcz32_0
     try clear hcz32_1
     try clear hcz32_2
     try clear hcz34_0
     try clear hcz34_1
     try clear hcz34_2
     try clear hcz35_0
     try clear hcz35_1
     try clear hcz35_2
     try clear hfz19_0
     try clear hfz19_1
     try clear hfz19_2
     try clear hfz21_0
     try clear hfz21_1
     try clear hfz21_2
     try clear hfz23_0
     try clear hfz23_1
     try clear hfz23_2
     try clear hfz24_0
     try clear hfz24_1
     try clear hfz24_2
     try clear hfz30_0
     try clear hfz30_1
     try clear hfz30_2
     try clear hfz32_0
     try clear hfz32_1
     try clear hfz32_2
     try clear hfz34_0
     try clear hfz34_1
     try clear hfz34_2
     try clear hfz35_0
     try clear hfz35_1
     try clear hfz35_2
     try clear p2
     obtain ⟨kq, x43_40, rfl, HA, HJ40, BK592, BK593, HB⟩ := hcut
     cases kq with
     | zero => exact absurd HA.out (by simp [alumlaw19_ValueMatchesSpecT.j1])
     | succ kj40 =>
      have H := HA.out
      clear HA
      simp only [alumlaw19_ValueMatchesSpecT.j1] at H
      by_cases c43 : x43_40 = true
      ·subst c43
       have H1 : ((alumlaw19_sanity.f kj40).bind fun t602 => (some t602)) = some r := by rw [if_pos rfl] at H; exact H
       clear H
       have H := H1
       clear H1
       replace H := Option.bind_eq_some_iff.mp H
       obtain ⟨t602, A440, H⟩ := H
       replace H : (some t602) = some r := H
       have A44 := Aside0.mk A440
       clear A440
       obtain rfl := Option.some.inj H
       go_wp2_with (first | ((with_reducible refine gate_callee (f := 12) rfl ?_); refine goesL_ (some 44) rfl rfl Tryd.func12 (by kernel_rfl) rfl #[] rfl (by (try simp only [List.map_toArray, List.map_cons, List.map_nil]); first | done | rfl | (simp only [List.length_drop, List.length_take]; rfl)) ?_; (with_reducible refine (alumlaw19_sanity.calls kj40  t602 _ A44.out).mono ?_); rintro e w45 ⟨rfl, hb⟩; refine ⟨_, rfl, ?_⟩; replace BK592 := blkB BK592 hb; replace BK593 := blkB BK593 hb; replace HB := stepB HB hb; (try clear hb); (try clear hb2); (try clear hk); (try clear hi)))
       go_ret
       exact ⟨by first | rfl | (simp [errW_none, errW_some] <;> rfl) | (simp [*, errW_none, errW_some] <;> rfl), by repeat (first | (with_reducible first | exact HB.out | apply below_alloc | apply pw_below_drewN | apply below_drew1 | refine below_set ?_ GE592.out | refine below_set ?_ GE593.out) | exact HB.out)⟩
      ·replace c43 := Bool.eq_false_iff.mpr c43
       subst c43
       have H1 : ((value_Test.f kj40 a2 a0_0 a0_1 a0_2 a1_0 a1_1 a1_2).bind fun bt603 => ((alumref19_Test.f kj40 a2 a0_0 a0_1 a0_2 a1_0 a1_1 a1_2).bind fun bt608 => (if (!(bt603.1 == bt608.1) || (!(bt603.2.1 == bt608.2.1) || (!(bt603.2.2.1.toList == bt608.2.2.1.toList)))) = true then (none) else (alumlaw19_ValueMatchesSpecT.j2 kj40 (bt603.2.2.2 != bt608.2.2.2) a0_0 a0_1 a0_2 a1_0 a1_1 a1_2)))) = some r := by rw [if_neg (show ¬ (false = true) by decide)] at H; exact H
       clear H
       have H := H1
       clear H1
       replace H := Option.bind_eq_some_iff.mp H
       obtain ⟨⟨t603, t604, t605, t606⟩, A460, H⟩ := H
       replace H : ((alumref19_Test.f kj40 a2 a0_0 a0_1 a0_2 a1_0 a1_1 a1_2).bind fun bt608 => (if (!(t603 == bt608.1) || (!(t604 == bt608.2.1) || (!(t605.toList == bt608.2.2.1.toList)))) = true then (none) else (alumlaw19_ValueMatchesSpecT.j2 kj40 (t606 != bt608.2.2.2) a0_0 a0_1 a0_2 a1_0 a1_1 a1_2))) = some r := H
       have A46 := Aside0.mk A460
       clear A460
       replace H := Option.bind_eq_some_iff.mp H
       obtain ⟨⟨t608, t609, t610, t611⟩, A470, H⟩ := H
       replace H : (if (!(t603 == t608) || (!(t604 == t609) || (!(t605.toList == t610.toList)))) = true then (none) else (alumlaw19_ValueMatchesSpecT.j2 kj40 (t606 != t611) a0_0 a0_1 a0_2 a1_0 a1_1 a1_2)) = some r := H
       have A47 := Aside0.mk A470
       clear A470
       have HC48 := Aside0.mk H
       clear H
       have hnb49 := NB592_593.out
       have hnc49 := NB593_592.out
       have hcz50_0 : wc.cell? ⟨gb592, 0, none⟩ = some (.int .i64 a0_0) := (blk_cell BK592.out 0).trans rfl
       have hcz50_1 : wc.cell? ⟨gb592, 1, none⟩ = some (.int .i64 a0_1) := (blk_cell BK592.out 1).trans rfl
       have hcz50_2 : wc.cell? ⟨gb592, 2, none⟩ = some (.string a0_2) := (blk_cell BK592.out 2).trans rfl
       have hfz50_0 := blk_frozen BK592.out 0
       have hfz50_1 := blk_frozen BK592.out 1
       have hfz50_2 := blk_frozen BK592.out 2
       have hcz51_0 : wc.cell? ⟨gb593, 0, none⟩ = some (.int .i64 a1_0) := (blk_cell BK593.out 0).trans rfl
       have hcz51_1 : wc.cell? ⟨gb593, 1, none⟩ = some (.int .i64 a1_1) := (blk_cell BK593.out 1).trans rfl
       have hcz51_2 : wc.cell? ⟨gb593, 2, none⟩ = some (.string a1_2) := (blk_cell BK593.out 2).trans rfl
       have hfz51_0 := blk_frozen BK593.out 0
       have hfz51_1 := blk_frozen BK593.out 1
       have hfz51_2 := blk_frozen BK593.out 2
       go_upto_region 8 with (first | ((with_reducible refine gate_callee (f := 14) rfl ?_); refine goesL_ (some 49) rfl rfl Tryd.func14 (by kernel_rfl) rfl #[.int .i64 a2, .agg #[.int .i64 a0_0, .int .i64 a0_1, .string a0_2], .agg #[.int .i64 a1_0, .int .i64 a1_1, .string a1_2]] rfl (by (try simp only [List.map_toArray, List.map_cons, List.map_nil]); first | done | rfl | (simp only [List.length_drop, List.length_take]; rfl)) ?_; (with_reducible refine (value_Test.calls kj40 a2 a0_0 a0_1 a0_2 a1_0 a1_1 a1_2 t603 t604 t605 t606 _ A46.out).mono ?_); rintro e w52 ⟨rfl, hb⟩; refine ⟨_, rfl, ?_⟩; replace BK592 := blkB BK592 hb; replace BK593 := blkB BK593 hb; replace HB := stepB HB hb; (try clear hb); (try clear hb2); (try clear hk); (try clear hi)) | ((with_reducible refine gate_dst (N := 9) rfl ?_); (try (refine gate_guard (by rfl) ?_; dsimp only)); refine box_event ?hg (N := 9) ?hd (cs := #[.int .i64 0, .int .i64 0, .string (⟨#[]⟩ : ByteArray)]) (t := 23) ?hr ?_; (case hd => rfl); (case hg => rfl); (case hr => first | (go_simp; done) | (go_simp; rfl)); intro gb607 hg w53 hbox hb; have BK607 := Aside0.mk (hbox); have GW607 := (sizeB HB hg : Aside0 (w.heap.size ≤ gb607)); have GE607 := (sizeB HB hg : Aside0 (w.heap.size ≤ gb607)); have NB592_607 := neB BK592 hg; have NB607_592 := neC BK592 hg; have NB593_607 := neB BK593 hg; have NB607_593 := neC BK593 hg; replace BK592 := blkB BK592 hb; replace BK593 := blkB BK593 hb; replace HB := stepB HB hb; clear hb hbox hg; have hnb54 := NB607_592.out; have hnc54 := NB592_607.out; have hnb55 := NB607_593.out; have hnc55 := NB593_607.out; have hcz56_0 : w53.cell? ⟨gb607, 0, none⟩ = some (.int .i64 0) := (blk_cell BK607.out 0).trans rfl; have hcz56_1 : w53.cell? ⟨gb607, 1, none⟩ = some (.int .i64 0) := (blk_cell BK607.out 1).trans rfl; have hcz56_2 : w53.cell? ⟨gb607, 2, none⟩ = some (.string (⟨#[]⟩ : ByteArray)) := (blk_cell BK607.out 2).trans rfl; have hfz56_0 := blk_frozen BK607.out 0; have hfz56_1 := blk_frozen BK607.out 1; have hfz56_2 := blk_frozen BK607.out 2; have hcz57_0 : w53.cell? ⟨gb592, 0, none⟩ = some (.int .i64 a0_0) := (blk_cell BK592.out 0).trans rfl; have hcz57_1 : w53.cell? ⟨gb592, 1, none⟩ = some (.int .i64 a0_1) := (blk_cell BK592.out 1).trans rfl; have hcz57_2 : w53.cell? ⟨gb592, 2, none⟩ = some (.string a0_2) := (blk_cell BK592.out 2).trans rfl; have hfz57_0 := blk_frozen BK592.out 0; have hfz57_1 := blk_frozen BK592.out 1; have hfz57_2 := blk_frozen BK592.out 2; have hcz58_0 : w53.cell? ⟨gb593, 0, none⟩ = some (.int .i64 a1_0) := (blk_cell BK593.out 0).trans rfl; have hcz58_1 : w53.cell? ⟨gb593, 1, none⟩ = some (.int .i64 a1_1) := (blk_cell BK593.out 1).trans rfl; have hcz58_2 : w53.cell? ⟨gb593, 2, none⟩ = some (.string a1_2) := (blk_cell BK593.out 2).trans rfl; have hfz58_0 := blk_frozen BK593.out 0; have hfz58_1 := blk_frozen BK593.out 1; have hfz58_2 := blk_frozen BK593.out 2) | ((with_reducible refine gate_callee (f := 21) rfl ?_); refine goesL_ (some 56) rfl rfl Tryd.func21 (by kernel_rfl) rfl #[.int .i64 a2, .agg #[.int .i64 a0_0, .int .i64 a0_1, .string a0_2], .agg #[.int .i64 a1_0, .int .i64 a1_1, .string a1_2]] rfl (by (try simp only [List.map_toArray, List.map_cons, List.map_nil]); first | done | rfl | (simp only [List.length_drop, List.length_take]; rfl)) ?_; (with_reducible refine (alumref19_Test.calls kj40 a2 a0_0 a0_1 a0_2 a1_0 a1_1 a1_2 t608 t609 t610 t611 _ A47.out).mono ?_); rintro e w59 ⟨rfl, hb⟩; refine ⟨_, rfl, ?_⟩; replace BK592 := Aside0.mk (blk_below (g := gb592) (o := .cells #[.int .i64 a0_0, .int .i64 a0_1, .string a0_2] 23 (0, 0)) (by (with_reducible repeat (first | refine blk_drewN ?_ _ | refine blk_drew ?_ | refine blk_alloc ?_ _)); refine blk_far ?_ NB592_607.out _; (with_reducible repeat (first | refine blk_drewN ?_ _ | refine blk_drew ?_ | refine blk_alloc ?_ _)); refine blk_far ?_ NB592_607.out _; (with_reducible repeat (first | refine blk_drewN ?_ _ | refine blk_drew ?_ | refine blk_alloc ?_ _)); refine blk_far ?_ NB592_607.out _; (with_reducible repeat (first | refine blk_drewN ?_ _ | refine blk_drew ?_ | refine blk_alloc ?_ _)); exact BK592.out) hb); replace BK593 := Aside0.mk (blk_below (g := gb593) (o := .cells #[.int .i64 a1_0, .int .i64 a1_1, .string a1_2] 23 (0, 0)) (by (with_reducible repeat (first | refine blk_drewN ?_ _ | refine blk_drew ?_ | refine blk_alloc ?_ _)); refine blk_far ?_ NB593_607.out _; (with_reducible repeat (first | refine blk_drewN ?_ _ | refine blk_drew ?_ | refine blk_alloc ?_ _)); refine blk_far ?_ NB593_607.out _; (with_reducible repeat (first | refine blk_drewN ?_ _ | refine blk_drew ?_ | refine blk_alloc ?_ _)); refine blk_far ?_ NB593_607.out _; (with_reducible repeat (first | refine blk_drewN ?_ _ | refine blk_drew ?_ | refine blk_alloc ?_ _)); exact BK593.out) hb); replace BK607 := Aside0.mk (blk_below (g := gb607) (o := .cells #[.int .i64 t603, .int .i64 t604, .string t605] 23 (0, 0)) (by (with_reducible repeat (first | refine blk_drewN ?_ _ | refine blk_drew ?_ | refine blk_alloc ?_ _)); refine blk_put (cs := #[.int .i64 t603, .int .i64 t604, .string (⟨#[]⟩ : ByteArray)]) ?_ 2 _ rfl; (with_reducible repeat (first | refine blk_drewN ?_ _ | refine blk_drew ?_ | refine blk_alloc ?_ _)); refine blk_put (cs := #[.int .i64 t603, .int .i64 0, .string (⟨#[]⟩ : ByteArray)]) ?_ 1 _ rfl; (with_reducible repeat (first | refine blk_drewN ?_ _ | refine blk_drew ?_ | refine blk_alloc ?_ _)); refine blk_put (cs := #[.int .i64 0, .int .i64 0, .string (⟨#[]⟩ : ByteArray)]) ?_ 0 _ rfl; (with_reducible repeat (first | refine blk_drewN ?_ _ | refine blk_drew ?_ | refine blk_alloc ?_ _)); exact BK607.out) hb); replace HB := stepB HB hb; (try clear hb); (try clear hb2); (try clear hk); (try clear hi)) | ((with_reducible refine gate_dst (N := 11) rfl ?_); (try (refine gate_guard (by rfl) ?_; dsimp only)); refine box_event ?hg (N := 11) ?hd (cs := #[.int .i64 0, .int .i64 0, .string (⟨#[]⟩ : ByteArray)]) (t := 23) ?hr ?_; (case hd => rfl); (case hg => rfl); (case hr => first | (go_simp; done) | (go_simp; rfl)); intro gb612 hg w60 hbox hb; have BK612 := Aside0.mk (hbox); have GW612 := (sizeB HB hg : Aside0 (w.heap.size ≤ gb612)); have GE612 := (sizeB HB hg : Aside0 (w.heap.size ≤ gb612)); have NB592_612 := neB BK592 hg; have NB612_592 := neC BK592 hg; have NB593_612 := neB BK593 hg; have NB612_593 := neC BK593 hg; have NB607_612 := neB BK607 hg; have NB612_607 := neC BK607 hg; replace BK592 := blkB BK592 hb; replace BK593 := blkB BK593 hb; replace BK607 := blkB BK607 hb; replace HB := stepB HB hb; clear hb hbox hg; have hnb61 := NB612_592.out; have hnc61 := NB592_612.out; have hnb62 := NB612_593.out; have hnc62 := NB593_612.out; have hnb63 := NB612_607.out; have hnc63 := NB607_612.out; have hcz64_0 : w60.cell? ⟨gb612, 0, none⟩ = some (.int .i64 0) := (blk_cell BK612.out 0).trans rfl; have hcz64_1 : w60.cell? ⟨gb612, 1, none⟩ = some (.int .i64 0) := (blk_cell BK612.out 1).trans rfl; have hcz64_2 : w60.cell? ⟨gb612, 2, none⟩ = some (.string (⟨#[]⟩ : ByteArray)) := (blk_cell BK612.out 2).trans rfl; have hfz64_0 := blk_frozen BK612.out 0; have hfz64_1 := blk_frozen BK612.out 1; have hfz64_2 := blk_frozen BK612.out 2))
       (try simp only [Act.put, List.setIfInBounds_toArray, List.set_cons_zero, List.set_cons_succ])
       go_cut [66] (fun v66 wc => ∃ (kq : Nat) (x66_47 : Bool), v66 = .bool x66_47 ∧ Aside0 (alumlaw19_ValueMatchesSpecT.j2 kq x66_47 a0_0 a0_1 a0_2 a1_0 a1_1 a1_2 = some r) ∧ Aside0 (kq ≤ kj40) ∧ Aside0 (wc.heap[gb592]? = some (.cells #[.int .i64 a0_0, .int .i64 a0_1, .string a0_2] 23 (0, 0))) ∧ Aside0 (wc.heap[gb593]? = some (.cells #[.int .i64 a1_0, .int .i64 a1_1, .string a1_2] 23 (0, 0))) ∧ Aside0 (wc.heap[gb607]? = some (.cells #[.int .i64 t603, .int .i64 t604, .string t605] 23 (0, 0))) ∧ Aside0 (wc.heap[gb612]? = some (.cells #[.int .i64 t608, .int .i64 t609, .string t610] 23 (0, 0))) ∧ Aside0 (Below w.heap.size w wc))
       case first =>
        have H := HC48.out
        clear HC48
        by_cases c65 : (!(t603 == t608) || (!(t604 == t609) || (!(t605.toList == t610.toList)))) = true
        ·rw [if_pos c65] at H
         exact absurd H (by simp)
        ·rw [if_neg c65] at H
         have c65b0 : (!(t603 == t608) || (!(t604 == t609) || (!(t605.toList == t610.toList)))) = false := by simpa using c65
         clear c65
         (first | rw [c65b0] | (simp only [i64_w, i32_w]; rw [c65b0]) | skip)
         have H' := Aside0.mk H
         clear H
         have hnb66 := NB607_592.out
         have hnc66 := NB592_607.out
         have hnb67 := NB607_593.out
         have hnc67 := NB593_607.out
         have hnb68 := NB607_612.out
         have hnc68 := NB612_607.out
         have hcz69_0 : w60.cell? ⟨gb607, 0, none⟩ = some (.int .i64 t603) := (blk_cell BK607.out 0).trans rfl
         have hcz69_1 : w60.cell? ⟨gb607, 1, none⟩ = some (.int .i64 t604) := (blk_cell BK607.out 1).trans rfl
         have hcz69_2 : w60.cell? ⟨gb607, 2, none⟩ = some (.string t605) := (blk_cell BK607.out 2).trans rfl
         have hfz69_0 := blk_frozen BK607.out 0
         have hfz69_1 := blk_frozen BK607.out 1
         have hfz69_2 := blk_frozen BK607.out 2
         have hnb70 := NB612_592.out
         have hnc70 := NB592_612.out
         have hnb71 := NB612_593.out
         have hnc71 := NB593_612.out
         have hcz72_0 : w60.cell? ⟨gb612, 0, none⟩ = some (.int .i64 0) := (blk_cell BK612.out 0).trans rfl
         have hcz72_1 : w60.cell? ⟨gb612, 1, none⟩ = some (.int .i64 0) := (blk_cell BK612.out 1).trans rfl
         have hcz72_2 : w60.cell? ⟨gb612, 2, none⟩ = some (.string (⟨#[]⟩ : ByteArray)) := (blk_cell BK612.out 2).trans rfl
         have hfz72_0 := blk_frozen BK612.out 0
         have hfz72_1 := blk_frozen BK612.out 1
         have hfz72_2 := blk_frozen BK612.out 2
         go_wp2
         go_meet
         case rel => exact ⟨_, ((t606 != t611)), (by first | rfl | (simp; done) | (simp [*]; done)), H', ⟨by have := HJ5.out; have := HJ40.out; first | omega | exact Nat.le_refl _⟩, ⟨by (with_reducible repeat (first | refine blk_drewN ?_ _ | refine blk_drew ?_ | refine blk_alloc ?_ _)); refine blk_far ?_ NB592_612.out _; (with_reducible repeat (first | refine blk_drewN ?_ _ | refine blk_drew ?_ | refine blk_alloc ?_ _)); refine blk_far ?_ NB592_612.out _; (with_reducible repeat (first | refine blk_drewN ?_ _ | refine blk_drew ?_ | refine blk_alloc ?_ _)); refine blk_far ?_ NB592_612.out _; (with_reducible repeat (first | refine blk_drewN ?_ _ | refine blk_drew ?_ | refine blk_alloc ?_ _)); exact BK592.out⟩, ⟨by (with_reducible repeat (first | refine blk_drewN ?_ _ | refine blk_drew ?_ | refine blk_alloc ?_ _)); refine blk_far ?_ NB593_612.out _; (with_reducible repeat (first | refine blk_drewN ?_ _ | refine blk_drew ?_ | refine blk_alloc ?_ _)); refine blk_far ?_ NB593_612.out _; (with_reducible repeat (first | refine blk_drewN ?_ _ | refine blk_drew ?_ | refine blk_alloc ?_ _)); refine blk_far ?_ NB593_612.out _; (with_reducible repeat (first | refine blk_drewN ?_ _ | refine blk_drew ?_ | refine blk_alloc ?_ _)); exact BK593.out⟩, ⟨by (with_reducible repeat (first | refine blk_drewN ?_ _ | refine blk_drew ?_ | refine blk_alloc ?_ _)); refine blk_far ?_ NB607_612.out _; (with_reducible repeat (first | refine blk_drewN ?_ _ | refine blk_drew ?_ | refine blk_alloc ?_ _)); refine blk_far ?_ NB607_612.out _; (with_reducible repeat (first | refine blk_drewN ?_ _ | refine blk_drew ?_ | refine blk_alloc ?_ _)); refine blk_far ?_ NB607_612.out _; (with_reducible repeat (first | refine blk_drewN ?_ _ | refine blk_drew ?_ | refine blk_alloc ?_ _)); exact BK607.out⟩, ⟨by (with_reducible repeat (first | refine blk_drewN ?_ _ | refine blk_drew ?_ | refine blk_alloc ?_ _)); refine blk_put (cs := #[.int .i64 t608, .int .i64 t609, .string (⟨#[]⟩ : ByteArray)]) ?_ 2 _ rfl; (with_reducible repeat (first | refine blk_drewN ?_ _ | refine blk_drew ?_ | refine blk_alloc ?_ _)); refine blk_put (cs := #[.int .i64 t608, .int .i64 0, .string (⟨#[]⟩ : ByteArray)]) ?_ 1 _ rfl; (with_reducible repeat (first | refine blk_drewN ?_ _ | refine blk_drew ?_ | refine blk_alloc ?_ _)); refine blk_put (cs := #[.int .i64 0, .int .i64 0, .string (⟨#[]⟩ : ByteArray)]) ?_ 0 _ rfl; (with_reducible repeat (first | refine blk_drewN ?_ _ | refine blk_drew ?_ | refine blk_alloc ?_ _)); exact BK612.out⟩, ⟨by repeat (first | (with_reducible first | exact HB.out | apply below_alloc | apply pw_below_drewN | apply below_drew1 | refine below_set ?_ GE592.out | refine below_set ?_ GE593.out | refine below_set ?_ GE607.out | refine below_set ?_ GE612.out) | exact HB.out)⟩⟩
       case rest =>
        clear HC48
        try clear c1
        try clear c2
        try clear p2
        try clear c3
        try clear c4
        try clear c5
        try clear c6
        try clear c7
        try clear c11
        try clear c12
        try clear c13
        try clear c13b0
        try clear c13b1
        try clear c13b2
        try clear c14
        try clear c15
        try clear c15b0
        try clear c15b1
        try clear c15b2
        try clear c17
        try clear c18
        try clear c19
        try clear c21
        try clear c29
        try clear c40
        try clear c42
        try clear c43
        try clear c49
        try clear c54
        try clear c55
        try clear c61
        try clear c62
        try clear c63
        try clear c65
        try clear c65b0
        try clear c66
        try clear c67
        try clear c68
        try clear c70
        try clear c71
        try clear hcz19_0
        try clear hcz19_1
        try clear hcz19_2
        try clear hcz21_0
        try clear hcz21_1
        try clear hcz21_2
        try clear hcz23_0
        try clear hcz23_1
        try clear hcz23_2
        try clear hcz24_0
        try clear hcz24_1
        try clear hcz24_2
        try clear hcz30_0
        try clear hcz30_1
        try clear hcz30_2
        try clear hcz32_0
        try clear hcz32_1
        try clear hcz32_2
        try clear hcz34_0
        try clear hcz34_1
        try clear hcz34_2
        try clear hcz35_0
        try clear hcz35_1
        try clear hcz35_2
        try clear hcz50_0
        try clear hcz50_1
        try clear hcz50_2
        try clear hcz51_0
        try clear hcz51_1
        try clear hcz51_2
        try clear hcz56_0
        try clear hcz56_1
        try clear hcz56_2
        try clear hcz57_0
        try clear hcz57_1
        try clear hcz57_2
        try clear hcz58_0
        try clear hcz58_1
        try clear hcz58_2
        try clear hcz64_0
        try clear hcz64_1
        try clear hcz64_2
        try clear hcz69_0
        try clear hcz69_1
        try clear hcz69_2
        try clear hcz72_0
        try clear hcz72_1
        try clear hcz72_2
        try clear hfz19_0
        try clear hfz19_1
        try clear hfz19_2
        try clear hfz21_0
        try clear hfz21_1
        try clear hfz21_2
        try clear hfz23_0
        try clear hfz23_1
        try clear hfz23_2
        try clear hfz24_0
        try clear hfz24_1
        try clear hfz24_2
        try clear hfz30_0
        try clear hfz30_1
        try clear hfz30_2
        try clear hfz32_0
        try clear hfz32_1
        try clear hfz32_2
        try clear hfz34_0
        try clear hfz34_1
        try clear hfz34_2
        try clear hfz35_0
        try clear hfz35_1
        try clear hfz35_2
        try clear hfz50_0
        try clear hfz50_1
        try clear hfz50_2
        try clear hfz51_0
        try clear hfz51_1
        try clear hfz51_2
        try clear hfz56_0
        try clear hfz56_1
        try clear hfz56_2
        try clear hfz57_0
        try clear hfz57_1
        try clear hfz57_2
        try clear hfz58_0
        try clear hfz58_1
        try clear hfz58_2
        try clear hfz64_0
        try clear hfz64_1
        try clear hfz64_2
        try clear hfz69_0
        try clear hfz69_1
        try clear hfz69_2
        try clear hfz72_0
        try clear hfz72_1
        try clear hfz72_2
        try clear p2
        obtain ⟨kq, x66_47, rfl, HA, HJ47, BK592, BK593, BK607, BK612, HB⟩ := hcut
        cases kq with
        | zero => exact absurd HA.out (by simp [alumlaw19_ValueMatchesSpecT.j2])
        | succ kj47 =>
         have H := HA.out
         clear HA
         simp only [alumlaw19_ValueMatchesSpecT.j2] at H
         by_cases c73 : x66_47 = true
         ·subst c73
          have H1 : (none) = some r := by rw [if_pos rfl] at H; exact H
          clear H
          have H := H1
          clear H1
          exact absurd H (by simp)
         ·replace c73 := Bool.eq_false_iff.mpr c73
          subst c73
          have H1 : ((value_And.f kj47 a0_0 a0_1 a0_2 a1_0 a1_1 a1_2).bind fun bt613 => ((alumref19_And.f kj47 a0_0 a0_1 a0_2 a1_0 a1_1 a1_2).bind fun bt617 => (if (!(bt613.1 == bt617.1) || (!(bt613.2.1 == bt617.2.1) || (!(bt613.2.2.1.toList == bt617.2.2.1.toList)))) = true then (none) else (alumlaw19_ValueMatchesSpecT.j3 kj47 (bt613.2.2.2 != bt617.2.2.2) a0_0 a0_1 a0_2 a1_0 a1_1 a1_2)))) = some r := by rw [if_neg (show ¬ (false = true) by decide)] at H; exact H
          clear H
          have H := H1
          clear H1
          replace H := Option.bind_eq_some_iff.mp H
          obtain ⟨⟨t613, t614, t615, t616⟩, A740, H⟩ := H
          replace H : ((alumref19_And.f kj47 a0_0 a0_1 a0_2 a1_0 a1_1 a1_2).bind fun bt617 => (if (!(t613 == bt617.1) || (!(t614 == bt617.2.1) || (!(t615.toList == bt617.2.2.1.toList)))) = true then (none) else (alumlaw19_ValueMatchesSpecT.j3 kj47 (t616 != bt617.2.2.2) a0_0 a0_1 a0_2 a1_0 a1_1 a1_2))) = some r := H
          have A74 := Aside0.mk A740
          clear A740
          replace H := Option.bind_eq_some_iff.mp H
          obtain ⟨⟨t617, t618, t619, t620⟩, A750, H⟩ := H
          replace H : (if (!(t613 == t617) || (!(t614 == t618) || (!(t615.toList == t619.toList)))) = true then (none) else (alumlaw19_ValueMatchesSpecT.j3 kj47 (t616 != t620) a0_0 a0_1 a0_2 a1_0 a1_1 a1_2)) = some r := H
          have A75 := Aside0.mk A750
          clear A750
          have HC76 := Aside0.mk H
          clear H
          have hnb77 := NB592_593.out
          have hnc77 := NB593_592.out
          have hnb78 := NB592_607.out
          have hnc78 := NB607_592.out
          have hnb79 := NB592_612.out
          have hnc79 := NB612_592.out
          have hcz80_0 : wc.cell? ⟨gb592, 0, none⟩ = some (.int .i64 a0_0) := (blk_cell BK592.out 0).trans rfl
          have hcz80_1 : wc.cell? ⟨gb592, 1, none⟩ = some (.int .i64 a0_1) := (blk_cell BK592.out 1).trans rfl
          have hcz80_2 : wc.cell? ⟨gb592, 2, none⟩ = some (.string a0_2) := (blk_cell BK592.out 2).trans rfl
          have hfz80_0 := blk_frozen BK592.out 0
          have hfz80_1 := blk_frozen BK592.out 1
          have hfz80_2 := blk_frozen BK592.out 2
          have hnb81 := NB593_607.out
          have hnc81 := NB607_593.out
          have hnb82 := NB593_612.out
          have hnc82 := NB612_593.out
          have hcz83_0 : wc.cell? ⟨gb593, 0, none⟩ = some (.int .i64 a1_0) := (blk_cell BK593.out 0).trans rfl
          have hcz83_1 : wc.cell? ⟨gb593, 1, none⟩ = some (.int .i64 a1_1) := (blk_cell BK593.out 1).trans rfl
          have hcz83_2 : wc.cell? ⟨gb593, 2, none⟩ = some (.string a1_2) := (blk_cell BK593.out 2).trans rfl
          have hfz83_0 := blk_frozen BK593.out 0
          have hfz83_1 := blk_frozen BK593.out 1
          have hfz83_2 := blk_frozen BK593.out 2
          go_upto_region 12 with (first | ((with_reducible refine gate_callee (f := 22) rfl ?_); refine goesL_ (some 70) rfl rfl Tryd.func22 (by kernel_rfl) rfl #[.agg #[.int .i64 a0_0, .int .i64 a0_1, .string a0_2], .agg #[.int .i64 a1_0, .int .i64 a1_1, .string a1_2]] rfl (by (try simp only [List.map_toArray, List.map_cons, List.map_nil]); first | done | rfl | (simp only [List.length_drop, List.length_take]; rfl)) ?_; (with_reducible refine (value_And.calls kj47 a0_0 a0_1 a0_2 a1_0 a1_1 a1_2 t613 t614 t615 t616 _ A74.out).mono ?_); rintro e w84 ⟨rfl, hb⟩; refine ⟨_, rfl, ?_⟩; replace BK592 := blkB BK592 hb; replace BK593 := blkB BK593 hb; replace BK607 := blkB BK607 hb; replace BK612 := blkB BK612 hb; replace HB := stepB HB hb; (try clear hb); (try clear hb2); (try clear hk); (try clear hi); have hnb85 := NB607_612.out; have hnc85 := NB612_607.out; have hcz86_0 : w84.cell? ⟨gb607, 0, none⟩ = some (.int .i64 t603) := (blk_cell BK607.out 0).trans rfl; have hcz86_1 : w84.cell? ⟨gb607, 1, none⟩ = some (.int .i64 t604) := (blk_cell BK607.out 1).trans rfl; have hcz86_2 : w84.cell? ⟨gb607, 2, none⟩ = some (.string t605) := (blk_cell BK607.out 2).trans rfl; have hfz86_0 := blk_frozen BK607.out 0; have hfz86_1 := blk_frozen BK607.out 1; have hfz86_2 := blk_frozen BK607.out 2; have hcz87_0 : w84.cell? ⟨gb592, 0, none⟩ = some (.int .i64 a0_0) := (blk_cell BK592.out 0).trans rfl; have hcz87_1 : w84.cell? ⟨gb592, 1, none⟩ = some (.int .i64 a0_1) := (blk_cell BK592.out 1).trans rfl; have hcz87_2 : w84.cell? ⟨gb592, 2, none⟩ = some (.string a0_2) := (blk_cell BK592.out 2).trans rfl; have hfz87_0 := blk_frozen BK592.out 0; have hfz87_1 := blk_frozen BK592.out 1; have hfz87_2 := blk_frozen BK592.out 2; have hcz88_0 : w84.cell? ⟨gb593, 0, none⟩ = some (.int .i64 a1_0) := (blk_cell BK593.out 0).trans rfl; have hcz88_1 : w84.cell? ⟨gb593, 1, none⟩ = some (.int .i64 a1_1) := (blk_cell BK593.out 1).trans rfl; have hcz88_2 : w84.cell? ⟨gb593, 2, none⟩ = some (.string a1_2) := (blk_cell BK593.out 2).trans rfl; have hfz88_0 := blk_frozen BK593.out 0; have hfz88_1 := blk_frozen BK593.out 1; have hfz88_2 := blk_frozen BK593.out 2) | ((with_reducible refine gate_callee (f := 23) rfl ?_); refine goesL_ (some 76) rfl rfl Tryd.func23 (by kernel_rfl) rfl #[.agg #[.int .i64 a0_0, .int .i64 a0_1, .string a0_2], .agg #[.int .i64 a1_0, .int .i64 a1_1, .string a1_2]] rfl (by (try simp only [List.map_toArray, List.map_cons, List.map_nil]); first | done | rfl | (simp only [List.length_drop, List.length_take]; rfl)) ?_; (with_reducible refine (alumref19_And.calls kj47 a0_0 a0_1 a0_2 a1_0 a1_1 a1_2 t617 t618 t619 t620 _ A75.out).mono ?_); rintro e w89 ⟨rfl, hb⟩; refine ⟨_, rfl, ?_⟩; replace BK592 := Aside0.mk (blk_below (g := gb592) (o := .cells #[.int .i64 a0_0, .int .i64 a0_1, .string a0_2] 23 (0, 0)) (by (with_reducible repeat (first | refine blk_drewN ?_ _ | refine blk_drew ?_ | refine blk_alloc ?_ _)); refine blk_far ?_ NB592_607.out _; (with_reducible repeat (first | refine blk_drewN ?_ _ | refine blk_drew ?_ | refine blk_alloc ?_ _)); refine blk_far ?_ NB592_607.out _; (with_reducible repeat (first | refine blk_drewN ?_ _ | refine blk_drew ?_ | refine blk_alloc ?_ _)); refine blk_far ?_ NB592_607.out _; (with_reducible repeat (first | refine blk_drewN ?_ _ | refine blk_drew ?_ | refine blk_alloc ?_ _)); exact BK592.out) hb); replace BK593 := Aside0.mk (blk_below (g := gb593) (o := .cells #[.int .i64 a1_0, .int .i64 a1_1, .string a1_2] 23 (0, 0)) (by (with_reducible repeat (first | refine blk_drewN ?_ _ | refine blk_drew ?_ | refine blk_alloc ?_ _)); refine blk_far ?_ NB593_607.out _; (with_reducible repeat (first | refine blk_drewN ?_ _ | refine blk_drew ?_ | refine blk_alloc ?_ _)); refine blk_far ?_ NB593_607.out _; (with_reducible repeat (first | refine blk_drewN ?_ _ | refine blk_drew ?_ | refine blk_alloc ?_ _)); refine blk_far ?_ NB593_607.out _; (with_reducible repeat (first | refine blk_drewN ?_ _ | refine blk_drew ?_ | refine blk_alloc ?_ _)); exact BK593.out) hb); replace BK607 := Aside0.mk (blk_below (g := gb607) (o := .cells #[.int .i64 t613, .int .i64 t614, .string t615] 23 (0, 0)) (by (with_reducible repeat (first | refine blk_drewN ?_ _ | refine blk_drew ?_ | refine blk_alloc ?_ _)); refine blk_put (cs := #[.int .i64 t613, .int .i64 t614, .string t605]) ?_ 2 _ rfl; (with_reducible repeat (first | refine blk_drewN ?_ _ | refine blk_drew ?_ | refine blk_alloc ?_ _)); refine blk_put (cs := #[.int .i64 t613, .int .i64 t604, .string t605]) ?_ 1 _ rfl; (with_reducible repeat (first | refine blk_drewN ?_ _ | refine blk_drew ?_ | refine blk_alloc ?_ _)); refine blk_put (cs := #[.int .i64 t603, .int .i64 t604, .string t605]) ?_ 0 _ rfl; (with_reducible repeat (first | refine blk_drewN ?_ _ | refine blk_drew ?_ | refine blk_alloc ?_ _)); exact BK607.out) hb); replace BK612 := Aside0.mk (blk_below (g := gb612) (o := .cells #[.int .i64 t608, .int .i64 t609, .string t610] 23 (0, 0)) (by (with_reducible repeat (first | refine blk_drewN ?_ _ | refine blk_drew ?_ | refine blk_alloc ?_ _)); refine blk_far ?_ NB612_607.out _; (with_reducible repeat (first | refine blk_drewN ?_ _ | refine blk_drew ?_ | refine blk_alloc ?_ _)); refine blk_far ?_ NB612_607.out _; (with_reducible repeat (first | refine blk_drewN ?_ _ | refine blk_drew ?_ | refine blk_alloc ?_ _)); refine blk_far ?_ NB612_607.out _; (with_reducible repeat (first | refine blk_drewN ?_ _ | refine blk_drew ?_ | refine blk_alloc ?_ _)); exact BK612.out) hb); replace HB := stepB HB hb; (try clear hb); (try clear hb2); (try clear hk); (try clear hi); have hcz90_0 : w89.cell? ⟨gb612, 0, none⟩ = some (.int .i64 t608) := (blk_cell BK612.out 0).trans rfl; have hcz90_1 : w89.cell? ⟨gb612, 1, none⟩ = some (.int .i64 t609) := (blk_cell BK612.out 1).trans rfl; have hcz90_2 : w89.cell? ⟨gb612, 2, none⟩ = some (.string t610) := (blk_cell BK612.out 2).trans rfl; have hfz90_0 := blk_frozen BK612.out 0; have hfz90_1 := blk_frozen BK612.out 1; have hfz90_2 := blk_frozen BK612.out 2))
          (try simp only [Act.put, List.setIfInBounds_toArray, List.set_cons_zero, List.set_cons_succ])
          go_cut [86] (fun v86 wc => ∃ (kq : Nat) (x86_75 : Bool), v86 = .bool x86_75 ∧ Aside0 (alumlaw19_ValueMatchesSpecT.j3 kq x86_75 a0_0 a0_1 a0_2 a1_0 a1_1 a1_2 = some r) ∧ Aside0 (kq ≤ kj47) ∧ Aside0 (wc.heap[gb592]? = some (.cells #[.int .i64 a0_0, .int .i64 a0_1, .string a0_2] 23 (0, 0))) ∧ Aside0 (wc.heap[gb593]? = some (.cells #[.int .i64 a1_0, .int .i64 a1_1, .string a1_2] 23 (0, 0))) ∧ Aside0 (wc.heap[gb607]? = some (.cells #[.int .i64 t613, .int .i64 t614, .string t615] 23 (0, 0))) ∧ Aside0 (wc.heap[gb612]? = some (.cells #[.int .i64 t617, .int .i64 t618, .string t619] 23 (0, 0))) ∧ Aside0 (Below w.heap.size w wc))
          case first =>
           have H := HC76.out
           clear HC76
           by_cases c91 : (!(t613 == t617) || (!(t614 == t618) || (!(t615.toList == t619.toList)))) = true
           ·rw [if_pos c91] at H
            exact absurd H (by simp)
           ·rw [if_neg c91] at H
            have c91b0 : (!(t613 == t617) || (!(t614 == t618) || (!(t615.toList == t619.toList)))) = false := by simpa using c91
            clear c91
            (first | rw [c91b0] | (simp only [i64_w, i32_w]; rw [c91b0]) | skip)
            have H' := Aside0.mk H
            clear H
            have hnb92 := NB607_592.out
            have hnc92 := NB592_607.out
            have hnb93 := NB607_593.out
            have hnc93 := NB593_607.out
            have hnb94 := NB607_612.out
            have hnc94 := NB612_607.out
            have hcz95_0 : w89.cell? ⟨gb607, 0, none⟩ = some (.int .i64 t613) := (blk_cell BK607.out 0).trans rfl
            have hcz95_1 : w89.cell? ⟨gb607, 1, none⟩ = some (.int .i64 t614) := (blk_cell BK607.out 1).trans rfl
            have hcz95_2 : w89.cell? ⟨gb607, 2, none⟩ = some (.string t615) := (blk_cell BK607.out 2).trans rfl
            have hfz95_0 := blk_frozen BK607.out 0
            have hfz95_1 := blk_frozen BK607.out 1
            have hfz95_2 := blk_frozen BK607.out 2
            have hnb96 := NB612_592.out
            have hnc96 := NB592_612.out
            have hnb97 := NB612_593.out
            have hnc97 := NB593_612.out
            have hcz98_0 : w89.cell? ⟨gb612, 0, none⟩ = some (.int .i64 t608) := (blk_cell BK612.out 0).trans rfl
            have hcz98_1 : w89.cell? ⟨gb612, 1, none⟩ = some (.int .i64 t609) := (blk_cell BK612.out 1).trans rfl
            have hcz98_2 : w89.cell? ⟨gb612, 2, none⟩ = some (.string t610) := (blk_cell BK612.out 2).trans rfl
            have hfz98_0 := blk_frozen BK612.out 0
            have hfz98_1 := blk_frozen BK612.out 1
            have hfz98_2 := blk_frozen BK612.out 2
            go_wp2
            go_meet
            case rel => exact ⟨_, ((t616 != t620)), (by first | rfl | (simp; done) | (simp [*]; done)), H', ⟨by have := HJ5.out; have := HJ40.out; have := HJ47.out; first | omega | exact Nat.le_refl _⟩, ⟨by (with_reducible repeat (first | refine blk_drewN ?_ _ | refine blk_drew ?_ | refine blk_alloc ?_ _)); refine blk_far ?_ NB592_612.out _; (with_reducible repeat (first | refine blk_drewN ?_ _ | refine blk_drew ?_ | refine blk_alloc ?_ _)); refine blk_far ?_ NB592_612.out _; (with_reducible repeat (first | refine blk_drewN ?_ _ | refine blk_drew ?_ | refine blk_alloc ?_ _)); refine blk_far ?_ NB592_612.out _; (with_reducible repeat (first | refine blk_drewN ?_ _ | refine blk_drew ?_ | refine blk_alloc ?_ _)); exact BK592.out⟩, ⟨by (with_reducible repeat (first | refine blk_drewN ?_ _ | refine blk_drew ?_ | refine blk_alloc ?_ _)); refine blk_far ?_ NB593_612.out _; (with_reducible repeat (first | refine blk_drewN ?_ _ | refine blk_drew ?_ | refine blk_alloc ?_ _)); refine blk_far ?_ NB593_612.out _; (with_reducible repeat (first | refine blk_drewN ?_ _ | refine blk_drew ?_ | refine blk_alloc ?_ _)); refine blk_far ?_ NB593_612.out _; (with_reducible repeat (first | refine blk_drewN ?_ _ | refine blk_drew ?_ | refine blk_alloc ?_ _)); exact BK593.out⟩, ⟨by (with_reducible repeat (first | refine blk_drewN ?_ _ | refine blk_drew ?_ | refine blk_alloc ?_ _)); refine blk_far ?_ NB607_612.out _; (with_reducible repeat (first | refine blk_drewN ?_ _ | refine blk_drew ?_ | refine blk_alloc ?_ _)); refine blk_far ?_ NB607_612.out _; (with_reducible repeat (first | refine blk_drewN ?_ _ | refine blk_drew ?_ | refine blk_alloc ?_ _)); refine blk_far ?_ NB607_612.out _; (with_reducible repeat (first | refine blk_drewN ?_ _ | refine blk_drew ?_ | refine blk_alloc ?_ _)); exact BK607.out⟩, ⟨by (with_reducible repeat (first | refine blk_drewN ?_ _ | refine blk_drew ?_ | refine blk_alloc ?_ _)); refine blk_put (cs := #[.int .i64 t617, .int .i64 t618, .string t610]) ?_ 2 _ rfl; (with_reducible repeat (first | refine blk_drewN ?_ _ | refine blk_drew ?_ | refine blk_alloc ?_ _)); refine blk_put (cs := #[.int .i64 t617, .int .i64 t609, .string t610]) ?_ 1 _ rfl; (with_reducible repeat (first | refine blk_drewN ?_ _ | refine blk_drew ?_ | refine blk_alloc ?_ _)); refine blk_put (cs := #[.int .i64 t608, .int .i64 t609, .string t610]) ?_ 0 _ rfl; (with_reducible repeat (first | refine blk_drewN ?_ _ | refine blk_drew ?_ | refine blk_alloc ?_ _)); exact BK612.out⟩, ⟨by repeat (first | (with_reducible first | exact HB.out | apply below_alloc | apply pw_below_drewN | apply below_drew1 | refine below_set ?_ GE592.out | refine below_set ?_ GE593.out | refine below_set ?_ GE607.out | refine below_set ?_ GE612.out) | exact HB.out)⟩⟩
          case rest =>
           clear HC76
           try clear c1
           try clear c2
           try clear p2
           try clear c3
           try clear c4
           try clear c5
           try clear c6
           try clear c7
           try clear c8
           try clear c9
           try clear c11
           try clear c12
           try clear c13
           try clear c13b0
           try clear c13b1
           try clear c13b2
           try clear c14
           try clear c15
           try clear c15b0
           try clear c15b1
           try clear c15b2
           try clear c17
           try clear c18
           try clear c19
           try clear c21
           try clear c22
           try clear c23
           try clear c29
           try clear c40
           try clear c42
           try clear c43
           try clear c49
           try clear c54
           try clear c55
           try clear c61
           try clear c62
           try clear c63
           try clear c65
           try clear c65b0
           try clear c66
           try clear c67
           try clear c68
           try clear c70
           try clear c71
           try clear c73
           try clear c77
           try clear c78
           try clear c79
           try clear c81
           try clear c82
           try clear c85
           try clear c91
           try clear c91b0
           try clear c92
           try clear c93
           try clear c94
           try clear c96
           try clear c97
           try clear hcz19_0
           try clear hcz19_1
           try clear hcz19_2
           try clear hcz21_0
           try clear hcz21_1
           try clear hcz21_2
           try clear hcz23_0
           try clear hcz23_1
           try clear hcz23_2
           try clear hcz24_0
           try clear hcz24_1
           try clear hcz24_2
           try clear hcz30_0
           try clear hcz30_1
           try clear hcz30_2
           try clear hcz32_0
           try clear hcz32_1
           try clear hcz32_2
           try clear hcz34_0
           try clear hcz34_1
           try clear hcz34_2
           try clear hcz35_0
           try clear hcz35_1
           try clear hcz35_2
           try clear hcz50_0
           try clear hcz50_1
           try clear hcz50_2
           try clear hcz51_0
           try clear hcz51_1
           try clear hcz51_2
           try clear hcz56_0
           try clear hcz56_1
           try clear hcz56_2
           try clear hcz57_0
           try clear hcz57_1
           try clear hcz57_2
           try clear hcz58_0
           try clear hcz58_1
           try clear hcz58_2
           try clear hcz64_0
           try clear hcz64_1
           try clear hcz64_2
           try clear hcz69_0
           try clear hcz69_1
           try clear hcz69_2
           try clear hcz72_0
           try clear hcz72_1
           try clear hcz72_2
           try clear hcz80_0
           try clear hcz80_1
           try clear hcz80_2
           try clear hcz83_0
           try clear hcz83_1
           try clear hcz83_2
           try clear hcz86_0
           try clear hcz86_1
           try clear hcz86_2
           try clear hcz87_0
           try clear hcz87_1
           try clear hcz87_2
           try clear hcz88_0
           try clear hcz88_1
           try clear hcz88_2
           try clear hcz90_0
           try clear hcz90_1
           try clear hcz90_2
           try clear hcz95_0
           try clear hcz95_1
           try clear hcz95_2
           try clear hcz98_0
           try clear hcz98_1
           try clear hcz98_2
           try clear hfz19_0
           try clear hfz19_1
           try clear hfz19_2
           try clear hfz21_0
           try clear hfz21_1
           try clear hfz21_2
           try clear hfz23_0
           try clear hfz23_1
           try clear hfz23_2
           try clear hfz24_0
           try clear hfz24_1
           try clear hfz24_2
           try clear hfz30_0
           try clear hfz30_1
           try clear hfz30_2
           try clear hfz32_0
           try clear hfz32_1
           try clear hfz32_2
           try clear hfz34_0
           try clear hfz34_1
           try clear hfz34_2
           try clear hfz35_0
           try clear hfz35_1
           try clear hfz35_2
           try clear hfz50_0
           try clear hfz50_1
           try clear hfz50_2
           try clear hfz51_0
           try clear hfz51_1
           try clear hfz51_2
           try clear hfz56_0
           try clear hfz56_1
           try clear hfz56_2
           try clear hfz57_0
           try clear hfz57_1
           try clear hfz57_2
           try clear hfz58_0
           try clear hfz58_1
           try clear hfz58_2
           try clear hfz64_0
           try clear hfz64_1
           try clear hfz64_2
           try clear hfz69_0
           try clear hfz69_1
           try clear hfz69_2
           try clear hfz72_0
           try clear hfz72_1
           try clear hfz72_2
           try clear hfz80_0
           try clear hfz80_1
           try clear hfz80_2
           try clear hfz83_0
           try clear hfz83_1
           try clear hfz83_2
           try clear hfz86_0
           try clear hfz86_1
           try clear hfz86_2
           try clear hfz87_0
           try clear hfz87_1
           try clear hfz87_2
           try clear hfz88_0
           try clear hfz88_1
           try clear hfz88_2
           try clear hfz90_0
           try clear hfz90_1
           try clear hfz90_2
           try clear hfz95_0
           try clear hfz95_1
           try clear hfz95_2
           try clear hfz98_0
           try clear hfz98_1
           try clear hfz98_2
           try clear p2
           obtain ⟨kq, x86_75, rfl, HA, HJ75, BK592, BK593, BK607, BK612, HB⟩ := hcut
           cases kq with
           | zero => exact absurd HA.out (by simp [alumlaw19_ValueMatchesSpecT.j3])
           | succ kj75 =>
            have H := HA.out
            clear HA
            simp only [alumlaw19_ValueMatchesSpecT.j3] at H
            by_cases c99 : x86_75 = true
            ·subst c99
             have H1 : (none) = some r := by rw [if_pos rfl] at H; exact H
             clear H
             have H := H1
             clear H1
             exact absurd H (by simp)
            ·replace c99 := Bool.eq_false_iff.mpr c99
             subst c99
             have H1 : ((value_Or.f kj75 a0_0 a0_1 a0_2 a1_0 a1_1 a1_2).bind fun bt621 => ((alumref19_Or.f kj75 a0_0 a0_1 a0_2 a1_0 a1_1 a1_2).bind fun bt625 => (if (!(bt621.1 == bt625.1) || (!(bt621.2.1 == bt625.2.1) || (!(bt621.2.2.1.toList == bt625.2.2.1.toList)))) = true then (none) else (alumlaw19_ValueMatchesSpecT.j4 kj75 (bt621.2.2.2 != bt625.2.2.2) a0_0 a0_1 a0_2 a1_0 a1_1 a1_2)))) = some r := by rw [if_neg (show ¬ (false = true) by decide)] at H; exact H
             clear H
             have H := H1
             clear H1
             replace H := Option.bind_eq_some_iff.mp H
             obtain ⟨⟨t621, t622, t623, t624⟩, A1000, H⟩ := H
             replace H : ((alumref19_Or.f kj75 a0_0 a0_1 a0_2 a1_0 a1_1 a1_2).bind fun bt625 => (if (!(t621 == bt625.1) || (!(t622 == bt625.2.1) || (!(t623.toList == bt625.2.2.1.toList)))) = true then (none) else (alumlaw19_ValueMatchesSpecT.j4 kj75 (t624 != bt625.2.2.2) a0_0 a0_1 a0_2 a1_0 a1_1 a1_2))) = some r := H
             have A100 := Aside0.mk A1000
             clear A1000
             replace H := Option.bind_eq_some_iff.mp H
             obtain ⟨⟨t625, t626, t627, t628⟩, A1010, H⟩ := H
             replace H : (if (!(t621 == t625) || (!(t622 == t626) || (!(t623.toList == t627.toList)))) = true then (none) else (alumlaw19_ValueMatchesSpecT.j4 kj75 (t624 != t628) a0_0 a0_1 a0_2 a1_0 a1_1 a1_2)) = some r := H
             have A101 := Aside0.mk A1010
             clear A1010
             have HC102 := Aside0.mk H
             clear H
             have hnb103 := NB592_593.out
             have hnc103 := NB593_592.out
             have hnb104 := NB592_607.out
             have hnc104 := NB607_592.out
             have hnb105 := NB592_612.out
             have hnc105 := NB612_592.out
             have hcz106_0 : wc.cell? ⟨gb592, 0, none⟩ = some (.int .i64 a0_0) := (blk_cell BK592.out 0).trans rfl
             have hcz106_1 : wc.cell? ⟨gb592, 1, none⟩ = some (.int .i64 a0_1) := (blk_cell BK592.out 1).trans rfl
             have hcz106_2 : wc.cell? ⟨gb592, 2, none⟩ = some (.string a0_2) := (blk_cell BK592.out 2).trans rfl
             have hfz106_0 := blk_frozen BK592.out 0
             have hfz106_1 := blk_frozen BK592.out 1
             have hfz106_2 := blk_frozen BK592.out 2
             have hnb107 := NB593_607.out
             have hnc107 := NB607_593.out
             have hnb108 := NB593_612.out
             have hnc108 := NB612_593.out
             have hcz109_0 : wc.cell? ⟨gb593, 0, none⟩ = some (.int .i64 a1_0) := (blk_cell BK593.out 0).trans rfl
             have hcz109_1 : wc.cell? ⟨gb593, 1, none⟩ = some (.int .i64 a1_1) := (blk_cell BK593.out 1).trans rfl
             have hcz109_2 : wc.cell? ⟨gb593, 2, none⟩ = some (.string a1_2) := (blk_cell BK593.out 2).trans rfl
             have hfz109_0 := blk_frozen BK593.out 0
             have hfz109_1 := blk_frozen BK593.out 1
             have hfz109_2 := blk_frozen BK593.out 2
             go_upto_region 16 with (first | ((with_reducible refine gate_callee (f := 24) rfl ?_); refine goesL_ (some 90) rfl rfl Tryd.func24 (by kernel_rfl) rfl #[.agg #[.int .i64 a0_0, .int .i64 a0_1, .string a0_2], .agg #[.int .i64 a1_0, .int .i64 a1_1, .string a1_2]] rfl (by (try simp only [List.map_toArray, List.map_cons, List.map_nil]); first | done | rfl | (simp only [List.length_drop, List.length_take]; rfl)) ?_; (with_reducible refine (value_Or.calls kj75 a0_0 a0_1 a0_2 a1_0 a1_1 a1_2 t621 t622 t623 t624 _ A100.out).mono ?_); rintro e w110 ⟨rfl, hb⟩; refine ⟨_, rfl, ?_⟩; replace BK592 := blkB BK592 hb; replace BK593 := blkB BK593 hb; replace BK607 := blkB BK607 hb; replace BK612 := blkB BK612 hb; replace HB := stepB HB hb; (try clear hb); (try clear hb2); (try clear hk); (try clear hi); have hnb111 := NB607_612.out; have hnc111 := NB612_607.out; have hcz112_0 : w110.cell? ⟨gb607, 0, none⟩ = some (.int .i64 t613) := (blk_cell BK607.out 0).trans rfl; have hcz112_1 : w110.cell? ⟨gb607, 1, none⟩ = some (.int .i64 t614) := (blk_cell BK607.out 1).trans rfl; have hcz112_2 : w110.cell? ⟨gb607, 2, none⟩ = some (.string t615) := (blk_cell BK607.out 2).trans rfl; have hfz112_0 := blk_frozen BK607.out 0; have hfz112_1 := blk_frozen BK607.out 1; have hfz112_2 := blk_frozen BK607.out 2; have hcz113_0 : w110.cell? ⟨gb592, 0, none⟩ = some (.int .i64 a0_0) := (blk_cell BK592.out 0).trans rfl; have hcz113_1 : w110.cell? ⟨gb592, 1, none⟩ = some (.int .i64 a0_1) := (blk_cell BK592.out 1).trans rfl; have hcz113_2 : w110.cell? ⟨gb592, 2, none⟩ = some (.string a0_2) := (blk_cell BK592.out 2).trans rfl; have hfz113_0 := blk_frozen BK592.out 0; have hfz113_1 := blk_frozen BK592.out 1; have hfz113_2 := blk_frozen BK592.out 2; have hcz114_0 : w110.cell? ⟨gb593, 0, none⟩ = some (.int .i64 a1_0) := (blk_cell BK593.out 0).trans rfl; have hcz114_1 : w110.cell? ⟨gb593, 1, none⟩ = some (.int .i64 a1_1) := (blk_cell BK593.out 1).trans rfl; have hcz114_2 : w110.cell? ⟨gb593, 2, none⟩ = some (.string a1_2) := (blk_cell BK593.out 2).trans rfl; have hfz114_0 := blk_frozen BK593.out 0; have hfz114_1 := blk_frozen BK593.out 1; have hfz114_2 := blk_frozen BK593.out 2) | ((with_reducible refine gate_callee (f := 25) rfl ?_); refine goesL_ (some 96) rfl rfl Tryd.func25 (by kernel_rfl) rfl #[.agg #[.int .i64 a0_0, .int .i64 a0_1, .string a0_2], .agg #[.int .i64 a1_0, .int .i64 a1_1, .string a1_2]] rfl (by (try simp only [List.map_toArray, List.map_cons, List.map_nil]); first | done | rfl | (simp only [List.length_drop, List.length_take]; rfl)) ?_; (with_reducible refine (alumref19_Or.calls kj75 a0_0 a0_1 a0_2 a1_0 a1_1 a1_2 t625 t626 t627 t628 _ A101.out).mono ?_); rintro e w115 ⟨rfl, hb⟩; refine ⟨_, rfl, ?_⟩; replace BK592 := Aside0.mk (blk_below (g := gb592) (o := .cells #[.int .i64 a0_0, .int .i64 a0_1, .string a0_2] 23 (0, 0)) (by (with_reducible repeat (first | refine blk_drewN ?_ _ | refine blk_drew ?_ | refine blk_alloc ?_ _)); refine blk_far ?_ NB592_607.out _; (with_reducible repeat (first | refine blk_drewN ?_ _ | refine blk_drew ?_ | refine blk_alloc ?_ _)); refine blk_far ?_ NB592_607.out _; (with_reducible repeat (first | refine blk_drewN ?_ _ | refine blk_drew ?_ | refine blk_alloc ?_ _)); refine blk_far ?_ NB592_607.out _; (with_reducible repeat (first | refine blk_drewN ?_ _ | refine blk_drew ?_ | refine blk_alloc ?_ _)); exact BK592.out) hb); replace BK593 := Aside0.mk (blk_below (g := gb593) (o := .cells #[.int .i64 a1_0, .int .i64 a1_1, .string a1_2] 23 (0, 0)) (by (with_reducible repeat (first | refine blk_drewN ?_ _ | refine blk_drew ?_ | refine blk_alloc ?_ _)); refine blk_far ?_ NB593_607.out _; (with_reducible repeat (first | refine blk_drewN ?_ _ | refine blk_drew ?_ | refine blk_alloc ?_ _)); refine blk_far ?_ NB593_607.out _; (with_reducible repeat (first | refine blk_drewN ?_ _ | refine blk_drew ?_ | refine blk_alloc ?_ _)); refine blk_far ?_ NB593_607.out _; (with_reducible repeat (first | refine blk_drewN ?_ _ | refine blk_drew ?_ | refine blk_alloc ?_ _)); exact BK593.out) hb); replace BK607 := Aside0.mk (blk_below (g := gb607) (o := .cells #[.int .i64 t621, .int .i64 t622, .string t623] 23 (0, 0)) (by (with_reducible repeat (first | refine blk_drewN ?_ _ | refine blk_drew ?_ | refine blk_alloc ?_ _)); refine blk_put (cs := #[.int .i64 t621, .int .i64 t622, .string t615]) ?_ 2 _ rfl; (with_reducible repeat (first | refine blk_drewN ?_ _ | refine blk_drew ?_ | refine blk_alloc ?_ _)); refine blk_put (cs := #[.int .i64 t621, .int .i64 t614, .string t615]) ?_ 1 _ rfl; (with_reducible repeat (first | refine blk_drewN ?_ _ | refine blk_drew ?_ | refine blk_alloc ?_ _)); refine blk_put (cs := #[.int .i64 t613, .int .i64 t614, .string t615]) ?_ 0 _ rfl; (with_reducible repeat (first | refine blk_drewN ?_ _ | refine blk_drew ?_ | refine blk_alloc ?_ _)); exact BK607.out) hb); replace BK612 := Aside0.mk (blk_below (g := gb612) (o := .cells #[.int .i64 t617, .int .i64 t618, .string t619] 23 (0, 0)) (by (with_reducible repeat (first | refine blk_drewN ?_ _ | refine blk_drew ?_ | refine blk_alloc ?_ _)); refine blk_far ?_ NB612_607.out _; (with_reducible repeat (first | refine blk_drewN ?_ _ | refine blk_drew ?_ | refine blk_alloc ?_ _)); refine blk_far ?_ NB612_607.out _; (with_reducible repeat (first | refine blk_drewN ?_ _ | refine blk_drew ?_ | refine blk_alloc ?_ _)); refine blk_far ?_ NB612_607.out _; (with_reducible repeat (first | refine blk_drewN ?_ _ | refine blk_drew ?_ | refine blk_alloc ?_ _)); exact BK612.out) hb); replace HB := stepB HB hb; (try clear hb); (try clear hb2); (try clear hk); (try clear hi); have hcz116_0 : w115.cell? ⟨gb612, 0, none⟩ = some (.int .i64 t617) := (blk_cell BK612.out 0).trans rfl; have hcz116_1 : w115.cell? ⟨gb612, 1, none⟩ = some (.int .i64 t618) := (blk_cell BK612.out 1).trans rfl; have hcz116_2 : w115.cell? ⟨gb612, 2, none⟩ = some (.string t619) := (blk_cell BK612.out 2).trans rfl; have hfz116_0 := blk_frozen BK612.out 0; have hfz116_1 := blk_frozen BK612.out 1; have hfz116_2 := blk_frozen BK612.out 2))
             (try simp only [Act.put, List.setIfInBounds_toArray, List.set_cons_zero, List.set_cons_succ])
             go_cut [106] (fun v106 wc => ∃ (kq : Nat) (x106_101 : Bool), v106 = .bool x106_101 ∧ Aside0 (alumlaw19_ValueMatchesSpecT.j4 kq x106_101 a0_0 a0_1 a0_2 a1_0 a1_1 a1_2 = some r) ∧ Aside0 (kq ≤ kj75) ∧ Aside0 (wc.heap[gb592]? = some (.cells #[.int .i64 a0_0, .int .i64 a0_1, .string a0_2] 23 (0, 0))) ∧ Aside0 (wc.heap[gb593]? = some (.cells #[.int .i64 a1_0, .int .i64 a1_1, .string a1_2] 23 (0, 0))) ∧ Aside0 (wc.heap[gb607]? = some (.cells #[.int .i64 t621, .int .i64 t622, .string t623] 23 (0, 0))) ∧ Aside0 (wc.heap[gb612]? = some (.cells #[.int .i64 t625, .int .i64 t626, .string t627] 23 (0, 0))) ∧ Aside0 (Below w.heap.size w wc))
             case first =>
              have H := HC102.out
              clear HC102
              by_cases c117 : (!(t621 == t625) || (!(t622 == t626) || (!(t623.toList == t627.toList)))) = true
              ·rw [if_pos c117] at H
               exact absurd H (by simp)
              ·rw [if_neg c117] at H
               have c117b0 : (!(t621 == t625) || (!(t622 == t626) || (!(t623.toList == t627.toList)))) = false := by simpa using c117
               clear c117
               (first | rw [c117b0] | (simp only [i64_w, i32_w]; rw [c117b0]) | skip)
               have H' := Aside0.mk H
               clear H
               have hnb118 := NB607_592.out
               have hnc118 := NB592_607.out
               have hnb119 := NB607_593.out
               have hnc119 := NB593_607.out
               have hnb120 := NB607_612.out
               have hnc120 := NB612_607.out
               have hcz121_0 : w115.cell? ⟨gb607, 0, none⟩ = some (.int .i64 t621) := (blk_cell BK607.out 0).trans rfl
               have hcz121_1 : w115.cell? ⟨gb607, 1, none⟩ = some (.int .i64 t622) := (blk_cell BK607.out 1).trans rfl
               have hcz121_2 : w115.cell? ⟨gb607, 2, none⟩ = some (.string t623) := (blk_cell BK607.out 2).trans rfl
               have hfz121_0 := blk_frozen BK607.out 0
               have hfz121_1 := blk_frozen BK607.out 1
               have hfz121_2 := blk_frozen BK607.out 2
               have hnb122 := NB612_592.out
               have hnc122 := NB592_612.out
               have hnb123 := NB612_593.out
               have hnc123 := NB593_612.out
               have hcz124_0 : w115.cell? ⟨gb612, 0, none⟩ = some (.int .i64 t617) := (blk_cell BK612.out 0).trans rfl
               have hcz124_1 : w115.cell? ⟨gb612, 1, none⟩ = some (.int .i64 t618) := (blk_cell BK612.out 1).trans rfl
               have hcz124_2 : w115.cell? ⟨gb612, 2, none⟩ = some (.string t619) := (blk_cell BK612.out 2).trans rfl
               have hfz124_0 := blk_frozen BK612.out 0
               have hfz124_1 := blk_frozen BK612.out 1
               have hfz124_2 := blk_frozen BK612.out 2
               go_wp2
               go_meet
               case rel => exact ⟨_, ((t624 != t628)), (by first | rfl | (simp; done) | (simp [*]; done)), H', ⟨by have := HJ5.out; have := HJ40.out; have := HJ47.out; have := HJ75.out; first | omega | exact Nat.le_refl _⟩, ⟨by (with_reducible repeat (first | refine blk_drewN ?_ _ | refine blk_drew ?_ | refine blk_alloc ?_ _)); refine blk_far ?_ NB592_612.out _; (with_reducible repeat (first | refine blk_drewN ?_ _ | refine blk_drew ?_ | refine blk_alloc ?_ _)); refine blk_far ?_ NB592_612.out _; (with_reducible repeat (first | refine blk_drewN ?_ _ | refine blk_drew ?_ | refine blk_alloc ?_ _)); refine blk_far ?_ NB592_612.out _; (with_reducible repeat (first | refine blk_drewN ?_ _ | refine blk_drew ?_ | refine blk_alloc ?_ _)); exact BK592.out⟩, ⟨by (with_reducible repeat (first | refine blk_drewN ?_ _ | refine blk_drew ?_ | refine blk_alloc ?_ _)); refine blk_far ?_ NB593_612.out _; (with_reducible repeat (first | refine blk_drewN ?_ _ | refine blk_drew ?_ | refine blk_alloc ?_ _)); refine blk_far ?_ NB593_612.out _; (with_reducible repeat (first | refine blk_drewN ?_ _ | refine blk_drew ?_ | refine blk_alloc ?_ _)); refine blk_far ?_ NB593_612.out _; (with_reducible repeat (first | refine blk_drewN ?_ _ | refine blk_drew ?_ | refine blk_alloc ?_ _)); exact BK593.out⟩, ⟨by (with_reducible repeat (first | refine blk_drewN ?_ _ | refine blk_drew ?_ | refine blk_alloc ?_ _)); refine blk_far ?_ NB607_612.out _; (with_reducible repeat (first | refine blk_drewN ?_ _ | refine blk_drew ?_ | refine blk_alloc ?_ _)); refine blk_far ?_ NB607_612.out _; (with_reducible repeat (first | refine blk_drewN ?_ _ | refine blk_drew ?_ | refine blk_alloc ?_ _)); refine blk_far ?_ NB607_612.out _; (with_reducible repeat (first | refine blk_drewN ?_ _ | refine blk_drew ?_ | refine blk_alloc ?_ _)); exact BK607.out⟩, ⟨by (with_reducible repeat (first | refine blk_drewN ?_ _ | refine blk_drew ?_ | refine blk_alloc ?_ _)); refine blk_put (cs := #[.int .i64 t625, .int .i64 t626, .string t619]) ?_ 2 _ rfl; (with_reducible repeat (first | refine blk_drewN ?_ _ | refine blk_drew ?_ | refine blk_alloc ?_ _)); refine blk_put (cs := #[.int .i64 t625, .int .i64 t618, .string t619]) ?_ 1 _ rfl; (with_reducible repeat (first | refine blk_drewN ?_ _ | refine blk_drew ?_ | refine blk_alloc ?_ _)); refine blk_put (cs := #[.int .i64 t617, .int .i64 t618, .string t619]) ?_ 0 _ rfl; (with_reducible repeat (first | refine blk_drewN ?_ _ | refine blk_drew ?_ | refine blk_alloc ?_ _)); exact BK612.out⟩, ⟨by repeat (first | (with_reducible first | exact HB.out | apply below_alloc | apply pw_below_drewN | apply below_drew1 | refine below_set ?_ GE592.out | refine below_set ?_ GE593.out | refine below_set ?_ GE607.out | refine below_set ?_ GE612.out) | exact HB.out)⟩⟩
             case rest =>
              clear HC102
              try clear c1
              try clear c2
              try clear p2
              try clear c3
              try clear c4
              try clear c5
              try clear c6
              try clear c7
              try clear c8
              try clear c9
              try clear c10
              try clear c11
              try clear c12
              try clear c13
              try clear c13b0
              try clear c13b1
              try clear c13b2
              try clear c14
              try clear c15
              try clear c15b0
              try clear c15b1
              try clear c15b2
              try clear c17
              try clear c18
              try clear c19
              try clear c21
              try clear c22
              try clear c23
              try clear c24
              try clear c25
              try clear c29
              try clear c40
              try clear c42
              try clear c43
              try clear c49
              try clear c54
              try clear c55
              try clear c61
              try clear c62
              try clear c63
              try clear c65
              try clear c65b0
              try clear c66
              try clear c67
              try clear c68
              try clear c70
              try clear c71
              try clear c73
              try clear c77
              try clear c78
              try clear c79
              try clear c81
              try clear c82
              try clear c85
              try clear c91
              try clear c91b0
              try clear c92
              try clear c93
              try clear c94
              try clear c96
              try clear c97
              try clear c99
              try clear c103
              try clear c104
              try clear c105
              try clear c107
              try clear c108
              try clear c111
              try clear c117
              try clear c117b0
              try clear c118
              try clear c119
              try clear c120
              try clear c122
              try clear c123
              try clear hcz106_0
              try clear hcz106_1
              try clear hcz106_2
              try clear hcz109_0
              try clear hcz109_1
              try clear hcz109_2
              try clear hcz112_0
              try clear hcz112_1
              try clear hcz112_2
              try clear hcz113_0
              try clear hcz113_1
              try clear hcz113_2
              try clear hcz114_0
              try clear hcz114_1
              try clear hcz114_2
              try clear hcz116_0
              try clear hcz116_1
              try clear hcz116_2
              try clear hcz121_0
              try clear hcz121_1
              try clear hcz121_2
              try clear hcz124_0
              try clear hcz124_1
              try clear hcz124_2
              try clear hcz19_0
              try clear hcz19_1
              try clear hcz19_2
              try clear hcz21_0
              try clear hcz21_1
              try clear hcz21_2
              try clear hcz23_0
              try clear hcz23_1
              try clear hcz23_2
              try clear hcz24_0
              try clear hcz24_1
              try clear hcz24_2
              try clear hcz30_0
              try clear hcz30_1
              try clear hcz30_2
              try clear hcz32_0
              try clear hcz32_1
              try clear hcz32_2
              try clear hcz34_0
              try clear hcz34_1
              try clear hcz34_2
              try clear hcz35_0
              try clear hcz35_1
              try clear hcz35_2
              try clear hcz50_0
              try clear hcz50_1
              try clear hcz50_2
              try clear hcz51_0
              try clear hcz51_1
              try clear hcz51_2
              try clear hcz56_0
              try clear hcz56_1
              try clear hcz56_2
              try clear hcz57_0
              try clear hcz57_1
              try clear hcz57_2
              try clear hcz58_0
              try clear hcz58_1
              try clear hcz58_2
              try clear hcz64_0
              try clear hcz64_1
              try clear hcz64_2
              try clear hcz69_0
              try clear hcz69_1
              try clear hcz69_2
              try clear hcz72_0
              try clear hcz72_1
              try clear hcz72_2
              try clear hcz80_0
              try clear hcz80_1
              try clear hcz80_2
              try clear hcz83_0
              try clear hcz83_1
              try clear hcz83_2
              try clear hcz86_0
              try clear hcz86_1
              try clear hcz86_2
              try clear hcz87_0
              try clear hcz87_1
              try clear hcz87_2
              try clear hcz88_0
              try clear hcz88_1
              try clear hcz88_2
              try clear hcz90_0
              try clear hcz90_1
              try clear hcz90_2
              try clear hcz95_0
              try clear hcz95_1
              try clear hcz95_2
              try clear hcz98_0
              try clear hcz98_1
              try clear hcz98_2
              try clear hfz106_0
              try clear hfz106_1
              try clear hfz106_2
              try clear hfz109_0
              try clear hfz109_1
              try clear hfz109_2
              try clear hfz112_0
              try clear hfz112_1
              try clear hfz112_2
              try clear hfz113_0
              try clear hfz113_1
              try clear hfz113_2
              try clear hfz114_0
              try clear hfz114_1
              try clear hfz114_2
              try clear hfz116_0
              try clear hfz116_1
              try clear hfz116_2
              try clear hfz121_0
              try clear hfz121_1
              try clear hfz121_2
              try clear hfz124_0
              try clear hfz124_1
              try clear hfz124_2
              try clear hfz19_0
              try clear hfz19_1
              try clear hfz19_2
              try clear hfz21_0
              try clear hfz21_1
              try clear hfz21_2
              try clear hfz23_0
              try clear hfz23_1
              try clear hfz23_2
              try clear hfz24_0
              try clear hfz24_1
              try clear hfz24_2
              try clear hfz30_0
              try clear hfz30_1
              try clear hfz30_2
              try clear hfz32_0
              try clear hfz32_1
              try clear hfz32_2
              try clear hfz34_0
              try clear hfz34_1
              try clear hfz34_2
              try clear hfz35_0
              try clear hfz35_1
              try clear hfz35_2
              try clear hfz50_0
              try clear hfz50_1
              try clear hfz50_2
              try clear hfz51_0
              try clear hfz51_1
              try clear hfz51_2
              try clear hfz56_0
              try clear hfz56_1
              try clear hfz56_2
              try clear hfz57_0
              try clear hfz57_1
              try clear hfz57_2
              try clear hfz58_0
              try clear hfz58_1
              try clear hfz58_2
              try clear hfz64_0
              try clear hfz64_1
              try clear hfz64_2
              try clear hfz69_0
              try clear hfz69_1
              try clear hfz69_2
              try clear hfz72_0
              try clear hfz72_1
              try clear hfz72_2
              try clear hfz80_0
              try clear hfz80_1
              try clear hfz80_2
              try clear hfz83_0
              try clear hfz83_1
              try clear hfz83_2
              try clear hfz86_0
              try clear hfz86_1
              try clear hfz86_2
              try clear hfz87_0
              try clear hfz87_1
              try clear hfz87_2
              try clear hfz88_0
              try clear hfz88_1
              try clear hfz88_2
              try clear hfz90_0
              try clear hfz90_1
              try clear hfz90_2
              try clear hfz95_0
              try clear hfz95_1
              try clear hfz95_2
              try clear hfz98_0
              try clear hfz98_1
              try clear hfz98_2
              try clear p2
              obtain ⟨kq, x106_101, rfl, HA, HJ101, BK592, BK593, BK607, BK612, HB⟩ := hcut
              cases kq with
              | zero => exact absurd HA.out (by simp [alumlaw19_ValueMatchesSpecT.j4])
              | succ kj101 =>
               have H := HA.out
               clear HA
               simp only [alumlaw19_ValueMatchesSpecT.j4] at H
               by_cases c125 : x106_101 = true
               ·subst c125
                have H1 : (none) = some r := by rw [if_pos rfl] at H; exact H
                clear H
                have H := H1
                clear H1
                exact absurd H (by simp)
               ·replace c125 := Bool.eq_false_iff.mpr c125
                subst c125
                have H1 : ((value_Not.f kj101 a0_0 a0_1 a0_2).bind fun bt629 => ((alumref19_Not.f a0_0 a0_1 a0_2).bind fun bt633 => ((alumlaw19_sanity.f kj101).bind fun t637 => (if t637 = true then (if (bt629.1 == bt633.1 && (bt629.2.1 == bt633.2.1 && (bt629.2.2.1.toList == bt633.2.2.1.toList))) = true then (if bt629.2.2.2 = bt633.2.2.2 then ((value_Compare.f kj101 a0_0 a0_1 a0_2 a1_0 a1_1 a1_2).bind fun t638 => ((alumref19_Compare.f a0_0 a0_1 a0_2 a1_0 a1_1 a1_2).bind fun t639 => (if t638 = t639 then ((value_PrintT.f kj101 a0_0 a0_1 a0_2).bind fun t640 => ((alumref19_Print.f kj101 a0_0 a0_1 a0_2).bind fun t641 => (some (t640.toList == t641.toList)))) else (none)))) else (none)) else (none)) else (none))))) = some r := by rw [if_neg (show ¬ (false = true) by decide)] at H; exact H
                clear H
                have H := H1
                clear H1
                replace H := Option.bind_eq_some_iff.mp H
                obtain ⟨⟨t629, t630, t631, t632⟩, A1260, H⟩ := H
                replace H : ((alumref19_Not.f a0_0 a0_1 a0_2).bind fun bt633 => ((alumlaw19_sanity.f kj101).bind fun t637 => (if t637 = true then (if (t629 == bt633.1 && (t630 == bt633.2.1 && (t631.toList == bt633.2.2.1.toList))) = true then (if t632 = bt633.2.2.2 then ((value_Compare.f kj101 a0_0 a0_1 a0_2 a1_0 a1_1 a1_2).bind fun t638 => ((alumref19_Compare.f a0_0 a0_1 a0_2 a1_0 a1_1 a1_2).bind fun t639 => (if t638 = t639 then ((value_PrintT.f kj101 a0_0 a0_1 a0_2).bind fun t640 => ((alumref19_Print.f kj101 a0_0 a0_1 a0_2).bind fun t641 => (some (t640.toList == t641.toList)))) else (none)))) else (none)) else (none)) else (none)))) = some r := H
                have A126 := Aside0.mk A1260
                clear A1260
                replace H := Option.bind_eq_some_iff.mp H
                obtain ⟨⟨t633, t634, t635, t636⟩, A1270, H⟩ := H
                replace H : ((alumlaw19_sanity.f kj101).bind fun t637 => (if t637 = true then (if (t629 == t633 && (t630 == t634 && (t631.toList == t635.toList))) = true then (if t632 = t636 then ((value_Compare.f kj101 a0_0 a0_1 a0_2 a1_0 a1_1 a1_2).bind fun t638 => ((alumref19_Compare.f a0_0 a0_1 a0_2 a1_0 a1_1 a1_2).bind fun t639 => (if t638 = t639 then ((value_PrintT.f kj101 a0_0 a0_1 a0_2).bind fun t640 => ((alumref19_Print.f kj101 a0_0 a0_1 a0_2).bind fun t641 => (some (t640.toList == t641.toList)))) else (none)))) else (none)) else (none)) else (none))) = some r := H
                have A127 := Aside0.mk A1270
                clear A1270
                replace H := Option.bind_eq_some_iff.mp H
                obtain ⟨t637, A1280, H⟩ := H
                replace H : (if t637 = true then (if (t629 == t633 && (t630 == t634 && (t631.toList == t635.toList))) = true then (if t632 = t636 then ((value_Compare.f kj101 a0_0 a0_1 a0_2 a1_0 a1_1 a1_2).bind fun t638 => ((alumref19_Compare.f a0_0 a0_1 a0_2 a1_0 a1_1 a1_2).bind fun t639 => (if t638 = t639 then ((value_PrintT.f kj101 a0_0 a0_1 a0_2).bind fun t640 => ((alumref19_Print.f kj101 a0_0 a0_1 a0_2).bind fun t641 => (some (t640.toList == t641.toList)))) else (none)))) else (none)) else (none)) else (none)) = some r := H
                have A128 := Aside0.mk A1280
                clear A1280
                by_cases c129 : t637 = true
                ·subst c129
                 have H1 : (if (t629 == t633 && (t630 == t634 && (t631.toList == t635.toList))) = true then (if t632 = t636 then ((value_Compare.f kj101 a0_0 a0_1 a0_2 a1_0 a1_1 a1_2).bind fun t638 => ((alumref19_Compare.f a0_0 a0_1 a0_2 a1_0 a1_1 a1_2).bind fun t639 => (if t638 = t639 then ((value_PrintT.f kj101 a0_0 a0_1 a0_2).bind fun t640 => ((alumref19_Print.f kj101 a0_0 a0_1 a0_2).bind fun t641 => (some (t640.toList == t641.toList)))) else (none)))) else (none)) else (none)) = some r := by rw [if_pos rfl] at H; exact H
                 clear H
                 have H := H1
                 clear H1
                 by_cases c130 : (t629 == t633 && (t630 == t634 && (t631.toList == t635.toList))) = true
                 ·rw [if_pos c130] at H
                  have c130b0 : (t629 == t633 && (t630 == t634 && (t631.toList == t635.toList))) = true := c130
                  (try (have c130b1 : decide (t629 = t633 && (t630 == t634 && (t631.toList == t635.toList))) = true := by simpa using c130))
                  (try (have c130b2 : (t629 == t633 && (t630 == t634 && (t631.toList == t635.toList))) = true := by simpa using c130))
                  clear c130
                  by_cases c131 : t632 = t636
                  ·rw [if_pos c131] at H
                   have c131b0 : (t632 == t636) = true := beq_iff_eq.mpr c131
                   have c131b1 : (t632 != t636) = false := bne_eq_false_iff_eq.mpr c131
                   clear c131
                   replace H := Option.bind_eq_some_iff.mp H
                   obtain ⟨t638, A1320, H⟩ := H
                   replace H : ((alumref19_Compare.f a0_0 a0_1 a0_2 a1_0 a1_1 a1_2).bind fun t639 => (if t638 = t639 then ((value_PrintT.f kj101 a0_0 a0_1 a0_2).bind fun t640 => ((alumref19_Print.f kj101 a0_0 a0_1 a0_2).bind fun t641 => (some (t640.toList == t641.toList)))) else (none))) = some r := H
                   have A132 := Aside0.mk A1320
                   clear A1320
                   replace H := Option.bind_eq_some_iff.mp H
                   obtain ⟨t639, A1330, H⟩ := H
                   replace H : (if t638 = t639 then ((value_PrintT.f kj101 a0_0 a0_1 a0_2).bind fun t640 => ((alumref19_Print.f kj101 a0_0 a0_1 a0_2).bind fun t641 => (some (t640.toList == t641.toList)))) else (none)) = some r := H
                   have A133 := Aside0.mk A1330
                   clear A1330
                   by_cases c134 : t638 = t639
                   ·rw [if_pos c134] at H
                    have c134b0 : (t638 == t639) = true := beq_iff_eq.mpr c134
                    have c134b1 : (t638 != t639) = false := bne_eq_false_iff_eq.mpr c134
                    clear c134
                    replace H := Option.bind_eq_some_iff.mp H
                    obtain ⟨t640, A1350, H⟩ := H
                    replace H : ((alumref19_Print.f kj101 a0_0 a0_1 a0_2).bind fun t641 => (some (t640.toList == t641.toList))) = some r := H
                    have A135 := Aside0.mk A1350
                    clear A1350
                    replace H := Option.bind_eq_some_iff.mp H
                    obtain ⟨t641, A1360, H⟩ := H
                    replace H : (some (t640.toList == t641.toList)) = some r := H
                    have A136 := Aside0.mk A1360
                    clear A1360
                    obtain rfl := Option.some.inj H
                    have hnb137 := NB592_593.out
                    have hnc137 := NB593_592.out
                    have hnb138 := NB592_607.out
                    have hnc138 := NB607_592.out
                    have hnb139 := NB592_612.out
                    have hnc139 := NB612_592.out
                    have hcz140_0 : wc.cell? ⟨gb592, 0, none⟩ = some (.int .i64 a0_0) := (blk_cell BK592.out 0).trans rfl
                    have hcz140_1 : wc.cell? ⟨gb592, 1, none⟩ = some (.int .i64 a0_1) := (blk_cell BK592.out 1).trans rfl
                    have hcz140_2 : wc.cell? ⟨gb592, 2, none⟩ = some (.string a0_2) := (blk_cell BK592.out 2).trans rfl
                    have hfz140_0 := blk_frozen BK592.out 0
                    have hfz140_1 := blk_frozen BK592.out 1
                    have hfz140_2 := blk_frozen BK592.out 2
                    try go_wp2_with (first | ((with_reducible refine gate_callee (f := 26) rfl ?_); refine goesL_ (some 109) rfl rfl Tryd.func26 (by kernel_rfl) rfl #[.agg #[.int .i64 a0_0, .int .i64 a0_1, .string a0_2]] rfl (by (try simp only [List.map_toArray, List.map_cons, List.map_nil]); first | done | rfl | (simp only [List.length_drop, List.length_take]; rfl)) ?_; (with_reducible refine (value_Not.calls kj101 a0_0 a0_1 a0_2 t629 t630 t631 t632 _ A126.out).mono ?_); rintro e w141 ⟨rfl, hb⟩; refine ⟨_, rfl, ?_⟩; replace BK592 := blkB BK592 hb; replace BK593 := blkB BK593 hb; replace BK607 := blkB BK607 hb; replace BK612 := blkB BK612 hb; replace HB := stepB HB hb; (try clear hb); (try clear hb2); (try clear hk); (try clear hi); have hnb142 := NB607_593.out; have hnc142 := NB593_607.out; have hnb143 := NB607_612.out; have hnc143 := NB612_607.out; have hcz144_0 : w141.cell? ⟨gb607, 0, none⟩ = some (.int .i64 t621) := (blk_cell BK607.out 0).trans rfl; have hcz144_1 : w141.cell? ⟨gb607, 1, none⟩ = some (.int .i64 t622) := (blk_cell BK607.out 1).trans rfl; have hcz144_2 : w141.cell? ⟨gb607, 2, none⟩ = some (.string t623) := (blk_cell BK607.out 2).trans rfl; have hfz144_0 := blk_frozen BK607.out 0; have hfz144_1 := blk_frozen BK607.out 1; have hfz144_2 := blk_frozen BK607.out 2; have hcz145_0 : w141.cell? ⟨gb592, 0, none⟩ = some (.int .i64 a0_0) := (blk_cell BK592.out 0).trans rfl; have hcz145_1 : w141.cell? ⟨gb592, 1, none⟩ = some (.int .i64 a0_1) := (blk_cell BK592.out 1).trans rfl; have hcz145_2 : w141.cell? ⟨gb592, 2, none⟩ = some (.string a0_2) := (blk_cell BK592.out 2).trans rfl; have hfz145_0 := blk_frozen BK592.out 0; have hfz145_1 := blk_frozen BK592.out 1; have hfz145_2 := blk_frozen BK592.out 2) | ((with_reducible refine gate_callee (f := 27) rfl ?_); refine goesL_ (some 114) rfl rfl Tryd.func27 (by kernel_rfl) rfl #[.agg #[.int .i64 a0_0, .int .i64 a0_1, .string a0_2]] rfl (by (try simp only [List.map_toArray, List.map_cons, List.map_nil]); first | done | rfl | (simp only [List.length_drop, List.length_take]; rfl)) ?_; (with_reducible refine (alumref19_Not.calls a0_0 a0_1 a0_2 t633 t634 t635 t636 _ A127.out).mono ?_); rintro e w146 ⟨rfl, hb⟩; refine ⟨_, rfl, ?_⟩; replace BK592 := Aside0.mk (blk_below (g := gb592) (o := .cells #[.int .i64 a0_0, .int .i64 a0_1, .string a0_2] 23 (0, 0)) (by (with_reducible repeat (first | refine blk_drewN ?_ _ | refine blk_drew ?_ | refine blk_alloc ?_ _)); refine blk_far ?_ NB592_607.out _; (with_reducible repeat (first | refine blk_drewN ?_ _ | refine blk_drew ?_ | refine blk_alloc ?_ _)); refine blk_far ?_ NB592_607.out _; (with_reducible repeat (first | refine blk_drewN ?_ _ | refine blk_drew ?_ | refine blk_alloc ?_ _)); refine blk_far ?_ NB592_607.out _; (with_reducible repeat (first | refine blk_drewN ?_ _ | refine blk_drew ?_ | refine blk_alloc ?_ _)); exact BK592.out) hb); replace BK593 := Aside0.mk (blk_below (g := gb593) (o := .cells #[.int .i64 a1_0, .int .i64 a1_1, .string a1_2] 23 (0, 0)) (by (with_reducible repeat (first | refine blk_drewN ?_ _ | refine blk_drew ?_ | refine blk_alloc ?_ _)); refine blk_far ?_ NB593_607.out _; (with_reducible repeat (first | refine blk_drewN ?_ _ | refine blk_drew ?_ | refine blk_alloc ?_ _)); refine blk_far ?_ NB593_607.out _; (with_reducible repeat (first | refine blk_drewN ?_ _ | refine blk_drew ?_ | refine blk_alloc ?_ _)); refine blk_far ?_ NB593_607.out _; (with_reducible repeat (first | refine blk_drewN ?_ _ | refine blk_drew ?_ | refine blk_alloc ?_ _)); exact BK593.out) hb); replace BK607 := Aside0.mk (blk_below (g := gb607) (o := .cells #[.int .i64 t629, .int .i64 t630, .string t631] 23 (0, 0)) (by (with_reducible repeat (first | refine blk_drewN ?_ _ | refine blk_drew ?_ | refine blk_alloc ?_ _)); refine blk_put (cs := #[.int .i64 t629, .int .i64 t630, .string t623]) ?_ 2 _ rfl; (with_reducible repeat (first | refine blk_drewN ?_ _ | refine blk_drew ?_ | refine blk_alloc ?_ _)); refine blk_put (cs := #[.int .i64 t629, .int .i64 t622, .string t623]) ?_ 1 _ rfl; (with_reducible repeat (first | refine blk_drewN ?_ _ | refine blk_drew ?_ | refine blk_alloc ?_ _)); refine blk_put (cs := #[.int .i64 t621, .int .i64 t622, .string t623]) ?_ 0 _ rfl; (with_reducible repeat (first | refine blk_drewN ?_ _ | refine blk_drew ?_ | refine blk_alloc ?_ _)); exact BK607.out) hb); replace BK612 := Aside0.mk (blk_below (g := gb612) (o := .cells #[.int .i64 t625, .int .i64 t626, .string t627] 23 (0, 0)) (by (with_reducible repeat (first | refine blk_drewN ?_ _ | refine blk_drew ?_ | refine blk_alloc ?_ _)); refine blk_far ?_ NB612_607.out _; (with_reducible repeat (first | refine blk_drewN ?_ _ | refine blk_drew ?_ | refine blk_alloc ?_ _)); refine blk_far ?_ NB612_607.out _; (with_reducible repeat (first | refine blk_drewN ?_ _ | refine blk_drew ?_ | refine blk_alloc ?_ _)); refine blk_far ?_ NB612_607.out _; (with_reducible repeat (first | refine blk_drewN ?_ _ | refine blk_drew ?_ | refine blk_alloc ?_ _)); exact BK612.out) hb); replace HB := stepB HB hb; (try clear hb); (try clear hb2); (try clear hk); (try clear hi); have hnb147 := NB612_593.out; have hnc147 := NB593_612.out; have hcz148_0 : w146.cell? ⟨gb612, 0, none⟩ = some (.int .i64 t625) := (blk_cell BK612.out 0).trans rfl; have hcz148_1 : w146.cell? ⟨gb612, 1, none⟩ = some (.int .i64 t626) := (blk_cell BK612.out 1).trans rfl; have hcz148_2 : w146.cell? ⟨gb612, 2, none⟩ = some (.string t627) := (blk_cell BK612.out 2).trans rfl; have hfz148_0 := blk_frozen BK612.out 0; have hfz148_1 := blk_frozen BK612.out 1; have hfz148_2 := blk_frozen BK612.out 2))
                    have n0_ : Aside0 ((((w146.setCell ⟨gb612, 0, none⟩ (.int .i64 t633)).setCell ⟨gb612, 1, none⟩ (.int .i64 t634)).setCell ⟨gb612, 2, none⟩ (.string t635)).heap[gb592]? = some (.cells #[.int .i64 a0_0, .int .i64 a0_1, .string a0_2] 23 (0, 0))) := ⟨by (with_reducible repeat (first | refine blk_drewN ?_ _ | refine blk_drew ?_ | refine blk_alloc ?_ _)); refine blk_far ?_ NB592_612.out _; (with_reducible repeat (first | refine blk_drewN ?_ _ | refine blk_drew ?_ | refine blk_alloc ?_ _)); refine blk_far ?_ NB592_612.out _; (with_reducible repeat (first | refine blk_drewN ?_ _ | refine blk_drew ?_ | refine blk_alloc ?_ _)); refine blk_far ?_ NB592_612.out _; (with_reducible repeat (first | refine blk_drewN ?_ _ | refine blk_drew ?_ | refine blk_alloc ?_ _)); exact BK592.out⟩
                    have n1_ : Aside0 ((((w146.setCell ⟨gb612, 0, none⟩ (.int .i64 t633)).setCell ⟨gb612, 1, none⟩ (.int .i64 t634)).setCell ⟨gb612, 2, none⟩ (.string t635)).heap[gb593]? = some (.cells #[.int .i64 a1_0, .int .i64 a1_1, .string a1_2] 23 (0, 0))) := ⟨by (with_reducible repeat (first | refine blk_drewN ?_ _ | refine blk_drew ?_ | refine blk_alloc ?_ _)); refine blk_far ?_ NB593_612.out _; (with_reducible repeat (first | refine blk_drewN ?_ _ | refine blk_drew ?_ | refine blk_alloc ?_ _)); refine blk_far ?_ NB593_612.out _; (with_reducible repeat (first | refine blk_drewN ?_ _ | refine blk_drew ?_ | refine blk_alloc ?_ _)); refine blk_far ?_ NB593_612.out _; (with_reducible repeat (first | refine blk_drewN ?_ _ | refine blk_drew ?_ | refine blk_alloc ?_ _)); exact BK593.out⟩
                    have n2_ : Aside0 ((((w146.setCell ⟨gb612, 0, none⟩ (.int .i64 t633)).setCell ⟨gb612, 1, none⟩ (.int .i64 t634)).setCell ⟨gb612, 2, none⟩ (.string t635)).heap[gb607]? = some (.cells #[.int .i64 t629, .int .i64 t630, .string t631] 23 (0, 0))) := ⟨by (with_reducible repeat (first | refine blk_drewN ?_ _ | refine blk_drew ?_ | refine blk_alloc ?_ _)); refine blk_far ?_ NB607_612.out _; (with_reducible repeat (first | refine blk_drewN ?_ _ | refine blk_drew ?_ | refine blk_alloc ?_ _)); refine blk_far ?_ NB607_612.out _; (with_reducible repeat (first | refine blk_drewN ?_ _ | refine blk_drew ?_ | refine blk_alloc ?_ _)); refine blk_far ?_ NB607_612.out _; (with_reducible repeat (first | refine blk_drewN ?_ _ | refine blk_drew ?_ | refine blk_alloc ?_ _)); exact BK607.out⟩
                    have n3_ : Aside0 ((((w146.setCell ⟨gb612, 0, none⟩ (.int .i64 t633)).setCell ⟨gb612, 1, none⟩ (.int .i64 t634)).setCell ⟨gb612, 2, none⟩ (.string t635)).heap[gb612]? = some (.cells #[.int .i64 t633, .int .i64 t634, .string t635] 23 (0, 0))) := ⟨by (with_reducible repeat (first | refine blk_drewN ?_ _ | refine blk_drew ?_ | refine blk_alloc ?_ _)); refine blk_put (cs := #[.int .i64 t633, .int .i64 t634, .string t627]) ?_ 2 _ rfl; (with_reducible repeat (first | refine blk_drewN ?_ _ | refine blk_drew ?_ | refine blk_alloc ?_ _)); refine blk_put (cs := #[.int .i64 t633, .int .i64 t626, .string t627]) ?_ 1 _ rfl; (with_reducible repeat (first | refine blk_drewN ?_ _ | refine blk_drew ?_ | refine blk_alloc ?_ _)); refine blk_put (cs := #[.int .i64 t625, .int .i64 t626, .string t627]) ?_ 0 _ rfl; (with_reducible repeat (first | refine blk_drewN ?_ _ | refine blk_drew ?_ | refine blk_alloc ?_ _)); exact BK612.out⟩
                    have n4_ : Aside0 (Below w.heap.size w (((w146.setCell ⟨gb612, 0, none⟩ (.int .i64 t633)).setCell ⟨gb612, 1, none⟩ (.int .i64 t634)).setCell ⟨gb612, 2, none⟩ (.string t635))) := ⟨by repeat (first | (with_reducible first | exact HB.out | apply below_alloc | apply pw_below_drewN | apply below_drew1 | refine below_set ?_ GE592.out | refine below_set ?_ GE593.out | refine below_set ?_ GE607.out | refine below_set ?_ GE612.out) | exact HB.out)⟩
                    (try clear BK592)
                    (try clear BK593)
                    (try clear BK607)
                    (try clear BK612)
                    (try clear HB)
                    generalize (((w146.setCell ⟨gb612, 0, none⟩ (.int .i64 t633)).setCell ⟨gb612, 1, none⟩ (.int .i64 t634)).setCell ⟨gb612, 2, none⟩ (.string t635)) = w149 at n0_ n1_ n2_ n3_ n4_ ⊢
                    have BK592 := n0_
                    have BK593 := n1_
                    have BK607 := n2_
                    have BK612 := n3_
                    have HB := n4_
                    clear n0_ n1_ n2_ n3_ n4_
                    replace BK592 := Aside0.mk (blk_drew BK592.out)
                    replace BK593 := Aside0.mk (blk_drew BK593.out)
                    replace BK607 := Aside0.mk (blk_drew BK607.out)
                    replace BK612 := Aside0.mk (blk_drew BK612.out)
                    replace HB := Aside0.mk (below_drew1 HB.out)
                    refine start_ (n := 28) (S := fun w' => w'.cell? ⟨gb607, 0, none⟩ = some (.int .i64 t629) ∧ w'.cell? ⟨gb607, 1, none⟩ = some (.int .i64 t630) ∧ w'.cell? ⟨gb607, 2, none⟩ = some (.string t631) ∧ w'.cell? ⟨gb612, 0, none⟩ = some (.int .i64 t633) ∧ w'.cell? ⟨gb612, 1, none⟩ = some (.int .i64 t634) ∧ w'.cell? ⟨gb612, 2, none⟩ = some (.string t635) ∧ w'.cell? ⟨gb592, 0, none⟩ = some (.int .i64 a0_0) ∧ w'.cell? ⟨gb592, 1, none⟩ = some (.int .i64 a0_1) ∧ w'.cell? ⟨gb592, 2, none⟩ = some (.string a0_2) ∧ w'.cell? ⟨gb593, 0, none⟩ = some (.int .i64 a1_0) ∧ w'.cell? ⟨gb593, 1, none⟩ = some (.int .i64 a1_1) ∧ w'.cell? ⟨gb593, 2, none⟩ = some (.string a1_2)) (ds := []) #[false, false, false, false, false, false, false, false, false, false, false, false, false, false, false, false, false, false, false, false, false, false, false, false, false, false, false, false] (by kernel_rfl) rfl rfl ⟨(blk_cell BK607.out 0).trans rfl, (blk_cell BK607.out 1).trans rfl, (blk_cell BK607.out 2).trans rfl, (blk_cell BK612.out 0).trans rfl, (blk_cell BK612.out 1).trans rfl, (blk_cell BK612.out 2).trans rfl, (blk_cell BK592.out 0).trans rfl, (blk_cell BK592.out 1).trans rfl, (blk_cell BK592.out 2).trans rfl, (blk_cell BK593.out 0).trans rfl, (blk_cell BK593.out 1).trans rfl, (blk_cell BK593.out 2).trans rfl⟩ (fun hHeld => ?_); refine with_tabW alumlaw19_ValueMatchesSpecT.tab20 alumlaw19_ValueMatchesSpecT.bits20 (fun HT_ HW_ => ?_)
                    generalize w149.drew = w150 at BK592 BK593 BK607 BK612 HB hHeld ⊢
                    refine one_ (i := 0) (N := some 117) #[true, false, false, false, false, false, false, false, false, false, false, false, false, false, false, false, false, false, false, false, false, false, false, false, false, false, false, false] rfl rfl (one_of HT_.out (by kernel_rfl)) (by decide) (fun K hK => ?_)
                    refine goes_ Tryd.func12 (by kernel_rfl) rfl #[] (by rfl) rfl rfl (by (try simp only [List.map_toArray, List.map_cons, List.map_nil]); first | done | rfl | (simp only [List.length_drop, List.length_take]; rfl)) ?_
                    with_reducible refine (alumlaw19_sanity.calls kj101  true _ A128.out).mono ?_
                    rintro e w151 ⟨rfl, hb⟩
                    refine ⟨_, rfl, ?_⟩
                    replace BK592 := blkB BK592 hb
                    replace BK593 := blkB BK593 hb
                    replace BK607 := blkB BK607 hb
                    replace BK612 := blkB BK612 hb
                    replace HB := stepB HB hb
                    (try clear hb)
                    (try clear hb2)
                    (try clear hk)
                    (try clear hi)
                    refine hK.out _ _ ⟨(blk_cell BK607.out 0).trans rfl, (blk_cell BK607.out 1).trans rfl, (blk_cell BK607.out 2).trans rfl, (blk_cell BK612.out 0).trans rfl, (blk_cell BK612.out 1).trans rfl, (blk_cell BK612.out 2).trans rfl, (blk_cell BK592.out 0).trans rfl, (blk_cell BK592.out 1).trans rfl, (blk_cell BK592.out 2).trans rfl, (blk_cell BK593.out 0).trans rfl, (blk_cell BK593.out 1).trans rfl, (blk_cell BK593.out 2).trans rfl⟩ (fun hHeld => ?_)
                    clear hK K
                    refine norm_ (a' := ?_) ?_ ?_
                    rotate_left
                    ·show Act.put _ (some 117) _ = _
                     simp only [Act.put, List.setIfInBounds_toArray, List.set_cons_zero, List.set_cons_succ, i64_w, i32_w]
                     rfl
                    refine pure_ (i := 1) (N := some 118) (v := ?_) (a' := ?_) #[true, true, false, false, false, false, false, false, false, false, false, false, false, false, false, false, false, false, false, false, false, false, false, false, false, false, false, false] rfl rfl (any_of HT_.out (by kernel_rfl)) (fun _ _ _ h => h) (Or.inl ⟨by rfl, ?_⟩) ?_ ?_
                    rotate_left
                    ·intro w'
                     go_simp
                     with_reducible rfl
                    rotate_left
                    ·simp only [Act.put, List.setIfInBounds_toArray, List.set_cons_zero, List.set_cons_succ, i64_w, i32_w]
                     rfl
                    refine take_ (i := 2) (N := some 119) (v := ?_) (a' := ?_) #[true, true, true, false, false, false, false, false, false, false, false, false, false, false, false, false, false, false, false, false, false, false, false, false, false, false, false, false] rfl rfl (take_ofW HT_.out HW_.out (by kernel_rfl)) (fun _ _ _ h => h) (Or.inl ⟨by rfl, ?_⟩) hHeld ?_ ?_
                    rotate_left
                    ·rintro w' ⟨s0, s1, s2, s3, s4, s5, s6, s7, s8, s9, s10, s11⟩
                     go_simp
                     with_reducible rfl
                    rotate_left
                    ·simp only [Act.put, List.setIfInBounds_toArray, List.set_cons_zero, List.set_cons_succ, i64_w, i32_w]
                     rfl
                    refine take_ (i := 3) (N := some 120) (v := ?_) (a' := ?_) #[true, true, true, true, false, false, false, false, false, false, false, false, false, false, false, false, false, false, false, false, false, false, false, false, false, false, false, false] rfl rfl (take_ofW HT_.out HW_.out (by kernel_rfl)) (fun _ _ _ h => h) (Or.inl ⟨by rfl, ?_⟩) hHeld ?_ ?_
                    rotate_left
                    ·rintro w' ⟨s0, s1, s2, s3, s4, s5, s6, s7, s8, s9, s10, s11⟩
                     go_simp
                     with_reducible rfl
                    rotate_left
                    ·simp only [Act.put, List.setIfInBounds_toArray, List.set_cons_zero, List.set_cons_succ, i64_w, i32_w]
                     rfl
                    refine pure_ (i := 4) (N := some 121) (v := ?_) (a' := ?_) #[true, true, true, true, true, false, false, false, false, false, false, false, false, false, false, false, false, false, false, false, false, false, false, false, false, false, false, false] rfl rfl (any_of HT_.out (by kernel_rfl)) (fun _ _ _ h => h) (Or.inl ⟨by rfl, ?_⟩) ?_ ?_
                    rotate_left
                    ·intro w'
                     go_simp
                     with_reducible rfl
                    rotate_left
                    ·simp only [Act.put, List.setIfInBounds_toArray, List.set_cons_zero, List.set_cons_succ, i64_w, i32_w]
                     rfl
                    refine pure_ (i := 5) (N := some 122) (v := ?_) (a' := ?_) #[true, true, true, true, true, true, false, false, false, false, false, false, false, false, false, false, false, false, false, false, false, false, false, false, false, false, false, false] rfl rfl (any_of HT_.out (by kernel_rfl)) (fun _ _ _ h => h) (Or.inl ⟨by rfl, ?_⟩) ?_ ?_
                    rotate_left
                    ·intro w'
                     go_simp
                     with_reducible rfl
                    rotate_left
                    ·simp only [Act.put, List.setIfInBounds_toArray, List.set_cons_zero, List.set_cons_succ, i64_w, i32_w]
                     rfl
                    refine pure_ (i := 6) (N := some 123) (v := ?_) (a' := ?_) #[true, true, true, true, true, true, true, false, false, false, false, false, false, false, false, false, false, false, false, false, false, false, false, false, false, false, false, false] rfl rfl (any_of HT_.out (by kernel_rfl)) (fun _ _ _ h => h) (Or.inl ⟨by rfl, ?_⟩) ?_ ?_
                    rotate_left
                    ·intro w'
                     go_simp
                     with_reducible rfl
                    rotate_left
                    ·simp only [Act.put, List.setIfInBounds_toArray, List.set_cons_zero, List.set_cons_succ, i64_w, i32_w]
                     rfl
                    refine pure_ (i := 7) (N := some 124) (v := ?_) (a' := ?_) #[true, true, true, true, true, true, true, true, false, false, false, false, false, false, false, false, false, false, false, false, false, false, false, false, false, false, false, false] rfl rfl (any_of HT_.out (by kernel_rfl)) (fun _ _ _ h => h) (Or.inl ⟨by rfl, ?_⟩) ?_ ?_
                    rotate_left
                    ·intro w'
                     go_simp
                     with_reducible rfl
                    rotate_left
                    ·simp only [Act.put, List.setIfInBounds_toArray, List.set_cons_zero, List.set_cons_succ, i64_w, i32_w]
                     rfl
                    refine pure_ (i := 8) (N := some 125) (v := ?_) (a' := ?_) #[true, true, true, true, true, true, true, true, true, false, false, false, false, false, false, false, false, false, false, false, false, false, false, false, false, false, false, false] rfl rfl (any_of HT_.out (by kernel_rfl)) (fun _ _ _ h => h) (Or.inl ⟨by rfl, ?_⟩) ?_ ?_
                    rotate_left
                    ·intro w'
                     go_simp
                     with_reducible rfl
                    rotate_left
                    ·simp only [Act.put, List.setIfInBounds_toArray, List.set_cons_zero, List.set_cons_succ, i64_w, i32_w]
                     rfl
                    refine pure_ (i := 9) (N := some 126) (v := ?_) (a' := ?_) #[true, true, true, true, true, true, true, true, true, true, false, false, false, false, false, false, false, false, false, false, false, false, false, false, false, false, false, false] rfl rfl (any_of HT_.out (by kernel_rfl)) (fun _ _ _ h => h) (Or.inl ⟨by rfl, ?_⟩) ?_ ?_
                    rotate_left
                    ·intro w'
                     go_simp
                     with_reducible rfl
                    rotate_left
                    ·simp only [Act.put, List.setIfInBounds_toArray, List.set_cons_zero, List.set_cons_succ, i64_w, i32_w]
                     rfl
                    refine pure_ (i := 10) (N := some 127) (v := ?_) (a' := ?_) #[true, true, true, true, true, true, true, true, true, true, true, false, false, false, false, false, false, false, false, false, false, false, false, false, false, false, false, false] rfl rfl (any_of HT_.out (by kernel_rfl)) (fun _ _ _ h => h) (Or.inl ⟨by rfl, ?_⟩) ?_ ?_
                    rotate_left
                    ·intro w'
                     go_simp
                     with_reducible rfl
                    rotate_left
                    ·simp only [Act.put, List.setIfInBounds_toArray, List.set_cons_zero, List.set_cons_succ, i64_w, i32_w]
                     rfl
                    refine pure_ (i := 11) (N := some 128) (v := ?_) (a' := ?_) #[true, true, true, true, true, true, true, true, true, true, true, true, false, false, false, false, false, false, false, false, false, false, false, false, false, false, false, false] rfl rfl (any_of HT_.out (by kernel_rfl)) (fun _ _ _ h => h) (Or.inl ⟨by rfl, ?_⟩) ?_ ?_
                    rotate_left
                    ·intro w'
                     go_simp
                     with_reducible rfl
                    rotate_left
                    ·simp only [Act.put, List.setIfInBounds_toArray, List.set_cons_zero, List.set_cons_succ, i64_w, i32_w]
                     rfl
                    refine take_ (i := 12) (N := some 129) (v := ?_) (a' := ?_) #[true, true, true, true, true, true, true, true, true, true, true, true, true, false, false, false, false, false, false, false, false, false, false, false, false, false, false, false] rfl rfl (take_ofW HT_.out HW_.out (by kernel_rfl)) (fun _ _ _ h => h) (Or.inl ⟨by rfl, ?_⟩) hHeld ?_ ?_
                    rotate_left
                    ·rintro w' ⟨s0, s1, s2, s3, s4, s5, s6, s7, s8, s9, s10, s11⟩
                     go_simp
                     with_reducible rfl
                    rotate_left
                    ·simp only [Act.put, List.setIfInBounds_toArray, List.set_cons_zero, List.set_cons_succ, i64_w, i32_w]
                     rfl
                    refine take_ (i := 13) (N := some 130) (v := ?_) (a' := ?_) #[true, true, true, true, true, true, true, true, true, true, true, true, true, true, false, false, false, false, false, false, false, false, false, false, false, false, false, false] rfl rfl (take_ofW HT_.out HW_.out (by kernel_rfl)) (fun _ _ _ h => h) (Or.inl ⟨by rfl, ?_⟩) hHeld ?_ ?_
                    rotate_left
                    ·rintro w' ⟨s0, s1, s2, s3, s4, s5, s6, s7, s8, s9, s10, s11⟩
                     go_simp
                     with_reducible rfl
                    rotate_left
                    ·simp only [Act.put, List.setIfInBounds_toArray, List.set_cons_zero, List.set_cons_succ, i64_w, i32_w]
                     rfl
                    refine take_ (i := 15) (N := some 132) (v := ?_) (a' := ?_) #[true, true, true, true, true, true, true, true, true, true, true, true, true, true, false, true, false, false, false, false, false, false, false, false, false, false, false, false] rfl rfl (take_ofW HT_.out HW_.out (by kernel_rfl)) (fun _ _ _ h => h) (Or.inl ⟨by rfl, ?_⟩) hHeld ?_ ?_
                    rotate_left
                    ·rintro w' ⟨s0, s1, s2, s3, s4, s5, s6, s7, s8, s9, s10, s11⟩
                     go_simp
                     with_reducible rfl
                    rotate_left
                    ·simp only [Act.put, List.setIfInBounds_toArray, List.set_cons_zero, List.set_cons_succ, i64_w, i32_w]
                     rfl
                    refine take_ (i := 16) (N := some 133) (v := ?_) (a' := ?_) #[true, true, true, true, true, true, true, true, true, true, true, true, true, true, false, true, true, false, false, false, false, false, false, false, false, false, false, false] rfl rfl (take_ofW HT_.out HW_.out (by kernel_rfl)) (fun _ _ _ h => h) (Or.inl ⟨by rfl, ?_⟩) hHeld ?_ ?_
                    rotate_left
                    ·rintro w' ⟨s0, s1, s2, s3, s4, s5, s6, s7, s8, s9, s10, s11⟩
                     go_simp
                     with_reducible rfl
                    rotate_left
                    ·simp only [Act.put, List.setIfInBounds_toArray, List.set_cons_zero, List.set_cons_succ, i64_w, i32_w]
                     rfl
                    refine one_ (i := 14) (N := some 131) #[true, true, true, true, true, true, true, true, true, true, true, true, true, true, true, true, true, false, false, false, false, false, false, false, false, false, false, false] rfl rfl (one_of HT_.out (by kernel_rfl)) (by decide) (fun K hK => ?_)
                    refine goes_ Tryd.func13 (by kernel_rfl) rfl #[.agg #[.int .i64 a0_0, .int .i64 a0_1, .string a0_2], .agg #[.int .i64 a1_0, .int .i64 a1_1, .string a1_2]] (by rfl) rfl rfl (by (try simp only [List.map_toArray, List.map_cons, List.map_nil]); first | done | rfl | (simp only [List.length_drop, List.length_take]; rfl)) ?_
                    with_reducible refine (value_Compare.calls kj101 a0_0 a0_1 a0_2 a1_0 a1_1 a1_2 t638 _ A132.out).mono ?_
                    rintro e w152 ⟨rfl, hb⟩
                    refine ⟨_, rfl, ?_⟩
                    replace BK592 := blkB BK592 hb
                    replace BK593 := blkB BK593 hb
                    replace BK607 := blkB BK607 hb
                    replace BK612 := blkB BK612 hb
                    replace HB := stepB HB hb
                    (try clear hb)
                    (try clear hb2)
                    (try clear hk)
                    (try clear hi)
                    refine hK.out _ _ ⟨(blk_cell BK607.out 0).trans rfl, (blk_cell BK607.out 1).trans rfl, (blk_cell BK607.out 2).trans rfl, (blk_cell BK612.out 0).trans rfl, (blk_cell BK612.out 1).trans rfl, (blk_cell BK612.out 2).trans rfl, (blk_cell BK592.out 0).trans rfl, (blk_cell BK592.out 1).trans rfl, (blk_cell BK592.out 2).trans rfl, (blk_cell BK593.out 0).trans rfl, (blk_cell BK593.out 1).trans rfl, (blk_cell BK593.out 2).trans rfl⟩ (fun hHeld => ?_)
                    clear hK K
                    refine norm_ (a' := ?_) ?_ ?_
                    rotate_left
                    ·show Act.put _ (some 131) _ = _
                     simp only [Act.put, List.setIfInBounds_toArray, List.set_cons_zero, List.set_cons_succ, i64_w, i32_w]
                     rfl
                    refine one_ (i := 17) (N := some 134) #[true, true, true, true, true, true, true, true, true, true, true, true, true, true, true, true, true, true, false, false, false, false, false, false, false, false, false, false] rfl rfl (one_of HT_.out (by kernel_rfl)) (by decide) (fun K hK => ?_)
                    refine goes_ Tryd.func28 (by kernel_rfl) rfl #[.agg #[.int .i64 a0_0, .int .i64 a0_1, .string a0_2], .agg #[.int .i64 a1_0, .int .i64 a1_1, .string a1_2]] (by rfl) rfl rfl (by (try simp only [List.map_toArray, List.map_cons, List.map_nil]); first | done | rfl | (simp only [List.length_drop, List.length_take]; rfl)) ?_
                    with_reducible refine (alumref19_Compare.calls a0_0 a0_1 a0_2 a1_0 a1_1 a1_2 t639 _ A133.out).mono ?_
                    rintro e w153 ⟨rfl, hb⟩
                    refine ⟨_, rfl, ?_⟩
                    replace BK592 := blkB BK592 hb
                    replace BK593 := blkB BK593 hb
                    replace BK607 := blkB BK607 hb
                    replace BK612 := blkB BK612 hb
                    replace HB := stepB HB hb
                    (try clear hb)
                    (try clear hb2)
                    (try clear hk)
                    (try clear hi)
                    refine hK.out _ _ ⟨(blk_cell BK607.out 0).trans rfl, (blk_cell BK607.out 1).trans rfl, (blk_cell BK607.out 2).trans rfl, (blk_cell BK612.out 0).trans rfl, (blk_cell BK612.out 1).trans rfl, (blk_cell BK612.out 2).trans rfl, (blk_cell BK592.out 0).trans rfl, (blk_cell BK592.out 1).trans rfl, (blk_cell BK592.out 2).trans rfl, (blk_cell BK593.out 0).trans rfl, (blk_cell BK593.out 1).trans rfl, (blk_cell BK593.out 2).trans rfl⟩ (fun hHeld => ?_)
                    clear hK K
                    refine norm_ (a' := ?_) ?_ ?_
                    rotate_left
                    ·show Act.put _ (some 134) _ = _
                     simp only [Act.put, List.setIfInBounds_toArray, List.set_cons_zero, List.set_cons_succ, i64_w, i32_w]
                     rfl
                    refine pure_ (i := 18) (N := some 135) (v := ?_) (a' := ?_) #[true, true, true, true, true, true, true, true, true, true, true, true, true, true, true, true, true, true, true, false, false, false, false, false, false, false, false, false] rfl rfl (any_of HT_.out (by kernel_rfl)) (fun _ _ _ h => h) (Or.inl ⟨by rfl, ?_⟩) ?_ ?_
                    rotate_left
                    ·intro w'
                     go_simp
                     with_reducible rfl
                    rotate_left
                    ·simp only [Act.put, List.setIfInBounds_toArray, List.set_cons_zero, List.set_cons_succ, i64_w, i32_w]
                     rfl
                    refine pure_ (i := 19) (N := some 136) (v := ?_) (a' := ?_) #[true, true, true, true, true, true, true, true, true, true, true, true, true, true, true, true, true, true, true, true, false, false, false, false, false, false, false, false] rfl rfl (any_of HT_.out (by kernel_rfl)) (fun _ _ _ h => h) (Or.inl ⟨by rfl, ?_⟩) ?_ ?_
                    rotate_left
                    ·intro w'
                     go_simp
                     with_reducible rfl
                    rotate_left
                    ·simp only [Act.put, List.setIfInBounds_toArray, List.set_cons_zero, List.set_cons_succ, i64_w, i32_w]
                     rfl
                    refine pure_ (i := 20) (N := some 137) (v := ?_) (a' := ?_) #[true, true, true, true, true, true, true, true, true, true, true, true, true, true, true, true, true, true, true, true, true, false, false, false, false, false, false, false] rfl rfl (any_of HT_.out (by kernel_rfl)) (fun _ _ _ h => h) (Or.inl ⟨by rfl, ?_⟩) ?_ ?_
                    rotate_left
                    ·intro w'
                     go_simp
                     with_reducible rfl
                    rotate_left
                    ·simp only [Act.put, List.setIfInBounds_toArray, List.set_cons_zero, List.set_cons_succ, i64_w, i32_w]
                     rfl
                    refine take_ (i := 21) (N := some 138) (v := ?_) (a' := ?_) #[true, true, true, true, true, true, true, true, true, true, true, true, true, true, true, true, true, true, true, true, true, true, false, false, false, false, false, false] rfl rfl (take_ofW HT_.out HW_.out (by kernel_rfl)) (fun _ _ _ h => h) (Or.inl ⟨by rfl, ?_⟩) hHeld ?_ ?_
                    rotate_left
                    ·rintro w' ⟨s0, s1, s2, s3, s4, s5, s6, s7, s8, s9, s10, s11⟩
                     go_simp
                     with_reducible rfl
                    rotate_left
                    ·simp only [Act.put, List.setIfInBounds_toArray, List.set_cons_zero, List.set_cons_succ, i64_w, i32_w]
                     rfl
                    refine take_ (i := 23) (N := some 140) (v := ?_) (a' := ?_) #[true, true, true, true, true, true, true, true, true, true, true, true, true, true, true, true, true, true, true, true, true, true, false, true, false, false, false, false] rfl rfl (take_ofW HT_.out HW_.out (by kernel_rfl)) (fun _ _ _ h => h) (Or.inl ⟨by rfl, ?_⟩) hHeld ?_ ?_
                    rotate_left
                    ·rintro w' ⟨s0, s1, s2, s3, s4, s5, s6, s7, s8, s9, s10, s11⟩
                     go_simp
                     with_reducible rfl
                    rotate_left
                    ·simp only [Act.put, List.setIfInBounds_toArray, List.set_cons_zero, List.set_cons_succ, i64_w, i32_w]
                     rfl
                    refine one_ (i := 22) (N := some 139) #[true, true, true, true, true, true, true, true, true, true, true, true, true, true, true, true, true, true, true, true, true, true, true, true, false, false, false, false] rfl rfl (one_of HT_.out (by kernel_rfl)) (by decide) (fun K hK => ?_)
                    refine goes_ Tryd.func29 (by kernel_rfl) rfl #[.agg #[.int .i64 a0_0, .int .i64 a0_1, .string a0_2]] (by rfl) rfl rfl (by (try simp only [List.map_toArray, List.map_cons, List.map_nil]); first | done | rfl | (simp only [List.length_drop, List.length_take]; rfl)) ?_
                    with_reducible refine (value_PrintT.calls (htab := tab_below HTAB.out (by repeat (first | (with_reducible first | exact HB.out | apply below_alloc | apply pw_below_drewN | apply below_drew1 | refine below_set ?_ GE592.out | refine below_set ?_ GE593.out | refine below_set ?_ GE607.out | refine below_set ?_ GE612.out) | exact HB.out))) kj101 a0_0 a0_1 a0_2 t640 _ A135.out).mono ?_
                    rintro e w154 ⟨rfl, hb⟩
                    refine ⟨_, rfl, ?_⟩
                    replace BK592 := blkB BK592 hb
                    replace BK593 := blkB BK593 hb
                    replace BK607 := blkB BK607 hb
                    replace BK612 := blkB BK612 hb
                    replace HB := stepB HB hb
                    (try clear hb)
                    (try clear hb2)
                    (try clear hk)
                    (try clear hi)
                    refine hK.out _ _ ⟨(blk_cell BK607.out 0).trans rfl, (blk_cell BK607.out 1).trans rfl, (blk_cell BK607.out 2).trans rfl, (blk_cell BK612.out 0).trans rfl, (blk_cell BK612.out 1).trans rfl, (blk_cell BK612.out 2).trans rfl, (blk_cell BK592.out 0).trans rfl, (blk_cell BK592.out 1).trans rfl, (blk_cell BK592.out 2).trans rfl, (blk_cell BK593.out 0).trans rfl, (blk_cell BK593.out 1).trans rfl, (blk_cell BK593.out 2).trans rfl⟩ (fun hHeld => ?_)
                    clear hK K
                    refine norm_ (a' := ?_) ?_ ?_
                    rotate_left
                    ·show Act.put _ (some 139) _ = _
                     simp only [Act.put, List.setIfInBounds_toArray, List.set_cons_zero, List.set_cons_succ, i64_w, i32_w]
                     rfl
                    refine one_ (i := 24) (N := some 141) #[true, true, true, true, true, true, true, true, true, true, true, true, true, true, true, true, true, true, true, true, true, true, true, true, true, false, false, false] rfl rfl (one_of HT_.out (by kernel_rfl)) (by decide) (fun K hK => ?_)
                    refine goes_ Tryd.func30 (by kernel_rfl) rfl #[.agg #[.int .i64 a0_0, .int .i64 a0_1, .string a0_2]] (by rfl) rfl rfl (by (try simp only [List.map_toArray, List.map_cons, List.map_nil]); first | done | rfl | (simp only [List.length_drop, List.length_take]; rfl)) ?_
                    with_reducible refine (alumref19_Print.calls kj101 a0_0 a0_1 a0_2 t641 _ A136.out).mono ?_
                    rintro e w155 ⟨rfl, hb⟩
                    refine ⟨_, rfl, ?_⟩
                    replace BK592 := blkB BK592 hb
                    replace BK593 := blkB BK593 hb
                    replace BK607 := blkB BK607 hb
                    replace BK612 := blkB BK612 hb
                    replace HB := stepB HB hb
                    (try clear hb)
                    (try clear hb2)
                    (try clear hk)
                    (try clear hi)
                    refine hK.out _ _ ⟨(blk_cell BK607.out 0).trans rfl, (blk_cell BK607.out 1).trans rfl, (blk_cell BK607.out 2).trans rfl, (blk_cell BK612.out 0).trans rfl, (blk_cell BK612.out 1).trans rfl, (blk_cell BK612.out 2).trans rfl, (blk_cell BK592.out 0).trans rfl, (blk_cell BK592.out 1).trans rfl, (blk_cell BK592.out 2).trans rfl, (blk_cell BK593.out 0).trans rfl, (blk_cell BK593.out 1).trans rfl, (blk_cell BK593.out 2).trans rfl⟩ (fun hHeld => ?_)
                    clear hK K
                    refine norm_ (a' := ?_) ?_ ?_
                    rotate_left
                    ·show Act.put _ (some 141) _ = _
                     simp only [Act.put, List.setIfInBounds_toArray, List.set_cons_zero, List.set_cons_succ, i64_w, i32_w]
                     rfl
                    refine pure_ (i := 25) (N := some 142) (v := ?_) (a' := ?_) #[true, true, true, true, true, true, true, true, true, true, true, true, true, true, true, true, true, true, true, true, true, true, true, true, true, true, false, false] rfl rfl (any_of HT_.out (by kernel_rfl)) (fun _ _ _ h => h) (Or.inl ⟨by rfl, ?_⟩) ?_ ?_
                    rotate_left
                    ·intro w'
                     go_simp
                     with_reducible rfl
                    rotate_left
                    ·simp only [Act.put, List.setIfInBounds_toArray, List.set_cons_zero, List.set_cons_succ, i64_w, i32_w]
                     rfl
                    refine pure_ (i := 26) (N := some 143) (v := ?_) (a' := ?_) #[true, true, true, true, true, true, true, true, true, true, true, true, true, true, true, true, true, true, true, true, true, true, true, true, true, true, true, false] rfl rfl (any_of HT_.out (by kernel_rfl)) (fun _ _ _ h => h) (Or.inl ⟨by rfl, ?_⟩) ?_ ?_
                    rotate_left
                    ·intro w'
                     go_simp
                     with_reducible rfl
                    rotate_left
                    ·simp only [Act.put, List.setIfInBounds_toArray, List.set_cons_zero, List.set_cons_succ, i64_w, i32_w]
                     rfl
                    refine pure_ (i := 27) (N := some 6) (v := ?_) (a' := ?_) #[true, true, true, true, true, true, true, true, true, true, true, true, true, true, true, true, true, true, true, true, true, true, true, true, true, true, true, true] rfl rfl (any_of HT_.out (by kernel_rfl)) (fun _ _ _ h => h) (Or.inl ⟨by rfl, ?_⟩) ?_ ?_
                    rotate_left
                    ·intro w'
                     go_simp
                     with_reducible rfl
                    rotate_left
                    ·simp only [Act.put, List.setIfInBounds_toArray, List.set_cons_zero, List.set_cons_succ, i64_w, i32_w]
                     rfl
                    refine done_ (done_of HT_.out (by kernel_rfl)) ?_
                    try go_wp2
                    go_ret
                    exact ⟨by first | rfl | (simp [errW_none, errW_some] <;> rfl) | (simp [*, errW_none, errW_some] <;> rfl), by repeat (first | (with_reducible first | exact HB.out | apply below_alloc | apply pw_below_drewN | apply below_drew1 | refine below_set ?_ GE592.out | refine below_set ?_ GE593.out | refine below_set ?_ GE607.out | refine below_set ?_ GE612.out) | exact HB.out)⟩
                   ·rw [if_neg c134] at H
                    exact absurd H (by simp)
                  ·rw [if_neg c131] at H
                   exact absurd H (by simp)
                 ·rw [if_neg c130] at H
                  exact absurd H (by simp)
                ·replace c129 := Bool.eq_false_iff.mpr c129
                 subst c129
                 have H1 : (none) = some r := by rw [if_neg (show ¬ (false = true) by decide)] at H; exact H
                 clear H
                 have H := H1
                 clear H1
                 exact absurd H (by simp)
end Go.Proofs.YtmhnfdgegejlkaaDoor.P
end

section
namespace Go.Proofs.YtmhnfdgegejlkaaDoor.P
open Go.RowKit Go.Proofs.YtmhnfdgegejlkaaDoorW.PrintWords
section
variable {H : Type} {enc : TypeId × Value → H} {P : Program} {W : World}
def Opens {α : Type} (enc : TypeId × Value → H) (P : Program) (W : World) (d : Kd α) (t : TypeId) (good : α → Prop) : Prop :=
  P.cellsOf t = d.sz ∧ ∀ (fuel : Nat) (cs : List Value) (x : DataW H) (ps : List MemPlace), DataW.trod enc P W 0 (fun _ => true) true fuel t cs = some (x, ps) → (∀ n ∈ x.weights P t, n ≤ reachBytes) → ∃ a : α, d.K W a cs ∧ good a
theorem opens_int {t : TypeId} {k : IntKind} (hu : P.underlying t = some (.int k)) (hc : P.cellsOf t = 1) : Opens enc P W (Kd.int k) t (fun a => (Lit.int k a).wf = true) := by
  refine ⟨hc, fun fuel cs x ps h _ => ?_⟩
  obtain ⟨n, rfl, _, hw⟩ := DataW.trod_int hu h
  exact ⟨n, rfl, hw⟩
theorem opens_string {t : TypeId} (hu : P.underlying t = some .string) (hc : P.cellsOf t = 1) : Opens enc P W Kd.string t (fun s => s.size ≤ 140737488351232) := by
  refine ⟨hc, fun fuel cs x ps h hw => ?_⟩
  obtain ⟨s, rfl, hx, _⟩ := DataW.trod_string hu h
  obtain ⟨rfl, rfl⟩ := Prod.mk.inj hx
  refine ⟨s, rfl, ?_⟩
  have := hw s.data.toList.length (by simp [DataW.weights])
  rw [Array.length_toList] at this
  exact this
def OpensFs {α : Type} (enc : TypeId × Value → H) (P : Program) (W : World) (d : Kd α) (fs : List Field) (o : Nat) (good : α → Prop) : Prop :=
  ∀ (n : Nat) (cs : List Value) (xs : List (DataW H × List MemPlace)), xs.length = fs.length → cs.length = o + d.sz →
    (∀ (i : Nat) (f : Field), fs[i]? = some f → DataW.trod enc P W 0 (fun _ => true) true n f.type ((cs.drop f.offset).take (P.cellsOf f.type)) = xs[i]?) →
    (∀ m ∈ DataW.weightsEach P (fs.map (·.type)) (xs.map (·.1)), m ≤ reachBytes) → ∃ a : α, d.K W a (cs.drop o) ∧ good a
theorem opensFs_one {α : Type} {d : Kd α} {f : Field} {o : Nat} {good : α → Prop} (ho : f.offset = o) (hf : Opens enc P W d f.type good) : OpensFs enc P W d [f] o good := by
  intro n cs xs hl hcs h hw
  match xs, hl with
  | [x], _ =>
    have h0 := h 0 f rfl
    rw [ho, hf.1, List.take_of_length_le (by simp; omega)] at h0
    exact hf.2 n _ x.1 x.2 h0 (fun m hm => hw m (by simpa [DataW.weightsEach] using hm))
theorem opensFs_cons {α β : Type} {d : Kd α} {e : Kd β} {f : Field} {fs : List Field} {o o' : Nat} {good : α → Prop} {good' : β → Prop} (ho : f.offset = o) (hf : Opens enc P W d f.type good) (ho' : o + d.sz = o') (hfs : OpensFs enc P W e fs o' good') :
    OpensFs enc P W (Kd.pair d e) (f :: fs) o (fun p => good p.1 ∧ good' p.2) := by
  intro n cs xs hl hcs h hw
  match xs, hl with
  | x :: xs, hl =>
    have hsz : (Kd.pair d e).sz = d.sz + e.sz := rfl
    have h0 := h 0 f rfl
    rw [ho, hf.1] at h0
    obtain ⟨a, ha, ga⟩ := hf.2 n _ x.1 x.2 h0 (fun m hm => hw m (by simp [DataW.weightsEach]; exact Or.inl hm))
    obtain ⟨b, hb, gb⟩ := hfs n cs xs (by simpa using hl) (by omega) (fun i g hg => h (i + 1) g (by simpa using hg)) (fun m hm => hw m (by simp [DataW.weightsEach]; exact Or.inr (by simpa using hm)))
    refine ⟨(a, b), ⟨(cs.drop o).take d.sz, cs.drop o', ?_, ha, hb⟩, ga, gb⟩
    rw [← ho', ← List.drop_drop, List.take_append_drop]
theorem opens_struct {α : Type} {d : Kd α} {t : TypeId} {fs : Array Field} {good : α → Prop} (hu : P.underlying t = some (.struct fs)) (hc : P.cellsOf t = d.sz) (h : OpensFs enc P W d fs.toList 0 good) : Opens enc P W d t good := by
  refine ⟨hc, fun fuel cs x ps hx hw => ?_⟩
  obtain ⟨xs, n, _, he, hl, hn, hf⟩ := DataW.trod_struct hu hx
  obtain ⟨rfl, rfl⟩ := Prod.mk.inj he
  have := h n cs xs (by simpa using hn) (by omega) (fun i f hi => hf i f (by simpa using hi)) (fun m hm => hw m (by simp only [DataW.weights, hu]; exact hm))
  simpa using this
theorem opens_iso {α β : Type} {d : Kd α} {t : TypeId} {good : α → Prop} (f : β → α) (g : α → β) (hfg : ∀ a, f (g a) = a) (h : Opens enc P W d t good) : Opens enc P W (Kd.iso d f) t (fun b => good (f b)) := by
  refine ⟨h.1, fun fuel cs x ps hx hw => ?_⟩
  obtain ⟨a, ha, ga⟩ := h.2 fuel cs x ps hx hw
  exact ⟨g a, by show d.K W (f (g a)) cs; rw [hfg]; exact ha, by show good (f (g a)); rw [hfg]; exact ga⟩
end
end Go.Proofs.YtmhnfdgegejlkaaDoor.P
end

section
namespace Go.Proofs.YtmhnfdgegejlkaaDoor.P
open Go Go.RowKit Go.Proofs.YtmhnfdgegejlkaaDoorW.PrintWords
set_option linter.unusedVariables false
theorem op3 {H : Type} (enc : TypeId × Value → H) (W : World) : Opens enc Tryd.prog W (Kd.int .i64) 3 (fun a => (Lit.int .i64 a).wf = true) := opens_int Tryd.underlying3 (by kernel_rfl)
theorem op9 {H : Type} (enc : TypeId × Value → H) (W : World) : Opens enc Tryd.prog W Kd.string 9 (fun s => s.size ≤ 140737488351232) := opens_string Tryd.underlying9 (by kernel_rfl)
def G23 (x : S23) : Prop := (Lit.int .i64 x.f0).wf = true ∧ (Lit.int .i64 x.f1).wf = true ∧ x.f2.size ≤ 140737488351232
theorem op23 {H : Type} (enc : TypeId × Value → H) (W : World) : Opens enc Tryd.prog W k23 23 G23 := opens_iso (fun x : S23 => (x.f0, x.f1, x.f2)) (fun p => ⟨p.1, p.2.1, p.2.2⟩) (fun _ => rfl) (opens_struct Tryd.underlying23 (by kernel_rfl) (opensFs_cons rfl (op3 enc W) rfl (opensFs_cons rfl (op3 enc W) rfl (opensFs_one rfl (op9 enc W)))))
def alumlaw19_ValueMatchesSpecT.Pure : Prop := ∀ (x0 : S23) (x1 : S23) (x2 : Int), G23 x0 → G23 x1 → (Lit.int .i64 x2).wf = true → ∃ k, alumlaw19_ValueMatchesSpecT.f k x0.f0 x0.f1 x0.f2 x1.f0 x1.f1 x1.f2 x2 = some true
end Go.Proofs.YtmhnfdgegejlkaaDoor.P
end

section
namespace Go.Proofs.YtmhnfdgegejlkaaDoor.V
open Go Go.RowKit Go.Proofs.YtmhnfdgegejlkaaDoor.P Go.Proofs.YtmhnfdgegejlkaaDoorW.PrintWords
theorem sanity_at : alumlaw19_sanity.f 40 = some true := by kernel_rfl
theorem ev_sanity (k : Nat) (hk : 40 ≤ k) : alumlaw19_sanity.f k = some true := at_rounds (fun k => alumlaw19_sanity.mono k) hk sanity_at
end Go.Proofs.YtmhnfdgegejlkaaDoor.V
end

section
namespace Go.Proofs.YtmhnfdgegejlkaaDoor.V
open Go
set_option linter.unusedSimpArgs false
set_option linter.unusedVariables false
structure TC {α : Type} (f : α → α → Int) : Prop where
  rng : ∀ a b, f a b = -1 ∨ f a b = 0 ∨ f a b = 1
  eq0 : ∀ a b, f a b = 0 ↔ a = b
  sym : ∀ a b, f b a = - f a b
  tr : ∀ a b c, f a b = -1 → f b c = -1 → f a c = -1
namespace TC
variable {α : Type} {f : α → α → Int} (h : TC f)
include h
theorem refl (a : α) : f a a = 0 := (h.eq0 a a).2 rfl
theorem le_trans {a b c : α} (h1 : f a b ≤ 0) (h2 : f b c ≤ 0) : f a c ≤ 0 := by
  have r1 := h.rng a b; have r2 := h.rng b c
  rcases r1 with r1 | r1 | r1
  · rcases r2 with r2 | r2 | r2
    · have := h.tr a b c r1 r2; omega
    · rw [h.eq0] at r2; subst r2; omega
    · omega
  · rw [h.eq0] at r1; subst r1; exact h2
  · omega
end TC
def cmpI (a b : Int) : Int := if a < b then -1 else if b < a then 1 else 0
theorem tcI : TC cmpI where
  rng a b := by unfold cmpI; split; · omega
                split <;> omega
  eq0 a b := by unfold cmpI; split; · omega
                split <;> omega
  sym a b := by unfold cmpI; split <;> split <;> (try split) <;> omega
  tr a b c := by
    unfold cmpI
    intro h1 h2
    have h3 : a < b := by
      split at h1
      · assumption
      · split at h1 <;> omega
    have h4 : b < c := by
      split at h2
      · assumption
      · split at h2 <;> omega
    rw [if_pos (by omega)]
def lcmp {α : Type} (f : α → α → Int) : List α → List α → Int
  | [], [] => 0
  | [], _ :: _ => -1
  | _ :: _, [] => 1
  | a :: x, b :: y => if f a b = 0 then lcmp f x y else f a b
theorem tcL {α : Type} {f : α → α → Int} (h : TC f) : TC (lcmp f) where
  rng a := by
    induction a with
    | nil => intro b; cases b <;> simp [lcmp]
    | cons x a ih =>
      intro b
      cases b with
      | nil => simp [lcmp]
      | cons y b => unfold lcmp; split; exact ih b; exact h.rng x y
  eq0 a := by
    induction a with
    | nil => intro b; cases b <;> simp [lcmp]
    | cons x a ih =>
      intro b
      cases b with
      | nil => simp [lcmp]
      | cons y b =>
        unfold lcmp
        split
        · rename_i h0
          rw [ih, List.cons.injEq, (h.eq0 x y).1 h0]
          simp
        · rename_i h0
          refine ⟨fun e => absurd e h0, fun e => ?_⟩
          rw [List.cons.injEq] at e
          exact absurd ((h.eq0 x y).2 e.1) h0
  sym a := by
    induction a with
    | nil => intro b; cases b <;> simp [lcmp]
    | cons x a ih =>
      intro b
      cases b with
      | nil => simp [lcmp]
      | cons y b =>
        unfold lcmp
        have := h.sym x y
        by_cases h0 : f x y = 0
        · rw [if_pos h0, if_pos (by omega), ih]
        · rw [if_neg h0, if_neg (by omega), this]
  tr a := by
    induction a with
    | nil => intro b c h1 h2; cases c <;> cases b <;> simp_all [lcmp]
    | cons x a ih =>
      intro b c h1 h2
      cases b with
      | nil => simp [lcmp] at h1
      | cons y b =>
        cases c with
        | nil => simp [lcmp] at h2
        | cons z c =>
          unfold lcmp at h1 h2 ⊢
          by_cases h3 : f x y = 0
          · have := (h.eq0 x y).1 h3
            subst this
            rw [if_pos h3] at h1
            by_cases h4 : f x z = 0
            · rw [if_pos h4] at h2 ⊢; exact ih b c h1 h2
            · rw [if_neg h4] at h2 ⊢; exact h2
          · rw [if_neg h3] at h1
            by_cases h4 : f y z = 0
            · have := (h.eq0 y z).1 h4
              subst this
              rw [if_neg h3]; exact h1
            · rw [if_neg h4] at h2
              have := h.tr x y z h1 h2
              rw [if_neg (by omega)]; exact this
def cmpU (a b : UInt8) : Int := if a < b then -1 else if b < a then 1 else 0
theorem tcU : TC cmpU where
  rng a b := by unfold cmpU; split; · omega
                split <;> omega
  eq0 a b := by
    unfold cmpU
    constructor
    · intro h0
      split at h0
      · omega
      · split at h0
        · omega
        · exact UInt8.le_antisymm (UInt8.not_lt.1 ‹¬ b < a›) (UInt8.not_lt.1 ‹¬ a < b›)
    · rintro rfl
      rw [if_neg (UInt8.lt_irrefl a), if_neg (UInt8.lt_irrefl a)]
  sym a b := by
    unfold cmpU
    by_cases h1 : a < b
    · rw [if_pos h1, if_neg (UInt8.lt_asymm h1), if_pos h1]; rfl
    · by_cases h2 : b < a
      · rw [if_pos h2, if_neg h1, if_pos h2]
      · rw [if_neg h1, if_neg h2, if_neg h2, if_neg h1]; rfl
  tr a b c := by
    unfold cmpU
    intro h1 h2
    have h3 : a < b := by
      split at h1
      · assumption
      · split at h1 <;> omega
    have h4 : b < c := by
      split at h2
      · assumption
      · split at h2 <;> omega
    rw [if_pos (UInt8.lt_trans h3 h4)]
theorem compareBytes_eq : ∀ a b : List UInt8, Lib.compareBytes a b = lcmp cmpU a b
  | [], [] => rfl
  | [], _ :: _ => rfl
  | _ :: _, [] => rfl
  | x :: a, y :: b => by
    have ih := compareBytes_eq a b
    unfold Lib.compareBytes lcmp
    have hU : cmpU x y = if x < y then -1 else if y < x then 1 else 0 := rfl
    rw [hU]
    by_cases h1 : x < y
    · simp [h1]
    · by_cases h2 : y < x
      · simp [h1, h2]
      · simp [h1, h2, ih]
def cmpS (a b : ByteArray) : Int := Lib.compareBytes a.data.toList b.data.toList
theorem bytes_ext {a b : ByteArray} (h : a.data.toList = b.data.toList) : a = b := ByteArray.ext (Array.toList_inj.1 h)
theorem tcS : TC cmpS where
  rng a b := by unfold cmpS; rw [compareBytes_eq]; exact (tcL tcU).rng _ _
  eq0 a b := by
    unfold cmpS; rw [compareBytes_eq, (tcL tcU).eq0]
    exact ⟨bytes_ext, fun h => by rw [h]⟩
  sym a b := by unfold cmpS; rw [compareBytes_eq, compareBytes_eq]; exact (tcL tcU).sym _ _
  tr a b c := by unfold cmpS; simp only [compareBytes_eq]; exact (tcL tcU).tr _ _ _
theorem bytesLess_cmp : ∀ a b : List UInt8, (Op.bytesLess a b = true) ↔ lcmp cmpU a b = -1
  | [], [] => by simp [Op.bytesLess, lcmp]
  | [], _ :: _ => by simp [Op.bytesLess, lcmp]
  | _ :: _, [] => by simp [Op.bytesLess, lcmp]
  | x :: a, y :: b => by
    have ih := bytesLess_cmp a b
    unfold Op.bytesLess lcmp
    have hU : cmpU x y = if x < y then -1 else if y < x then 1 else 0 := rfl
    rw [hU]
    by_cases h1 : x < y
    · simp [h1]
    · by_cases h2 : y < x
      · have h3 : x ≠ y := by rintro rfl; exact h1 h2
        simp [h1, h2, h3]
      · have h3 : x = y := UInt8.le_antisymm (UInt8.not_lt.1 h2) (UInt8.not_lt.1 h1)
        subst h3
        simpa [h1] using ih
theorem less_cmpS (a b : ByteArray) : Op.bytesLess a.toList b.toList = decide (cmpS a b = -1) := by
  rw [Bool.eq_iff_iff, bytesLess_cmp, ByteArray.toList_eq, ByteArray.toList_eq, decide_eq_true_eq]
  unfold cmpS
  rw [compareBytes_eq]
def cmp2 {α β : Type} (f : α → α → Int) (g : β → β → Int) (a b : α × β) : Int := if f a.1 b.1 = 0 then g a.2 b.2 else f a.1 b.1
end Go.Proofs.YtmhnfdgegejlkaaDoor.V
end

section
namespace Go.Proofs.YtmhnfdgegejlkaaDoor.V
open Go Go.RowKit Go.Proofs.YtmhnfdgegejlkaaDoor.P Go.Proofs.YtmhnfdgegejlkaaDoorW.PrintWords
set_option linter.unusedSimpArgs false
set_option linter.unusedVariables false
abbrev V := S23
abbrev e0 : ByteArray := ⟨#[]⟩
theorem V_ext {a b : V} (h0 : a.f0 = b.f0) (h1 : a.f1 = b.f1) (h2 : a.f2 = b.f2) : a = b := by cases a; cases b; simp_all
instance : DecidableEq V := fun a b => decidable_of_iff (a.f0 = b.f0 ∧ a.f1 = b.f1 ∧ a.f2 = b.f2) ⟨fun h => V_ext h.1 h.2.1 h.2.2, fun h => by rw [h]; exact ⟨rfl, rfl, rfl⟩⟩
theorem wrap64_id {x : Int} (h1 : -9223372036854775808 ≤ x) (h2 : x ≤ 9223372036854775807) : wrap64 x = x := by unfold wrap64; omega
def vcmp (a b : V) : Int := cmp2 cmpI (cmp2 cmpI cmpS) (a.f0, a.f1, a.f2) (b.f0, b.f1, b.f2)
theorem ev_cmpInt (a b : Int) : cmp_Compare_int.f a b = some (cmpI a b) := by
  unfold cmp_Compare_int.f cmp_isNaN_int.f cmpI
  simp only [bne_self_eq_false, Option.bind_some, Bool.false_eq_true, if_false]
  split
  · rfl
  · split <;> rfl
theorem ev_Or (k : Nat) (x y z : Int) : cmp_Or_int.f (k + 4) [x, y, z] = some (if x = 0 then if y = 0 then z else y else x) := by
  have r0 : rd [x, y, z] 0 = x := rfl
  have r1 : rd [x, y, z] 1 = y := rfl
  have r2 : rd [x, y, z] 2 = z := rfl
  have w1 : wrap64 (0 + 1) = 1 := wrap64_id (by omega) (by omega)
  have w2 : wrap64 (1 + 1) = 2 := wrap64_id (by omega) (by omega)
  have w3 : wrap64 (2 + 1) = 3 := wrap64_id (by omega) (by omega)
  unfold cmp_Or_int.f
  simp only [cmp_Or_int.l0, r0, r1, r2, w1, w2, w3, List.length_cons, List.length_nil]
  by_cases hx : x = 0 <;> by_cases hy : y = 0 <;> by_cases hz : z = 0 <;> simp [hx, hy, hz]
theorem ev_Compare (k : Nat) (a b : V) : value_Compare.f (k + 4) a.f0 a.f1 a.f2 b.f0 b.f1 b.f2 = some (vcmp a b) := by
  unfold value_Compare.f
  simp only [ev_cmpInt, Option.bind_some, strings_Compare.f, ev_Or, vcmp, cmp2]
  by_cases h0 : cmpI a.f0 b.f0 = 0 <;> by_cases h1 : cmpI a.f1 b.f1 = 0 <;> simp [h0, h1, cmpS]
def vB (b : Bool) : Int × Int × ByteArray := (3, if b then 1 else 0, e0)
theorem ev_truth (b : Bool) : value_truth.f b = some (vB b) := by cases b <;> rfl
def opT (op c : Int) : Bool := if op = 6 then c == 0 else if op = 7 then c != 0 else if op = 8 then decide (c < 0) else if op = 9 then decide (c ≤ 0) else if op = 10 then decide (c > 0) else decide (c ≥ 0)
def res (p : Int × Int × ByteArray) (e : Int) : Int × Int × ByteArray × Int := (p.1, p.2.1, p.2.2, e)
def vtest (c : V → V → Int) (op : Int) (a b : V) : Int × Int × ByteArray × Int :=
  if op < 6 ∨ 11 < op then (0, 0, e0, 1) else if a.f0 = 0 ∨ b.f0 = 0 then (0, 0, e0, 0) else if a.f0 = b.f0 then res (vB (opT op (c a b))) 0 else (0, 0, e0, 7)
theorem ev_Test (k : Nat) (op : Int) (a b : V) : value_Test.f (k + 6) op a.f0 a.f1 a.f2 b.f0 b.f1 b.f2 = some (vtest vcmp op a b) := by
  unfold value_Test.f vtest
  by_cases h1 : op < 6
  · rw [if_pos h1]; simp [value_Test.j0, h1]
  · rw [if_neg h1]
    by_cases h2 : op > 11
    · have h2' : 11 < op := h2
      simp [value_Test.j0, h2, h2']
    · have h3 : ¬ (op < 6 ∨ 11 < op) := by omega
      rw [if_neg h3, decide_eq_false h2]
      simp only [value_Test.j0, Bool.false_eq_true, if_false]
      by_cases h4 : a.f0 = 0
      · rw [if_pos h4]; simp [value_Test.j1, h4]
      · rw [if_neg h4]
        by_cases h5 : b.f0 = 0
        · simp [value_Test.j1, h5]
        · rw [if_neg (by omega)]
          have h5' : (b.f0 == 0) = false := by simpa using h5
          simp only [value_Test.j1, h5', Bool.false_eq_true, if_false]
          by_cases h6 : a.f0 = b.f0
          · rw [if_pos h6, if_pos h6, ev_Compare k a b]
            simp only [Option.bind_some]
            have hop : op = 6 ∨ op = 7 ∨ op = 8 ∨ op = 9 ∨ op = 10 ∨ op = 11 := by omega
            generalize vcmp a b = c
            have d1 : (!decide (0 < c)) = decide (c ≤ 0) := by by_cases h : 0 < c <;> simp [h] <;> omega
            have d2 : (!decide (c < 0)) = decide (0 ≤ c) := by by_cases h : c < 0 <;> simp [h] <;> omega
            rcases hop with rfl | rfl | rfl | rfl | rfl | rfl <;> simp [ev_truth, opT, res, bne, d1, d2]
          · rw [if_neg h6, if_neg h6]
theorem ev_Test' (k : Nat) (hk : 6 ≤ k) (op : Int) (a b : V) : value_Test.f k op a.f0 a.f1 a.f2 b.f0 b.f1 b.f2 = some (vtest vcmp op a b) := by
  obtain ⟨k, rfl⟩ : ∃ m, k = m + 6 := ⟨k - 6, by omega⟩
  exact ev_Test k op a b
theorem ev_Compare' (k : Nat) (hk : 4 ≤ k) (a b : V) : value_Compare.f k a.f0 a.f1 a.f2 b.f0 b.f1 b.f2 = some (vcmp a b) := by
  obtain ⟨k, rfl⟩ : ∃ m, k = m + 4 := ⟨k - 4, by omega⟩
  exact ev_Compare k a b
end Go.Proofs.YtmhnfdgegejlkaaDoor.V
end

section
namespace Go.Proofs.YtmhnfdgegejlkaaDoor.P
open Go.RowKit Go.Proofs.YtmhnfdgegejlkaaDoorW.PrintWords Go.Proofs.YtmhnfdgegejlkaaDoorW.PrintLast Go.Proofs.YtmhnfdgegejlkaaDoorW.PrintMore
attribute [local go_sem] max2_int min2_int max_two min_two max_three min_three max_four min_four
set_option linter.unusedVariables false
set_option linter.unusedSimpArgs false
end Go.Proofs.YtmhnfdgegejlkaaDoor.P
end

section
namespace Go.Proofs.YtmhnfdgegejlkaaDoor.P
open Go.RowKit Go.Proofs.YtmhnfdgegejlkaaDoorW.PrintWords Go.Proofs.YtmhnfdgegejlkaaDoorW.PrintLast Go.Proofs.YtmhnfdgegejlkaaDoorW.PrintMore
attribute [local go_sem] max2_int min2_int max_two min_two max_three min_three max_four min_four
set_option linter.unusedVariables false
set_option linter.unusedSimpArgs false
end Go.Proofs.YtmhnfdgegejlkaaDoor.P
end

section
namespace Go.Proofs.YtmhnfdgegejlkaaDoor.V
open Go Go.RowKit Go.Proofs.YtmhnfdgegejlkaaDoor.P Go.Proofs.YtmhnfdgegejlkaaDoorW.PrintWords
set_option linter.unusedSimpArgs false
set_option linter.unusedVariables false
theorem wrap_succ (i : Nat) (h : i < 9223372036854775807) : wrap64 ((i : Int) + 1) = ((i + 1 : Nat) : Int) := by rw [wrap64_id (by omega) (by omega)]; rfl
end Go.Proofs.YtmhnfdgegejlkaaDoor.V
end

section
namespace Go.Proofs.YtmhnfdgegejlkaaDoor.V
open Go Go.RowKit Go.Proofs.YtmhnfdgegejlkaaDoor.P Go.Proofs.YtmhnfdgegejlkaaDoorW.PrintWords
set_option linter.unusedSimpArgs false
set_option linter.unusedVariables false
def Rt (v : V) : Prop := (v.f0 = 0 ∧ v.f1 = 0 ∧ v.f2 = e0) ∨ (v.f0 = 1 ∧ -549755813888 ≤ v.f1 ∧ v.f1 ≤ 549755813887 ∧ v.f2 = e0) ∨ (v.f0 = 2 ∧ v.f1 = 0 ∧ v.f2.size ≤ 40) ∨ (v.f0 = 3 ∧ (v.f1 = 0 ∨ v.f1 = 1) ∧ v.f2 = e0)
theorem empty_beq (s : ByteArray) : (s.toList == ([] : List UInt8)) = true ↔ s = e0 := by
  rw [beq_iff_eq, ByteArray.toList_eq]
  constructor
  · intro h; exact bytes_ext h
  · rintro rfl; rfl
theorem refRight_some (v : V) : ∃ b, alumref19_Right.f v.f0 v.f1 v.f2 = some b ∧ (b = true ↔ Rt v) := by
  unfold alumref19_Right.f Rt
  by_cases h0 : v.f0 = 0
  · rw [if_pos h0]
    by_cases h1 : v.f1 = 0
    · rw [if_pos h1]; exact ⟨_, rfl, by rw [empty_beq]; simp [h0, h1]⟩
    · rw [if_neg h1]; exact ⟨_, rfl, by simp [h0, h1]⟩
  · rw [if_neg h0]
    by_cases h1 : v.f0 = 1
    · rw [if_pos h1]
      by_cases h2 : v.f1 ≥ -549755813888
      · rw [if_pos h2]
        by_cases h3 : v.f1 ≤ 549755813887
        · rw [if_pos h3]; exact ⟨_, rfl, by rw [empty_beq]; simp [h1, h3]; omega⟩
        · rw [if_neg h3]; exact ⟨_, rfl, by simp [h1, h3]⟩
      · rw [if_neg h2]; exact ⟨_, rfl, by simp [h1]; omega⟩
    · rw [if_neg h1]
      by_cases h2 : v.f0 = 2
      · rw [if_pos h2]
        by_cases h3 : v.f1 = 0
        · rw [if_pos h3]; exact ⟨_, rfl, by simp [h2, h3]; omega⟩
        · rw [if_neg h3]; exact ⟨_, rfl, by simp [h2, h3]⟩
      · rw [if_neg h2]
        by_cases h3 : v.f0 = 3
        · rw [if_pos h3]
          by_cases h4 : v.f1 = 0
          · rw [if_pos h4]; exact ⟨_, rfl, by rw [empty_beq]; simp [h3, h4]⟩
          · rw [if_neg h4]
            by_cases h5 : v.f1 = 1
            · rw [if_pos h5]; exact ⟨_, rfl, by rw [empty_beq]; simp [h3, h4, h5]⟩
            · rw [if_neg h5]; exact ⟨_, rfl, by simp [h3, h4, h5]⟩
        · rw [if_neg h3]; exact ⟨_, rfl, by simp [h0, h1, h2, h3]⟩
theorem ev_Bool (b : Bool) : alumref19_Bool.f b = some (vB b) := by cases b <;> rfl
end Go.Proofs.YtmhnfdgegejlkaaDoor.V
end

section
namespace Go.Proofs.YtmhnfdgegejlkaaDoor.P
open Go.RowKit Go.Proofs.YtmhnfdgegejlkaaDoorW.PrintWords Go.Proofs.YtmhnfdgegejlkaaDoorW.PrintLast Go.Proofs.YtmhnfdgegejlkaaDoorW.PrintMore
attribute [local go_sem] max2_int min2_int max_two min_two max_three min_three max_four min_four
set_option linter.unusedVariables false
set_option linter.unusedSimpArgs false
end Go.Proofs.YtmhnfdgegejlkaaDoor.P
end

section
namespace Go.Proofs.YtmhnfdgegejlkaaDoor.P
open Go.RowKit Go.Proofs.YtmhnfdgegejlkaaDoorW.PrintWords Go.Proofs.YtmhnfdgegejlkaaDoorW.PrintLast Go.Proofs.YtmhnfdgegejlkaaDoorW.PrintMore
attribute [local go_sem] max2_int min2_int max_two min_two max_three min_three max_four min_four
set_option linter.unusedVariables false
set_option linter.unusedSimpArgs false
end Go.Proofs.YtmhnfdgegejlkaaDoor.P
end

section
namespace Go.Proofs.YtmhnfdgegejlkaaDoor.P
open Go.RowKit Go.Proofs.YtmhnfdgegejlkaaDoorW.PrintWords Go.Proofs.YtmhnfdgegejlkaaDoorW.PrintLast Go.Proofs.YtmhnfdgegejlkaaDoorW.PrintMore
attribute [local go_sem] max2_int min2_int max_two min_two max_three min_three max_four min_four
set_option linter.unusedVariables false
set_option linter.unusedSimpArgs false
end Go.Proofs.YtmhnfdgegejlkaaDoor.P
end

section
namespace Go.Proofs.YtmhnfdgegejlkaaDoor.P
open Go.RowKit Go.Proofs.YtmhnfdgegejlkaaDoorW.PrintWords Go.Proofs.YtmhnfdgegejlkaaDoorW.PrintLast Go.Proofs.YtmhnfdgegejlkaaDoorW.PrintMore
attribute [local go_sem] max2_int min2_int max_two min_two max_three min_three max_four min_four
set_option linter.unusedVariables false
set_option linter.unusedSimpArgs false
end Go.Proofs.YtmhnfdgegejlkaaDoor.P
end

section
namespace Go.Proofs.YtmhnfdgegejlkaaDoor.P
open Go.RowKit Go.Proofs.YtmhnfdgegejlkaaDoorW.PrintWords Go.Proofs.YtmhnfdgegejlkaaDoorW.PrintLast Go.Proofs.YtmhnfdgegejlkaaDoorW.PrintMore
attribute [local go_sem] max2_int min2_int max_two min_two max_three min_three max_four min_four
set_option linter.unusedVariables false
set_option linter.unusedSimpArgs false
end Go.Proofs.YtmhnfdgegejlkaaDoor.P
end

section
namespace Go.Proofs.YtmhnfdgegejlkaaDoor.P
open Go.RowKit Go.Proofs.YtmhnfdgegejlkaaDoorW.PrintWords Go.Proofs.YtmhnfdgegejlkaaDoorW.PrintLast Go.Proofs.YtmhnfdgegejlkaaDoorW.PrintMore
attribute [local go_sem] max2_int min2_int max_two min_two max_three min_three max_four min_four
set_option linter.unusedVariables false
set_option linter.unusedSimpArgs false
end Go.Proofs.YtmhnfdgegejlkaaDoor.P
end

section
namespace Go.Proofs.YtmhnfdgegejlkaaDoor.P
open Go.RowKit Go.Proofs.YtmhnfdgegejlkaaDoorW.PrintWords Go.Proofs.YtmhnfdgegejlkaaDoorW.PrintLast Go.Proofs.YtmhnfdgegejlkaaDoorW.PrintMore
attribute [local go_sem] max2_int min2_int max_two min_two max_three min_three max_four min_four
set_option linter.unusedVariables false
set_option linter.unusedSimpArgs false
end Go.Proofs.YtmhnfdgegejlkaaDoor.P
end

section
namespace Go.Proofs.YtmhnfdgegejlkaaDoor.P
open Go.RowKit Go.Proofs.YtmhnfdgegejlkaaDoorW.PrintWords Go.Proofs.YtmhnfdgegejlkaaDoorW.PrintLast Go.Proofs.YtmhnfdgegejlkaaDoorW.PrintMore
attribute [local go_sem] max2_int min2_int max_two min_two max_three min_three max_four min_four
set_option linter.unusedVariables false
set_option linter.unusedSimpArgs false
end Go.Proofs.YtmhnfdgegejlkaaDoor.P
end

section
namespace Go.Proofs.YtmhnfdgegejlkaaDoor.V
open Go Go.RowKit Go.Proofs.YtmhnfdgegejlkaaDoor.P Go.Proofs.YtmhnfdgegejlkaaDoorW.PrintWords Go.Proofs.YtmhnfdgegejlkaaDoorW.PrintMore
set_option linter.unusedSimpArgs false
set_option linter.unusedVariables false
def bts (s : ByteArray) : List Int := s.data.toList.map fun b => (b.toNat : Int)
theorem bts_len (s : ByteArray) : (bts s).length = s.size := by simp [bts]
theorem bts_rng (s : ByteArray) : ∀ b ∈ bts s, 0 ≤ b ∧ b < 256 := by
  intro b hb
  simp only [bts, List.mem_map] at hb
  obtain ⟨u, _, rfl⟩ := hb
  exact ⟨by omega, by have := u.toNat_lt; omega⟩
theorem bt_get (s : ByteArray) (i : Nat) : bt s (i : Int) = (bts s).getD i 0 := by
  unfold bt
  rw [Int.toNat_natCast]
  by_cases h : i < s.size
  · rw [dif_pos h, List.getD_eq_getElem?_getD, List.getElem?_eq_getElem (by rw [bts_len]; exact h)]
    simp [bts]
    rfl
  · rw [dif_neg h, List.getD_eq_getElem?_getD, List.getElem?_eq_none (by rw [bts_len]; omega)]
    rfl
def w4 (a b c d n : Int) : Int := (((a * 256 + b) * 256 + c) * 256 + d) * 256 + n
def tw : List Int → List Int
  | [] => [w4 0 0 0 0 0]
  | [a] => [w4 a 0 0 0 1]
  | [a, b] => [w4 a b 0 0 2]
  | [a, b, c] => [w4 a b c 0 3]
  | a :: b :: c :: d :: r => w4 a b c d 4 :: tw r
def W (v : V) : List Int := if v.f0 = 1 then [1, v.f1 + 549755813888] else if v.f0 = 3 then [3, v.f1] else if v.f0 = 0 then [0] else 2 :: tw (bts v.f2)
end Go.Proofs.YtmhnfdgegejlkaaDoor.V
end

section
namespace Go.Proofs.YtmhnfdgegejlkaaDoor.V
open Go Go.RowKit Go.Proofs.YtmhnfdgegejlkaaDoor.P Go.Proofs.YtmhnfdgegejlkaaDoorW.PrintWords Go.Proofs.YtmhnfdgegejlkaaDoorW.PrintMore
set_option linter.unusedSimpArgs false
set_option linter.unusedVariables false
theorem ev_sign (a b : Int) : alumref19_sign.f a b = some (cmpI a b) := by
  unfold alumref19_sign.f cmpI
  by_cases h : a < b
  · rw [if_pos h, if_pos h]
  · rw [if_neg h, if_neg h]
    by_cases h2 : b < a
    · rw [if_pos h2, if_pos h2]
    · rw [if_neg (by omega), if_neg h2]
theorem cmpS_self (s : ByteArray) : cmpS s s = 0 := tcS.refl s
theorem ev_refCompare (a b : V) (ha : Rt a) (hb : Rt b) : alumref19_Compare.f a.f0 a.f1 a.f2 b.f0 b.f1 b.f2 = some (vcmp a b) := by
  unfold alumref19_Compare.f vcmp cmp2
  simp only [ev_sign, Option.bind_some]
  by_cases h : a.f0 = b.f0
  · have h0 : cmpI a.f0 b.f0 = 0 := (tcI.eq0 _ _).2 h
    rw [if_pos h, if_pos h0, less_cmpS, less_cmpS]
    have ht : a.f2 = b.f2 ∨ a.f1 = b.f1 := by
      rcases ha with ha | ha | ha | ha <;> rcases hb with hb | hb | hb | hb
      all_goals first
        | exact Or.inr (by omega)
        | exact Or.inl (by rw [ha.2.2, hb.2.2])
        | exact Or.inl (by rw [ha.2.2.2, hb.2.2.2])
        | (exfalso; omega)
    have hs := tcS.sym a.f2 b.f2
    have hr := tcS.rng a.f2 b.f2
    rcases ht with ht | ht
    · have : cmpS a.f2 b.f2 = 0 := by rw [ht]; exact cmpS_self _
      rw [this] at hs
      rw [hs, this]
      simp only [Int.neg_zero, show ((0 : Int) = -1) = False from by simp, decide_false, Bool.false_eq_true, if_false]
      by_cases hz : cmpI a.f1 b.f1 = 0
      · rw [if_pos hz, hz]
      · rw [if_neg hz]
    · have hz : cmpI a.f1 b.f1 = 0 := (tcI.eq0 _ _).2 ht
      rw [if_pos hz, hz, hs]
      rcases hr with hr | hr | hr <;> simp [hr]
  · have h0 : ¬ cmpI a.f0 b.f0 = 0 := fun h' => h ((tcI.eq0 _ _).1 h')
    rw [if_neg h, if_neg h0]
end Go.Proofs.YtmhnfdgegejlkaaDoor.V
end

section
namespace Go.Proofs.YtmhnfdgegejlkaaDoor.V
open Go Go.RowKit Go.Proofs.YtmhnfdgegejlkaaDoor.P Go.Proofs.YtmhnfdgegejlkaaDoorW.PrintWords Go.Proofs.YtmhnfdgegejlkaaDoorW.PrintMore
set_option linter.unusedSimpArgs false
set_option linter.unusedVariables false
theorem wf_rng {n : Int} (h : (Lit.int .i64 n).wf = true) : -9223372036854775808 ≤ n ∧ n ≤ 9223372036854775807 := by
  simpa [Lit.wf, IntKind.min, IntKind.max, IntKind.signed, IntKind.bits] using h
theorem andNot_zero (n : Int) (h1 : -9223372036854775808 ≤ n) (h2 : n ≤ 9223372036854775807) : Go.bits .andNot .i64 n 1 = 0 ↔ n = 0 ∨ n = 1 := by
  have hs : Go.bits .andNot .i64 n 1 = IntKind.i64.wrap ((BitVec.ofInt 64 n &&& ~~~BitVec.ofInt 64 ((1 : Nat) : Int)).toNat : Int) := rfl
  have e : 2 ^ 64 - 1 - 1 = 18446744073709551614 := by decide
  rw [hs, BitVec.toNat_and, BitVec.toNat_not, ofInt_u64 1 (by omega), e, nat_hi64_1, BitVec.toNat_ofInt]
  have hm : ((n % ((2 ^ 64 : Nat) : Int)).toNat : Int) = if n < 0 then n + 18446744073709551616 else n := by
    split <;> omega
  generalize (n % ((2 ^ 64 : Nat) : Int)).toNat = m at hm
  have hw : ∀ t : Nat, t < 18446744073709551616 → (IntKind.i64.wrap (t : Int) = 0 ↔ t = 0) := by
    intro t ht
    have e : (t : Int) % 2 ^ 64 = t := Int.emod_eq_of_lt (by omega) (by omega)
    simp only [IntKind.wrap, IntKind.bits, IntKind.signed, e]
    split
    · rename_i h
      simp at h
      omega
    · omega
  rw [hw _ (by split at hm <;> omega)]
  split at hm <;> omega
theorem ev_Right (v : V) (h : (Lit.int .i64 v.f1).wf = true) : ∃ b, value_Right.f v.f0 v.f1 v.f2 = some b ∧ alumref19_Right.f v.f0 v.f1 v.f2 = some b ∧ (b = true ↔ Rt v) := by
  obtain ⟨b, hb, hi⟩ := refRight_some v
  refine ⟨b, ?_, hb, hi⟩
  rw [← hb]
  unfold value_Right.f alumref19_Right.f
  by_cases h0 : v.f0 = 0
  · rw [if_pos h0, if_pos h0]
    by_cases h1 : v.f1 = 0
    · rw [if_pos h1]; simp [h0, h1]
    · rw [if_neg h1]; simp [h0, h1]
  · rw [if_neg h0, if_neg h0]
    by_cases h1 : v.f0 = 1
    · rw [if_pos h1, if_pos h1]
    · rw [if_neg h1, if_neg h1]
      by_cases h2 : v.f0 = 2
      · rw [if_pos h2, if_pos h2]
      · rw [if_neg h2, if_neg h2]
        by_cases h3 : v.f0 = 3
        · rw [if_pos h3, if_pos h3]
          have hr := wf_rng h
          have ha := andNot_zero v.f1 hr.1 hr.2
          by_cases h4 : v.f1 = 0
          · rw [if_pos (ha.2 (Or.inl h4)), if_pos h4]
          · rw [if_neg h4]
            by_cases h5 : v.f1 = 1
            · rw [if_pos (ha.2 (Or.inr h5)), if_pos h5]
            · rw [if_neg (fun h => by have := ha.1 h; omega), if_neg h5]
        · rw [if_neg h3, if_neg h3]
theorem rd2_0 (a b : V) : rd_T23 [a, b] 0 = a := rfl
theorem rd2_1 (a b : V) : rd_T23 [a, b] 1 = b := rfl
theorem w01 : wrap64 (0 + 1) = 1 := wrap64_id (by omega) (by omega)
theorem w12 : wrap64 (1 + 1) = 2 := wrap64_id (by omega) (by omega)
theorem ev_RightRow (k : Nat) (hk : 10 ≤ k) (a b : V) (x y : Bool) (hx : value_Right.f a.f0 a.f1 a.f2 = some x) (hy : value_Right.f b.f0 b.f1 b.f2 = some y) : value_RightRow.f k [a, b] = some (x && y) := by
  obtain ⟨k, rfl⟩ : ∃ m, k = m + 3 := ⟨k - 3, by omega⟩
  unfold value_RightRow.f slices_ContainsFunc_Row_Value_value_RightRow_1.f slices_IndexFunc_Row_Value_value_RightRow_1.f
  simp only [slices_IndexFunc_Row_Value_value_RightRow_1.l0, List.length_cons, List.length_nil, rd2_0, rd2_1, value_RightRow_1.f, hx, hy, w01, w12, Option.bind_some]
  cases x <;> cases y <;> simp
def vN : V := ⟨0, 0, e0⟩
def vF : V := ⟨3, 0, e0⟩
def vT : V := ⟨3, 1, e0⟩
def Lg (v : V) : Prop := v.f0 = 0 ∨ v.f0 = 3
instance (v : V) : Decidable (Lg v) := inferInstanceAs (Decidable (_ ∨ _))
theorem Lg.of {v : V} (h : Lg v) (hr : Rt v) : v = vN ∨ v = vF ∨ v = vT := by
  rcases hr with hr | hr | hr | hr
  · exact Or.inl (V_ext hr.1 hr.2.1 hr.2.2)
  · rcases h with h | h <;> omega
  · rcases h with h | h <;> omega
  · rcases hr.2.1 with h1 | h1
    · exact Or.inr (Or.inl (V_ext hr.1 h1 hr.2.2))
    · exact Or.inr (Or.inr (V_ext hr.1 h1 hr.2.2))
def eT : Int × Int × ByteArray × Int := (0, 0, e0, 7)
theorem ev_logical_no (k : Nat) (hk : 10 ≤ k) (a b : V) (h : ¬ (Lg a ∧ Lg b)) : value_logical.f k [a, b] = some false := by
  obtain ⟨k, rfl⟩ : ∃ m, k = m + 3 := ⟨k - 3, by omega⟩
  have h1 : ∀ v : V, value_logical_1.f v.f0 v.f1 v.f2 = some (decide (¬ Lg v)) := by
    intro v
    unfold value_logical_1.f Lg
    by_cases h0 : v.f0 = 0
    · rw [if_pos h0]; simp [h0]
    · rw [if_neg h0]; by_cases h3 : v.f0 = 3 <;> simp [h0, h3]
  unfold value_logical.f slices_ContainsFunc_LValue_Value_value_logical_1.f slices_IndexFunc_LValue_Value_value_logical_1.f
  simp only [slices_IndexFunc_LValue_Value_value_logical_1.l0, List.length_cons, List.length_nil, rd2_0, rd2_1, h1, w01, w12, Option.bind_some]
  by_cases ha : Lg a
  · have hb : ¬ Lg b := fun hb => h ⟨ha, hb⟩
    simp [ha, hb]
  · simp [ha]
theorem refLogical (v : V) : alumref19_logical.f v.f0 v.f1 v.f2 = some (decide (Lg v)) := by
  unfold alumref19_logical.f Lg
  by_cases h0 : v.f0 = 0
  · rw [if_pos h0]; simp [h0]
  · rw [if_neg h0]; by_cases h3 : v.f0 = 3 <;> simp [h0, h3]
theorem ev_And (k k' : Nat) (hk : 20 ≤ k) (hk' : 20 ≤ k') (a b : V) (ha : Rt a) (hb : Rt b) : ∃ r, value_And.f k a.f0 a.f1 a.f2 b.f0 b.f1 b.f2 = some r ∧ alumref19_And.f k' a.f0 a.f1 a.f2 b.f0 b.f1 b.f2 = some r := by
  by_cases hl : Lg a ∧ Lg b
  · have h1 := fun r (h : value_And.f 20 a.f0 a.f1 a.f2 b.f0 b.f1 b.f2 = some r) => at_rounds (fun k => value_And.mono a.f0 a.f1 a.f2 b.f0 b.f1 b.f2 k) hk h
    have h2 := fun r (h : alumref19_And.f 20 a.f0 a.f1 a.f2 b.f0 b.f1 b.f2 = some r) => at_rounds (fun k => alumref19_And.mono a.f0 a.f1 a.f2 b.f0 b.f1 b.f2 k) hk' h
    rcases hl.1.of ha with rfl | rfl | rfl <;> rcases hl.2.of hb with rfl | rfl | rfl
    · exact ⟨(0, 0, e0, 0), h1 _ (by kernel_rfl), h2 _ (by kernel_rfl)⟩
    · exact ⟨(3, 0, e0, 0), h1 _ (by kernel_rfl), h2 _ (by kernel_rfl)⟩
    · exact ⟨(0, 0, e0, 0), h1 _ (by kernel_rfl), h2 _ (by kernel_rfl)⟩
    · exact ⟨(3, 0, e0, 0), h1 _ (by kernel_rfl), h2 _ (by kernel_rfl)⟩
    · exact ⟨(3, 0, e0, 0), h1 _ (by kernel_rfl), h2 _ (by kernel_rfl)⟩
    · exact ⟨(3, 0, e0, 0), h1 _ (by kernel_rfl), h2 _ (by kernel_rfl)⟩
    · exact ⟨(0, 0, e0, 0), h1 _ (by kernel_rfl), h2 _ (by kernel_rfl)⟩
    · exact ⟨(3, 0, e0, 0), h1 _ (by kernel_rfl), h2 _ (by kernel_rfl)⟩
    · exact ⟨(3, 1, e0, 0), h1 _ (by kernel_rfl), h2 _ (by kernel_rfl)⟩
  · refine ⟨eT, ?_, ?_⟩
    · unfold value_And.f value_decide.f
      rw [show ([(⟨a.f0, a.f1, a.f2⟩ : V), (⟨b.f0, b.f1, b.f2⟩ : V)] : List V) = [a, b] from rfl, ev_logical_no k (by omega) a b hl]
      rfl
    · obtain ⟨k', rfl⟩ : ∃ m, k' = m + 1 := ⟨k' - 1, by omega⟩
      unfold alumref19_And.f
      rw [refLogical, refLogical]
      simp only [Option.bind_some]
      by_cases h1 : Lg a
      · have h2 : ¬ Lg b := fun h2 => hl ⟨h1, h2⟩
        simp [h1, h2, alumref19_And.j0, eT]
      · simp [h1, alumref19_And.j0, eT]
theorem ev_Or2 (k k' : Nat) (hk : 20 ≤ k) (hk' : 20 ≤ k') (a b : V) (ha : Rt a) (hb : Rt b) : ∃ r, value_Or.f k a.f0 a.f1 a.f2 b.f0 b.f1 b.f2 = some r ∧ alumref19_Or.f k' a.f0 a.f1 a.f2 b.f0 b.f1 b.f2 = some r := by
  by_cases hl : Lg a ∧ Lg b
  · have h1 := fun r (h : value_Or.f 20 a.f0 a.f1 a.f2 b.f0 b.f1 b.f2 = some r) => at_rounds (fun k => value_Or.mono a.f0 a.f1 a.f2 b.f0 b.f1 b.f2 k) hk h
    have h2 := fun r (h : alumref19_Or.f 20 a.f0 a.f1 a.f2 b.f0 b.f1 b.f2 = some r) => at_rounds (fun k => alumref19_Or.mono a.f0 a.f1 a.f2 b.f0 b.f1 b.f2 k) hk' h
    rcases hl.1.of ha with rfl | rfl | rfl <;> rcases hl.2.of hb with rfl | rfl | rfl
    · exact ⟨(0, 0, e0, 0), h1 _ (by kernel_rfl), h2 _ (by kernel_rfl)⟩
    · exact ⟨(0, 0, e0, 0), h1 _ (by kernel_rfl), h2 _ (by kernel_rfl)⟩
    · exact ⟨(3, 1, e0, 0), h1 _ (by kernel_rfl), h2 _ (by kernel_rfl)⟩
    · exact ⟨(0, 0, e0, 0), h1 _ (by kernel_rfl), h2 _ (by kernel_rfl)⟩
    · exact ⟨(3, 0, e0, 0), h1 _ (by kernel_rfl), h2 _ (by kernel_rfl)⟩
    · exact ⟨(3, 1, e0, 0), h1 _ (by kernel_rfl), h2 _ (by kernel_rfl)⟩
    · exact ⟨(3, 1, e0, 0), h1 _ (by kernel_rfl), h2 _ (by kernel_rfl)⟩
    · exact ⟨(3, 1, e0, 0), h1 _ (by kernel_rfl), h2 _ (by kernel_rfl)⟩
    · exact ⟨(3, 1, e0, 0), h1 _ (by kernel_rfl), h2 _ (by kernel_rfl)⟩
  · refine ⟨eT, ?_, ?_⟩
    · unfold value_Or.f value_decide.f
      rw [show ([(⟨a.f0, a.f1, a.f2⟩ : V), (⟨b.f0, b.f1, b.f2⟩ : V)] : List V) = [a, b] from rfl, ev_logical_no k (by omega) a b hl]
      rfl
    · obtain ⟨k', rfl⟩ : ∃ m, k' = m + 1 := ⟨k' - 1, by omega⟩
      unfold alumref19_Or.f
      rw [refLogical, refLogical]
      simp only [Option.bind_some]
      by_cases h1 : Lg a
      · have h2 : ¬ Lg b := fun h2 => hl ⟨h1, h2⟩
        simp [h1, h2, alumref19_Or.j0, eT]
      · simp [h1, alumref19_Or.j0, eT]
theorem ev_Not2 (k : Nat) (hk : 20 ≤ k) (a : V) (ha : Rt a) : ∃ r, value_Not.f k a.f0 a.f1 a.f2 = some r ∧ alumref19_Not.f a.f0 a.f1 a.f2 = some r := by
  by_cases hl : Lg a
  · have h1 := fun r (h : value_Not.f 20 a.f0 a.f1 a.f2 = some r) => at_rounds (fun k => value_Not.mono a.f0 a.f1 a.f2 k) hk h
    rcases hl.of ha with rfl | rfl | rfl
    · exact ⟨(0, 0, e0, 0), h1 _ (by kernel_rfl), by kernel_rfl⟩
    · exact ⟨(3, 1, e0, 0), h1 _ (by kernel_rfl), by kernel_rfl⟩
    · exact ⟨(3, 0, e0, 0), h1 _ (by kernel_rfl), by kernel_rfl⟩
  · refine ⟨eT, ?_, ?_⟩
    · obtain ⟨k, rfl⟩ : ∃ m, k = m + 2 := ⟨k - 2, by omega⟩
      have h1 : value_logical_1.f a.f0 a.f1 a.f2 = some true := by
        unfold value_logical_1.f
        rw [if_neg (fun h => hl (Or.inl h))]
        simp [show a.f0 ≠ 3 from fun h => hl (Or.inr h)]
      unfold value_Not.f value_logical.f slices_ContainsFunc_LValue_Value_value_logical_1.f slices_IndexFunc_LValue_Value_value_logical_1.f
      simp only [slices_IndexFunc_LValue_Value_value_logical_1.l0, List.length_cons, List.length_nil, show rd_T23 [(⟨a.f0, a.f1, a.f2⟩ : V)] 0 = a from rfl, h1, Option.bind_some]
      simp [eT]
    · unfold alumref19_Not.f
      rw [refLogical]
      simp [hl, eT]
theorem ev_refTest (k : Nat) (hk : 5 ≤ k) (op : Int) (a b : V) (ha : Rt a) (hb : Rt b) : alumref19_Test.f k op a.f0 a.f1 a.f2 b.f0 b.f1 b.f2 = some (vtest vcmp op a b) := by
  obtain ⟨k, rfl⟩ : ∃ m, k = m + 2 := ⟨k - 2, by omega⟩
  unfold alumref19_Test.f vtest
  by_cases h1 : op < 6
  · rw [if_pos h1]; simp [alumref19_Test.j0, h1]
  · rw [if_neg h1]
    by_cases h2 : op > 11
    · have h2' : 11 < op := h2
      simp [alumref19_Test.j0, h2, h2']
    · have h3 : ¬ (op < 6 ∨ 11 < op) := by omega
      rw [if_neg h3, decide_eq_false h2]
      simp only [alumref19_Test.j0, Bool.false_eq_true, if_false]
      by_cases h4 : a.f0 = 0
      · rw [if_pos h4]; simp [alumref19_Test.j1, h4]
      · rw [if_neg h4]
        by_cases h5 : b.f0 = 0
        · simp [alumref19_Test.j1, h5]
        · rw [if_neg (by omega)]
          have h5' : (b.f0 == 0) = false := by simpa using h5
          simp only [alumref19_Test.j1, h5', Bool.false_eq_true, if_false]
          by_cases h6 : a.f0 = b.f0
          · rw [if_pos h6, if_pos h6, ev_refCompare a b ha hb]
            simp only [Option.bind_some]
            have hop : op = 6 ∨ op = 7 ∨ op = 8 ∨ op = 9 ∨ op = 10 ∨ op = 11 := by omega
            generalize vcmp a b = c
            rcases hop with rfl | rfl | rfl | rfl | rfl | rfl <;> simp [ev_Bool, opT, res]
          · rw [if_neg h6, if_neg h6]
end Go.Proofs.YtmhnfdgegejlkaaDoor.V
end

section
namespace Go.Proofs.YtmhnfdgegejlkaaDoor.V
open Go Go.RowKit Go.Proofs.YtmhnfdgegejlkaaDoor.P Go.Proofs.YtmhnfdgegejlkaaDoorW.PrintWords Go.Proofs.YtmhnfdgegejlkaaDoorW.PrintMore
set_option linter.unusedSimpArgs false
set_option linter.unusedVariables false
theorem tmod_neg (m : Nat) : Int.tmod (-(m : Int)) 10 = -((m % 10 : Nat) : Int) := by rw [Int.neg_tmod, Int.tmod_eq_emod_of_nonneg (by omega)]; rfl
theorem tdiv_neg (m : Nat) : Int.tdiv (-(m : Int)) 10 = -((m / 10 : Nat) : Int) := by rw [Int.neg_tdiv, Int.tdiv_eq_ediv_of_nonneg (by omega)]; rfl
theorem strOf_dig (m : Nat) (h : m < 10) : strOfNums [(wrap64 (48 - -(m : Int))) % 256] = ⟨#[UInt8.ofNat (48 + m)]⟩ := by
  rw [wrap64_id (by omega) (by omega), show (48 - -(m : Int)) % 256 = ((48 + m : Nat) : Int) from by omega]
  have := Lib.Lz.strOfNums_map [UInt8.ofNat (48 + m)]
  have e : (UInt8.ofNat (48 + m)).toNat = 48 + m := by simp; omega
  rw [List.map_cons, List.map_nil, e] at this
  exact this
theorem ba_append (x y : List UInt8) : ((⟨x.toArray⟩ : ByteArray) ++ (⟨y.toArray⟩ : ByteArray)) = ⟨(x ++ y).toArray⟩ := by
  apply ByteArray.ext
  simp
theorem ba_size (x : List UInt8) : (⟨x.toArray⟩ : ByteArray).size = x.length := by simp [ByteArray.size]
theorem dig_len : ∀ (n m : Nat), m < 10 ^ (n + 1) → (Lib.decDigits m).length ≤ n + 1 := by
  intro n
  induction n with
  | zero => intro m h; rw [Lib.decDigits, dif_pos (by omega)]; simp
  | succ n ih =>
    intro m h
    rw [Lib.decDigits]
    by_cases h1 : m < 10
    · rw [dif_pos h1]; simp
    · rw [dif_neg h1, List.length_append]
      have := ih (m / 10) (by rw [Nat.pow_succ] at h; omega)
      simp only [List.length_cons, List.length_nil]
      omega
theorem ev_count : ∀ (n k m : Nat), m < 10 ^ (n + 1) → m ≤ 9223372036854775807 → n < 20 → n + 1 ≤ k → alumref19_count.f k (-(m : Int)) = some ⟨(Lib.decDigits m).toArray⟩ := by
  intro n
  induction n with
  | zero =>
    intro k m h hm hn hk
    obtain ⟨k, rfl⟩ : ∃ j, k = j + 1 := ⟨k - 1, by omega⟩
    rw [alumref19_count.f, show Int.tmod (-(m : Int)) 10 = -(m : Int) from by rw [tmod_neg, Nat.mod_eq_of_lt (by omega)], Option.bind_some, if_pos (by omega), strOf_dig m (by omega), Lib.decDigits, dif_pos (by omega)]
  | succ n ih =>
    intro k m h hm hn hk
    obtain ⟨k, rfl⟩ : ∃ j, k = j + 1 := ⟨k - 1, by omega⟩
    rw [alumref19_count.f, tmod_neg, Option.bind_some, strOf_dig (m % 10) (by omega)]
    by_cases h1 : m < 10
    · rw [if_pos (by omega), Lib.decDigits, dif_pos h1, show m % 10 = m from by omega]
    · have hl := dig_len n (m / 10) (by rw [Nat.pow_succ] at h; omega)
      rw [if_neg (by omega), tdiv_neg, wrap64_id (by omega) (by omega), ih k (m / 10) (by rw [Nat.pow_succ] at h; omega) (by omega) (by omega) (by omega)]
      simp only [Option.bind_some]
      rw [if_pos (by rw [ba_size]; simp [ByteArray.size]; omega)]
      rw [show (⟨#[UInt8.ofNat (48 + m % 10)]⟩ : ByteArray) = ⟨[UInt8.ofNat (48 + m % 10)].toArray⟩ from rfl, ba_append]
      conv => rhs; rw [Lib.decDigits, dif_neg h1]
theorem ev_Digits (k : Nat) (hk : 20 ≤ k) (n : Int) (h1 : -549755813888 ≤ n) (h2 : n ≤ 549755813887) : alumref19_Digits.f k n = some ⟨(Lib.itoa n).toArray⟩ := by
  unfold alumref19_Digits.f Lib.itoa
  by_cases h : n < 0
  · have e : n = -((n.natAbs : Nat) : Int) := by omega
    have hl := dig_len 12 n.natAbs (by have : (10 : Nat) ^ 13 = 10000000000000 := by decide
                                       rw [this]; omega)
    rw [if_pos h, if_pos h, e, ev_count 12 k n.natAbs (by have : (10 : Nat) ^ 13 = 10000000000000 := by decide
                                                          rw [this]; omega) (by omega) (by omega) (by omega), ← e]
    simp only [Option.bind_some]
    rw [if_pos (by rw [ba_size]; omega), show (⟨#[45]⟩ : ByteArray) = ⟨[(45 : UInt8)].toArray⟩ from rfl, ba_append]
    rfl
  · have e : -n = -((n.toNat : Nat) : Int) := by omega
    rw [if_neg h, if_neg h, wrap64_id (by omega) (by omega), e, ev_count 12 k n.toNat (by have : (10 : Nat) ^ 13 = 10000000000000 := by decide
                                                                                          rw [this]; omega) (by omega) (by omega) (by omega)]
    rfl
def plainB (b : Int) : Bool := decide (32 ≤ b) && decide (b ≤ 126) && b != 39 && b != 92
def hexd (n : Int) : Int := if n < 10 then 48 + n else 87 + n
def esc (b : Int) : List Int := if plainB b then [b] else [92, hexd (b / 16), hexd (b % 16)]
theorem ev_plain (b : Int) : value_plain.f b = some (plainB b) := by
  unfold value_plain.f plainB
  by_cases h1 : b ≥ 32
  · rw [if_pos h1]
    by_cases h2 : b ≤ 126
    · rw [if_pos h2]
      by_cases h3 : b = 39
      · rw [if_pos h3]; simp [h3]
      · rw [if_neg h3]; simp [h1, h2, h3]
    · rw [if_neg h2]; simp [h2]
  · rw [if_neg h1]; simp [h1]
theorem and15_all : ((List.range 256).all fun b => Go.bits .and .u8 (b : Int) 15 == (b : Int) % 16) = true := by kernel_rfl
theorem and15 (b : Int) (h0 : 0 ≤ b) (h1 : b < 256) : Go.bits .and .u8 b 15 = b % 16 := by
  have := List.all_eq_true.1 and15_all b.toNat (by rw [List.mem_range]; omega)
  rw [show ((b.toNat : Nat) : Int) = b from by omega] at this
  exact of_decide_eq_true (by simpa using this)
def digTab : ByteArray := ⟨#[48, 49, 50, 51, 52, 53, 54, 55, 56, 57, 97, 98, 99, 100, 101, 102]⟩
theorem dig_all : ((List.range 16).all fun n => bt digTab (n : Int) == hexd (n : Int)) = true := by kernel_rfl
theorem dig_at (n : Int) (h0 : 0 ≤ n) (h1 : n < 16) : bt digTab n = hexd n := by
  have := List.all_eq_true.1 dig_all n.toNat (by rw [List.mem_range]; omega)
  rw [show ((n.toNat : Nat) : Int) = n from by omega] at this
  exact of_decide_eq_true (by simpa using this)
theorem bt_drop (s : ByteArray) (i : Nat) (h : i < s.size) : (bts s).drop i = bt s (i : Int) :: (bts s).drop (i + 1) := by
  have hl : i < (bts s).length := by rw [bts_len]; exact h
  rw [List.drop_eq_getElem_cons hl, bt_get, List.getD_eq_getElem?_getD, List.getElem?_eq_getElem hl]
  rfl
theorem bt_rng (s : ByteArray) (i : Nat) (h : i < s.size) : 0 ≤ bt s (i : Int) ∧ bt s (i : Int) < 256 := by
  have hl : i < (bts s).length := by rw [bts_len]; exact h
  rw [bt_get, List.getD_eq_getElem?_getD, List.getElem?_eq_getElem hl]
  exact bts_rng s _ (List.getElem_mem hl)
theorem print_loop (s : ByteArray) (p q : Int) (hs : s.size ≤ 1000) (d : Nat) : ∀ (k i : Nat) (acc : List Int), s.size - i = d → i ≤ s.size → acc.length ≤ 3 * i + 1 → d + 1 ≤ k →
    value_PrintT.l0 k acc s.size i p q s = some (strOfNums (acc ++ ((bts s).drop i).flatMap esc ++ [39])) := by
  induction d with
  | zero =>
    intro k i acc hd hi ha hk
    obtain ⟨k, rfl⟩ : ∃ m, k = m + 1 := ⟨k - 1, by omega⟩
    rw [value_PrintT.l0, if_neg (by omega), if_pos (by omega), List.drop_eq_nil_of_le (by rw [bts_len]; omega)]
    simp
  | succ d ih =>
    intro k i acc hd hi ha hk
    obtain ⟨k, rfl⟩ : ∃ m, k = m + 1 := ⟨k - 1, by omega⟩
    have hi' : i < s.size := by omega
    have hb := bt_rng s i hi'
    rw [value_PrintT.l0, if_pos (by omega), if_pos (by omega), if_pos (by omega), ev_plain, bt_drop s i hi', List.flatMap_cons]
    simp only [Option.bind_some]
    by_cases hp : plainB (bt s i) = true
    · have he : esc (bt s i) = [bt s i] := by unfold esc; rw [if_pos hp]
      rw [if_pos hp, if_pos (by omega), he, wrap_succ i (by omega), ih k (i + 1) _ (by omega) (by omega) (by rw [List.length_append]; simp only [List.length_cons, List.length_nil]; omega) (by omega)]
      simp only [List.append_assoc]
    · have he : esc (bt s i) = [92, hexd (bt s i / 16), hexd (bt s i % 16)] := by unfold esc; rw [if_neg hp]
      rw [if_neg hp, and15 _ hb.1 hb.2, if_pos (by omega), if_pos (by omega), if_pos (by omega), if_pos (by omega)]
      rw [show (⟨#[48, 49, 50, 51, 52, 53, 54, 55, 56, 57, 97, 98, 99, 100, 101, 102]⟩ : ByteArray) = digTab from rfl, dig_at _ (by omega) (by omega), dig_at _ (by omega) (by omega)]
      simp only [List.length_cons, List.length_nil]
      rw [if_pos (by omega), he, wrap_succ i (by omega), ih k (i + 1) _ (by omega) (by omega) (by rw [List.length_append]; simp only [List.length_cons, List.length_nil]; omega) (by omega)]
      simp only [List.append_assoc]
theorem ev_hex (n : Int) (h0 : 0 ≤ n) (h1 : n < 16) : alumref19_hex.f n = some (hexd n) := by
  unfold alumref19_hex.f hexd
  by_cases h : n < 10
  · rw [if_pos h, if_pos h, wrap64_id (by omega) (by omega), Int.emod_eq_of_lt (by omega) (by omega)]
  · rw [if_neg h, if_neg h, wrap64_id (by omega) (by omega), Int.emod_eq_of_lt (by omega) (by omega)]
theorem refprint_loop (s : ByteArray) (p q : Int) (hs : s.size ≤ 1000) (d : Nat) : ∀ (k i : Nat) (acc : List Int), s.size - i = d → i ≤ s.size → acc.length ≤ 3 * i + 1 → 2 * d + 1 ≤ k →
    alumref19_Print.l0 k acc i p q s = some (strOfNums (acc ++ ((bts s).drop i).flatMap esc ++ [39])) := by
  induction d with
  | zero =>
    intro k i acc hd hi ha hk
    obtain ⟨k, rfl⟩ : ∃ m, k = m + 1 := ⟨k - 1, by omega⟩
    rw [alumref19_Print.l0, if_neg (by omega), if_pos (by omega), List.drop_eq_nil_of_le (by rw [bts_len]; omega)]
    simp
  | succ d ih =>
    intro k i acc hd hi ha hk
    obtain ⟨k, rfl⟩ : ∃ m, k = m + 2 := ⟨k - 2, by omega⟩
    have hi' : i < s.size := by omega
    have hb := bt_rng s i hi'
    rw [alumref19_Print.l0, if_pos (by omega), if_pos (by omega), bt_drop s i hi', List.flatMap_cons]
    have hno : plainB (bt s i) = false → alumref19_Print.j1 (k + 1) acc i (bt s i) true p q s = some (strOfNums (acc ++ (esc (bt s i) ++ ((bts s).drop (i + 1)).flatMap esc) ++ [39])) := by
      intro hp
      have he : esc (bt s i) = [92, hexd (bt s i / 16), hexd (bt s i % 16)] := by unfold esc; rw [hp]; rfl
      rw [alumref19_Print.j1, if_pos rfl, wrap64_id (x := bt s i) (by omega) (by omega), Int.tdiv_eq_ediv_of_nonneg hb.1, Int.tmod_eq_emod_of_nonneg hb.1, wrap64_id (by omega) (by omega), ev_hex _ (by omega) (by omega), ev_hex _ (by omega) (by omega)]
      simp only [Option.bind_some, List.length_cons, List.length_nil]
      rw [if_pos (by omega), he, wrap_succ i (by omega), ih k (i + 1) _ (by omega) (by omega) (by rw [List.length_append]; simp only [List.length_cons, List.length_nil]; omega) (by omega)]
      simp only [List.append_assoc]
    have hyes : plainB (bt s i) = true → alumref19_Print.j1 (k + 1) acc i (bt s i) false p q s = some (strOfNums (acc ++ (esc (bt s i) ++ ((bts s).drop (i + 1)).flatMap esc) ++ [39])) := by
      intro hp
      have he : esc (bt s i) = [bt s i] := by unfold esc; rw [if_pos hp]
      rw [alumref19_Print.j1, if_neg (by simp), if_pos (by omega), he, wrap_succ i (by omega), ih k (i + 1) _ (by omega) (by omega) (by rw [List.length_append]; simp only [List.length_cons, List.length_nil]; omega) (by omega)]
      simp only [List.append_assoc]
    by_cases h1 : bt s i < 32
    · rw [if_pos h1]; exact hno (by unfold plainB; simp [show ¬ (32 ≤ bt s i) from by omega])
    · rw [if_neg h1]
      by_cases h2 : bt s i > 126
      · rw [if_pos h2]; exact hno (by unfold plainB; simp [show ¬ (bt s i ≤ 126) from by omega])
      · rw [if_neg h2]
        by_cases h3 : bt s i = 39
        · rw [if_pos h3]; exact hno (by unfold plainB; simp [h3])
        · rw [if_neg h3]
          by_cases h4 : bt s i = 92
          · rw [show (bt s i == 92) = true from by simp [h4]]; exact hno (by unfold plainB; simp [h4])
          · rw [show (bt s i == 92) = false from by simp [h4]]; exact hyes (by unfold plainB; simp [h3, h4, show 32 ≤ bt s i from by omega, show bt s i ≤ 126 from by omega])
def vprint (v : V) : ByteArray := if v.f0 = 1 then ⟨(Lib.itoa v.f1).toArray⟩ else if v.f0 = 3 then (if v.f1 = 1 then ⟨#[116, 114, 117, 101]⟩ else ⟨#[102, 97, 108, 115, 101]⟩) else if v.f0 = 0 then ⟨#[110, 117, 108, 108]⟩ else strOfNums (39 :: (bts v.f2).flatMap esc ++ [39])
theorem ev_Print (k : Nat) (hk : 60 ≤ k) (v : V) (h : Rt v) : value_PrintT.f k v.f0 v.f1 v.f2 = some (vprint v) := by
  unfold value_PrintT.f vprint
  by_cases h1 : v.f0 = 1
  · have hr : -549755813888 ≤ v.f1 ∧ v.f1 ≤ 549755813887 := by rcases h with h | h | h | h <;> omega
    rw [if_pos h1, if_pos h1]
    unfold strconv_ItoaT.f
    rw [if_pos (by omega)]
    rfl
  · rw [if_neg h1, if_neg h1]
    by_cases h3 : v.f0 = 3
    · rw [if_pos h3, if_pos h3]
      unfold strconv_FormatBool.f internal_strconv_FormatBool.f
      by_cases h4 : v.f1 = 1
      · rw [if_pos h4]; simp [h4]
      · rw [if_neg h4]; simp [h4]
    · rw [if_neg h3, if_neg h3]
      by_cases h0 : v.f0 = 0
      · rw [if_pos h0, if_pos h0]
      · have h2 : v.f2.size ≤ 40 := by
          rcases h with h | h | h | h
          · omega
          · omega
          · exact h.2.2
          · omega
        rw [if_neg h0, if_neg h0]
        have := print_loop v.f2 v.f0 v.f1 (by omega) v.f2.size k 0 [39] (by omega) (by omega) (by simp) (by omega)
        rw [Int.natCast_zero] at this
        rw [this]
        rfl
theorem ev_refPrint (k : Nat) (hk : 100 ≤ k) (v : V) (h : Rt v) : alumref19_Print.f k v.f0 v.f1 v.f2 = some (vprint v) := by
  unfold alumref19_Print.f vprint
  by_cases h1 : v.f0 = 1
  · have hr : -549755813888 ≤ v.f1 ∧ v.f1 ≤ 549755813887 := by rcases h with h | h | h | h <;> omega
    rw [if_pos h1, if_pos h1, ev_Digits k (by omega) _ hr.1 hr.2]
    rfl
  · rw [if_neg h1, if_neg h1]
    by_cases h3 : v.f0 = 3
    · rw [if_pos h3, if_pos h3]
      by_cases h4 : v.f1 = 1
      · rw [if_pos h4, if_pos h4]
      · rw [if_neg h4, if_neg h4]
    · rw [if_neg h3, if_neg h3]
      by_cases h0 : v.f0 = 0
      · rw [if_neg (by omega), if_pos h0]
      · have h2 : v.f0 = 2 ∧ v.f2.size ≤ 40 := by
          rcases h with h | h | h | h
          · omega
          · omega
          · exact ⟨h.1, h.2.2⟩
          · omega
        rw [if_pos h2.1, if_neg h0]
        have := refprint_loop v.f2 v.f0 v.f1 (by omega) v.f2.size k 0 [39] (by omega) (by omega) (by simp) (by omega)
        rw [Int.natCast_zero] at this
        rw [this]
        rfl
end Go.Proofs.YtmhnfdgegejlkaaDoor.V
end

section
namespace Go.Proofs.YtmhnfdgegejlkaaDoor.V
open Go Go.RowKit Go.Proofs.YtmhnfdgegejlkaaDoor.P Go.Proofs.YtmhnfdgegejlkaaDoorW.PrintWords
set_option linter.unusedSimpArgs false
set_option linter.unusedVariables false
theorem ValueMatchesSpec : alumlaw19_ValueMatchesSpecT.Pure := by
  intro a b op ga gb gop
  refine ⟨300, ?_⟩
  unfold alumlaw19_ValueMatchesSpecT.f
  obtain ⟨x, hx, hx', hxi⟩ := ev_Right a ga.2.1
  obtain ⟨y, hy, hy', hyi⟩ := ev_Right b gb.2.1
  rw [hx', hy', hx]
  simp only [Option.bind_some, bne_self_eq_false, Bool.false_eq_true, if_false]
  rw [hy]
  simp only [Option.bind_some, bne_self_eq_false, Bool.false_eq_true, if_false]
  rw [show ([(⟨a.f0, a.f1, a.f2⟩ : V), (⟨b.f0, b.f1, b.f2⟩ : V)] : List V) = [a, b] from rfl, ev_RightRow 300 (by omega) a b x y hx hy]
  simp only [Option.bind_some]
  have hs : ∀ k, 50 ≤ k → ∀ p q r s t u v, alumlaw19_ValueMatchesSpecT.j1 k p true q r s t u v = some true := by
    intro k hk p q r s t u v
    obtain ⟨k, rfl⟩ : ∃ m, k = m + 1 := ⟨k - 1, by omega⟩
    rw [alumlaw19_ValueMatchesSpecT.j1, if_pos rfl, ev_sanity _ (by omega)]; rfl
  cases x with
  | false =>
    rw [if_neg (by simp), Bool.false_and, alumlaw19_ValueMatchesSpecT.j0, if_neg (by simp), if_neg (by simp)]
    exact hs _ (by omega) _ _ _ _ _ _ _
  | true =>
    rw [if_pos rfl, Bool.true_and, bne_self_eq_false, alumlaw19_ValueMatchesSpecT.j0, if_neg (by simp), if_pos rfl]
    cases y with
    | false => exact hs _ (by omega) _ _ _ _ _ _ _
    | true =>
      have ra := hxi.1 rfl
      have rb := hyi.1 rfl
      have veq : ∀ (s : ByteArray) (i j : Int), (!(i == i) || (!(j == j) || (!(s.toList == s.toList)))) = false := by intro s i j; simp
      have veq' : ∀ (s : ByteArray) (i j : Int), (i == i && (j == j && (s.toList == s.toList))) = true := by intro s i j; simp
      rw [Bool.not_true, alumlaw19_ValueMatchesSpecT.j1, if_neg (by simp), ev_Test' _ (by omega) op a b, ev_refTest _ (by omega) op a b ra rb]
      simp only [Option.bind_some, veq, Bool.false_eq_true, if_false, bne_self_eq_false]
      rw [alumlaw19_ValueMatchesSpecT.j2, if_neg (by simp)]
      obtain ⟨r1, h1, h1'⟩ := ev_And 297 297 (by omega) (by omega) a b ra rb
      rw [h1, h1']
      simp only [Option.bind_some, veq, Bool.false_eq_true, if_false, bne_self_eq_false]
      rw [alumlaw19_ValueMatchesSpecT.j3, if_neg (by simp)]
      obtain ⟨r2, h2, h2'⟩ := ev_Or2 296 296 (by omega) (by omega) a b ra rb
      rw [h2, h2']
      simp only [Option.bind_some, veq, Bool.false_eq_true, if_false, bne_self_eq_false]
      rw [alumlaw19_ValueMatchesSpecT.j4, if_neg (by simp)]
      obtain ⟨r3, h3, h3'⟩ := ev_Not2 295 (by omega) a ra
      rw [h3, h3']
      simp only [Option.bind_some]
      rw [ev_sanity _ (by omega)]
      simp only [Option.bind_some, veq', if_true]
      rw [ev_Compare' _ (by omega) a b, ev_refCompare a b ra rb]
      simp only [Option.bind_some, if_true]
      rw [ev_Print _ (by omega) a ra, ev_refPrint _ (by omega) a ra]
      simp
end Go.Proofs.YtmhnfdgegejlkaaDoor.V
end

section
namespace Go.Proofs.YtmhnfdgegejlkaaDoor.valueMatchesSpec
open Go Go.ChangeShapes Go.WideShapes Go.ChangeAt Go.RowKit Go.Proofs.YtmhnfdgegejlkaaDoor.P Go.Proofs.YtmhnfdgegejlkaaDoorW.PrintWords
open Go.ChangeMaps (open_string shut_string)
set_option linter.unusedVariables false
theorem own : ownKnob Tryd.prog.godebug = none := by kernel_rfl
theorem laidOut : laidOutB Tryd.prog = true := by kernel_rfl
theorem door_met (os : Os) (args : Array Value) : laidMetH Tryd.prog Rows.valueMatchesSpecRow.laid ((World.doorLaid Tryd.prog 72 os).forCall (fun _ _ => 0) ⟨#[], args, []⟩).memory :=
  laidMetH_of_parts3 (fuel := 8) (laidMet_of_run' 8 (by kernel_rfl) (by kernel_rfl)) (by kernel_rfl) (by kernel_rfl)
set_option maxRecDepth 100000 in
set_option maxHeartbeats 4000000 in
theorem lifted (os : Os) (started : os.Started) (H : Type) (enc : TypeId × Value → H) :
    ReturnsInHanded {} Tryd.checked os 5 .any (fun w args => (Rows.valueMatchesSpecSpec.pre enc Tryd.prog Tryd.f5 [] false w args ∧ laidMetH Tryd.prog Rows.valueMatchesSpecRow.laid w) ∧ sizedMet enc Tryd.prog Tryd.f5 (OpenSpec.ofChange Rows.valueMatchesSpecSpec) false w args)
      (Rows.valueMatchesSpecSpec.post enc Tryd.prog Tryd.f5 false true false false) := by
  refine returnsInHanded_of_change_and (C := Tryd.checked) (X := fun w _ => laidMetH Tryd.prog Rows.valueMatchesSpecRow.laid w) (fun _ _ _ hh h => h.of_heap hh) own started (by kernel_rfl) Tryd.func5
    (ChangeSpec.witness_shaped (enc := enc) (C := Tryd.checked) (os := os) (X := fun w _ => laidMetH Tryd.prog Rows.valueMatchesSpecRow.laid w) false (World.doorLaid Tryd.prog 72 os) #[.agg #[.int .i64 0, .int .i64 0, .string ByteArray.empty], .agg #[.int .i64 0, .int .i64 0, .string ByteArray.empty], .int .i64 0] 8 rfl (World.shaped_of_RefB (by kernel_rfl) (by kernel_rfl)) (by kernel_rfl) (by kernel_rfl) (by kernel_rfl) (door_met os _)) ?_
  intro W base args ds gs before hval0 hW hcnd hsz0 hL _
  have hsz : (DataW.weightsEach Tryd.prog (Tryd.f5.params.toList ++ Rows.valueMatchesSpecSpec.plain.varTypes Tryd.prog) (ds ++ gs)).all (· ≤ reachBytes) = true := hsz0
  have hval : ∀ (j : Nat) t v, Tryd.f5.params[j]? = some t → args[j]? = some v → Value.okWide Tryd.prog W .any base t v := hval0
  have hW' := hW
  obtain ⟨p, q, hA0, hV, rfl, hfz, hnd⟩ := hW
  have hA : DataW.TrodAll enc Tryd.prog W 0 (fun _ => true) true Tryd.f5.params.toList args.toList ds p := hA0
  rw [Tryd.params5] at hA hval hsz
  obtain ⟨v0, vs0, d0, ds0, p0, q0, hargs, rfl, rfl, h0, r0⟩ := trodAll_cons hA
  obtain ⟨v1, vs1, d1, ds1, p1, q1, rfl, rfl, rfl, h1, r1⟩ := trodAll_cons r0
  obtain ⟨v2, vs2, d2, ds2, p2, q2, rfl, rfl, rfl, h2, r2⟩ := trodAll_cons r1
  obtain ⟨rfl, rfl, rfl⟩ := trodAll_nil r2
  obtain rfl : args = #[v0, v1, v2] := Array.toList_inj.1 hargs
  obtain ⟨rfl, rfl⟩ := trodVars_none hV
  have wt0 : ∀ m ∈ d0.weights Tryd.prog 23, m ≤ reachBytes := fun m hm => of_decide_eq_true (List.all_eq_true.1 hsz m (DataW.weights_mem_each (j := 0) rfl rfl m hm))
  have k0 := h0
  have lt0 : ∀ x ∈ p0, x.block < W.heap.size := by obtain ⟨m, hm⟩ := k0; exact DataW.trod_lt m _ _ _ hm
  obtain ⟨cs0, rfl, hcs0⟩ := okWide_struct Tryd.underlying23 (hval 0 23 v0 rfl rfl)
  obtain ⟨fu0, hf0⟩ := h0
  obtain ⟨x0, K0, g0⟩ := (op23 enc W).2 fu0 _ _ _ hf0 wt0
  obtain rfl : cs0 = #[.int .i64 x0.f0, .int .i64 x0.f1, .string x0.f2] := Array.toList_inj.1 (k23_open K0)
  have wt1 : ∀ m ∈ d1.weights Tryd.prog 23, m ≤ reachBytes := fun m hm => of_decide_eq_true (List.all_eq_true.1 hsz m (DataW.weights_mem_each (j := 1) rfl rfl m hm))
  have k1 := h1
  have lt1 : ∀ x ∈ p1, x.block < W.heap.size := by obtain ⟨m, hm⟩ := k1; exact DataW.trod_lt m _ _ _ hm
  obtain ⟨cs1, rfl, hcs1⟩ := okWide_struct Tryd.underlying23 (hval 1 23 v1 rfl rfl)
  obtain ⟨fu1, hf1⟩ := h1
  obtain ⟨x1, K1, g1⟩ := (op23 enc W).2 fu1 _ _ _ hf1 wt1
  obtain rfl : cs1 = #[.int .i64 x1.f0, .int .i64 x1.f1, .string x1.f2] := Array.toList_inj.1 (k23_open K1)
  have wt2 : ∀ m ∈ d2.weights Tryd.prog 3, m ≤ reachBytes := fun m hm => of_decide_eq_true (List.all_eq_true.1 hsz m (DataW.weights_mem_each (j := 2) rfl rfl m hm))
  have k2 := h2
  obtain ⟨fu2, hf2⟩ := h2
  obtain ⟨x2, K2, g2⟩ := (op3 enc W).2 fu2 _ _ _ hf2 wt2
  obtain ⟨y2, rfl, rfl, rfl, w2⟩ := open_int Tryd.underlying3 (hval 2 3 v2 rfl rfl) k2
  obtain rfl : x2 = y2 := (Value.int.inj (List.head_eq_of_cons_eq K2)).2.symm
  clear hA0 hval0 hsz0 hsz
  obtain ⟨k, h⟩ := V.ValueMatchesSpec x0 x1 x2 g0 g1 g2
  refine (alumlaw19_ValueMatchesSpecT.calls (htab := tabW_of (by kernel_rfl) hL) k x0.f0 x0.f1 x0.f2 x1.f0 x1.f1 x1.f2 x2 true W h).mono fun e W' ⟨he, bel⟩ => ?_
  subst he
  exact ⟨_, rfl, _, _, _, [], _, [], hW', trodAll_mk1 (shut_bool Tryd.underlying4 _), (trodAll_cons_mk (Below.trod laidOut (by kernel_rfl) (of_decide_eq_true (by kernel_rfl)) k0 bel lt0) (trodAll_cons_mk (Below.trod laidOut (by kernel_rfl) (of_decide_eq_true (by kernel_rfl)) k1 bel lt1) (trodAll_cons_mk (shut_int Tryd.underlying3 w2) trodAll_mk0))), rfl, bel.frame _, fun h => by cases h⟩
theorem over : Rows.valueMatchesSpecRow.holds Tryd.pinned (OpenSpec.ofChange Rows.valueMatchesSpecSpec) :=
  OpenClaim.holds_of_wide 5 Tryd.f5 rfl rfl rfl rfl rfl rfl rfl ⟨rfl, rfl, rfl, rfl, rfl⟩ rfl rfl rfl rfl rfl (by kernel_rfl) Tryd.func5 (by kernel_rfl)
    (of_decide_eq_true (by kernel_rfl)) (by unfold Func.isWrapper; first | (rw [if_pos (by decide +kernel)]; kernel_rfl) | (rw [if_neg (by decide +kernel)]; exact ⟨rfl, rfl⟩))
    (fun os started H enc _ => lifted os started H enc)
theorem proved : Rows.ValueMatchesSpecSaid := over
theorem card : Rows.ValueMatchesSpecCardSaid :=
  Claim7.holds_tied_plain_at .later [] [.data, .data, .data] true (true, "eaa6d28c6d451e0ea154fbe0a4847d0661ee0ec78c71484efcf210b047928753") true
    proved (fun _ h => by cases h) (by kernel_rfl) (fun _ h => by cases h) valueMatchesSpec_row_tie rfl ⟨rfl, rfl⟩ (by kernel_rfl) rfl
    (fun f fn hf hfn => by
      obtain rfl : f = 5 := Option.some.inj ((show Tryd.prog.funcNamed "alum/alumlaw19.ValueMatchesSpec" = some 5 by kernel_rfl).symm.trans hf) |>.symm
      obtain rfl : fn = Tryd.f5 := (Option.some.inj (Tryd.func5.symm.trans hfn)).symm
      exact ⟨by kernel_rfl, fun j t ht => by
        rw [Tryd.params5] at ht
        have hm : t ∈ [23, 23, 3] := by simpa using Array.mem_of_getElem? ht
        have hall : ([23, 23, 3].all fun u => !Tryd.prog.wantsStandIn u) = true := by kernel_rfl
        exact (show Tryd.prog.wantsStandIn t = false by simpa using List.all_eq_true.1 hall t hm)⟩)
    (by kernel_rfl)
#print axioms card
end Go.Proofs.YtmhnfdgegejlkaaDoor.valueMatchesSpec
end
