/- Part 1 of the proof of ValueLogic: what the functions that it reaches answer. -/
import Derived.Test.YtmhnfdgegejlkaaDoorBValueLogic0
import Derived.Test.YtmhnfdgegejlkaaDoorWWordsq
import Derived.WalkKit
import Derived.ProofKit
import Derived.SizedLaws
import Derived.DataReads
import Derived.OpenShut
import Derived.ShutString
import Derived.ChangeOld
import Derived.Below
import Derived.LaidMore
import Derived.Stop.Joined
import Derived.KernelRfl
import Derived.Lib.Bytealg
section
namespace Go.Proofs.YtmhnfdgegejlkaaDoor.P
open Go.RowKit Go.Proofs.YtmhnfdgegejlkaaDoorW.PrintWords Go.Proofs.YtmhnfdgegejlkaaDoorW.PrintLast Go.Proofs.YtmhnfdgegejlkaaDoorW.PrintMore
attribute [local go_sem] max2_int min2_int max_two min_two max_three min_three max_four min_four
set_option linter.unusedVariables false
set_option linter.unusedSimpArgs false
def value_Print.l0 : Nat → List Int → Int → Int → Int → Int → ByteArray → Option (ByteArray)
 | 0, _, _, _, _, _, _ => none
 | k + 1, x3, x24, x25, x220000, x220001, x220002 => if x25 < x24 then (if 0 ≤ x25 then (if x25 < (x220002.size : Int) then ((value_plain.f (bt x220002 x25)).bind fun t225 => (if t225 = true then (if x3.length < 140737488355328 then (value_Print.l0 k (x3 ++ [bt x220002 x25]) x24 (wrap64 (x25 + 1)) x220000 x220001 x220002) else (none)) else (if 0 ≤ ((bt x220002 x25) / 16) then (if ((bt x220002 x25) / 16) < 16 then (if 0 ≤ (Go.bits .and .u8 (bt x220002 x25) 15) then (if (Go.bits .and .u8 (bt x220002 x25) 15) < 16 then ((some (([92, bt (⟨#[48, 49, 50, 51, 52, 53, 54, 55, 56, 57, 97, 98, 99, 100, 101, 102]⟩ : ByteArray) ((bt x220002 x25) / 16), bt (⟨#[48, 49, 50, 51, 52, 53, 54, 55, 56, 57, 97, 98, 99, 100, 101, 102]⟩ : ByteArray) (Go.bits .and .u8 (bt x220002 x25) 15)] : List Int) : List Int)).bind fun y229 => (if x3.length + y229.length < 140737488355328 then (value_Print.l0 k (x3 ++ y229) x24 (wrap64 (x25 + 1)) x220000 x220001 x220002) else (none))) else (none)) else (none)) else (none)) else (none)))) else (none)) else (none)) else (if x3.length < 140737488355328 then (some (strOfNums (x3 ++ [39]))) else (none))
def value_Print.f (k : Nat) (a0_0 : Int) (a0_1 : Int) (a0_2 : ByteArray) : Option (ByteArray) := if a0_0 = 1 then ((strconv_Itoa.f a0_1).bind fun t220 => (some t220)) else (if a0_0 = 3 then ((strconv_FormatBool.f (a0_1 == 1)).bind fun t221 => (some t221)) else (if a0_0 = 0 then (some (⟨#[110, 117, 108, 108]⟩ : ByteArray)) else (value_Print.l0 k (([39] : List Int)) (a0_2.size : Int) 0 a0_0 a0_1 a0_2)))
theorem value_Print.mono_l : ∀ k, (∀ y0 y1 y2 y3 y4 y5, LeO (value_Print.l0 k y0 y1 y2 y3 y4 y5) (value_Print.l0 (k + 1) y0 y1 y2 y3 y4 y5))
 | 0 => fun _ _ _ _ _ _ r h => by simp [value_Print.l0] at h
 | k + 1 => by
  have ih0 := value_Print.mono_l k
  ·intro y0 y1 y2 y3 y4 y5
   unfold value_Print.l0
   repeat' first
   | (with_reducible exact ih0 _ _ _ _ _ _)
   | (with_reducible exact LeO.refl _)
   | (with_reducible exact LeO.none _)
   | (with_reducible refine LeO.ite ?_ ?_)
   | (with_reducible refine LeO.bind ?_ (fun _ => ?_))
   | exact ih0 _ _ _ _ _ _
   | exact LeO.none _
   | refine LeO.ite ?_ ?_
   | refine LeO.bind ?_ (fun _ => ?_)
theorem value_Print.mono : ∀ a0 a1 a2 k, LeO (value_Print.f k a0 a1 a2) (value_Print.f (k + 1) a0 a1 a2) := by
 intro a0 a1 a2 k
 have ih0 := value_Print.mono_l k
 unfold value_Print.f
 repeat' first
   | (with_reducible exact ih0 _ _ _ _ _ _)
   | (with_reducible exact LeO.refl _)
   | (with_reducible exact LeO.none _)
   | (with_reducible refine LeO.ite ?_ ?_)
   | (with_reducible refine LeO.bind ?_ (fun _ => ?_))
   | exact ih0 _ _ _ _ _ _
   | exact LeO.none _
   | refine LeO.ite ?_ ?_
   | refine LeO.bind ?_ (fun _ => ?_)
def value_Print.T15 : Bool × List (List Nat × List Nat) := (true, [([], []), ([], []), ([1], [1]), ([2], [2]), ([], []), ([4], [4]), ([5], [5]), ([3, 6], [3, 6]), ([0, 7], [0, 7]), ([8, 8, 0, 1, 2, 3, 4, 5, 6, 7, 8], [0, 8])])
def value_Print.B15 : List Nat := [0, 0, 2, 6, 0, 16, 48, 126, 255, 511]
theorem value_Print.tab15 : rtab .any (opsOf Tryd.f29 15) = value_Print.T15 := by kernel_rfl
theorem value_Print.bits15 : waitsOk value_Print.T15.2 value_Print.B15 = true := by kernel_rfl
set_option maxHeartbeats 8000000 in
set_option maxRecDepth 100000 in
theorem value_Print.calls (k : Nat) (a0_0 : Int) (a0_1 : Int) (a0_2 : ByteArray) (r : ByteArray) (w : World) (h : value_Print.f k a0_0 a0_1 a0_2 = some r) :
  Calls Tryd.prog 29 #[.agg #[.int .i64 a0_0, .int .i64 a0_1, .string a0_2]] w fun e w' => e = .returned (.string r) ∧ Below w.heap.size w w' := by
 have hu23 := Tryd.underlying23
 have HB := Aside0.mk (Below.refl w.heap.size w)
 have H : (if a0_0 = 1 then ((strconv_Itoa.f a0_1).bind fun t220 => (some t220)) else (if a0_0 = 3 then ((strconv_FormatBool.f (a0_1 == 1)).bind fun t221 => (some t221)) else (if a0_0 = 0 then (some (⟨#[110, 117, 108, 108]⟩ : ByteArray)) else (value_Print.l0 k (([39] : List Int)) (a0_2.size : Int) 0 a0_0 a0_1 a0_2)))) = some r := h
 clear h
 by_cases c2 : a0_0 = 1
 ·rw [if_pos c2] at H
  have c2b0 : (a0_0 == 1) = true := beq_iff_eq.mpr c2
  have c2b1 : (a0_0 != 1) = false := bne_eq_false_iff_eq.mpr c2
  clear c2
  replace H := Option.bind_eq_some_iff.mp H
  obtain ⟨t220, A30, H⟩ := H
  replace H : (some t220) = some r := H
  have A3 := Aside0.mk A30
  clear A30
  obtain rfl := Option.some.inj H
  go_enter Tryd.func29, Tryd.ntmps29
  go_wp2_with (first | ((with_reducible refine gate_dst (N := 1) rfl ?_); refine box_event ?hg (N := 1) ?hd (cs := #[.int .i64 a0_0, .int .i64 a0_1, .string a0_2]) (t := 23) ?hr ?_; (case hd => rfl); (case hg => rfl); (case hr => first | (go_simp; done) | (go_simp; rfl)); intro gb219 hg w4 hbox hb; have BK219 := Aside0.mk (hbox); have GW219 := (sizeB HB hg : Aside0 (w.heap.size ≤ gb219)); have GE219 := (sizeB HB hg : Aside0 (w.heap.size ≤ gb219)); replace HB := stepB HB hb; clear hb hbox hg; have hcz5_0 : w4.cell? ⟨gb219, 0, none⟩ = some (.int .i64 a0_0) := bc BK219 0; have hcz5_1 : w4.cell? ⟨gb219, 1, none⟩ = some (.int .i64 a0_1) := bc BK219 1; have hcz5_2 : w4.cell? ⟨gb219, 2, none⟩ = some (.string a0_2) := bc BK219 2; have hfz5_0 := blk_frozen BK219.out 0; have hfz5_1 := blk_frozen BK219.out 1; have hfz5_2 := blk_frozen BK219.out 2) | ((with_reducible refine gate_callee (f := 53) rfl ?_); refine goesL_ (some 12) rfl rfl Tryd.func53 (by kernel_rfl) rfl #[.int .i64 a0_1] rfl (by (try simp only [List.map_toArray, List.map_cons, List.map_nil]); first | done | rfl | (simp only [List.length_drop, List.length_take]; rfl)) ?_; (with_reducible refine (strconv_Itoa.calls a0_1 t220 _ A3.out).mono ?_); rintro e w6 ⟨rfl, hb⟩; refine ⟨_, rfl, ?_⟩; replace BK219 := blkB BK219 hb; replace HB := stepB HB hb; (try clear hb); (try clear hb2); (try clear hk); (try clear hi)))
  go_ret
  exact ⟨by first | rfl | (simp [errW_none, errW_some] <;> rfl) | (simp [*, errW_none, errW_some] <;> rfl), by repeat (first | (with_reducible first | exact HB.out | apply below_alloc | apply pw_below_drewN | apply below_drew1 | refine below_set ?_ GE219.out) | exact HB.out)⟩
 ·rw [if_neg c2] at H
  have c2b0 : (a0_0 == 1) = false := beq_eq_false_iff_ne.mpr c2
  have c2b1 : (a0_0 != 1) = true := bne_iff_ne.mpr c2
  by_cases c7 : a0_0 = 3
  ·rw [if_pos c7] at H
   have c7b0 : (a0_0 == 3) = true := beq_iff_eq.mpr c7
   have c7b1 : (a0_0 != 3) = false := bne_eq_false_iff_eq.mpr c7
   clear c7
   replace H := Option.bind_eq_some_iff.mp H
   obtain ⟨t221, A80, H⟩ := H
   replace H : (some t221) = some r := H
   have A8 := Aside0.mk A80
   clear A80
   obtain rfl := Option.some.inj H
   go_enter Tryd.func29, Tryd.ntmps29
   go_wp2_with (first | ((with_reducible refine gate_dst (N := 1) rfl ?_); refine box_event ?hg (N := 1) ?hd (cs := #[.int .i64 a0_0, .int .i64 a0_1, .string a0_2]) (t := 23) ?hr ?_; (case hd => rfl); (case hg => rfl); (case hr => first | (go_simp; done) | (go_simp; rfl)); intro gb219 hg w9 hbox hb; have BK219 := Aside0.mk (hbox); have GW219 := (sizeB HB hg : Aside0 (w.heap.size ≤ gb219)); have GE219 := (sizeB HB hg : Aside0 (w.heap.size ≤ gb219)); replace HB := stepB HB hb; clear hb hbox hg; have hcz10_0 : w9.cell? ⟨gb219, 0, none⟩ = some (.int .i64 a0_0) := bc BK219 0; have hcz10_1 : w9.cell? ⟨gb219, 1, none⟩ = some (.int .i64 a0_1) := bc BK219 1; have hcz10_2 : w9.cell? ⟨gb219, 2, none⟩ = some (.string a0_2) := bc BK219 2; have hfz10_0 := blk_frozen BK219.out 0; have hfz10_1 := blk_frozen BK219.out 1; have hfz10_2 := blk_frozen BK219.out 2) | ((with_reducible refine gate_callee (f := 54) rfl ?_); refine goesL_ (some 18) rfl rfl Tryd.func54 (by kernel_rfl) rfl #[.bool (a0_1 == 1)] rfl (by (try simp only [List.map_toArray, List.map_cons, List.map_nil]); first | done | rfl | (simp only [List.length_drop, List.length_take]; rfl)) ?_; (with_reducible refine (strconv_FormatBool.calls (a0_1 == 1) t221 _ A8.out).mono ?_); rintro e w' ⟨rfl, ⟨nd, rfl⟩⟩; refine ⟨_, rfl, ?_⟩))
   go_ret
   exact ⟨by first | rfl | (simp [errW_none, errW_some] <;> rfl) | (simp [*, errW_none, errW_some] <;> rfl), by repeat (first | (with_reducible first | exact HB.out | apply below_alloc | apply pw_below_drewN | apply below_drew1 | refine below_set ?_ GE219.out) | exact HB.out)⟩
  ·rw [if_neg c7] at H
   have c7b0 : (a0_0 == 3) = false := beq_eq_false_iff_ne.mpr c7
   have c7b1 : (a0_0 != 3) = true := bne_iff_ne.mpr c7
   by_cases c11 : a0_0 = 0
   ·rw [if_pos c11] at H
    have c11b0 : (a0_0 == 0) = true := beq_iff_eq.mpr c11
    have c11b1 : (a0_0 != 0) = false := bne_eq_false_iff_eq.mpr c11
    clear c11
    obtain rfl := Option.some.inj H
    go_enter Tryd.func29, Tryd.ntmps29
    go_wp2_with (first | ((with_reducible refine gate_dst (N := 1) rfl ?_); refine box_event ?hg (N := 1) ?hd (cs := #[.int .i64 a0_0, .int .i64 a0_1, .string a0_2]) (t := 23) ?hr ?_; (case hd => rfl); (case hg => rfl); (case hr => first | (go_simp; done) | (go_simp; rfl)); intro gb219 hg w12 hbox hb; have BK219 := Aside0.mk (hbox); have GW219 := (sizeB HB hg : Aside0 (w.heap.size ≤ gb219)); have GE219 := (sizeB HB hg : Aside0 (w.heap.size ≤ gb219)); replace HB := stepB HB hb; clear hb hbox hg; have hcz13_0 : w12.cell? ⟨gb219, 0, none⟩ = some (.int .i64 a0_0) := bc BK219 0; have hcz13_1 : w12.cell? ⟨gb219, 1, none⟩ = some (.int .i64 a0_1) := bc BK219 1; have hcz13_2 : w12.cell? ⟨gb219, 2, none⟩ = some (.string a0_2) := bc BK219 2; have hfz13_0 := blk_frozen BK219.out 0; have hfz13_1 := blk_frozen BK219.out 1; have hfz13_2 := blk_frozen BK219.out 2))
    go_ret
    exact ⟨by first | rfl | (simp [errW_none, errW_some] <;> rfl) | (simp [*, errW_none, errW_some] <;> rfl), by repeat (first | (with_reducible first | exact HB.out | apply below_alloc | apply pw_below_drewN | apply below_drew1 | refine below_set ?_ GE219.out) | exact HB.out)⟩
   ·rw [if_neg c11] at H
    have c11b0 : (a0_0 == 0) = false := beq_eq_false_iff_ne.mpr c11
    have c11b1 : (a0_0 != 0) = true := bne_iff_ne.mpr c11
    obtain ⟨y222, hy222⟩ : ∃ y_ : List Int, y_ = (([39] : List Int)) := ⟨_, rfl⟩
    replace H : (value_Print.l0 k y222 (a0_2.size : Int) 0 a0_0 a0_1 a0_2) = some r := by first | (rw [hy222]; with_reducible exact H) | (have H2_ := (Option.bind_some _ _).symm.trans H; rw [hy222]; with_reducible exact H2_) | (have H2_ := (Option.bind_some _ _).symm.trans H; with_reducible exact H2_) | with_reducible exact H | (rw [hy222]; exact H) | exact H
    have Ny222 := Aside0.mk hy222
    clear hy222
    have H' := Aside0.mk H
    clear H
    go_enter Tryd.func29, Tryd.ntmps29
    go_wp2_with (first | ((with_reducible refine gate_dst (N := 1) rfl ?_); refine box_event ?hg (N := 1) ?hd (cs := #[.int .i64 a0_0, .int .i64 a0_1, .string a0_2]) (t := 23) ?hr ?_; (case hd => rfl); (case hg => rfl); (case hr => first | (go_simp; done) | (go_simp; rfl)); intro gb219 hg w14 hbox hb; have BK219 := Aside0.mk (hbox); have GW219 := (sizeB HB hg : Aside0 (w.heap.size ≤ gb219)); have GE219 := (sizeB HB hg : Aside0 (w.heap.size ≤ gb219)); replace HB := stepB HB hb; clear hb hbox hg; have hcz15_0 : w14.cell? ⟨gb219, 0, none⟩ = some (.int .i64 a0_0) := bc BK219 0; have hcz15_1 : w14.cell? ⟨gb219, 1, none⟩ = some (.int .i64 a0_1) := bc BK219 1; have hcz15_2 : w14.cell? ⟨gb219, 2, none⟩ = some (.string a0_2) := bc BK219 2; have hfz15_0 := blk_frozen BK219.out 0; have hfz15_1 := blk_frozen BK219.out 1; have hfz15_2 := blk_frozen BK219.out 2) | ((with_reducible refine gate_dst (N := 21) rfl ?_); refine Kd.R_lit (Kd.int .u8) _ 5 ?hg (N := 21) ?hd (xs := ([39] : List Int)) (inner := [.int .u8 39]) (ok := fun _ => True) (okp := fun _ => True) ?hr ?hp (fun _ hk => hk) trivial (Below.refl _ _) (Nat.le_refl _) (by simp) ?_; (case hd => rfl); (case hg => rfl); (case hr => first | (go_simp; done) | (go_simp; rfl)); (case hp => exact (Reps.one (show Kd.M (Kd.int .u8) _ _ _ 39 [.int .u8 39] from rfl) (Reps.none _ _))); intro v223 w16 ho17 hb hg_ hnew_; clear hg_ hnew_; (first | rw [← Ny222.out] at ho17 | (simp only [Int.reduceToNat] at ho17; rw [← Ny222.out] at ho17)); have HO224 := Aside0.mk (Kd.R_lower ho17 (below_size (by repeat (first | (with_reducible first | exact HB.out | apply below_alloc | apply pw_below_drewN | apply below_drew1 | refine below_set ?_ GE219.out) | exact HB.out)))); replace BK219 := blkB BK219 hb; replace HB := stepB HB hb; clear hb ho17; have hcz18_0 : w16.cell? ⟨gb219, 0, none⟩ = some (.int .i64 a0_0) := bc BK219 0; have hcz18_1 : w16.cell? ⟨gb219, 1, none⟩ = some (.int .i64 a0_1) := bc BK219 1; have hcz18_2 : w16.cell? ⟨gb219, 2, none⟩ = some (.string a0_2) := bc BK219 2; have hfz18_0 := blk_frozen BK219.out 0; have hfz18_1 := blk_frozen BK219.out 1; have hfz18_2 := blk_frozen BK219.out 2))
    go_loopg [3, 25] k (fun kq v3 v25 w' => ∃ (x3_1 : List Int) (x25_1 : Int), v25 = .int .i64 x25_1 ∧ Aside0 (value_Print.l0 kq x3_1 (a0_2.size : Int) x25_1 a0_0 a0_1 a0_2 = some r) ∧ Aside0 (kq ≤ k) ∧ Aside0 (Kd.R (Kd.int .u8) 5 w' w.heap.size (fun _ => True) v3 x3_1) ∧ Aside0 (w'.heap[gb219]? = some (.cells #[.int .i64 a0_0, .int .i64 a0_1, .string a0_2] 23 (0, 0))) ∧ Aside0 (Below w.heap.size w w'))
    case atStart => exact ⟨(y222), (0), (by first | rfl | (simp; done) | (simp [*]; done)), H', ⟨Nat.le_refl _⟩, ⟨by (with_reducible repeat (first | apply Kd.R_alloc | apply Kd.R_drewN | apply Kd.R_drew)); exact HO224.out⟩, ⟨by (with_reducible repeat (first | refine blk_drewN ?_ _ | refine blk_drew ?_ | refine blk_alloc ?_ _)); exact BK219.out⟩, ⟨by repeat (first | (with_reducible first | exact HB.out | apply below_alloc | apply pw_below_drewN | apply below_drew1 | refine below_set ?_ GE219.out) | exact HB.out)⟩⟩
    case round =>
     clear H'
     try clear c1
     try clear c2
     try clear c2b0
     try clear c2b1
     try clear p2
     try clear c5
     try clear c7
     try clear c7b0
     try clear c7b1
     try clear c11
     try clear c11b0
     try clear c11b1
     try clear hcz10_0
     try clear hcz10_1
     try clear hcz10_2
     try clear hcz13_0
     try clear hcz13_1
     try clear hcz13_2
     try clear hcz15_0
     try clear hcz15_1
     try clear hcz15_2
     try clear hcz18_0
     try clear hcz18_1
     try clear hcz18_2
     try clear hcz5_0
     try clear hcz5_1
     try clear hcz5_2
     try clear hfz10_0
     try clear hfz10_1
     try clear hfz10_2
     try clear hfz13_0
     try clear hfz13_1
     try clear hfz13_2
     try clear hfz15_0
     try clear hfz15_1
     try clear hfz15_2
     try clear hfz18_0
     try clear hfz18_1
     try clear hfz18_2
     try clear hfz5_0
     try clear hfz5_1
     try clear hfz5_2
     obtain ⟨x3_1, x25_1, rfl, HA, HK1, HO_3, BK219, HB⟩ := hrel
     cases gk with
     | zero => exact absurd HA.out (by simp [value_Print.l0])
     | succ k1 =>
      have H := HA.out
      clear HA
      simp only [value_Print.l0] at H
      by_cases c19 : x25_1 < (a0_2.size : Int)
      ·rw [if_pos c19] at H
       have c19b0 : decide (x25_1 < (a0_2.size : Int)) = true := decide_eq_true c19
       clear c19
       by_cases c20 : 0 ≤ x25_1
       ·rw [if_pos c20] at H
        have c20b0 : decide (0 ≤ x25_1) = true := decide_eq_true c20
        clear c20
        by_cases c21 : x25_1 < (a0_2.size : Int)
        ·rw [if_pos c21] at H
         have c21b0 : decide (x25_1 < (a0_2.size : Int)) = true := decide_eq_true c21
         clear c21
         replace H := Option.bind_eq_some_iff.mp H
         obtain ⟨t225, A230, H⟩ := H
         replace H : (if t225 = true then (if x3_1.length < 140737488355328 then (value_Print.l0 k1 (x3_1 ++ [bt a0_2 x25_1]) (a0_2.size : Int) (wrap64 (x25_1 + 1)) a0_0 a0_1 a0_2) else (none)) else (if 0 ≤ ((bt a0_2 x25_1) / 16) then (if ((bt a0_2 x25_1) / 16) < 16 then (if 0 ≤ (Go.bits .and .u8 (bt a0_2 x25_1) 15) then (if (Go.bits .and .u8 (bt a0_2 x25_1) 15) < 16 then ((some (([92, bt (⟨#[48, 49, 50, 51, 52, 53, 54, 55, 56, 57, 97, 98, 99, 100, 101, 102]⟩ : ByteArray) ((bt a0_2 x25_1) / 16), bt (⟨#[48, 49, 50, 51, 52, 53, 54, 55, 56, 57, 97, 98, 99, 100, 101, 102]⟩ : ByteArray) (Go.bits .and .u8 (bt a0_2 x25_1) 15)] : List Int) : List Int)).bind fun y229 => (if x3_1.length + y229.length < 140737488355328 then (value_Print.l0 k1 (x3_1 ++ y229) (a0_2.size : Int) (wrap64 (x25_1 + 1)) a0_0 a0_1 a0_2) else (none))) else (none)) else (none)) else (none)) else (none))) = some r := H
         have A23 := Aside0.mk A230
         clear A230
         by_cases c24 : t225 = true
         ·subst c24
          have H1 : (if x3_1.length < 140737488355328 then (value_Print.l0 k1 (x3_1 ++ [bt a0_2 x25_1]) (a0_2.size : Int) (wrap64 (x25_1 + 1)) a0_0 a0_1 a0_2) else (none)) = some r := by rw [if_pos rfl] at H; exact H
          clear H
          have H := H1
          clear H1
          by_cases c25 : x3_1.length < 140737488355328
          ·rw [if_pos c25] at H
           have LMc25 := Aside0.mk c25
           clear c25
           obtain ⟨y226, hy226⟩ : ∃ y_ : List Int, y_ = (x3_1 ++ [bt a0_2 x25_1]) := ⟨_, rfl⟩
           replace H : (value_Print.l0 k1 y226 (a0_2.size : Int) (wrap64 (x25_1 + 1)) a0_0 a0_1 a0_2) = some r := by first | (rw [hy226]; with_reducible exact H) | (have H2_ := (Option.bind_some _ _).symm.trans H; rw [hy226]; with_reducible exact H2_) | (have H2_ := (Option.bind_some _ _).symm.trans H; with_reducible exact H2_) | with_reducible exact H | (rw [hy226]; exact H) | exact H
           have Ny226 := Aside0.mk hy226
           clear hy226
           have H' := Aside0.mk H
           clear H
           have hcz26_0 : wr.cell? ⟨gb219, 0, none⟩ = some (.int .i64 a0_0) := bc BK219 0
           have hcz26_1 : wr.cell? ⟨gb219, 1, none⟩ = some (.int .i64 a0_1) := bc BK219 1
           have hcz26_2 : wr.cell? ⟨gb219, 2, none⟩ = some (.string a0_2) := bc BK219 2
           have hfz26_0 := blk_frozen BK219.out 0
           have hfz26_1 := blk_frozen BK219.out 1
           have hfz26_2 := blk_frozen BK219.out 2
           have p22 : 0 ≤ (x25_1 : Int) := of_decide_eq_true (by first | (with_reducible assumption) | assumption)
           have q22 : x25_1 < (a0_2.size : Int) := of_decide_eq_true (by first | (with_reducible assumption) | assumption)
           have hx22 := bt_at a0_2 x25_1
           replace p22 := eq_true p22
           replace q22 := eq_true q22
           go_wp2_with (first | ((with_reducible refine gate_callee (f := 55) rfl ?_); refine goesL_ (some 33) rfl rfl Tryd.func55 (by kernel_rfl) rfl #[.int .u8 (bt a0_2 x25_1)] rfl (by (try simp only [List.map_toArray, List.map_cons, List.map_nil]); first | done | rfl | (simp only [List.length_drop, List.length_take]; rfl)) ?_; (with_reducible refine (value_plain.calls (bt a0_2 x25_1) true _ A23.out).mono ?_); rintro e w' ⟨rfl, ⟨nd, rfl⟩⟩; refine ⟨_, rfl, ?_⟩) | ((with_reducible refine gate_builtin (b := .append) (xs := #[.tmp 34, .tmp 36]) rfl ?_); at_builtin; refine Kd.R_append (Kd.int .u8) (w0 := w) w.heap.size rfl (.tmp 34) (.tmp 36) 63 5 (.int .u8 0) 1 rfl Tryd.underlying63 info5 rfl (by decide) (by omega) u3 x3_1 (bt a0_2 x25_1) [.int .u8 (bt a0_2 x25_1)] (fun _ => True) (fun _ => False) rfl rfl ?aP (fun _ hk => hk.elim) ?aF ?aO ?aB ?aS ?aL ?_; (case aP => exact rfl); (case aB => exact (by repeat (first | (with_reducible first | exact HB.out | apply below_alloc | apply pw_below_drewN | apply below_drew1 | refine below_set ?_ GE219.out) | exact HB.out))); (case aF => exact (fun _ _ => trivial)); (case aO => exact (by (with_reducible repeat (first | apply Kd.R_alloc | apply Kd.R_drewN | apply Kd.R_drew)); exact HO_3.out)); (case aS => exact (below_size (by repeat (first | (with_reducible first | exact HB.out | apply below_alloc | apply pw_below_drewN | apply below_drew1 | refine below_set ?_ GE219.out) | exact HB.out)))); (case aL => have := LMc25.out; omega); intro v227 w27 ho hb hg hat; rw [← Ny226.out] at ho; have HO228 := Aside0.mk (ho); replace BK219 := Aside0.mk (blk_grown (g := gb219) (o := .cells #[.int .i64 a0_0, .int .i64 a0_1, .string a0_2] 23 (0, 0)) (by (with_reducible repeat (first | refine blk_drewN ?_ _ | refine blk_drew ?_ | refine blk_alloc ?_ _)); exact BK219.out) hg (Kd.R_ne HO_3.out BK219.out (by decide))); replace HB := Aside0.mk (hb); clear HO_3; clear ho hb hg hat))
           go_roundg k1
           case measure => have := HK1.out; omega
           case rel => exact ⟨(y226), (wrap64 (x25_1 + 1)), (by first | rfl | (simp; done) | (simp [*]; done)), H', ⟨by have := HK1.out; omega⟩, ⟨by (with_reducible repeat (first | apply Kd.R_alloc | apply Kd.R_drewN | apply Kd.R_drew)); exact HO228.out⟩, ⟨by (with_reducible repeat (first | refine blk_drewN ?_ _ | refine blk_drew ?_ | refine blk_alloc ?_ _)); exact BK219.out⟩, ⟨by repeat (first | (with_reducible first | exact HB.out | apply below_alloc | apply pw_below_drewN | apply below_drew1 | refine below_set ?_ GE219.out) | exact HB.out)⟩⟩
          ·rw [if_neg c25] at H
           exact absurd H (by simp)
         ·replace c24 := Bool.eq_false_iff.mpr c24
          subst c24
          have H1 : (if 0 ≤ ((bt a0_2 x25_1) / 16) then (if ((bt a0_2 x25_1) / 16) < 16 then (if 0 ≤ (Go.bits .and .u8 (bt a0_2 x25_1) 15) then (if (Go.bits .and .u8 (bt a0_2 x25_1) 15) < 16 then ((some (([92, bt (⟨#[48, 49, 50, 51, 52, 53, 54, 55, 56, 57, 97, 98, 99, 100, 101, 102]⟩ : ByteArray) ((bt a0_2 x25_1) / 16), bt (⟨#[48, 49, 50, 51, 52, 53, 54, 55, 56, 57, 97, 98, 99, 100, 101, 102]⟩ : ByteArray) (Go.bits .and .u8 (bt a0_2 x25_1) 15)] : List Int) : List Int)).bind fun y229 => (if x3_1.length + y229.length < 140737488355328 then (value_Print.l0 k1 (x3_1 ++ y229) (a0_2.size : Int) (wrap64 (x25_1 + 1)) a0_0 a0_1 a0_2) else (none))) else (none)) else (none)) else (none)) else (none)) = some r := by rw [if_neg (show ¬ (false = true) by decide)] at H; exact H
          clear H
          have H := H1
          clear H1
          obtain ⟨ji28, hji28⟩ : ∃ j_ : Int, ((bt a0_2 x25_1) / 16) = j_ := ⟨_, rfl⟩
          replace H : (if 0 ≤ (ji28) then (if (ji28) < 16 then (if 0 ≤ (Go.bits .and .u8 (bt a0_2 x25_1) 15) then (if (Go.bits .and .u8 (bt a0_2 x25_1) 15) < 16 then ((some (([92, bt (⟨#[48, 49, 50, 51, 52, 53, 54, 55, 56, 57, 97, 98, 99, 100, 101, 102]⟩ : ByteArray) (ji28), bt (⟨#[48, 49, 50, 51, 52, 53, 54, 55, 56, 57, 97, 98, 99, 100, 101, 102]⟩ : ByteArray) (Go.bits .and .u8 (bt a0_2 x25_1) 15)] : List Int) : List Int)).bind fun y229 => (if x3_1.length + y229.length < 140737488355328 then (value_Print.l0 k1 (x3_1 ++ y229) (a0_2.size : Int) (wrap64 (x25_1 + 1)) a0_0 a0_1 a0_2) else (none))) else (none)) else (none)) else (none)) else (none)) = some r := by first | (rw [hji28] at H; exact H) | (simp only [hji28] at H ⊢; exact H)
          (try rw [hji28] at A23)
          by_cases c29 : 0 ≤ (ji28)
          ·rw [if_pos c29] at H
           have c29b0 : decide (0 ≤ (ji28)) = true := decide_eq_true c29
           clear c29
           by_cases c30 : (ji28) < 16
           ·rw [if_pos c30] at H
            have c30b0 : decide ((ji28) < 16) = true := decide_eq_true c30
            clear c30
            by_cases c32 : 0 ≤ (Go.bits .and .u8 (bt a0_2 x25_1) 15)
            ·rw [if_pos c32] at H
             have c32b0 : decide (0 ≤ (Go.bits .and .u8 (bt a0_2 x25_1) 15)) = true := decide_eq_true c32
             clear c32
             by_cases c33 : (Go.bits .and .u8 (bt a0_2 x25_1) 15) < 16
             ·rw [if_pos c33] at H
              have c33b0 : decide ((Go.bits .and .u8 (bt a0_2 x25_1) 15) < 16) = true := decide_eq_true c33
              clear c33
              obtain ⟨y229, hy229⟩ : ∃ y_ : List Int, y_ = (([92, bt (⟨#[48, 49, 50, 51, 52, 53, 54, 55, 56, 57, 97, 98, 99, 100, 101, 102]⟩ : ByteArray) (ji28), bt (⟨#[48, 49, 50, 51, 52, 53, 54, 55, 56, 57, 97, 98, 99, 100, 101, 102]⟩ : ByteArray) (Go.bits .and .u8 (bt a0_2 x25_1) 15)] : List Int)) := ⟨_, rfl⟩
              replace H : (if x3_1.length + y229.length < 140737488355328 then (value_Print.l0 k1 (x3_1 ++ y229) (a0_2.size : Int) (wrap64 (x25_1 + 1)) a0_0 a0_1 a0_2) else (none)) = some r := by first | (rw [hy229]; with_reducible exact H) | (have H2_ := (Option.bind_some _ _).symm.trans H; rw [hy229]; with_reducible exact H2_) | (have H2_ := (Option.bind_some _ _).symm.trans H; with_reducible exact H2_) | with_reducible exact H | (rw [hy229]; exact H) | exact H
              have Ny229 := Aside0.mk hy229
              clear hy229
              by_cases c35 : x3_1.length + y229.length < 140737488355328
              ·rw [if_pos c35] at H
               have LMc35 := Aside0.mk c35
               clear c35
               obtain ⟨y232, hy232⟩ : ∃ y_ : List Int, y_ = (x3_1 ++ y229) := ⟨_, rfl⟩
               replace H : (value_Print.l0 k1 y232 (a0_2.size : Int) (wrap64 (x25_1 + 1)) a0_0 a0_1 a0_2) = some r := by first | (rw [hy232]; with_reducible exact H) | (have H2_ := (Option.bind_some _ _).symm.trans H; rw [hy232]; with_reducible exact H2_) | (have H2_ := (Option.bind_some _ _).symm.trans H; with_reducible exact H2_) | with_reducible exact H | (rw [hy232]; exact H) | exact H
               have Ny232 := Aside0.mk hy232
               clear hy232
               have H' := Aside0.mk H
               clear H
               have hcz36_0 : wr.cell? ⟨gb219, 0, none⟩ = some (.int .i64 a0_0) := bc BK219 0
               have hcz36_1 : wr.cell? ⟨gb219, 1, none⟩ = some (.int .i64 a0_1) := bc BK219 1
               have hcz36_2 : wr.cell? ⟨gb219, 2, none⟩ = some (.string a0_2) := bc BK219 2
               have hfz36_0 := blk_frozen BK219.out 0
               have hfz36_1 := blk_frozen BK219.out 1
               have hfz36_2 := blk_frozen BK219.out 2
               have p22 : 0 ≤ (x25_1 : Int) := of_decide_eq_true (by first | (with_reducible assumption) | assumption)
               have q22 : x25_1 < (a0_2.size : Int) := of_decide_eq_true (by first | (with_reducible assumption) | assumption)
               have hx22 := bt_at a0_2 x25_1
               replace p22 := eq_true p22
               replace q22 := eq_true q22
               try go_wp2_with (first | ((with_reducible refine gate_callee (f := 55) rfl ?_); refine goesL_ (some 33) rfl rfl Tryd.func55 (by kernel_rfl) rfl #[.int .u8 (bt a0_2 x25_1)] rfl (by (try simp only [List.map_toArray, List.map_cons, List.map_nil]); first | done | rfl | (simp only [List.length_drop, List.length_take]; rfl)) ?_; (with_reducible refine (value_plain.calls (bt a0_2 x25_1) false _ A23.out).mono ?_); rintro e w' ⟨rfl, ⟨nd, rfl⟩⟩; refine ⟨_, rfl, ?_⟩))
               (try (rw [drewN_self wr]; generalize hq_ : World.drewN wr _ = wr; replace HO_3 : Aside0 (Kd.R (Kd.int .u8) 5 wr w.heap.size (fun _ => True) u3 x3_1) := ⟨by rw [← hq_]; exact (by (with_reducible repeat (first | apply Kd.R_alloc | apply Kd.R_drewN | apply Kd.R_drew)); exact HO_3.out)⟩; replace BK219 : Aside0 (wr.heap[gb219]? = some (.cells #[.int .i64 a0_0, .int .i64 a0_1, .string a0_2] 23 (0, 0))) := ⟨by rw [← hq_]; exact (by (with_reducible repeat (first | refine blk_drewN ?_ _ | refine blk_drew ?_ | refine blk_alloc ?_ _)); exact BK219.out)⟩; replace HB : Aside0 (Below w.heap.size w wr) := ⟨by rw [← hq_]; exact (by repeat (first | (with_reducible first | exact HB.out | apply below_alloc | apply pw_below_drewN | apply below_drew1 | refine below_set ?_ GE219.out) | exact HB.out))⟩; clear hq_))
               replace HO_3 := Aside0.mk (Kd.R_drew HO_3.out)
               replace BK219 := Aside0.mk (blk_drew BK219.out)
               replace HB := Aside0.mk (below_drew1 HB.out)
               have p31 : 0 ≤ ((ji28) : Int) := of_decide_eq_true (by first | (with_reducible assumption) | assumption)
               have q31 : (ji28) < (16 : Int) := of_decide_eq_true (by first | (with_reducible assumption) | assumption)
               have hx31 := bt_at (⟨#[48, 49, 50, 51, 52, 53, 54, 55, 56, 57, 97, 98, 99, 100, 101, 102]⟩ : ByteArray) (ji28)
               replace p31 := eq_true p31
               replace q31 := eq_true q31
               have p34 : 0 ≤ ((Go.bits .and .u8 (bt a0_2 x25_1) 15) : Int) := of_decide_eq_true (by first | (with_reducible assumption) | assumption)
               have q34 : (Go.bits .and .u8 (bt a0_2 x25_1) 15) < (16 : Int) := of_decide_eq_true (by first | (with_reducible assumption) | assumption)
               have hx34 := bt_at (⟨#[48, 49, 50, 51, 52, 53, 54, 55, 56, 57, 97, 98, 99, 100, 101, 102]⟩ : ByteArray) (Go.bits .and .u8 (bt a0_2 x25_1) 15)
               replace p34 := eq_true p34
               replace q34 := eq_true q34
               refine start_ (n := 10) (S := fun w' => True) (ds := []) #[false, false, false, false, false, false, false, false, false, false] (by kernel_rfl) rfl rfl trivial (fun hHeld => ?_); refine with_tabW value_Print.tab15 value_Print.bits15 (fun HT_ HW_ => ?_)
               generalize wr.drew = w37 at HO_3 BK219 HB hHeld ⊢
               refine pureA 0 38 #[true, false, false, false, false, false, false, false, false, false] HT_ ?_
               refine pureA 1 39 #[true, true, false, false, false, false, false, false, false, false] HT_ ?_
               refine pureA 2 40 #[true, true, true, false, false, false, false, false, false, false] HT_ ?_
               refine pureA 4 42 #[true, true, true, false, true, false, false, false, false, false] HT_ ?_
               refine pureA 5 43 #[true, true, true, false, true, true, false, false, false, false] HT_ ?_
               refine take_ (i := 3) (N := some 41) (v := ?_) (a' := ?_) #[true, true, true, true, true, true, false, false, false, false] rfl rfl (take_ofW HT_.out HW_.out (by kernel_rfl)) (fun _ _ _ h => h) (Or.inl ⟨by rfl, ?_⟩) hHeld ?_ ?_
               rotate_left
               ·intro w' _
                go_simp
                with_reducible rfl
               rotate_left
               ·simp only [Act.put, List.setIfInBounds_toArray, List.set_cons_zero, List.set_cons_succ, i64_w, i32_w]
                rfl
               refine take_ (i := 6) (N := some 44) (v := ?_) (a' := ?_) #[true, true, true, true, true, true, true, false, false, false] rfl rfl (take_ofW HT_.out HW_.out (by kernel_rfl)) (fun _ _ _ h => h) (Or.inl ⟨by rfl, ?_⟩) hHeld ?_ ?_
               rotate_left
               ·intro w' _
                go_simp
                with_reducible rfl
               rotate_left
               ·simp only [Act.put, List.setIfInBounds_toArray, List.set_cons_zero, List.set_cons_succ, i64_w, i32_w]
                rfl
               refine one_ (i := 7) (N := some 45) #[true, true, true, true, true, true, true, true, false, false] rfl rfl (one_of HT_.out (by kernel_rfl)) (by decide) (fun K hK => ?_)
               refine Kd.R_lit_step (Kd.int .u8) _ 5 ?hg (N := 45) ?hd (xs := ([92, bt (⟨#[48, 49, 50, 51, 52, 53, 54, 55, 56, 57, 97, 98, 99, 100, 101, 102]⟩ : ByteArray) (ji28), bt (⟨#[48, 49, 50, 51, 52, 53, 54, 55, 56, 57, 97, 98, 99, 100, 101, 102]⟩ : ByteArray) (Go.bits .and .u8 (bt a0_2 x25_1) 15)] : List Int)) (inner := [.int .u8 92, .int .u8 (bt (⟨#[48, 49, 50, 51, 52, 53, 54, 55, 56, 57, 97, 98, 99, 100, 101, 102]⟩ : ByteArray) (ji28)), .int .u8 (bt (⟨#[48, 49, 50, 51, 52, 53, 54, 55, 56, 57, 97, 98, 99, 100, 101, 102]⟩ : ByteArray) (Go.bits .and .u8 (bt a0_2 x25_1) 15))]) (ok := fun _ => True) (okp := fun _ => True) ?hr ?hp (fun _ hk => hk) trivial (Below.refl _ _) (Nat.le_refl _) (by simp) ?_; (case hd => rfl); (case hg => rfl); (case hr => first | (go_simp; done) | (go_simp; rfl)); (case hp => exact (Reps.one (show Kd.M (Kd.int .u8) _ _ _ 92 [.int .u8 92] from rfl) (Reps.one (show Kd.M (Kd.int .u8) _ _ _ (bt (⟨#[48, 49, 50, 51, 52, 53, 54, 55, 56, 57, 97, 98, 99, 100, 101, 102]⟩ : ByteArray) (ji28)) [.int .u8 (bt (⟨#[48, 49, 50, 51, 52, 53, 54, 55, 56, 57, 97, 98, 99, 100, 101, 102]⟩ : ByteArray) (ji28))] from rfl) (Reps.one (show Kd.M (Kd.int .u8) _ _ _ (bt (⟨#[48, 49, 50, 51, 52, 53, 54, 55, 56, 57, 97, 98, 99, 100, 101, 102]⟩ : ByteArray) (Go.bits .and .u8 (bt a0_2 x25_1) 15)) [.int .u8 (bt (⟨#[48, 49, 50, 51, 52, 53, 54, 55, 56, 57, 97, 98, 99, 100, 101, 102]⟩ : ByteArray) (Go.bits .and .u8 (bt a0_2 x25_1) 15))] from rfl) (Reps.none _ _)))))
               intro v230 w38 ho39 hb hg_ hnew_
               clear hg_ hnew_
               (first | rw [← Ny229.out] at ho39 | (simp only [Int.reduceToNat] at ho39; rw [← Ny229.out] at ho39))
               have HO231 := Aside0.mk (Kd.R_lower (Kd.R_new' ho39 (Kd.R_lt (by (with_reducible repeat (first | apply Kd.R_alloc | apply Kd.R_drewN | apply Kd.R_drew)); exact HO_3.out))) (below_size (by repeat (first | (with_reducible first | exact HB.out | apply below_alloc | apply pw_below_drewN | apply below_drew1 | refine below_set ?_ GE219.out) | exact HB.out))))
               replace HO_3 := Aside0.mk (Kd.R_elder' (by (with_reducible repeat (first | apply Kd.R_alloc | apply Kd.R_drewN | apply Kd.R_drew)); exact HO_3.out) (Kd.R_base ho39) hb)
               replace BK219 := blkB BK219 hb
               replace HB := stepB HB hb
               clear hb ho39
               obtain ⟨Ao41, co41, eo41⟩ := Kd.R_slice HO231.out
               (first | subst eo41 | (injection eo41 with f1_ f2_ f3_; have f4_ := f1_.symm; have f5_ := f3_.symm; clear f1_ f2_ f3_; subst f4_; subst f5_))
               refine hK.out _ _ trivial (fun hHeld => ?_)
               clear hK K
               refine normA 45 ?_
               refine one_ (i := 8) (N := some 46) #[true, true, true, true, true, true, true, true, true, false] rfl rfl (one_of HT_.out (by kernel_rfl)) (by decide) (fun K hK => ?_)
               refine Kd.R_append_rows_step (Kd.int .u8) (w0 := w) w.heap.size (by rfl) (.tmp 38) (.tmp 45) 63 5 (.int .u8 0) 1 rfl Tryd.underlying63 info5 rfl (by decide) (by omega) u3 x3_1 y229 _ _ _ (fun k_ => some k_ ≠ (.slice Ao41 y229.length co41 : Value).ownBlock) (fun _ => False) rfl rfl ?aO ?aR (fun _ _ h => h) (fun _ h => h.elim) ?aF ?aB ?aS ?aL ?_
               (case aR => repeat (first | exact (Kd.R_reads' HO231.out).2.2 | (with_reducible refine Kd.C_alloc ?_ _) | (with_reducible refine Kd.C_drewN ?_ _) | (with_reducible refine Kd.C_drew ?_)))
               (case aB => exact (by repeat (first | (with_reducible first | exact HB.out | apply below_alloc | apply pw_below_drewN | apply below_drew1 | refine below_set ?_ GE219.out) | exact HB.out)))
               (case aF => exact (fun k_ hk => Kd.fresh' (Kd.R_lt (by (with_reducible repeat (first | apply Kd.R_alloc | apply Kd.R_drewN | apply Kd.R_drew)); exact HO231.out)) k_ hk))
               (case aO => exact (by (with_reducible repeat (first | apply Kd.R_alloc | apply Kd.R_drewN | apply Kd.R_drew)); exact Kd.R_mono HO_3.out (fun _ hk => hk.2)))
               (case aS => exact (below_size (by repeat (first | (with_reducible first | exact HB.out | apply below_alloc | apply pw_below_drewN | apply below_drew1 | refine below_set ?_ GE219.out) | exact HB.out))))
               (case aL => have := LMc35.out; omega)
               intro v233 w40 ho hb hg hat
               rw [← Ny232.out] at ho
               have HO234 := Aside0.mk (ho)
               replace BK219 := Aside0.mk (blk_grown (g := gb219) (o := .cells #[.int .i64 a0_0, .int .i64 a0_1, .string a0_2] 23 (0, 0)) (by (with_reducible repeat (first | refine blk_drewN ?_ _ | refine blk_drew ?_ | refine blk_alloc ?_ _)); exact BK219.out) hg (Kd.R_ne HO_3.out BK219.out (by decide)))
               replace HO231 := Aside0.mk (Kd.R_after (ok := (fun _ => True)) (by (with_reducible repeat (first | apply Kd.R_alloc | apply Kd.R_drewN | apply Kd.R_drew)); exact HO231.out) hg hat)
               replace HB := Aside0.mk (hb)
               clear HO_3
               clear ho hb hg hat
               refine hK.out _ _ trivial (fun hHeld => ?_)
               clear hK K
               refine normA 46 ?_
               refine pureA 9 3 #[true, true, true, true, true, true, true, true, true, true] HT_ ?_
               refine done_ (done_of HT_.out (by kernel_rfl)) ?_
               try go_wp2
               go_roundg k1
               case measure => have := HK1.out; omega
               case rel => exact ⟨(y232), (wrap64 (x25_1 + 1)), (by first | rfl | (simp; done) | (simp [*]; done)), H', ⟨by have := HK1.out; omega⟩, ⟨by (with_reducible repeat (first | apply Kd.R_alloc | apply Kd.R_drewN | apply Kd.R_drew)); exact Kd.R_mono HO234.out (fun _ hk => trivial)⟩, ⟨by (with_reducible repeat (first | refine blk_drewN ?_ _ | refine blk_drew ?_ | refine blk_alloc ?_ _)); exact BK219.out⟩, ⟨by repeat (first | (with_reducible first | exact HB.out | apply below_alloc | apply pw_below_drewN | apply below_drew1 | refine below_set ?_ GE219.out) | exact HB.out)⟩⟩
              ·rw [if_neg c35] at H
               exact absurd H (by simp)
             ·rw [if_neg c33] at H
              exact absurd H (by simp)
            ·rw [if_neg c32] at H
             exact absurd H (by simp)
           ·rw [if_neg c30] at H
            exact absurd H (by simp)
          ·rw [if_neg c29] at H
           exact absurd H (by simp)
        ·rw [if_neg c21] at H
         exact absurd H (by simp)
       ·rw [if_neg c20] at H
        exact absurd H (by simp)
      ·rw [if_neg c19] at H
       have c19b0 : decide (x25_1 < (a0_2.size : Int)) = false := decide_eq_false c19
       clear c19
       by_cases c42 : x3_1.length < 140737488355328
       ·rw [if_pos c42] at H
        have LMc42 := Aside0.mk c42
        clear c42
        obtain ⟨y235, hy235⟩ : ∃ y_ : List Int, y_ = (x3_1 ++ [39]) := ⟨_, rfl⟩
        replace H : (some (strOfNums y235)) = some r := by first | (rw [hy235]; with_reducible exact H) | (have H2_ := (Option.bind_some _ _).symm.trans H; rw [hy235]; with_reducible exact H2_) | (have H2_ := (Option.bind_some _ _).symm.trans H; with_reducible exact H2_) | with_reducible exact H | (rw [hy235]; exact H) | exact H
        have Ny235 := Aside0.mk hy235
        clear hy235
        obtain rfl := Option.some.inj H
        go_wp2_with (first | ((with_reducible refine gate_builtin (b := .append) (xs := #[.tmp 48, .tmp 49]) rfl ?_); at_builtin; refine Kd.R_append (Kd.int .u8) (w0 := w) w.heap.size rfl (.tmp 48) (.tmp 49) 63 5 (.int .u8 0) 1 rfl Tryd.underlying63 info5 rfl (by decide) (by omega) u3 x3_1 39 [.int .u8 39] (fun _ => True) (fun _ => False) rfl rfl ?aP (fun _ hk => hk.elim) ?aF ?aO ?aB ?aS ?aL ?_; (case aP => exact rfl); (case aB => exact (by repeat (first | (with_reducible first | exact HB.out | apply below_alloc | apply pw_below_drewN | apply below_drew1 | refine below_set ?_ GE219.out) | exact HB.out))); (case aF => exact (fun _ _ => trivial)); (case aO => exact (by (with_reducible repeat (first | apply Kd.R_alloc | apply Kd.R_drewN | apply Kd.R_drew)); exact HO_3.out)); (case aS => exact (below_size (by repeat (first | (with_reducible first | exact HB.out | apply below_alloc | apply pw_below_drewN | apply below_drew1 | refine below_set ?_ GE219.out) | exact HB.out)))); (case aL => have := LMc42.out; omega); intro v236 w43 ho hb hg hat; rw [← Ny235.out] at ho; have HO237 := Aside0.mk (ho); replace BK219 := Aside0.mk (blk_grown (g := gb219) (o := .cells #[.int .i64 a0_0, .int .i64 a0_1, .string a0_2] 23 (0, 0)) (by (with_reducible repeat (first | refine blk_drewN ?_ _ | refine blk_drew ?_ | refine blk_alloc ?_ _)); exact BK219.out) hg (Kd.R_ne HO_3.out BK219.out (by decide))); replace HB := Aside0.mk (hb); clear HO_3; clear ho hb hg hat; have hcv44 := own_string (P := Tryd.prog) Tryd.underlying63 Tryd.underlying5 Tryd.underlying9 (Kd.own_of_R HO237.out)))
        go_ret
        exact ⟨by first | rfl | (simp [errW_none, errW_some] <;> rfl) | (simp [*, errW_none, errW_some] <;> rfl), by repeat (first | (with_reducible first | exact HB.out | apply below_alloc | apply pw_below_drewN | apply below_drew1 | refine below_set ?_ GE219.out) | exact HB.out)⟩
       ·rw [if_neg c42] at H
        exact absurd H (by simp)
end Go.Proofs.YtmhnfdgegejlkaaDoor.P
end

section
namespace Go.Proofs.YtmhnfdgegejlkaaDoor.P
open Go.RowKit Go.Proofs.YtmhnfdgegejlkaaDoorW.PrintWords Go.Proofs.YtmhnfdgegejlkaaDoorW.PrintLast Go.Proofs.YtmhnfdgegejlkaaDoorW.PrintMore
attribute [local go_sem] max2_int min2_int max_two min_two max_three min_three max_four min_four
set_option linter.unusedVariables false
set_option linter.unusedSimpArgs false
attribute [local go_sem high] eqA23
def value_Right.f (a0_0 : Int) (a0_1 : Int) (a0_2 : ByteArray) : Option (Bool) := if a0_0 = 0 then (some (a0_0 == 0 && (a0_1 == 0 && (a0_2.toList == ([] : List UInt8))))) else (if a0_0 = 1 then (if a0_1 ≥ (-549755813888) then (if a0_1 ≤ 549755813887 then (some (a0_2.toList == ([] : List UInt8))) else (some false)) else (some false)) else (if a0_0 = 2 then (if a0_1 = 0 then (some (decide ((a0_2.size : Int) ≤ 40))) else (some false)) else (if a0_0 = 3 then (if (Go.bits .andNot .i64 a0_1 1) = 0 then (some (a0_2.toList == ([] : List UInt8))) else (some false)) else (some false))))
set_option maxHeartbeats 8000000 in
set_option maxRecDepth 100000 in
theorem value_Right.calls (a0_0 : Int) (a0_1 : Int) (a0_2 : ByteArray) (r : Bool) (w : World) (h : value_Right.f a0_0 a0_1 a0_2 = some r) :
  Calls Tryd.prog 19 #[.agg #[.int .i64 a0_0, .int .i64 a0_1, .string a0_2]] w fun e w' => e = .returned (.bool r) ∧ Below w.heap.size w w' := by
 have hu23 := Tryd.underlying23
 have HB := Aside0.mk (Below.refl w.heap.size w)
 have H : (if a0_0 = 0 then (some (a0_0 == 0 && (a0_1 == 0 && (a0_2.toList == ([] : List UInt8))))) else (if a0_0 = 1 then (if a0_1 ≥ (-549755813888) then (if a0_1 ≤ 549755813887 then (some (a0_2.toList == ([] : List UInt8))) else (some false)) else (some false)) else (if a0_0 = 2 then (if a0_1 = 0 then (some (decide ((a0_2.size : Int) ≤ 40))) else (some false)) else (if a0_0 = 3 then (if (Go.bits .andNot .i64 a0_1 1) = 0 then (some (a0_2.toList == ([] : List UInt8))) else (some false)) else (some false))))) = some r := h
 clear h
 by_cases c2 : a0_0 = 0
 ·rw [if_pos c2] at H
  have c2b0 : (a0_0 == 0) = true := beq_iff_eq.mpr c2
  have c2b1 : (a0_0 != 0) = false := bne_eq_false_iff_eq.mpr c2
  clear c2
  obtain rfl := Option.some.inj H
  go_enter Tryd.func19, Tryd.ntmps19
  go_wp2_with (first | ((with_reducible refine gate_dst (N := 1) rfl ?_); (try (refine gate_guard (by rfl) ?_; dsimp only)); refine box_event ?hg (N := 1) ?hd (cs := #[.int .i64 a0_0, .int .i64 a0_1, .string a0_2]) (t := 23) ?hr ?_; (case hd => rfl); (case hg => rfl); (case hr => first | (go_simp; done) | (go_simp; rfl)); intro gb238 hg w3 hbox hb; have BK238 := Aside0.mk (hbox); have GW238 := (sizeB HB hg : Aside0 (w.heap.size ≤ gb238)); have GE238 := (sizeB HB hg : Aside0 (w.heap.size ≤ gb238)); replace HB := stepB HB hb; clear hb hbox hg; have hcz4_0 : w3.cell? ⟨gb238, 0, none⟩ = some (.int .i64 a0_0) := bc BK238 0; have hcz4_1 : w3.cell? ⟨gb238, 1, none⟩ = some (.int .i64 a0_1) := bc BK238 1; have hcz4_2 : w3.cell? ⟨gb238, 2, none⟩ = some (.string a0_2) := bc BK238 2; have hfz4_0 := blk_frozen BK238.out 0; have hfz4_1 := blk_frozen BK238.out 1; have hfz4_2 := blk_frozen BK238.out 2))
  go_ret
  exact ⟨by first | rfl | (simp [errW_none, errW_some] <;> rfl) | (simp [*, errW_none, errW_some] <;> rfl), by repeat (first | (with_reducible first | exact HB.out | apply below_alloc | apply pw_below_drewN | apply below_drew1 | refine below_set ?_ GE238.out) | exact HB.out)⟩
 ·rw [if_neg c2] at H
  have c2b0 : (a0_0 == 0) = false := beq_eq_false_iff_ne.mpr c2
  have c2b1 : (a0_0 != 0) = true := bne_iff_ne.mpr c2
  by_cases c5 : a0_0 = 1
  ·rw [if_pos c5] at H
   have c5b0 : (a0_0 == 1) = true := beq_iff_eq.mpr c5
   have c5b1 : (a0_0 != 1) = false := bne_eq_false_iff_eq.mpr c5
   clear c5
   by_cases c6 : a0_1 ≥ (-549755813888)
   ·rw [if_pos c6] at H
    have c6b0 : decide ((-549755813888) ≤ a0_1) = true := decide_eq_true c6
    clear c6
    by_cases c7 : a0_1 ≤ 549755813887
    ·rw [if_pos c7] at H
     have c7b0 : decide (a0_1 ≤ 549755813887) = true := decide_eq_true c7
     clear c7
     obtain rfl := Option.some.inj H
     go_enter Tryd.func19, Tryd.ntmps19
     go_wp2_with (first | ((with_reducible refine gate_dst (N := 1) rfl ?_); (try (refine gate_guard (by rfl) ?_; dsimp only)); refine box_event ?hg (N := 1) ?hd (cs := #[.int .i64 a0_0, .int .i64 a0_1, .string a0_2]) (t := 23) ?hr ?_; (case hd => rfl); (case hg => rfl); (case hr => first | (go_simp; done) | (go_simp; rfl)); intro gb238 hg w8 hbox hb; have BK238 := Aside0.mk (hbox); have GW238 := (sizeB HB hg : Aside0 (w.heap.size ≤ gb238)); have GE238 := (sizeB HB hg : Aside0 (w.heap.size ≤ gb238)); replace HB := stepB HB hb; clear hb hbox hg; have hcz9_0 : w8.cell? ⟨gb238, 0, none⟩ = some (.int .i64 a0_0) := bc BK238 0; have hcz9_1 : w8.cell? ⟨gb238, 1, none⟩ = some (.int .i64 a0_1) := bc BK238 1; have hcz9_2 : w8.cell? ⟨gb238, 2, none⟩ = some (.string a0_2) := bc BK238 2; have hfz9_0 := blk_frozen BK238.out 0; have hfz9_1 := blk_frozen BK238.out 1; have hfz9_2 := blk_frozen BK238.out 2))
     go_ret
     exact ⟨by first | rfl | (simp [errW_none, errW_some] <;> rfl) | (simp [*, errW_none, errW_some] <;> rfl), by repeat (first | (with_reducible first | exact HB.out | apply below_alloc | apply pw_below_drewN | apply below_drew1 | refine below_set ?_ GE238.out) | exact HB.out)⟩
    ·rw [if_neg c7] at H
     have c7b0 : decide (a0_1 ≤ 549755813887) = false := decide_eq_false c7
     clear c7
     obtain rfl := Option.some.inj H
     go_enter Tryd.func19, Tryd.ntmps19
     go_wp2_with (first | ((with_reducible refine gate_dst (N := 1) rfl ?_); (try (refine gate_guard (by rfl) ?_; dsimp only)); refine box_event ?hg (N := 1) ?hd (cs := #[.int .i64 a0_0, .int .i64 a0_1, .string a0_2]) (t := 23) ?hr ?_; (case hd => rfl); (case hg => rfl); (case hr => first | (go_simp; done) | (go_simp; rfl)); intro gb238 hg w10 hbox hb; have BK238 := Aside0.mk (hbox); have GW238 := (sizeB HB hg : Aside0 (w.heap.size ≤ gb238)); have GE238 := (sizeB HB hg : Aside0 (w.heap.size ≤ gb238)); replace HB := stepB HB hb; clear hb hbox hg; have hcz11_0 : w10.cell? ⟨gb238, 0, none⟩ = some (.int .i64 a0_0) := bc BK238 0; have hcz11_1 : w10.cell? ⟨gb238, 1, none⟩ = some (.int .i64 a0_1) := bc BK238 1; have hcz11_2 : w10.cell? ⟨gb238, 2, none⟩ = some (.string a0_2) := bc BK238 2; have hfz11_0 := blk_frozen BK238.out 0; have hfz11_1 := blk_frozen BK238.out 1; have hfz11_2 := blk_frozen BK238.out 2))
     go_ret
     exact ⟨by first | rfl | (simp [errW_none, errW_some] <;> rfl) | (simp [*, errW_none, errW_some] <;> rfl), by repeat (first | (with_reducible first | exact HB.out | apply below_alloc | apply pw_below_drewN | apply below_drew1 | refine below_set ?_ GE238.out) | exact HB.out)⟩
   ·rw [if_neg c6] at H
    have c6b0 : decide ((-549755813888) ≤ a0_1) = false := decide_eq_false c6
    clear c6
    obtain rfl := Option.some.inj H
    go_enter Tryd.func19, Tryd.ntmps19
    go_wp2_with (first | ((with_reducible refine gate_dst (N := 1) rfl ?_); (try (refine gate_guard (by rfl) ?_; dsimp only)); refine box_event ?hg (N := 1) ?hd (cs := #[.int .i64 a0_0, .int .i64 a0_1, .string a0_2]) (t := 23) ?hr ?_; (case hd => rfl); (case hg => rfl); (case hr => first | (go_simp; done) | (go_simp; rfl)); intro gb238 hg w12 hbox hb; have BK238 := Aside0.mk (hbox); have GW238 := (sizeB HB hg : Aside0 (w.heap.size ≤ gb238)); have GE238 := (sizeB HB hg : Aside0 (w.heap.size ≤ gb238)); replace HB := stepB HB hb; clear hb hbox hg; have hcz13_0 : w12.cell? ⟨gb238, 0, none⟩ = some (.int .i64 a0_0) := bc BK238 0; have hcz13_1 : w12.cell? ⟨gb238, 1, none⟩ = some (.int .i64 a0_1) := bc BK238 1; have hcz13_2 : w12.cell? ⟨gb238, 2, none⟩ = some (.string a0_2) := bc BK238 2; have hfz13_0 := blk_frozen BK238.out 0; have hfz13_1 := blk_frozen BK238.out 1; have hfz13_2 := blk_frozen BK238.out 2))
    go_ret
    exact ⟨by first | rfl | (simp [errW_none, errW_some] <;> rfl) | (simp [*, errW_none, errW_some] <;> rfl), by repeat (first | (with_reducible first | exact HB.out | apply below_alloc | apply pw_below_drewN | apply below_drew1 | refine below_set ?_ GE238.out) | exact HB.out)⟩
  ·rw [if_neg c5] at H
   have c5b0 : (a0_0 == 1) = false := beq_eq_false_iff_ne.mpr c5
   have c5b1 : (a0_0 != 1) = true := bne_iff_ne.mpr c5
   by_cases c14 : a0_0 = 2
   ·rw [if_pos c14] at H
    have c14b0 : (a0_0 == 2) = true := beq_iff_eq.mpr c14
    have c14b1 : (a0_0 != 2) = false := bne_eq_false_iff_eq.mpr c14
    clear c14
    by_cases c15 : a0_1 = 0
    ·rw [if_pos c15] at H
     have c15b0 : (a0_1 == 0) = true := beq_iff_eq.mpr c15
     have c15b1 : (a0_1 != 0) = false := bne_eq_false_iff_eq.mpr c15
     clear c15
     obtain rfl := Option.some.inj H
     go_enter Tryd.func19, Tryd.ntmps19
     go_wp2_with (first | ((with_reducible refine gate_dst (N := 1) rfl ?_); (try (refine gate_guard (by rfl) ?_; dsimp only)); refine box_event ?hg (N := 1) ?hd (cs := #[.int .i64 a0_0, .int .i64 a0_1, .string a0_2]) (t := 23) ?hr ?_; (case hd => rfl); (case hg => rfl); (case hr => first | (go_simp; done) | (go_simp; rfl)); intro gb238 hg w16 hbox hb; have BK238 := Aside0.mk (hbox); have GW238 := (sizeB HB hg : Aside0 (w.heap.size ≤ gb238)); have GE238 := (sizeB HB hg : Aside0 (w.heap.size ≤ gb238)); replace HB := stepB HB hb; clear hb hbox hg; have hcz17_0 : w16.cell? ⟨gb238, 0, none⟩ = some (.int .i64 a0_0) := bc BK238 0; have hcz17_1 : w16.cell? ⟨gb238, 1, none⟩ = some (.int .i64 a0_1) := bc BK238 1; have hcz17_2 : w16.cell? ⟨gb238, 2, none⟩ = some (.string a0_2) := bc BK238 2; have hfz17_0 := blk_frozen BK238.out 0; have hfz17_1 := blk_frozen BK238.out 1; have hfz17_2 := blk_frozen BK238.out 2))
     go_ret
     exact ⟨by first | rfl | (simp [errW_none, errW_some] <;> rfl) | (simp [*, errW_none, errW_some] <;> rfl), by repeat (first | (with_reducible first | exact HB.out | apply below_alloc | apply pw_below_drewN | apply below_drew1 | refine below_set ?_ GE238.out) | exact HB.out)⟩
    ·rw [if_neg c15] at H
     have c15b0 : (a0_1 == 0) = false := beq_eq_false_iff_ne.mpr c15
     have c15b1 : (a0_1 != 0) = true := bne_iff_ne.mpr c15
     obtain rfl := Option.some.inj H
     go_enter Tryd.func19, Tryd.ntmps19
     go_wp2_with (first | ((with_reducible refine gate_dst (N := 1) rfl ?_); (try (refine gate_guard (by rfl) ?_; dsimp only)); refine box_event ?hg (N := 1) ?hd (cs := #[.int .i64 a0_0, .int .i64 a0_1, .string a0_2]) (t := 23) ?hr ?_; (case hd => rfl); (case hg => rfl); (case hr => first | (go_simp; done) | (go_simp; rfl)); intro gb238 hg w18 hbox hb; have BK238 := Aside0.mk (hbox); have GW238 := (sizeB HB hg : Aside0 (w.heap.size ≤ gb238)); have GE238 := (sizeB HB hg : Aside0 (w.heap.size ≤ gb238)); replace HB := stepB HB hb; clear hb hbox hg; have hcz19_0 : w18.cell? ⟨gb238, 0, none⟩ = some (.int .i64 a0_0) := bc BK238 0; have hcz19_1 : w18.cell? ⟨gb238, 1, none⟩ = some (.int .i64 a0_1) := bc BK238 1; have hcz19_2 : w18.cell? ⟨gb238, 2, none⟩ = some (.string a0_2) := bc BK238 2; have hfz19_0 := blk_frozen BK238.out 0; have hfz19_1 := blk_frozen BK238.out 1; have hfz19_2 := blk_frozen BK238.out 2))
     go_ret
     exact ⟨by first | rfl | (simp [errW_none, errW_some] <;> rfl) | (simp [*, errW_none, errW_some] <;> rfl), by repeat (first | (with_reducible first | exact HB.out | apply below_alloc | apply pw_below_drewN | apply below_drew1 | refine below_set ?_ GE238.out) | exact HB.out)⟩
   ·rw [if_neg c14] at H
    have c14b0 : (a0_0 == 2) = false := beq_eq_false_iff_ne.mpr c14
    have c14b1 : (a0_0 != 2) = true := bne_iff_ne.mpr c14
    by_cases c20 : a0_0 = 3
    ·rw [if_pos c20] at H
     have c20b0 : (a0_0 == 3) = true := beq_iff_eq.mpr c20
     have c20b1 : (a0_0 != 3) = false := bne_eq_false_iff_eq.mpr c20
     clear c20
     by_cases c21 : (Go.bits .andNot .i64 a0_1 1) = 0
     ·rw [if_pos c21] at H
      have c21b0 : ((Go.bits .andNot .i64 a0_1 1) == 0) = true := beq_iff_eq.mpr c21
      have c21b1 : ((Go.bits .andNot .i64 a0_1 1) != 0) = false := bne_eq_false_iff_eq.mpr c21
      clear c21
      obtain rfl := Option.some.inj H
      go_enter Tryd.func19, Tryd.ntmps19
      go_wp2_with (first | ((with_reducible refine gate_dst (N := 1) rfl ?_); (try (refine gate_guard (by rfl) ?_; dsimp only)); refine box_event ?hg (N := 1) ?hd (cs := #[.int .i64 a0_0, .int .i64 a0_1, .string a0_2]) (t := 23) ?hr ?_; (case hd => rfl); (case hg => rfl); (case hr => first | (go_simp; done) | (go_simp; rfl)); intro gb238 hg w22 hbox hb; have BK238 := Aside0.mk (hbox); have GW238 := (sizeB HB hg : Aside0 (w.heap.size ≤ gb238)); have GE238 := (sizeB HB hg : Aside0 (w.heap.size ≤ gb238)); replace HB := stepB HB hb; clear hb hbox hg; have hcz23_0 : w22.cell? ⟨gb238, 0, none⟩ = some (.int .i64 a0_0) := bc BK238 0; have hcz23_1 : w22.cell? ⟨gb238, 1, none⟩ = some (.int .i64 a0_1) := bc BK238 1; have hcz23_2 : w22.cell? ⟨gb238, 2, none⟩ = some (.string a0_2) := bc BK238 2; have hfz23_0 := blk_frozen BK238.out 0; have hfz23_1 := blk_frozen BK238.out 1; have hfz23_2 := blk_frozen BK238.out 2))
      go_ret
      exact ⟨by first | rfl | (simp [errW_none, errW_some] <;> rfl) | (simp [*, errW_none, errW_some] <;> rfl), by repeat (first | (with_reducible first | exact HB.out | apply below_alloc | apply pw_below_drewN | apply below_drew1 | refine below_set ?_ GE238.out) | exact HB.out)⟩
     ·rw [if_neg c21] at H
      have c21b0 : ((Go.bits .andNot .i64 a0_1 1) == 0) = false := beq_eq_false_iff_ne.mpr c21
      have c21b1 : ((Go.bits .andNot .i64 a0_1 1) != 0) = true := bne_iff_ne.mpr c21
      obtain rfl := Option.some.inj H
      go_enter Tryd.func19, Tryd.ntmps19
      go_wp2_with (first | ((with_reducible refine gate_dst (N := 1) rfl ?_); (try (refine gate_guard (by rfl) ?_; dsimp only)); refine box_event ?hg (N := 1) ?hd (cs := #[.int .i64 a0_0, .int .i64 a0_1, .string a0_2]) (t := 23) ?hr ?_; (case hd => rfl); (case hg => rfl); (case hr => first | (go_simp; done) | (go_simp; rfl)); intro gb238 hg w24 hbox hb; have BK238 := Aside0.mk (hbox); have GW238 := (sizeB HB hg : Aside0 (w.heap.size ≤ gb238)); have GE238 := (sizeB HB hg : Aside0 (w.heap.size ≤ gb238)); replace HB := stepB HB hb; clear hb hbox hg; have hcz25_0 : w24.cell? ⟨gb238, 0, none⟩ = some (.int .i64 a0_0) := bc BK238 0; have hcz25_1 : w24.cell? ⟨gb238, 1, none⟩ = some (.int .i64 a0_1) := bc BK238 1; have hcz25_2 : w24.cell? ⟨gb238, 2, none⟩ = some (.string a0_2) := bc BK238 2; have hfz25_0 := blk_frozen BK238.out 0; have hfz25_1 := blk_frozen BK238.out 1; have hfz25_2 := blk_frozen BK238.out 2))
      go_ret
      exact ⟨by first | rfl | (simp [errW_none, errW_some] <;> rfl) | (simp [*, errW_none, errW_some] <;> rfl), by repeat (first | (with_reducible first | exact HB.out | apply below_alloc | apply pw_below_drewN | apply below_drew1 | refine below_set ?_ GE238.out) | exact HB.out)⟩
    ·rw [if_neg c20] at H
     have c20b0 : (a0_0 == 3) = false := beq_eq_false_iff_ne.mpr c20
     have c20b1 : (a0_0 != 3) = true := bne_iff_ne.mpr c20
     obtain rfl := Option.some.inj H
     go_enter Tryd.func19, Tryd.ntmps19
     go_wp2_with (first | ((with_reducible refine gate_dst (N := 1) rfl ?_); (try (refine gate_guard (by rfl) ?_; dsimp only)); refine box_event ?hg (N := 1) ?hd (cs := #[.int .i64 a0_0, .int .i64 a0_1, .string a0_2]) (t := 23) ?hr ?_; (case hd => rfl); (case hg => rfl); (case hr => first | (go_simp; done) | (go_simp; rfl)); intro gb238 hg w26 hbox hb; have BK238 := Aside0.mk (hbox); have GW238 := (sizeB HB hg : Aside0 (w.heap.size ≤ gb238)); have GE238 := (sizeB HB hg : Aside0 (w.heap.size ≤ gb238)); replace HB := stepB HB hb; clear hb hbox hg; have hcz27_0 : w26.cell? ⟨gb238, 0, none⟩ = some (.int .i64 a0_0) := bc BK238 0; have hcz27_1 : w26.cell? ⟨gb238, 1, none⟩ = some (.int .i64 a0_1) := bc BK238 1; have hcz27_2 : w26.cell? ⟨gb238, 2, none⟩ = some (.string a0_2) := bc BK238 2; have hfz27_0 := blk_frozen BK238.out 0; have hfz27_1 := blk_frozen BK238.out 1; have hfz27_2 := blk_frozen BK238.out 2))
     go_ret
     exact ⟨by first | rfl | (simp [errW_none, errW_some] <;> rfl) | (simp [*, errW_none, errW_some] <;> rfl), by repeat (first | (with_reducible first | exact HB.out | apply below_alloc | apply pw_below_drewN | apply below_drew1 | refine below_set ?_ GE238.out) | exact HB.out)⟩
end Go.Proofs.YtmhnfdgegejlkaaDoor.P
end

section
namespace Go.Proofs.YtmhnfdgegejlkaaDoor.P
open Go.RowKit Go.Proofs.YtmhnfdgegejlkaaDoorW.PrintWords Go.Proofs.YtmhnfdgegejlkaaDoorW.PrintLast Go.Proofs.YtmhnfdgegejlkaaDoorW.PrintMore
attribute [local go_sem] max2_int min2_int max_two min_two max_three min_three max_four min_four
set_option linter.unusedVariables false
set_option linter.unusedSimpArgs false
mutual
def value_Test.j0 : Nat → Int → Bool → Int → Int → ByteArray → Int → Int → ByteArray → Option (Int × Int × ByteArray × Int)
 | 0, _, _, _, _, _, _, _, _ => none
 | k + 1, x0, x15, x118000, x118001, x118002, x119000, x119001, x119002 => if x15 = true then (some (0, 0, (⟨#[]⟩ : ByteArray), 1)) else (if x118000 = 0 then (value_Test.j1 k x0 true x118000 x118001 x118002 x119000 x119001 x119002) else (value_Test.j1 k x0 (x119000 == 0) x118000 x118001 x118002 x119000 x119001 x119002))
def value_Test.j1 : Nat → Int → Bool → Int → Int → ByteArray → Int → Int → ByteArray → Option (Int × Int × ByteArray × Int)
 | 0, _, _, _, _, _, _, _, _ => none
 | k + 1, x0, x24, x118000, x118001, x118002, x119000, x119001, x119002 => if x24 = true then (some (0, 0, (⟨#[]⟩ : ByteArray), 0)) else (if x118000 = x119000 then ((value_Compare.f k x118000 x118001 x118002 x119000 x119001 x119002).bind fun t120 => (if x0 = 7 then ((value_truth.f (!(t120 == 0))).bind fun bt121 => (some (bt121.1, bt121.2.1, bt121.2.2, 0))) else (if x0 = 6 then ((value_truth.f (t120 == 0)).bind fun bt124 => (some (bt124.1, bt124.2.1, bt124.2.2, 0))) else (if x0 = 11 then ((value_truth.f (!(decide (t120 < 0)))).bind fun bt127 => (some (bt127.1, bt127.2.1, bt127.2.2, 0))) else (if x0 = 8 then ((value_truth.f (decide (t120 < 0))).bind fun bt130 => (some (bt130.1, bt130.2.1, bt130.2.2, 0))) else (if x0 = 9 then ((value_truth.f (!(decide (t120 > 0)))).bind fun bt133 => (some (bt133.1, bt133.2.1, bt133.2.2, 0))) else ((value_truth.f (decide (t120 > 0))).bind fun bt136 => (some (bt136.1, bt136.2.1, bt136.2.2, 0))))))))) else (some (0, 0, (⟨#[]⟩ : ByteArray), 7)))
end
def value_Test.f (k : Nat) (a0 : Int) (a1_0 : Int) (a1_1 : Int) (a1_2 : ByteArray) (a2_0 : Int) (a2_1 : Int) (a2_2 : ByteArray) : Option (Int × Int × ByteArray × Int) := if a0 < 6 then (value_Test.j0 k a0 true a1_0 a1_1 a1_2 a2_0 a2_1 a2_2) else (value_Test.j0 k a0 (decide (a0 > 11)) a1_0 a1_1 a1_2 a2_0 a2_1 a2_2)
theorem value_Test.mono_l : ∀ k, (∀ y0 y1 y2 y3 y4 y5 y6 y7, LeO (value_Test.j0 k y0 y1 y2 y3 y4 y5 y6 y7) (value_Test.j0 (k + 1) y0 y1 y2 y3 y4 y5 y6 y7)) ∧ (∀ y0 y1 y2 y3 y4 y5 y6 y7, LeO (value_Test.j1 k y0 y1 y2 y3 y4 y5 y6 y7) (value_Test.j1 (k + 1) y0 y1 y2 y3 y4 y5 y6 y7))
 | 0 => ⟨fun _ _ _ _ _ _ _ _ r h => by simp [value_Test.j0] at h, fun _ _ _ _ _ _ _ _ r h => by simp [value_Test.j1] at h⟩
 | k + 1 => by
  obtain ⟨ih0, ih1⟩ := value_Test.mono_l k
  refine ⟨?_, ?_⟩
  ·intro y0 y1 y2 y3 y4 y5 y6 y7
   unfold value_Test.j0
   repeat' first
   | (with_reducible exact ih0 _ _ _ _ _ _ _ _)
   | (with_reducible exact ih1 _ _ _ _ _ _ _ _)
   | (with_reducible exact value_Compare.mono _ _ _ _ _ _ _)
   | (with_reducible exact LeO.refl _)
   | (with_reducible exact LeO.none _)
   | (with_reducible refine LeO.ite ?_ ?_)
   | (with_reducible refine LeO.bind ?_ (fun _ => ?_))
   | exact ih0 _ _ _ _ _ _ _ _
   | exact ih1 _ _ _ _ _ _ _ _
   | exact value_Compare.mono _ _ _ _ _ _ _
   | exact LeO.none _
   | refine LeO.ite ?_ ?_
   | refine LeO.bind ?_ (fun _ => ?_)
  ·intro y0 y1 y2 y3 y4 y5 y6 y7
   unfold value_Test.j1
   repeat' first
   | (with_reducible exact ih0 _ _ _ _ _ _ _ _)
   | (with_reducible exact ih1 _ _ _ _ _ _ _ _)
   | (with_reducible exact value_Compare.mono _ _ _ _ _ _ _)
   | (with_reducible exact LeO.refl _)
   | (with_reducible exact LeO.none _)
   | (with_reducible refine LeO.ite ?_ ?_)
   | (with_reducible refine LeO.bind ?_ (fun _ => ?_))
   | exact ih0 _ _ _ _ _ _ _ _
   | exact ih1 _ _ _ _ _ _ _ _
   | exact value_Compare.mono _ _ _ _ _ _ _
   | exact LeO.none _
   | refine LeO.ite ?_ ?_
   | refine LeO.bind ?_ (fun _ => ?_)
theorem value_Test.mono : ∀ a0 a1 a2 a3 a4 a5 a6 k, LeO (value_Test.f k a0 a1 a2 a3 a4 a5 a6) (value_Test.f (k + 1) a0 a1 a2 a3 a4 a5 a6) := by
 intro a0 a1 a2 a3 a4 a5 a6 k
 obtain ⟨ih0, ih1⟩ := value_Test.mono_l k
 unfold value_Test.f
 repeat' first
   | (with_reducible exact ih0 _ _ _ _ _ _ _ _)
   | (with_reducible exact ih1 _ _ _ _ _ _ _ _)
   | (with_reducible exact value_Compare.mono _ _ _ _ _ _ _)
   | (with_reducible exact LeO.refl _)
   | (with_reducible exact LeO.none _)
   | (with_reducible refine LeO.ite ?_ ?_)
   | (with_reducible refine LeO.bind ?_ (fun _ => ?_))
   | exact ih0 _ _ _ _ _ _ _ _
   | exact ih1 _ _ _ _ _ _ _ _
   | exact value_Compare.mono _ _ _ _ _ _ _
   | exact LeO.none _
   | refine LeO.ite ?_ ?_
   | refine LeO.bind ?_ (fun _ => ?_)
set_option maxHeartbeats 8000000 in
set_option maxRecDepth 100000 in
theorem value_Test.calls (k : Nat) (a0 : Int) (a1_0 : Int) (a1_1 : Int) (a1_2 : ByteArray) (a2_0 : Int) (a2_1 : Int) (a2_2 : ByteArray) (r1 : Int) (r2 : Int) (r3 : ByteArray) (r4 : Int) (w : World) (h : value_Test.f k a0 a1_0 a1_1 a1_2 a2_0 a2_1 a2_2 = some (r1, r2, r3, r4)) :
  Calls Tryd.prog 14 #[.int .i64 a0, .agg #[.int .i64 a1_0, .int .i64 a1_1, .string a1_2], .agg #[.int .i64 a2_0, .int .i64 a2_1, .string a2_2]] w fun e w' => e = .returned (.tuple #[.agg #[.int .i64 r1, .int .i64 r2, .string r3], .int .i64 r4]) ∧ Below w.heap.size w w' := by
 have hu23 := Tryd.underlying23
 have HB := Aside0.mk (Below.refl w.heap.size w)
 have H : (if a0 < 6 then (value_Test.j0 k a0 true a1_0 a1_1 a1_2 a2_0 a2_1 a2_2) else (value_Test.j0 k a0 (decide (a0 > 11)) a1_0 a1_1 a1_2 a2_0 a2_1 a2_2)) = some (r1, r2, r3, r4) := h
 clear h
 have HC4 := Aside0.mk H
 clear H
 go_enter Tryd.func14, Tryd.ntmps14
 go_upto_region 1 with (first | ((with_reducible refine gate_dst (N := 4) rfl ?_); refine box_event ?hg (N := 4) ?hd (cs := #[.int .i64 a1_0, .int .i64 a1_1, .string a1_2]) (t := 23) ?hr ?_; (case hd => rfl); (case hg => rfl); (case hr => first | (go_simp; done) | (go_simp; rfl)); intro gb117 hg w5 hbox hb; have BK117 := Aside0.mk (hbox); have GW117 := (sizeB HB hg : Aside0 (w.heap.size ≤ gb117)); have GE117 := (sizeB HB hg : Aside0 (w.heap.size ≤ gb117)); replace HB := stepB HB hb; clear hb hbox hg) | ((with_reducible refine gate_dst (N := 5) rfl ?_); refine box_event ?hg (N := 5) ?hd (cs := #[.int .i64 a2_0, .int .i64 a2_1, .string a2_2]) (t := 23) ?hr ?_; (case hd => rfl); (case hg => rfl); (case hr => first | (go_simp; done) | (go_simp; rfl)); intro gb118 hg w6 hbox hb; have BK118 := Aside0.mk (hbox); have GW118 := (sizeB HB hg : Aside0 (w.heap.size ≤ gb118)); have GE118 := (sizeB HB hg : Aside0 (w.heap.size ≤ gb118)); have NB117_118 := neB BK117 hg; have NB118_117 := neC BK117 hg; replace BK117 := blkB BK117 hb; replace HB := stepB HB hb; clear hb hbox hg) | ((with_reducible refine gate_dst (N := 6) rfl ?_); refine box_event ?hg (N := 6) ?hd (cs := #[.int .i64 0, .int .i64 0, .string (⟨#[]⟩ : ByteArray)]) (t := 23) ?hr ?_; (case hd => rfl); (case hg => rfl); (case hr => first | (go_simp; done) | (go_simp; rfl)); intro gb119 hg w7 hbox hb; have BK119 := Aside0.mk (hbox); have GW119 := (sizeB HB hg : Aside0 (w.heap.size ≤ gb119)); have GE119 := (sizeB HB hg : Aside0 (w.heap.size ≤ gb119)); have NB117_119 := neB BK117 hg; have NB119_117 := neC BK117 hg; have NB118_119 := neB BK118 hg; have NB119_118 := neC BK118 hg; replace BK117 := blkB BK117 hb; replace BK118 := blkB BK118 hb; replace HB := stepB HB hb; clear hb hbox hg))
 (try simp only [Act.put, List.setIfInBounds_toArray, List.set_cons_zero, List.set_cons_succ])
 go_cut [15] (fun v15 wc => ∃ (kq : Nat) (x15_3 : Bool), v15 = .bool x15_3 ∧ Aside0 (value_Test.j0 kq a0 x15_3 a1_0 a1_1 a1_2 a2_0 a2_1 a2_2 = some (r1, r2, r3, r4)) ∧ Aside0 (kq ≤ k) ∧ Aside0 (wc.heap[gb117]? = some (.cells #[.int .i64 a1_0, .int .i64 a1_1, .string a1_2] 23 (0, 0))) ∧ Aside0 (wc.heap[gb118]? = some (.cells #[.int .i64 a2_0, .int .i64 a2_1, .string a2_2] 23 (0, 0))) ∧ Aside0 (wc.heap[gb119]? = some (.cells #[.int .i64 0, .int .i64 0, .string (⟨#[]⟩ : ByteArray)] 23 (0, 0))) ∧ Aside0 (Below w.heap.size w wc))
 case first =>
  have H := HC4.out
  clear HC4
  by_cases c8 : a0 < 6
  ·rw [if_pos c8] at H
   have c8b0 : decide (a0 < 6) = true := decide_eq_true c8
   clear c8
   (first | rw [c8b0] | (simp only [i64_w, i32_w]; rw [c8b0]) | skip)
   have H' := Aside0.mk H
   clear H
   go_wp2
   go_meet
   case rel => exact ⟨_, (true), (by first | rfl | (simp; done) | (simp [*]; done)), H', ⟨by first | omega | exact Nat.le_refl _⟩, ⟨by (with_reducible repeat (first | refine blk_drewN ?_ _ | refine blk_drew ?_ | refine blk_alloc ?_ _)); exact BK117.out⟩, ⟨by (with_reducible repeat (first | refine blk_drewN ?_ _ | refine blk_drew ?_ | refine blk_alloc ?_ _)); exact BK118.out⟩, ⟨by (with_reducible repeat (first | refine blk_drewN ?_ _ | refine blk_drew ?_ | refine blk_alloc ?_ _)); exact BK119.out⟩, ⟨by repeat (first | (with_reducible first | exact HB.out | apply below_alloc | apply pw_below_drewN | apply below_drew1 | refine below_set ?_ GE117.out | refine below_set ?_ GE118.out | refine below_set ?_ GE119.out) | exact HB.out)⟩⟩
  ·rw [if_neg c8] at H
   have c8b0 : decide (a0 < 6) = false := decide_eq_false c8
   clear c8
   (first | rw [c8b0] | (simp only [i64_w, i32_w]; rw [c8b0]) | skip)
   have H' := Aside0.mk H
   clear H
   go_wp2
   go_meet
   case rel => exact ⟨_, (decide (a0 > 11)), (by first | rfl | (simp; done) | (simp [*]; done)), H', ⟨by first | omega | exact Nat.le_refl _⟩, ⟨by (with_reducible repeat (first | refine blk_drewN ?_ _ | refine blk_drew ?_ | refine blk_alloc ?_ _)); exact BK117.out⟩, ⟨by (with_reducible repeat (first | refine blk_drewN ?_ _ | refine blk_drew ?_ | refine blk_alloc ?_ _)); exact BK118.out⟩, ⟨by (with_reducible repeat (first | refine blk_drewN ?_ _ | refine blk_drew ?_ | refine blk_alloc ?_ _)); exact BK119.out⟩, ⟨by repeat (first | (with_reducible first | exact HB.out | apply below_alloc | apply pw_below_drewN | apply below_drew1 | refine below_set ?_ GE117.out | refine below_set ?_ GE118.out | refine below_set ?_ GE119.out) | exact HB.out)⟩⟩
 case rest =>
  clear HC4
  try clear c1
  try clear p2
  try clear c8
  try clear c8b0
  obtain ⟨kq, x15_3, rfl, HA, HJ3, BK117, BK118, BK119, HB⟩ := hcut
  cases kq with
  | zero => exact absurd HA.out (by simp [value_Test.j0])
  | succ kj3 =>
   have H := HA.out
   clear HA
   simp only [value_Test.j0] at H
   by_cases c9 : x15_3 = true
   ·subst c9
    have H1 : (some (0, 0, (⟨#[]⟩ : ByteArray), 1)) = some (r1, r2, r3, r4) := by rw [if_pos rfl] at H; exact H
    clear H
    have H := H1
    clear H1
    simp only [Option.some.injEq, Prod.mk.injEq] at H
    obtain ⟨rfl, rfl, rfl, rfl⟩ := H
    have hnb10 := NB119_117.out
    have hnc10 := NB117_119.out
    have hnb11 := NB119_118.out
    have hnc11 := NB118_119.out
    have hcz12_0 : wc.cell? ⟨gb119, 0, none⟩ = some (.int .i64 0) := bc BK119 0
    have hcz12_1 : wc.cell? ⟨gb119, 1, none⟩ = some (.int .i64 0) := bc BK119 1
    have hcz12_2 : wc.cell? ⟨gb119, 2, none⟩ = some (.string (⟨#[]⟩ : ByteArray)) := bc BK119 2
    have hfz12_0 := blk_frozen BK119.out 0
    have hfz12_1 := blk_frozen BK119.out 1
    have hfz12_2 := blk_frozen BK119.out 2
    go_wp2
    refine bodyPost_ret (results_ct rfl _ _ gb119 23 #[.int .i64 0, .int .i64 0, .string (⟨#[]⟩ : ByteArray)] (0, 0) _ rfl (by (with_reducible repeat (first | refine blk_drewN ?_ _ | refine blk_drew ?_ | refine blk_alloc ?_ _)); refine blk_put (cs := #[.int .i64 0, .int .i64 0, .string (⟨#[]⟩ : ByteArray)]) ?_ 2 _ rfl; (with_reducible repeat (first | refine blk_drewN ?_ _ | refine blk_drew ?_ | refine blk_alloc ?_ _)); refine blk_put (cs := #[.int .i64 0, .int .i64 0, .string (⟨#[]⟩ : ByteArray)]) ?_ 1 _ rfl; (with_reducible repeat (first | refine blk_drewN ?_ _ | refine blk_drew ?_ | refine blk_alloc ?_ _)); refine blk_put (cs := #[.int .i64 0, .int .i64 0, .string (⟨#[]⟩ : ByteArray)]) ?_ 0 _ rfl; (with_reducible repeat (first | refine blk_drewN ?_ _ | refine blk_drew ?_ | refine blk_alloc ?_ _)); exact BK119.out) Tryd.underlying23 rfl (by kernel_rfl)) rfl ?_
    exact ⟨by first | rfl | (simp [errW_none, errW_some] <;> rfl) | (simp [*, errW_none, errW_some] <;> rfl), by repeat (first | (with_reducible first | exact HB.out | apply below_alloc | apply pw_below_drewN | apply below_drew1 | refine below_set ?_ GE117.out | refine below_set ?_ GE118.out | refine below_set ?_ GE119.out) | exact HB.out)⟩
   ·replace c9 := Bool.eq_false_iff.mpr c9
    subst c9
    have H1 : (if a1_0 = 0 then (value_Test.j1 kj3 a0 true a1_0 a1_1 a1_2 a2_0 a2_1 a2_2) else (value_Test.j1 kj3 a0 (a2_0 == 0) a1_0 a1_1 a1_2 a2_0 a2_1 a2_2)) = some (r1, r2, r3, r4) := by rw [if_neg (show ¬ (false = true) by decide)] at H; exact H
    clear H
    have H := H1
    clear H1
    have HC13 := Aside0.mk H
    clear H
    go_upto_region 3 with (fail)
    go_cut [24] (fun v24 wc => ∃ (kq : Nat) (x24_12 : Bool), v24 = .bool x24_12 ∧ Aside0 (value_Test.j1 kq a0 x24_12 a1_0 a1_1 a1_2 a2_0 a2_1 a2_2 = some (r1, r2, r3, r4)) ∧ Aside0 (kq ≤ kj3) ∧ Aside0 (wc.heap[gb117]? = some (.cells #[.int .i64 a1_0, .int .i64 a1_1, .string a1_2] 23 (0, 0))) ∧ Aside0 (wc.heap[gb118]? = some (.cells #[.int .i64 a2_0, .int .i64 a2_1, .string a2_2] 23 (0, 0))) ∧ Aside0 (wc.heap[gb119]? = some (.cells #[.int .i64 0, .int .i64 0, .string (⟨#[]⟩ : ByteArray)] 23 (0, 0))) ∧ Aside0 (Below w.heap.size w wc))
    case first =>
     have H := HC13.out
     clear HC13
     by_cases c14 : a1_0 = 0
     ·rw [if_pos c14] at H
      have c14b0 : (a1_0 == 0) = true := beq_iff_eq.mpr c14
      have c14b1 : (a1_0 != 0) = false := bne_eq_false_iff_eq.mpr c14
      clear c14
      (first | rw [c14b0] | (simp only [i64_w, i32_w]; rw [c14b0]) | skip)
      have H' := Aside0.mk H
      clear H
      have hnb15 := NB117_118.out
      have hnc15 := NB118_117.out
      have hnb16 := NB117_119.out
      have hnc16 := NB119_117.out
      have hcz17_0 : wc.cell? ⟨gb117, 0, none⟩ = some (.int .i64 a1_0) := bc BK117 0
      have hcz17_1 : wc.cell? ⟨gb117, 1, none⟩ = some (.int .i64 a1_1) := bc BK117 1
      have hcz17_2 : wc.cell? ⟨gb117, 2, none⟩ = some (.string a1_2) := bc BK117 2
      have hfz17_0 := blk_frozen BK117.out 0
      have hfz17_1 := blk_frozen BK117.out 1
      have hfz17_2 := blk_frozen BK117.out 2
      go_wp2
      go_meet
      case rel => exact ⟨_, (true), (by first | rfl | (simp; done) | (simp [*]; done)), H', ⟨by have := HJ3.out; first | omega | exact Nat.le_refl _⟩, ⟨by (with_reducible repeat (first | refine blk_drewN ?_ _ | refine blk_drew ?_ | refine blk_alloc ?_ _)); exact BK117.out⟩, ⟨by (with_reducible repeat (first | refine blk_drewN ?_ _ | refine blk_drew ?_ | refine blk_alloc ?_ _)); exact BK118.out⟩, ⟨by (with_reducible repeat (first | refine blk_drewN ?_ _ | refine blk_drew ?_ | refine blk_alloc ?_ _)); exact BK119.out⟩, ⟨by repeat (first | (with_reducible first | exact HB.out | apply below_alloc | apply pw_below_drewN | apply below_drew1 | refine below_set ?_ GE117.out | refine below_set ?_ GE118.out | refine below_set ?_ GE119.out) | exact HB.out)⟩⟩
     ·rw [if_neg c14] at H
      have c14b0 : (a1_0 == 0) = false := beq_eq_false_iff_ne.mpr c14
      have c14b1 : (a1_0 != 0) = true := bne_iff_ne.mpr c14
      (first | rw [c14b0] | (simp only [i64_w, i32_w]; rw [c14b0]) | skip)
      have H' := Aside0.mk H
      clear H
      have hnb18 := NB117_118.out
      have hnc18 := NB118_117.out
      have hnb19 := NB117_119.out
      have hnc19 := NB119_117.out
      have hcz20_0 : wc.cell? ⟨gb117, 0, none⟩ = some (.int .i64 a1_0) := bc BK117 0
      have hcz20_1 : wc.cell? ⟨gb117, 1, none⟩ = some (.int .i64 a1_1) := bc BK117 1
      have hcz20_2 : wc.cell? ⟨gb117, 2, none⟩ = some (.string a1_2) := bc BK117 2
      have hfz20_0 := blk_frozen BK117.out 0
      have hfz20_1 := blk_frozen BK117.out 1
      have hfz20_2 := blk_frozen BK117.out 2
      have hnb21 := NB118_119.out
      have hnc21 := NB119_118.out
      have hcz22_0 : wc.cell? ⟨gb118, 0, none⟩ = some (.int .i64 a2_0) := bc BK118 0
      have hcz22_1 : wc.cell? ⟨gb118, 1, none⟩ = some (.int .i64 a2_1) := bc BK118 1
      have hcz22_2 : wc.cell? ⟨gb118, 2, none⟩ = some (.string a2_2) := bc BK118 2
      have hfz22_0 := blk_frozen BK118.out 0
      have hfz22_1 := blk_frozen BK118.out 1
      have hfz22_2 := blk_frozen BK118.out 2
      go_wp2
      go_meet
      case rel => exact ⟨_, ((a2_0 == 0)), (by first | rfl | (simp; done) | (simp [*]; done)), H', ⟨by have := HJ3.out; first | omega | exact Nat.le_refl _⟩, ⟨by (with_reducible repeat (first | refine blk_drewN ?_ _ | refine blk_drew ?_ | refine blk_alloc ?_ _)); exact BK117.out⟩, ⟨by (with_reducible repeat (first | refine blk_drewN ?_ _ | refine blk_drew ?_ | refine blk_alloc ?_ _)); exact BK118.out⟩, ⟨by (with_reducible repeat (first | refine blk_drewN ?_ _ | refine blk_drew ?_ | refine blk_alloc ?_ _)); exact BK119.out⟩, ⟨by repeat (first | (with_reducible first | exact HB.out | apply below_alloc | apply pw_below_drewN | apply below_drew1 | refine below_set ?_ GE117.out | refine below_set ?_ GE118.out | refine below_set ?_ GE119.out) | exact HB.out)⟩⟩
    case rest =>
     clear HC13
     try clear c1
     try clear c2
     try clear p2
     try clear c8
     try clear c8b0
     try clear c9
     try clear c10
     try clear c11
     try clear c14
     try clear c14b0
     try clear c14b1
     try clear c15
     try clear c16
     try clear c18
     try clear c19
     try clear c21
     try clear hcz12_0
     try clear hcz12_1
     try clear hcz12_2
     try clear hcz17_0
     try clear hcz17_1
     try clear hcz17_2
     try clear hcz20_0
     try clear hcz20_1
     try clear hcz20_2
     try clear hcz22_0
     try clear hcz22_1
     try clear hcz22_2
     try clear hfz12_0
     try clear hfz12_1
     try clear hfz12_2
     try clear hfz17_0
     try clear hfz17_1
     try clear hfz17_2
     try clear hfz20_0
     try clear hfz20_1
     try clear hfz20_2
     try clear hfz22_0
     try clear hfz22_1
     try clear hfz22_2
     try clear p2
     obtain ⟨kq, x24_12, rfl, HA, HJ12, BK117, BK118, BK119, HB⟩ := hcut
     cases kq with
     | zero => exact absurd HA.out (by simp [value_Test.j1])
     | succ kj12 =>
      have H := HA.out
      clear HA
      simp only [value_Test.j1] at H
      by_cases c23 : x24_12 = true
      ·subst c23
       have H1 : (some (0, 0, (⟨#[]⟩ : ByteArray), 0)) = some (r1, r2, r3, r4) := by rw [if_pos rfl] at H; exact H
       clear H
       have H := H1
       clear H1
       simp only [Option.some.injEq, Prod.mk.injEq] at H
       obtain ⟨rfl, rfl, rfl, rfl⟩ := H
       have hnb24 := NB119_117.out
       have hnc24 := NB117_119.out
       have hnb25 := NB119_118.out
       have hnc25 := NB118_119.out
       have hcz26_0 : wc.cell? ⟨gb119, 0, none⟩ = some (.int .i64 0) := bc BK119 0
       have hcz26_1 : wc.cell? ⟨gb119, 1, none⟩ = some (.int .i64 0) := bc BK119 1
       have hcz26_2 : wc.cell? ⟨gb119, 2, none⟩ = some (.string (⟨#[]⟩ : ByteArray)) := bc BK119 2
       have hfz26_0 := blk_frozen BK119.out 0
       have hfz26_1 := blk_frozen BK119.out 1
       have hfz26_2 := blk_frozen BK119.out 2
       go_wp2
       refine bodyPost_ret (results_ct rfl _ _ gb119 23 #[.int .i64 0, .int .i64 0, .string (⟨#[]⟩ : ByteArray)] (0, 0) _ rfl (by (with_reducible repeat (first | refine blk_drewN ?_ _ | refine blk_drew ?_ | refine blk_alloc ?_ _)); refine blk_put (cs := #[.int .i64 0, .int .i64 0, .string (⟨#[]⟩ : ByteArray)]) ?_ 2 _ rfl; (with_reducible repeat (first | refine blk_drewN ?_ _ | refine blk_drew ?_ | refine blk_alloc ?_ _)); refine blk_put (cs := #[.int .i64 0, .int .i64 0, .string (⟨#[]⟩ : ByteArray)]) ?_ 1 _ rfl; (with_reducible repeat (first | refine blk_drewN ?_ _ | refine blk_drew ?_ | refine blk_alloc ?_ _)); refine blk_put (cs := #[.int .i64 0, .int .i64 0, .string (⟨#[]⟩ : ByteArray)]) ?_ 0 _ rfl; (with_reducible repeat (first | refine blk_drewN ?_ _ | refine blk_drew ?_ | refine blk_alloc ?_ _)); exact BK119.out) Tryd.underlying23 rfl (by kernel_rfl)) rfl ?_
       exact ⟨by first | rfl | (simp [errW_none, errW_some] <;> rfl) | (simp [*, errW_none, errW_some] <;> rfl), by repeat (first | (with_reducible first | exact HB.out | apply below_alloc | apply pw_below_drewN | apply below_drew1 | refine below_set ?_ GE117.out | refine below_set ?_ GE118.out | refine below_set ?_ GE119.out) | exact HB.out)⟩
      ·replace c23 := Bool.eq_false_iff.mpr c23
       subst c23
       have H1 : (if a1_0 = a2_0 then ((value_Compare.f kj12 a1_0 a1_1 a1_2 a2_0 a2_1 a2_2).bind fun t120 => (if a0 = 7 then ((value_truth.f (!(t120 == 0))).bind fun bt121 => (some (bt121.1, bt121.2.1, bt121.2.2, 0))) else (if a0 = 6 then ((value_truth.f (t120 == 0)).bind fun bt124 => (some (bt124.1, bt124.2.1, bt124.2.2, 0))) else (if a0 = 11 then ((value_truth.f (!(decide (t120 < 0)))).bind fun bt127 => (some (bt127.1, bt127.2.1, bt127.2.2, 0))) else (if a0 = 8 then ((value_truth.f (decide (t120 < 0))).bind fun bt130 => (some (bt130.1, bt130.2.1, bt130.2.2, 0))) else (if a0 = 9 then ((value_truth.f (!(decide (t120 > 0)))).bind fun bt133 => (some (bt133.1, bt133.2.1, bt133.2.2, 0))) else ((value_truth.f (decide (t120 > 0))).bind fun bt136 => (some (bt136.1, bt136.2.1, bt136.2.2, 0))))))))) else (some (0, 0, (⟨#[]⟩ : ByteArray), 7))) = some (r1, r2, r3, r4) := by rw [if_neg (show ¬ (false = true) by decide)] at H; exact H
       clear H
       have H := H1
       clear H1
       by_cases c27 : a1_0 = a2_0
       ·rw [if_pos c27] at H
        have c27b0 : (a1_0 == a2_0) = true := beq_iff_eq.mpr c27
        have c27b1 : (a1_0 != a2_0) = false := bne_eq_false_iff_eq.mpr c27
        clear c27
        replace H := Option.bind_eq_some_iff.mp H
        obtain ⟨t120, A280, H⟩ := H
        replace H : (if a0 = 7 then ((value_truth.f (!(t120 == 0))).bind fun bt121 => (some (bt121.1, bt121.2.1, bt121.2.2, 0))) else (if a0 = 6 then ((value_truth.f (t120 == 0)).bind fun bt124 => (some (bt124.1, bt124.2.1, bt124.2.2, 0))) else (if a0 = 11 then ((value_truth.f (!(decide (t120 < 0)))).bind fun bt127 => (some (bt127.1, bt127.2.1, bt127.2.2, 0))) else (if a0 = 8 then ((value_truth.f (decide (t120 < 0))).bind fun bt130 => (some (bt130.1, bt130.2.1, bt130.2.2, 0))) else (if a0 = 9 then ((value_truth.f (!(decide (t120 > 0)))).bind fun bt133 => (some (bt133.1, bt133.2.1, bt133.2.2, 0))) else ((value_truth.f (decide (t120 > 0))).bind fun bt136 => (some (bt136.1, bt136.2.1, bt136.2.2, 0)))))))) = some (r1, r2, r3, r4) := H
        have A28 := Aside0.mk A280
        clear A280
        by_cases c29 : a0 = 7
        ·rw [if_pos c29] at H
         have c29b0 : (a0 == 7) = true := beq_iff_eq.mpr c29
         have c29b1 : (a0 != 7) = false := bne_eq_false_iff_eq.mpr c29
         clear c29
         replace H := Option.bind_eq_some_iff.mp H
         obtain ⟨⟨t121, t122, t123⟩, A300, H⟩ := H
         replace H : (some (t121, t122, t123, 0)) = some (r1, r2, r3, r4) := H
         have A30 := Aside0.mk A300
         clear A300
         simp only [Option.some.injEq, Prod.mk.injEq] at H
         obtain ⟨rfl, rfl, rfl, rfl⟩ := H
         have hnb31 := NB117_118.out
         have hnc31 := NB118_117.out
         have hnb32 := NB117_119.out
         have hnc32 := NB119_117.out
         have hcz33_0 : wc.cell? ⟨gb117, 0, none⟩ = some (.int .i64 a1_0) := bc BK117 0
         have hcz33_1 : wc.cell? ⟨gb117, 1, none⟩ = some (.int .i64 a1_1) := bc BK117 1
         have hcz33_2 : wc.cell? ⟨gb117, 2, none⟩ = some (.string a1_2) := bc BK117 2
         have hfz33_0 := blk_frozen BK117.out 0
         have hfz33_1 := blk_frozen BK117.out 1
         have hfz33_2 := blk_frozen BK117.out 2
         have hnb34 := NB118_119.out
         have hnc34 := NB119_118.out
         have hcz35_0 : wc.cell? ⟨gb118, 0, none⟩ = some (.int .i64 a2_0) := bc BK118 0
         have hcz35_1 : wc.cell? ⟨gb118, 1, none⟩ = some (.int .i64 a2_1) := bc BK118 1
         have hcz35_2 : wc.cell? ⟨gb118, 2, none⟩ = some (.string a2_2) := bc BK118 2
         have hfz35_0 := blk_frozen BK118.out 0
         have hfz35_1 := blk_frozen BK118.out 1
         have hfz35_2 := blk_frozen BK118.out 2
         go_wp2_with (first | ((with_reducible refine gate_callee (f := 13) rfl ?_); refine goesL_ (some 34) rfl rfl Tryd.func13 (by kernel_rfl) rfl #[.agg #[.int .i64 a1_0, .int .i64 a1_1, .string a1_2], .agg #[.int .i64 a2_0, .int .i64 a2_1, .string a2_2]] rfl (by (try simp only [List.map_toArray, List.map_cons, List.map_nil]); first | done | rfl | (simp only [List.length_drop, List.length_take]; rfl)) ?_; (with_reducible refine (value_Compare.calls kj12 a1_0 a1_1 a1_2 a2_0 a2_1 a2_2 t120 _ A28.out).mono ?_); rintro e w36 ⟨rfl, hb⟩; refine ⟨_, rfl, ?_⟩; replace BK117 := blkB BK117 hb; replace BK118 := blkB BK118 hb; replace BK119 := blkB BK119 hb; replace HB := stepB HB hb; (try clear hb); (try clear hb2); (try clear hk); (try clear hi)) | ((with_reducible refine gate_callee (f := 46) rfl ?_); refine goesL_ (some 50) rfl rfl Tryd.func46 (by kernel_rfl) rfl #[.bool (!(t120 == 0))] rfl (by (try simp only [List.map_toArray, List.map_cons, List.map_nil]); first | done | rfl | (simp only [List.length_drop, List.length_take]; rfl)) ?_; (with_reducible refine (value_truth.calls (!(t120 == 0)) t121 t122 t123 _ A30.out).mono ?_); rintro e w37 ⟨rfl, hb⟩; refine ⟨_, rfl, ?_⟩; replace BK117 := blkB BK117 hb; replace BK118 := blkB BK118 hb; replace BK119 := blkB BK119 hb; replace HB := stepB HB hb; (try clear hb); (try clear hb2); (try clear hk); (try clear hi); have hcz38_0 : w37.cell? ⟨gb119, 0, none⟩ = some (.int .i64 0) := bc BK119 0; have hcz38_1 : w37.cell? ⟨gb119, 1, none⟩ = some (.int .i64 0) := bc BK119 1; have hcz38_2 : w37.cell? ⟨gb119, 2, none⟩ = some (.string (⟨#[]⟩ : ByteArray)) := bc BK119 2; have hfz38_0 := blk_frozen BK119.out 0; have hfz38_1 := blk_frozen BK119.out 1; have hfz38_2 := blk_frozen BK119.out 2))
         refine bodyPost_ret (results_ct rfl _ _ gb119 23 #[.int .i64 t121, .int .i64 t122, .string t123] (0, 0) _ rfl (by (with_reducible repeat (first | refine blk_drewN ?_ _ | refine blk_drew ?_ | refine blk_alloc ?_ _)); refine blk_put (cs := #[.int .i64 t121, .int .i64 t122, .string (⟨#[]⟩ : ByteArray)]) ?_ 2 _ rfl; (with_reducible repeat (first | refine blk_drewN ?_ _ | refine blk_drew ?_ | refine blk_alloc ?_ _)); refine blk_put (cs := #[.int .i64 t121, .int .i64 0, .string (⟨#[]⟩ : ByteArray)]) ?_ 1 _ rfl; (with_reducible repeat (first | refine blk_drewN ?_ _ | refine blk_drew ?_ | refine blk_alloc ?_ _)); refine blk_put (cs := #[.int .i64 0, .int .i64 0, .string (⟨#[]⟩ : ByteArray)]) ?_ 0 _ rfl; (with_reducible repeat (first | refine blk_drewN ?_ _ | refine blk_drew ?_ | refine blk_alloc ?_ _)); exact BK119.out) Tryd.underlying23 rfl (by kernel_rfl)) rfl ?_
         exact ⟨by first | rfl | (simp [errW_none, errW_some] <;> rfl) | (simp [*, errW_none, errW_some] <;> rfl), by repeat (first | (with_reducible first | exact HB.out | apply below_alloc | apply pw_below_drewN | apply below_drew1 | refine below_set ?_ GE117.out | refine below_set ?_ GE118.out | refine below_set ?_ GE119.out) | exact HB.out)⟩
        ·rw [if_neg c29] at H
         have c29b0 : (a0 == 7) = false := beq_eq_false_iff_ne.mpr c29
         have c29b1 : (a0 != 7) = true := bne_iff_ne.mpr c29
         by_cases c39 : a0 = 6
         ·rw [if_pos c39] at H
          have c39b0 : (a0 == 6) = true := beq_iff_eq.mpr c39
          have c39b1 : (a0 != 6) = false := bne_eq_false_iff_eq.mpr c39
          clear c39
          replace H := Option.bind_eq_some_iff.mp H
          obtain ⟨⟨t124, t125, t126⟩, A400, H⟩ := H
          replace H : (some (t124, t125, t126, 0)) = some (r1, r2, r3, r4) := H
          have A40 := Aside0.mk A400
          clear A400
          simp only [Option.some.injEq, Prod.mk.injEq] at H
          obtain ⟨rfl, rfl, rfl, rfl⟩ := H
          have hnb41 := NB117_118.out
          have hnc41 := NB118_117.out
          have hnb42 := NB117_119.out
          have hnc42 := NB119_117.out
          have hcz43_0 : wc.cell? ⟨gb117, 0, none⟩ = some (.int .i64 a1_0) := bc BK117 0
          have hcz43_1 : wc.cell? ⟨gb117, 1, none⟩ = some (.int .i64 a1_1) := bc BK117 1
          have hcz43_2 : wc.cell? ⟨gb117, 2, none⟩ = some (.string a1_2) := bc BK117 2
          have hfz43_0 := blk_frozen BK117.out 0
          have hfz43_1 := blk_frozen BK117.out 1
          have hfz43_2 := blk_frozen BK117.out 2
          have hnb44 := NB118_119.out
          have hnc44 := NB119_118.out
          have hcz45_0 : wc.cell? ⟨gb118, 0, none⟩ = some (.int .i64 a2_0) := bc BK118 0
          have hcz45_1 : wc.cell? ⟨gb118, 1, none⟩ = some (.int .i64 a2_1) := bc BK118 1
          have hcz45_2 : wc.cell? ⟨gb118, 2, none⟩ = some (.string a2_2) := bc BK118 2
          have hfz45_0 := blk_frozen BK118.out 0
          have hfz45_1 := blk_frozen BK118.out 1
          have hfz45_2 := blk_frozen BK118.out 2
          go_wp2_with (first | ((with_reducible refine gate_callee (f := 13) rfl ?_); refine goesL_ (some 34) rfl rfl Tryd.func13 (by kernel_rfl) rfl #[.agg #[.int .i64 a1_0, .int .i64 a1_1, .string a1_2], .agg #[.int .i64 a2_0, .int .i64 a2_1, .string a2_2]] rfl (by (try simp only [List.map_toArray, List.map_cons, List.map_nil]); first | done | rfl | (simp only [List.length_drop, List.length_take]; rfl)) ?_; (with_reducible refine (value_Compare.calls kj12 a1_0 a1_1 a1_2 a2_0 a2_1 a2_2 t120 _ A28.out).mono ?_); rintro e w46 ⟨rfl, hb⟩; refine ⟨_, rfl, ?_⟩; replace BK117 := blkB BK117 hb; replace BK118 := blkB BK118 hb; replace BK119 := blkB BK119 hb; replace HB := stepB HB hb; (try clear hb); (try clear hb2); (try clear hk); (try clear hi)) | ((with_reducible refine gate_callee (f := 46) rfl ?_); refine goesL_ (some 50) rfl rfl Tryd.func46 (by kernel_rfl) rfl #[.bool (t120 == 0)] rfl (by (try simp only [List.map_toArray, List.map_cons, List.map_nil]); first | done | rfl | (simp only [List.length_drop, List.length_take]; rfl)) ?_; (with_reducible refine (value_truth.calls (t120 == 0) t124 t125 t126 _ A40.out).mono ?_); rintro e w47 ⟨rfl, hb⟩; refine ⟨_, rfl, ?_⟩; replace BK117 := blkB BK117 hb; replace BK118 := blkB BK118 hb; replace BK119 := blkB BK119 hb; replace HB := stepB HB hb; (try clear hb); (try clear hb2); (try clear hk); (try clear hi); have hcz48_0 : w47.cell? ⟨gb119, 0, none⟩ = some (.int .i64 0) := bc BK119 0; have hcz48_1 : w47.cell? ⟨gb119, 1, none⟩ = some (.int .i64 0) := bc BK119 1; have hcz48_2 : w47.cell? ⟨gb119, 2, none⟩ = some (.string (⟨#[]⟩ : ByteArray)) := bc BK119 2; have hfz48_0 := blk_frozen BK119.out 0; have hfz48_1 := blk_frozen BK119.out 1; have hfz48_2 := blk_frozen BK119.out 2))
          refine bodyPost_ret (results_ct rfl _ _ gb119 23 #[.int .i64 t124, .int .i64 t125, .string t126] (0, 0) _ rfl (by (with_reducible repeat (first | refine blk_drewN ?_ _ | refine blk_drew ?_ | refine blk_alloc ?_ _)); refine blk_put (cs := #[.int .i64 t124, .int .i64 t125, .string (⟨#[]⟩ : ByteArray)]) ?_ 2 _ rfl; (with_reducible repeat (first | refine blk_drewN ?_ _ | refine blk_drew ?_ | refine blk_alloc ?_ _)); refine blk_put (cs := #[.int .i64 t124, .int .i64 0, .string (⟨#[]⟩ : ByteArray)]) ?_ 1 _ rfl; (with_reducible repeat (first | refine blk_drewN ?_ _ | refine blk_drew ?_ | refine blk_alloc ?_ _)); refine blk_put (cs := #[.int .i64 0, .int .i64 0, .string (⟨#[]⟩ : ByteArray)]) ?_ 0 _ rfl; (with_reducible repeat (first | refine blk_drewN ?_ _ | refine blk_drew ?_ | refine blk_alloc ?_ _)); exact BK119.out) Tryd.underlying23 rfl (by kernel_rfl)) rfl ?_
          exact ⟨by first | rfl | (simp [errW_none, errW_some] <;> rfl) | (simp [*, errW_none, errW_some] <;> rfl), by repeat (first | (with_reducible first | exact HB.out | apply below_alloc | apply pw_below_drewN | apply below_drew1 | refine below_set ?_ GE117.out | refine below_set ?_ GE118.out | refine below_set ?_ GE119.out) | exact HB.out)⟩
         ·rw [if_neg c39] at H
          have c39b0 : (a0 == 6) = false := beq_eq_false_iff_ne.mpr c39
          have c39b1 : (a0 != 6) = true := bne_iff_ne.mpr c39
          by_cases c49 : a0 = 11
          ·rw [if_pos c49] at H
           have c49b0 : (a0 == 11) = true := beq_iff_eq.mpr c49
           have c49b1 : (a0 != 11) = false := bne_eq_false_iff_eq.mpr c49
           clear c49
           replace H := Option.bind_eq_some_iff.mp H
           obtain ⟨⟨t127, t128, t129⟩, A500, H⟩ := H
           replace H : (some (t127, t128, t129, 0)) = some (r1, r2, r3, r4) := H
           have A50 := Aside0.mk A500
           clear A500
           simp only [Option.some.injEq, Prod.mk.injEq] at H
           obtain ⟨rfl, rfl, rfl, rfl⟩ := H
           have hnb51 := NB117_118.out
           have hnc51 := NB118_117.out
           have hnb52 := NB117_119.out
           have hnc52 := NB119_117.out
           have hcz53_0 : wc.cell? ⟨gb117, 0, none⟩ = some (.int .i64 a1_0) := bc BK117 0
           have hcz53_1 : wc.cell? ⟨gb117, 1, none⟩ = some (.int .i64 a1_1) := bc BK117 1
           have hcz53_2 : wc.cell? ⟨gb117, 2, none⟩ = some (.string a1_2) := bc BK117 2
           have hfz53_0 := blk_frozen BK117.out 0
           have hfz53_1 := blk_frozen BK117.out 1
           have hfz53_2 := blk_frozen BK117.out 2
           have hnb54 := NB118_119.out
           have hnc54 := NB119_118.out
           have hcz55_0 : wc.cell? ⟨gb118, 0, none⟩ = some (.int .i64 a2_0) := bc BK118 0
           have hcz55_1 : wc.cell? ⟨gb118, 1, none⟩ = some (.int .i64 a2_1) := bc BK118 1
           have hcz55_2 : wc.cell? ⟨gb118, 2, none⟩ = some (.string a2_2) := bc BK118 2
           have hfz55_0 := blk_frozen BK118.out 0
           have hfz55_1 := blk_frozen BK118.out 1
           have hfz55_2 := blk_frozen BK118.out 2
           go_wp2_with (first | ((with_reducible refine gate_callee (f := 13) rfl ?_); refine goesL_ (some 34) rfl rfl Tryd.func13 (by kernel_rfl) rfl #[.agg #[.int .i64 a1_0, .int .i64 a1_1, .string a1_2], .agg #[.int .i64 a2_0, .int .i64 a2_1, .string a2_2]] rfl (by (try simp only [List.map_toArray, List.map_cons, List.map_nil]); first | done | rfl | (simp only [List.length_drop, List.length_take]; rfl)) ?_; (with_reducible refine (value_Compare.calls kj12 a1_0 a1_1 a1_2 a2_0 a2_1 a2_2 t120 _ A28.out).mono ?_); rintro e w56 ⟨rfl, hb⟩; refine ⟨_, rfl, ?_⟩; replace BK117 := blkB BK117 hb; replace BK118 := blkB BK118 hb; replace BK119 := blkB BK119 hb; replace HB := stepB HB hb; (try clear hb); (try clear hb2); (try clear hk); (try clear hi)) | ((with_reducible refine gate_callee (f := 46) rfl ?_); refine goesL_ (some 55) rfl rfl Tryd.func46 (by kernel_rfl) rfl #[.bool (!(decide (t120 < 0)))] rfl (by (try simp only [List.map_toArray, List.map_cons, List.map_nil]); first | done | rfl | (simp only [List.length_drop, List.length_take]; rfl)) ?_; (with_reducible refine (value_truth.calls (!(decide (t120 < 0))) t127 t128 t129 _ A50.out).mono ?_); rintro e w57 ⟨rfl, hb⟩; refine ⟨_, rfl, ?_⟩; replace BK117 := blkB BK117 hb; replace BK118 := blkB BK118 hb; replace BK119 := blkB BK119 hb; replace HB := stepB HB hb; (try clear hb); (try clear hb2); (try clear hk); (try clear hi); have hcz58_0 : w57.cell? ⟨gb119, 0, none⟩ = some (.int .i64 0) := bc BK119 0; have hcz58_1 : w57.cell? ⟨gb119, 1, none⟩ = some (.int .i64 0) := bc BK119 1; have hcz58_2 : w57.cell? ⟨gb119, 2, none⟩ = some (.string (⟨#[]⟩ : ByteArray)) := bc BK119 2; have hfz58_0 := blk_frozen BK119.out 0; have hfz58_1 := blk_frozen BK119.out 1; have hfz58_2 := blk_frozen BK119.out 2))
           refine bodyPost_ret (results_ct rfl _ _ gb119 23 #[.int .i64 t127, .int .i64 t128, .string t129] (0, 0) _ rfl (by (with_reducible repeat (first | refine blk_drewN ?_ _ | refine blk_drew ?_ | refine blk_alloc ?_ _)); refine blk_put (cs := #[.int .i64 t127, .int .i64 t128, .string (⟨#[]⟩ : ByteArray)]) ?_ 2 _ rfl; (with_reducible repeat (first | refine blk_drewN ?_ _ | refine blk_drew ?_ | refine blk_alloc ?_ _)); refine blk_put (cs := #[.int .i64 t127, .int .i64 0, .string (⟨#[]⟩ : ByteArray)]) ?_ 1 _ rfl; (with_reducible repeat (first | refine blk_drewN ?_ _ | refine blk_drew ?_ | refine blk_alloc ?_ _)); refine blk_put (cs := #[.int .i64 0, .int .i64 0, .string (⟨#[]⟩ : ByteArray)]) ?_ 0 _ rfl; (with_reducible repeat (first | refine blk_drewN ?_ _ | refine blk_drew ?_ | refine blk_alloc ?_ _)); exact BK119.out) Tryd.underlying23 rfl (by kernel_rfl)) rfl ?_
           exact ⟨by first | rfl | (simp [errW_none, errW_some] <;> rfl) | (simp [*, errW_none, errW_some] <;> rfl), by repeat (first | (with_reducible first | exact HB.out | apply below_alloc | apply pw_below_drewN | apply below_drew1 | refine below_set ?_ GE117.out | refine below_set ?_ GE118.out | refine below_set ?_ GE119.out) | exact HB.out)⟩
          ·rw [if_neg c49] at H
           have c49b0 : (a0 == 11) = false := beq_eq_false_iff_ne.mpr c49
           have c49b1 : (a0 != 11) = true := bne_iff_ne.mpr c49
           by_cases c59 : a0 = 8
           ·rw [if_pos c59] at H
            have c59b0 : (a0 == 8) = true := beq_iff_eq.mpr c59
            have c59b1 : (a0 != 8) = false := bne_eq_false_iff_eq.mpr c59
            clear c59
            replace H := Option.bind_eq_some_iff.mp H
            obtain ⟨⟨t130, t131, t132⟩, A600, H⟩ := H
            replace H : (some (t130, t131, t132, 0)) = some (r1, r2, r3, r4) := H
            have A60 := Aside0.mk A600
            clear A600
            simp only [Option.some.injEq, Prod.mk.injEq] at H
            obtain ⟨rfl, rfl, rfl, rfl⟩ := H
            have hnb61 := NB117_118.out
            have hnc61 := NB118_117.out
            have hnb62 := NB117_119.out
            have hnc62 := NB119_117.out
            have hcz63_0 : wc.cell? ⟨gb117, 0, none⟩ = some (.int .i64 a1_0) := bc BK117 0
            have hcz63_1 : wc.cell? ⟨gb117, 1, none⟩ = some (.int .i64 a1_1) := bc BK117 1
            have hcz63_2 : wc.cell? ⟨gb117, 2, none⟩ = some (.string a1_2) := bc BK117 2
            have hfz63_0 := blk_frozen BK117.out 0
            have hfz63_1 := blk_frozen BK117.out 1
            have hfz63_2 := blk_frozen BK117.out 2
            have hnb64 := NB118_119.out
            have hnc64 := NB119_118.out
            have hcz65_0 : wc.cell? ⟨gb118, 0, none⟩ = some (.int .i64 a2_0) := bc BK118 0
            have hcz65_1 : wc.cell? ⟨gb118, 1, none⟩ = some (.int .i64 a2_1) := bc BK118 1
            have hcz65_2 : wc.cell? ⟨gb118, 2, none⟩ = some (.string a2_2) := bc BK118 2
            have hfz65_0 := blk_frozen BK118.out 0
            have hfz65_1 := blk_frozen BK118.out 1
            have hfz65_2 := blk_frozen BK118.out 2
            go_wp2_with (first | ((with_reducible refine gate_callee (f := 13) rfl ?_); refine goesL_ (some 34) rfl rfl Tryd.func13 (by kernel_rfl) rfl #[.agg #[.int .i64 a1_0, .int .i64 a1_1, .string a1_2], .agg #[.int .i64 a2_0, .int .i64 a2_1, .string a2_2]] rfl (by (try simp only [List.map_toArray, List.map_cons, List.map_nil]); first | done | rfl | (simp only [List.length_drop, List.length_take]; rfl)) ?_; (with_reducible refine (value_Compare.calls kj12 a1_0 a1_1 a1_2 a2_0 a2_1 a2_2 t120 _ A28.out).mono ?_); rintro e w66 ⟨rfl, hb⟩; refine ⟨_, rfl, ?_⟩; replace BK117 := blkB BK117 hb; replace BK118 := blkB BK118 hb; replace BK119 := blkB BK119 hb; replace HB := stepB HB hb; (try clear hb); (try clear hb2); (try clear hk); (try clear hi)) | ((with_reducible refine gate_callee (f := 46) rfl ?_); refine goesL_ (some 55) rfl rfl Tryd.func46 (by kernel_rfl) rfl #[.bool (decide (t120 < 0))] rfl (by (try simp only [List.map_toArray, List.map_cons, List.map_nil]); first | done | rfl | (simp only [List.length_drop, List.length_take]; rfl)) ?_; (with_reducible refine (value_truth.calls (decide (t120 < 0)) t130 t131 t132 _ A60.out).mono ?_); rintro e w67 ⟨rfl, hb⟩; refine ⟨_, rfl, ?_⟩; replace BK117 := blkB BK117 hb; replace BK118 := blkB BK118 hb; replace BK119 := blkB BK119 hb; replace HB := stepB HB hb; (try clear hb); (try clear hb2); (try clear hk); (try clear hi); have hcz68_0 : w67.cell? ⟨gb119, 0, none⟩ = some (.int .i64 0) := bc BK119 0; have hcz68_1 : w67.cell? ⟨gb119, 1, none⟩ = some (.int .i64 0) := bc BK119 1; have hcz68_2 : w67.cell? ⟨gb119, 2, none⟩ = some (.string (⟨#[]⟩ : ByteArray)) := bc BK119 2; have hfz68_0 := blk_frozen BK119.out 0; have hfz68_1 := blk_frozen BK119.out 1; have hfz68_2 := blk_frozen BK119.out 2))
            refine bodyPost_ret (results_ct rfl _ _ gb119 23 #[.int .i64 t130, .int .i64 t131, .string t132] (0, 0) _ rfl (by (with_reducible repeat (first | refine blk_drewN ?_ _ | refine blk_drew ?_ | refine blk_alloc ?_ _)); refine blk_put (cs := #[.int .i64 t130, .int .i64 t131, .string (⟨#[]⟩ : ByteArray)]) ?_ 2 _ rfl; (with_reducible repeat (first | refine blk_drewN ?_ _ | refine blk_drew ?_ | refine blk_alloc ?_ _)); refine blk_put (cs := #[.int .i64 t130, .int .i64 0, .string (⟨#[]⟩ : ByteArray)]) ?_ 1 _ rfl; (with_reducible repeat (first | refine blk_drewN ?_ _ | refine blk_drew ?_ | refine blk_alloc ?_ _)); refine blk_put (cs := #[.int .i64 0, .int .i64 0, .string (⟨#[]⟩ : ByteArray)]) ?_ 0 _ rfl; (with_reducible repeat (first | refine blk_drewN ?_ _ | refine blk_drew ?_ | refine blk_alloc ?_ _)); exact BK119.out) Tryd.underlying23 rfl (by kernel_rfl)) rfl ?_
            exact ⟨by first | rfl | (simp [errW_none, errW_some] <;> rfl) | (simp [*, errW_none, errW_some] <;> rfl), by repeat (first | (with_reducible first | exact HB.out | apply below_alloc | apply pw_below_drewN | apply below_drew1 | refine below_set ?_ GE117.out | refine below_set ?_ GE118.out | refine below_set ?_ GE119.out) | exact HB.out)⟩
           ·rw [if_neg c59] at H
            have c59b0 : (a0 == 8) = false := beq_eq_false_iff_ne.mpr c59
            have c59b1 : (a0 != 8) = true := bne_iff_ne.mpr c59
            by_cases c69 : a0 = 9
            ·rw [if_pos c69] at H
             have c69b0 : (a0 == 9) = true := beq_iff_eq.mpr c69
             have c69b1 : (a0 != 9) = false := bne_eq_false_iff_eq.mpr c69
             clear c69
             replace H := Option.bind_eq_some_iff.mp H
             obtain ⟨⟨t133, t134, t135⟩, A700, H⟩ := H
             replace H : (some (t133, t134, t135, 0)) = some (r1, r2, r3, r4) := H
             have A70 := Aside0.mk A700
             clear A700
             simp only [Option.some.injEq, Prod.mk.injEq] at H
             obtain ⟨rfl, rfl, rfl, rfl⟩ := H
             have hnb71 := NB117_118.out
             have hnc71 := NB118_117.out
             have hnb72 := NB117_119.out
             have hnc72 := NB119_117.out
             have hcz73_0 : wc.cell? ⟨gb117, 0, none⟩ = some (.int .i64 a1_0) := bc BK117 0
             have hcz73_1 : wc.cell? ⟨gb117, 1, none⟩ = some (.int .i64 a1_1) := bc BK117 1
             have hcz73_2 : wc.cell? ⟨gb117, 2, none⟩ = some (.string a1_2) := bc BK117 2
             have hfz73_0 := blk_frozen BK117.out 0
             have hfz73_1 := blk_frozen BK117.out 1
             have hfz73_2 := blk_frozen BK117.out 2
             have hnb74 := NB118_119.out
             have hnc74 := NB119_118.out
             have hcz75_0 : wc.cell? ⟨gb118, 0, none⟩ = some (.int .i64 a2_0) := bc BK118 0
             have hcz75_1 : wc.cell? ⟨gb118, 1, none⟩ = some (.int .i64 a2_1) := bc BK118 1
             have hcz75_2 : wc.cell? ⟨gb118, 2, none⟩ = some (.string a2_2) := bc BK118 2
             have hfz75_0 := blk_frozen BK118.out 0
             have hfz75_1 := blk_frozen BK118.out 1
             have hfz75_2 := blk_frozen BK118.out 2
             go_wp2_with (first | ((with_reducible refine gate_callee (f := 13) rfl ?_); refine goesL_ (some 34) rfl rfl Tryd.func13 (by kernel_rfl) rfl #[.agg #[.int .i64 a1_0, .int .i64 a1_1, .string a1_2], .agg #[.int .i64 a2_0, .int .i64 a2_1, .string a2_2]] rfl (by (try simp only [List.map_toArray, List.map_cons, List.map_nil]); first | done | rfl | (simp only [List.length_drop, List.length_take]; rfl)) ?_; (with_reducible refine (value_Compare.calls kj12 a1_0 a1_1 a1_2 a2_0 a2_1 a2_2 t120 _ A28.out).mono ?_); rintro e w76 ⟨rfl, hb⟩; refine ⟨_, rfl, ?_⟩; replace BK117 := blkB BK117 hb; replace BK118 := blkB BK118 hb; replace BK119 := blkB BK119 hb; replace HB := stepB HB hb; (try clear hb); (try clear hb2); (try clear hk); (try clear hi)) | ((with_reducible refine gate_callee (f := 46) rfl ?_); refine goesL_ (some 60) rfl rfl Tryd.func46 (by kernel_rfl) rfl #[.bool (!(decide (t120 > 0)))] rfl (by (try simp only [List.map_toArray, List.map_cons, List.map_nil]); first | done | rfl | (simp only [List.length_drop, List.length_take]; rfl)) ?_; (with_reducible refine (value_truth.calls (!(decide (t120 > 0))) t133 t134 t135 _ A70.out).mono ?_); rintro e w77 ⟨rfl, hb⟩; refine ⟨_, rfl, ?_⟩; replace BK117 := blkB BK117 hb; replace BK118 := blkB BK118 hb; replace BK119 := blkB BK119 hb; replace HB := stepB HB hb; (try clear hb); (try clear hb2); (try clear hk); (try clear hi); have hcz78_0 : w77.cell? ⟨gb119, 0, none⟩ = some (.int .i64 0) := bc BK119 0; have hcz78_1 : w77.cell? ⟨gb119, 1, none⟩ = some (.int .i64 0) := bc BK119 1; have hcz78_2 : w77.cell? ⟨gb119, 2, none⟩ = some (.string (⟨#[]⟩ : ByteArray)) := bc BK119 2; have hfz78_0 := blk_frozen BK119.out 0; have hfz78_1 := blk_frozen BK119.out 1; have hfz78_2 := blk_frozen BK119.out 2))
             refine bodyPost_ret (results_ct rfl _ _ gb119 23 #[.int .i64 t133, .int .i64 t134, .string t135] (0, 0) _ rfl (by (with_reducible repeat (first | refine blk_drewN ?_ _ | refine blk_drew ?_ | refine blk_alloc ?_ _)); refine blk_put (cs := #[.int .i64 t133, .int .i64 t134, .string (⟨#[]⟩ : ByteArray)]) ?_ 2 _ rfl; (with_reducible repeat (first | refine blk_drewN ?_ _ | refine blk_drew ?_ | refine blk_alloc ?_ _)); refine blk_put (cs := #[.int .i64 t133, .int .i64 0, .string (⟨#[]⟩ : ByteArray)]) ?_ 1 _ rfl; (with_reducible repeat (first | refine blk_drewN ?_ _ | refine blk_drew ?_ | refine blk_alloc ?_ _)); refine blk_put (cs := #[.int .i64 0, .int .i64 0, .string (⟨#[]⟩ : ByteArray)]) ?_ 0 _ rfl; (with_reducible repeat (first | refine blk_drewN ?_ _ | refine blk_drew ?_ | refine blk_alloc ?_ _)); exact BK119.out) Tryd.underlying23 rfl (by kernel_rfl)) rfl ?_
             exact ⟨by first | rfl | (simp [errW_none, errW_some] <;> rfl) | (simp [*, errW_none, errW_some] <;> rfl), by repeat (first | (with_reducible first | exact HB.out | apply below_alloc | apply pw_below_drewN | apply below_drew1 | refine below_set ?_ GE117.out | refine below_set ?_ GE118.out | refine below_set ?_ GE119.out) | exact HB.out)⟩
            ·rw [if_neg c69] at H
             have c69b0 : (a0 == 9) = false := beq_eq_false_iff_ne.mpr c69
             have c69b1 : (a0 != 9) = true := bne_iff_ne.mpr c69
             replace H := Option.bind_eq_some_iff.mp H
             obtain ⟨⟨t136, t137, t138⟩, A790, H⟩ := H
             replace H : (some (t136, t137, t138, 0)) = some (r1, r2, r3, r4) := H
             have A79 := Aside0.mk A790
             clear A790
             simp only [Option.some.injEq, Prod.mk.injEq] at H
             obtain ⟨rfl, rfl, rfl, rfl⟩ := H
             have hnb80 := NB117_118.out
             have hnc80 := NB118_117.out
             have hnb81 := NB117_119.out
             have hnc81 := NB119_117.out
             have hcz82_0 : wc.cell? ⟨gb117, 0, none⟩ = some (.int .i64 a1_0) := bc BK117 0
             have hcz82_1 : wc.cell? ⟨gb117, 1, none⟩ = some (.int .i64 a1_1) := bc BK117 1
             have hcz82_2 : wc.cell? ⟨gb117, 2, none⟩ = some (.string a1_2) := bc BK117 2
             have hfz82_0 := blk_frozen BK117.out 0
             have hfz82_1 := blk_frozen BK117.out 1
             have hfz82_2 := blk_frozen BK117.out 2
             have hnb83 := NB118_119.out
             have hnc83 := NB119_118.out
             have hcz84_0 : wc.cell? ⟨gb118, 0, none⟩ = some (.int .i64 a2_0) := bc BK118 0
             have hcz84_1 : wc.cell? ⟨gb118, 1, none⟩ = some (.int .i64 a2_1) := bc BK118 1
             have hcz84_2 : wc.cell? ⟨gb118, 2, none⟩ = some (.string a2_2) := bc BK118 2
             have hfz84_0 := blk_frozen BK118.out 0
             have hfz84_1 := blk_frozen BK118.out 1
             have hfz84_2 := blk_frozen BK118.out 2
             go_wp2_with (first | ((with_reducible refine gate_callee (f := 13) rfl ?_); refine goesL_ (some 34) rfl rfl Tryd.func13 (by kernel_rfl) rfl #[.agg #[.int .i64 a1_0, .int .i64 a1_1, .string a1_2], .agg #[.int .i64 a2_0, .int .i64 a2_1, .string a2_2]] rfl (by (try simp only [List.map_toArray, List.map_cons, List.map_nil]); first | done | rfl | (simp only [List.length_drop, List.length_take]; rfl)) ?_; (with_reducible refine (value_Compare.calls kj12 a1_0 a1_1 a1_2 a2_0 a2_1 a2_2 t120 _ A28.out).mono ?_); rintro e w85 ⟨rfl, hb⟩; refine ⟨_, rfl, ?_⟩; replace BK117 := blkB BK117 hb; replace BK118 := blkB BK118 hb; replace BK119 := blkB BK119 hb; replace HB := stepB HB hb; (try clear hb); (try clear hb2); (try clear hk); (try clear hi)) | ((with_reducible refine gate_callee (f := 46) rfl ?_); refine goesL_ (some 60) rfl rfl Tryd.func46 (by kernel_rfl) rfl #[.bool (decide (t120 > 0))] rfl (by (try simp only [List.map_toArray, List.map_cons, List.map_nil]); first | done | rfl | (simp only [List.length_drop, List.length_take]; rfl)) ?_; (with_reducible refine (value_truth.calls (decide (t120 > 0)) t136 t137 t138 _ A79.out).mono ?_); rintro e w86 ⟨rfl, hb⟩; refine ⟨_, rfl, ?_⟩; replace BK117 := blkB BK117 hb; replace BK118 := blkB BK118 hb; replace BK119 := blkB BK119 hb; replace HB := stepB HB hb; (try clear hb); (try clear hb2); (try clear hk); (try clear hi); have hcz87_0 : w86.cell? ⟨gb119, 0, none⟩ = some (.int .i64 0) := bc BK119 0; have hcz87_1 : w86.cell? ⟨gb119, 1, none⟩ = some (.int .i64 0) := bc BK119 1; have hcz87_2 : w86.cell? ⟨gb119, 2, none⟩ = some (.string (⟨#[]⟩ : ByteArray)) := bc BK119 2; have hfz87_0 := blk_frozen BK119.out 0; have hfz87_1 := blk_frozen BK119.out 1; have hfz87_2 := blk_frozen BK119.out 2))
             refine bodyPost_ret (results_ct rfl _ _ gb119 23 #[.int .i64 t136, .int .i64 t137, .string t138] (0, 0) _ rfl (by (with_reducible repeat (first | refine blk_drewN ?_ _ | refine blk_drew ?_ | refine blk_alloc ?_ _)); refine blk_put (cs := #[.int .i64 t136, .int .i64 t137, .string (⟨#[]⟩ : ByteArray)]) ?_ 2 _ rfl; (with_reducible repeat (first | refine blk_drewN ?_ _ | refine blk_drew ?_ | refine blk_alloc ?_ _)); refine blk_put (cs := #[.int .i64 t136, .int .i64 0, .string (⟨#[]⟩ : ByteArray)]) ?_ 1 _ rfl; (with_reducible repeat (first | refine blk_drewN ?_ _ | refine blk_drew ?_ | refine blk_alloc ?_ _)); refine blk_put (cs := #[.int .i64 0, .int .i64 0, .string (⟨#[]⟩ : ByteArray)]) ?_ 0 _ rfl; (with_reducible repeat (first | refine blk_drewN ?_ _ | refine blk_drew ?_ | refine blk_alloc ?_ _)); exact BK119.out) Tryd.underlying23 rfl (by kernel_rfl)) rfl ?_
             exact ⟨by first | rfl | (simp [errW_none, errW_some] <;> rfl) | (simp [*, errW_none, errW_some] <;> rfl), by repeat (first | (with_reducible first | exact HB.out | apply below_alloc | apply pw_below_drewN | apply below_drew1 | refine below_set ?_ GE117.out | refine below_set ?_ GE118.out | refine below_set ?_ GE119.out) | exact HB.out)⟩
       ·rw [if_neg c27] at H
        have c27b0 : (a1_0 == a2_0) = false := beq_eq_false_iff_ne.mpr c27
        have c27b1 : (a1_0 != a2_0) = true := bne_iff_ne.mpr c27
        simp only [Option.some.injEq, Prod.mk.injEq] at H
        obtain ⟨rfl, rfl, rfl, rfl⟩ := H
        have hnb88 := NB117_118.out
        have hnc88 := NB118_117.out
        have hnb89 := NB117_119.out
        have hnc89 := NB119_117.out
        have hcz90_0 : wc.cell? ⟨gb117, 0, none⟩ = some (.int .i64 a1_0) := bc BK117 0
        have hcz90_1 : wc.cell? ⟨gb117, 1, none⟩ = some (.int .i64 a1_1) := bc BK117 1
        have hcz90_2 : wc.cell? ⟨gb117, 2, none⟩ = some (.string a1_2) := bc BK117 2
        have hfz90_0 := blk_frozen BK117.out 0
        have hfz90_1 := blk_frozen BK117.out 1
        have hfz90_2 := blk_frozen BK117.out 2
        have hnb91 := NB118_119.out
        have hnc91 := NB119_118.out
        have hcz92_0 : wc.cell? ⟨gb118, 0, none⟩ = some (.int .i64 a2_0) := bc BK118 0
        have hcz92_1 : wc.cell? ⟨gb118, 1, none⟩ = some (.int .i64 a2_1) := bc BK118 1
        have hcz92_2 : wc.cell? ⟨gb118, 2, none⟩ = some (.string a2_2) := bc BK118 2
        have hfz92_0 := blk_frozen BK118.out 0
        have hfz92_1 := blk_frozen BK118.out 1
        have hfz92_2 := blk_frozen BK118.out 2
        have hcz93_0 : wc.cell? ⟨gb119, 0, none⟩ = some (.int .i64 0) := bc BK119 0
        have hcz93_1 : wc.cell? ⟨gb119, 1, none⟩ = some (.int .i64 0) := bc BK119 1
        have hcz93_2 : wc.cell? ⟨gb119, 2, none⟩ = some (.string (⟨#[]⟩ : ByteArray)) := bc BK119 2
        have hfz93_0 := blk_frozen BK119.out 0
        have hfz93_1 := blk_frozen BK119.out 1
        have hfz93_2 := blk_frozen BK119.out 2
        go_wp2
        refine bodyPost_ret (results_ct rfl _ _ gb119 23 #[.int .i64 0, .int .i64 0, .string (⟨#[]⟩ : ByteArray)] (0, 0) _ rfl (by (with_reducible repeat (first | refine blk_drewN ?_ _ | refine blk_drew ?_ | refine blk_alloc ?_ _)); refine blk_put (cs := #[.int .i64 0, .int .i64 0, .string (⟨#[]⟩ : ByteArray)]) ?_ 2 _ rfl; (with_reducible repeat (first | refine blk_drewN ?_ _ | refine blk_drew ?_ | refine blk_alloc ?_ _)); refine blk_put (cs := #[.int .i64 0, .int .i64 0, .string (⟨#[]⟩ : ByteArray)]) ?_ 1 _ rfl; (with_reducible repeat (first | refine blk_drewN ?_ _ | refine blk_drew ?_ | refine blk_alloc ?_ _)); refine blk_put (cs := #[.int .i64 0, .int .i64 0, .string (⟨#[]⟩ : ByteArray)]) ?_ 0 _ rfl; (with_reducible repeat (first | refine blk_drewN ?_ _ | refine blk_drew ?_ | refine blk_alloc ?_ _)); exact BK119.out) Tryd.underlying23 rfl (by kernel_rfl)) rfl ?_
        exact ⟨by first | rfl | (simp [errW_none, errW_some] <;> rfl) | (simp [*, errW_none, errW_some] <;> rfl), by repeat (first | (with_reducible first | exact HB.out | apply below_alloc | apply pw_below_drewN | apply below_drew1 | refine below_set ?_ GE117.out | refine below_set ?_ GE118.out | refine below_set ?_ GE119.out) | exact HB.out)⟩
end Go.Proofs.YtmhnfdgegejlkaaDoor.P
end

section
namespace Go.Proofs.YtmhnfdgegejlkaaDoor.P
open Go.RowKit Go.Proofs.YtmhnfdgegejlkaaDoorW.PrintWords Go.Proofs.YtmhnfdgegejlkaaDoorW.PrintLast Go.Proofs.YtmhnfdgegejlkaaDoorW.PrintMore
attribute [local go_sem] max2_int min2_int max_two min_two max_three min_three max_four min_four
set_option linter.unusedVariables false
set_option linter.unusedSimpArgs false
attribute [local go_sem high] eqA23
mutual
def alumlaw19_sanity.j0 : Nat → Bool → Int → Int → ByteArray → Option (Bool)
 | 0, _, _, _, _ => none
 | k + 1, x12, x240000, x240001, x240002 => (alumlaw19_num.f (-549755813888)).bind fun bt289 => ((value_Key.f k (([(⟨bt289.1, bt289.2.1, bt289.2.2⟩ : S23), (⟨x240000, x240001, x240002⟩ : S23)] : List (S23))) 9).bind fun t295 => ((alumref19_SameInts.f k t295 (([1, 0, 2, 418262508548, 0] : List Int))).bind fun t301 => (if t301 = true then ((alumlaw19_num.f (-5)).bind fun bt302 => ((value_Compare.f k 0 0 (⟨#[]⟩ : ByteArray) bt302.1 bt302.2.1 bt302.2.2).bind fun t305 => (if t305 = (-1) then ((value_Compare.f k 2 0 (⟨#[98]⟩ : ByteArray) 2 0 (⟨#[97, 98]⟩ : ByteArray)).bind fun t306 => (alumlaw19_sanity.j1 k x12 (t306 == 1))) else (none)))) else (none))))
def alumlaw19_sanity.j1 : Nat → Bool → Bool → Option (Bool)
 | 0, _, _ => none
 | k + 1, x12, x14 => if x12 = true then (if x14 = true then ((value_Print.f k 2 0 (⟨#[97, 39, 10]⟩ : ByteArray)).bind fun t307 => (if t307.toList = ([39, 97, 92, 50, 55, 92, 48, 97, 39] : List UInt8) then ((alumlaw19_num.f 549755813887).bind fun bt308 => ((value_Right.f bt308.1 bt308.2.1 bt308.2.2).bind fun t311 => (if t311 = true then ((alumlaw19_num.f 549755813888).bind fun bt312 => ((value_Right.f bt312.1 bt312.2.1 bt312.2.2).bind fun t315 => (some (!t315)))) else (none)))) else (none))) else (none)) else (none)
end
def alumlaw19_sanity.f (k : Nat)  : Option (Bool) := (alumlaw19_num.f 3).bind fun bt240 => ((value_Test.f k 9 bt240.1 bt240.2.1 bt240.2.2 0 0 (⟨#[]⟩ : ByteArray)).bind fun bt243 => ((alumlaw19_num.f 3).bind fun bt248 => ((value_Test.f k 6 bt248.1 bt248.2.1 bt248.2.2 2 0 (⟨#[97, 98, 99, 100]⟩ : ByteArray)).bind fun bt251 => ((alumlaw19_num.f 2).bind fun bt256 => ((alumlaw19_num.f 3).bind fun bt259 => ((value_Test.f k 8 bt256.1 bt256.2.1 bt256.2.2 bt259.1 bt259.2.1 bt259.2.2).bind fun bt262 => ((alumref19_Bool.f false).bind fun bt267 => ((value_And.f k bt267.1 bt267.2.1 bt267.2.2 0 0 (⟨#[]⟩ : ByteArray)).bind fun bt270 => ((alumref19_Bool.f false).bind fun bt275 => ((value_Or.f k bt275.1 bt275.2.1 bt275.2.2 0 0 (⟨#[]⟩ : ByteArray)).bind fun bt278 => (if (bt243.1 == 0 && (bt243.2.1 == 0 && (bt243.2.2.1.toList == ([] : List UInt8)))) = true then (if bt243.2.2.2 = 0 then (if bt251.2.2.2 = 7 then ((alumref19_Bool.f true).bind fun bt283 => (if (bt262.1 == bt283.1 && (bt262.2.1 == bt283.2.1 && (bt262.2.2.1.toList == bt283.2.2.toList))) = true then (if bt262.2.2.2 = 0 then ((alumref19_Bool.f false).bind fun bt286 => (if (bt270.1 == bt286.1 && (bt270.2.1 == bt286.2.1 && (bt270.2.2.1.toList == bt286.2.2.toList))) = true then (if bt270.2.2.2 = 0 then (if (bt278.1 == 0 && (bt278.2.1 == 0 && (bt278.2.2.1.toList == ([] : List UInt8)))) = true then (alumlaw19_sanity.j0 k (bt278.2.2.2 == 0) 2 0 (⟨#[97, 98, 99, 100]⟩ : ByteArray)) else (none)) else (none)) else (none))) else (none)) else (none))) else (none)) else (none)) else (none))))))))))))
theorem alumlaw19_sanity.mono_l : ∀ k, (∀ y0 y1 y2 y3, LeO (alumlaw19_sanity.j0 k y0 y1 y2 y3) (alumlaw19_sanity.j0 (k + 1) y0 y1 y2 y3)) ∧ (∀ y0 y1, LeO (alumlaw19_sanity.j1 k y0 y1) (alumlaw19_sanity.j1 (k + 1) y0 y1))
 | 0 => ⟨fun _ _ _ _ r h => by simp [alumlaw19_sanity.j0] at h, fun _ _ r h => by simp [alumlaw19_sanity.j1] at h⟩
 | k + 1 => by
  obtain ⟨ih0, ih1⟩ := alumlaw19_sanity.mono_l k
  refine ⟨?_, ?_⟩
  ·intro y0 y1 y2 y3
   unfold alumlaw19_sanity.j0
   repeat' first
   | (with_reducible exact ih0 _ _ _ _)
   | (with_reducible exact ih1 _ _)
   | (with_reducible exact alumref19_SameInts.mono _ _ _)
   | (with_reducible exact value_And.mono _ _ _ _ _ _ _)
   | (with_reducible exact value_Compare.mono _ _ _ _ _ _ _)
   | (with_reducible exact value_Key.mono _ _ _)
   | (with_reducible exact value_Or.mono _ _ _ _ _ _ _)
   | (with_reducible exact value_Print.mono _ _ _ _)
   | (with_reducible exact value_Test.mono _ _ _ _ _ _ _ _)
   | (with_reducible exact LeO.refl _)
   | (with_reducible exact LeO.none _)
   | (with_reducible refine LeO.ite ?_ ?_)
   | (with_reducible refine LeO.bind ?_ (fun _ => ?_))
   | exact ih0 _ _ _ _
   | exact ih1 _ _
   | exact alumref19_SameInts.mono _ _ _
   | exact value_And.mono _ _ _ _ _ _ _
   | exact value_Compare.mono _ _ _ _ _ _ _
   | exact value_Key.mono _ _ _
   | exact value_Or.mono _ _ _ _ _ _ _
   | exact value_Print.mono _ _ _ _
   | exact value_Test.mono _ _ _ _ _ _ _ _
   | exact LeO.none _
   | refine LeO.ite ?_ ?_
   | refine LeO.bind ?_ (fun _ => ?_)
  ·intro y0 y1
   unfold alumlaw19_sanity.j1
   repeat' first
   | (with_reducible exact ih0 _ _ _ _)
   | (with_reducible exact ih1 _ _)
   | (with_reducible exact alumref19_SameInts.mono _ _ _)
   | (with_reducible exact value_And.mono _ _ _ _ _ _ _)
   | (with_reducible exact value_Compare.mono _ _ _ _ _ _ _)
   | (with_reducible exact value_Key.mono _ _ _)
   | (with_reducible exact value_Or.mono _ _ _ _ _ _ _)
   | (with_reducible exact value_Print.mono _ _ _ _)
   | (with_reducible exact value_Test.mono _ _ _ _ _ _ _ _)
   | (with_reducible exact LeO.refl _)
   | (with_reducible exact LeO.none _)
   | (with_reducible refine LeO.ite ?_ ?_)
   | (with_reducible refine LeO.bind ?_ (fun _ => ?_))
   | exact ih0 _ _ _ _
   | exact ih1 _ _
   | exact alumref19_SameInts.mono _ _ _
   | exact value_And.mono _ _ _ _ _ _ _
   | exact value_Compare.mono _ _ _ _ _ _ _
   | exact value_Key.mono _ _ _
   | exact value_Or.mono _ _ _ _ _ _ _
   | exact value_Print.mono _ _ _ _
   | exact value_Test.mono _ _ _ _ _ _ _ _
   | exact LeO.none _
   | refine LeO.ite ?_ ?_
   | refine LeO.bind ?_ (fun _ => ?_)
theorem alumlaw19_sanity.mono : ∀ k, LeO (alumlaw19_sanity.f k ) (alumlaw19_sanity.f (k + 1) ) := by
 intro  k
 obtain ⟨ih0, ih1⟩ := alumlaw19_sanity.mono_l k
 unfold alumlaw19_sanity.f
 repeat' first
   | (with_reducible exact ih0 _ _ _ _)
   | (with_reducible exact ih1 _ _)
   | (with_reducible exact alumref19_SameInts.mono _ _ _)
   | (with_reducible exact value_And.mono _ _ _ _ _ _ _)
   | (with_reducible exact value_Compare.mono _ _ _ _ _ _ _)
   | (with_reducible exact value_Key.mono _ _ _)
   | (with_reducible exact value_Or.mono _ _ _ _ _ _ _)
   | (with_reducible exact value_Print.mono _ _ _ _)
   | (with_reducible exact value_Test.mono _ _ _ _ _ _ _ _)
   | (with_reducible exact LeO.refl _)
   | (with_reducible exact LeO.none _)
   | (with_reducible refine LeO.ite ?_ ?_)
   | (with_reducible refine LeO.bind ?_ (fun _ => ?_))
   | exact ih0 _ _ _ _
   | exact ih1 _ _
   | exact alumref19_SameInts.mono _ _ _
   | exact value_And.mono _ _ _ _ _ _ _
   | exact value_Compare.mono _ _ _ _ _ _ _
   | exact value_Key.mono _ _ _
   | exact value_Or.mono _ _ _ _ _ _ _
   | exact value_Print.mono _ _ _ _
   | exact value_Test.mono _ _ _ _ _ _ _ _
   | exact LeO.none _
   | refine LeO.ite ?_ ?_
   | refine LeO.bind ?_ (fun _ => ?_)
def alumlaw19_sanity.T3 : Bool × List (List Nat × List Nat) := (true, [([], []), ([], []), ([0, 1, 0], [0, 1]), ([2], [2]), ([3], [3]), ([3], [3]), ([], []), ([6, 4, 2, 0, 1, 2, 3, 4, 6], [4, 6]), ([5, 7, 0, 1, 2, 3, 4, 5, 6, 7], [5])])
def alumlaw19_sanity.B3 : List Nat := [0, 0, 3, 7, 15, 15, 0, 95, 255]
theorem alumlaw19_sanity.tab3 : rtab .any (opsOf Tryd.f12 3) = alumlaw19_sanity.T3 := by kernel_rfl
theorem alumlaw19_sanity.bits3 : waitsOk alumlaw19_sanity.T3.2 alumlaw19_sanity.B3 = true := by kernel_rfl
def alumlaw19_sanity.T7 : Bool × List (List Nat × List Nat) := (true, [([], []), ([], []), ([0, 1], [0, 1]), ([2], [2]), ([3], [3]), ([4, 3], [3, 4]), ([3, 5], [3, 5]), ([6, 3], [6]), ([7], [7]), ([8, 7], [7, 8]), ([7, 9], [7, 9]), ([10, 7], [10]), ([11], [11]), ([11, 11], [11]), ([12, 13, 11], [11, 12, 13]), ([11, 14], [11, 14]), ([15, 13], [15]), ([16], [16]), ([17, 16], [16, 17]), ([16, 18], [16, 18]), ([19, 16], [19]), ([20], [20]), ([20, 20], [20]), ([21, 22, 20], [20, 21, 22]), ([20, 23], [20, 23]), ([24, 22], [24]), ([25], [25]), ([26, 25], [25, 26]), ([25, 27], [25, 27]), ([28, 25], [28]), ([29], [29]), ([29], [29]), ([30, 31, 29], [29, 30, 31]), ([29, 32], [29, 32]), ([33, 29], [33]), ([34], [34]), ([35, 34], [34, 35]), ([34, 36], [34, 36]), ([37, 34, 0, 1, 2, 3, 4, 5, 6, 7, 8, 9, 10, 11, 12, 13, 14, 15, 16, 17, 18, 19, 20, 21, 22, 23, 24, 25, 26, 27, 28, 29, 30, 31, 32, 33, 34, 35, 36, 37], [37])])
def alumlaw19_sanity.B7 : List Nat := [0, 0, 3, 7, 15, 31, 63, 127, 255, 511, 1023, 2047, 4095, 4095, 16383, 32767, 65535, 131071, 262143, 524287, 1048575, 2097151, 2097151, 8388607, 16777215, 33554431, 67108863, 134217727, 268435455, 536870911, 1073741823, 1073741823, 4294967295, 8589934591, 17179869183, 34359738367, 68719476735, 137438953471, 274877906943]
theorem alumlaw19_sanity.tab7 : rtab .any (opsOf Tryd.f12 7) = alumlaw19_sanity.T7 := by kernel_rfl
theorem alumlaw19_sanity.bits7 : waitsOk alumlaw19_sanity.T7.2 alumlaw19_sanity.B7 = true := by kernel_rfl
set_option maxHeartbeats 8000000 in
set_option maxRecDepth 100000 in
theorem alumlaw19_sanity.calls (k : Nat)  (r : Bool) (w : World) (h : alumlaw19_sanity.f k  = some r) :
  Calls Tryd.prog 12 #[] w fun e w' => e = .returned (.bool r) ∧ Below w.heap.size w w' := by
 have hu23 := Tryd.underlying23
 have HB := Aside0.mk (Below.refl w.heap.size w)
 have H : ((alumlaw19_num.f 3).bind fun bt240 => ((value_Test.f k 9 bt240.1 bt240.2.1 bt240.2.2 0 0 (⟨#[]⟩ : ByteArray)).bind fun bt243 => ((alumlaw19_num.f 3).bind fun bt248 => ((value_Test.f k 6 bt248.1 bt248.2.1 bt248.2.2 2 0 (⟨#[97, 98, 99, 100]⟩ : ByteArray)).bind fun bt251 => ((alumlaw19_num.f 2).bind fun bt256 => ((alumlaw19_num.f 3).bind fun bt259 => ((value_Test.f k 8 bt256.1 bt256.2.1 bt256.2.2 bt259.1 bt259.2.1 bt259.2.2).bind fun bt262 => ((alumref19_Bool.f false).bind fun bt267 => ((value_And.f k bt267.1 bt267.2.1 bt267.2.2 0 0 (⟨#[]⟩ : ByteArray)).bind fun bt270 => ((alumref19_Bool.f false).bind fun bt275 => ((value_Or.f k bt275.1 bt275.2.1 bt275.2.2 0 0 (⟨#[]⟩ : ByteArray)).bind fun bt278 => (if (bt243.1 == 0 && (bt243.2.1 == 0 && (bt243.2.2.1.toList == ([] : List UInt8)))) = true then (if bt243.2.2.2 = 0 then (if bt251.2.2.2 = 7 then ((alumref19_Bool.f true).bind fun bt283 => (if (bt262.1 == bt283.1 && (bt262.2.1 == bt283.2.1 && (bt262.2.2.1.toList == bt283.2.2.toList))) = true then (if bt262.2.2.2 = 0 then ((alumref19_Bool.f false).bind fun bt286 => (if (bt270.1 == bt286.1 && (bt270.2.1 == bt286.2.1 && (bt270.2.2.1.toList == bt286.2.2.toList))) = true then (if bt270.2.2.2 = 0 then (if (bt278.1 == 0 && (bt278.2.1 == 0 && (bt278.2.2.1.toList == ([] : List UInt8)))) = true then (alumlaw19_sanity.j0 k (bt278.2.2.2 == 0) 2 0 (⟨#[97, 98, 99, 100]⟩ : ByteArray)) else (none)) else (none)) else (none))) else (none)) else (none))) else (none)) else (none)) else (none))))))))))))) = some r := h
 clear h
 replace H := Option.bind_eq_some_iff.mp H
 obtain ⟨⟨t240, t241, t242⟩, A10, H⟩ := H
 replace H : ((value_Test.f k 9 t240 t241 t242 0 0 (⟨#[]⟩ : ByteArray)).bind fun bt243 => ((alumlaw19_num.f 3).bind fun bt248 => ((value_Test.f k 6 bt248.1 bt248.2.1 bt248.2.2 2 0 (⟨#[97, 98, 99, 100]⟩ : ByteArray)).bind fun bt251 => ((alumlaw19_num.f 2).bind fun bt256 => ((alumlaw19_num.f 3).bind fun bt259 => ((value_Test.f k 8 bt256.1 bt256.2.1 bt256.2.2 bt259.1 bt259.2.1 bt259.2.2).bind fun bt262 => ((alumref19_Bool.f false).bind fun bt267 => ((value_And.f k bt267.1 bt267.2.1 bt267.2.2 0 0 (⟨#[]⟩ : ByteArray)).bind fun bt270 => ((alumref19_Bool.f false).bind fun bt275 => ((value_Or.f k bt275.1 bt275.2.1 bt275.2.2 0 0 (⟨#[]⟩ : ByteArray)).bind fun bt278 => (if (bt243.1 == 0 && (bt243.2.1 == 0 && (bt243.2.2.1.toList == ([] : List UInt8)))) = true then (if bt243.2.2.2 = 0 then (if bt251.2.2.2 = 7 then ((alumref19_Bool.f true).bind fun bt283 => (if (bt262.1 == bt283.1 && (bt262.2.1 == bt283.2.1 && (bt262.2.2.1.toList == bt283.2.2.toList))) = true then (if bt262.2.2.2 = 0 then ((alumref19_Bool.f false).bind fun bt286 => (if (bt270.1 == bt286.1 && (bt270.2.1 == bt286.2.1 && (bt270.2.2.1.toList == bt286.2.2.toList))) = true then (if bt270.2.2.2 = 0 then (if (bt278.1 == 0 && (bt278.2.1 == 0 && (bt278.2.2.1.toList == ([] : List UInt8)))) = true then (alumlaw19_sanity.j0 k (bt278.2.2.2 == 0) 2 0 (⟨#[97, 98, 99, 100]⟩ : ByteArray)) else (none)) else (none)) else (none))) else (none)) else (none))) else (none)) else (none)) else (none)))))))))))) = some r := H
 have A1 := Aside0.mk A10
 clear A10
 replace H := Option.bind_eq_some_iff.mp H
 obtain ⟨⟨t243, t244, t245, t246⟩, A20, H⟩ := H
 replace H : ((alumlaw19_num.f 3).bind fun bt248 => ((value_Test.f k 6 bt248.1 bt248.2.1 bt248.2.2 2 0 (⟨#[97, 98, 99, 100]⟩ : ByteArray)).bind fun bt251 => ((alumlaw19_num.f 2).bind fun bt256 => ((alumlaw19_num.f 3).bind fun bt259 => ((value_Test.f k 8 bt256.1 bt256.2.1 bt256.2.2 bt259.1 bt259.2.1 bt259.2.2).bind fun bt262 => ((alumref19_Bool.f false).bind fun bt267 => ((value_And.f k bt267.1 bt267.2.1 bt267.2.2 0 0 (⟨#[]⟩ : ByteArray)).bind fun bt270 => ((alumref19_Bool.f false).bind fun bt275 => ((value_Or.f k bt275.1 bt275.2.1 bt275.2.2 0 0 (⟨#[]⟩ : ByteArray)).bind fun bt278 => (if (t243 == 0 && (t244 == 0 && (t245.toList == ([] : List UInt8)))) = true then (if t246 = 0 then (if bt251.2.2.2 = 7 then ((alumref19_Bool.f true).bind fun bt283 => (if (bt262.1 == bt283.1 && (bt262.2.1 == bt283.2.1 && (bt262.2.2.1.toList == bt283.2.2.toList))) = true then (if bt262.2.2.2 = 0 then ((alumref19_Bool.f false).bind fun bt286 => (if (bt270.1 == bt286.1 && (bt270.2.1 == bt286.2.1 && (bt270.2.2.1.toList == bt286.2.2.toList))) = true then (if bt270.2.2.2 = 0 then (if (bt278.1 == 0 && (bt278.2.1 == 0 && (bt278.2.2.1.toList == ([] : List UInt8)))) = true then (alumlaw19_sanity.j0 k (bt278.2.2.2 == 0) 2 0 (⟨#[97, 98, 99, 100]⟩ : ByteArray)) else (none)) else (none)) else (none))) else (none)) else (none))) else (none)) else (none)) else (none))))))))))) = some r := H
 have A2 := Aside0.mk A20
 clear A20
 replace H := Option.bind_eq_some_iff.mp H
 obtain ⟨⟨t248, t249, t250⟩, A30, H⟩ := H
 replace H : ((value_Test.f k 6 t248 t249 t250 2 0 (⟨#[97, 98, 99, 100]⟩ : ByteArray)).bind fun bt251 => ((alumlaw19_num.f 2).bind fun bt256 => ((alumlaw19_num.f 3).bind fun bt259 => ((value_Test.f k 8 bt256.1 bt256.2.1 bt256.2.2 bt259.1 bt259.2.1 bt259.2.2).bind fun bt262 => ((alumref19_Bool.f false).bind fun bt267 => ((value_And.f k bt267.1 bt267.2.1 bt267.2.2 0 0 (⟨#[]⟩ : ByteArray)).bind fun bt270 => ((alumref19_Bool.f false).bind fun bt275 => ((value_Or.f k bt275.1 bt275.2.1 bt275.2.2 0 0 (⟨#[]⟩ : ByteArray)).bind fun bt278 => (if (t243 == 0 && (t244 == 0 && (t245.toList == ([] : List UInt8)))) = true then (if t246 = 0 then (if bt251.2.2.2 = 7 then ((alumref19_Bool.f true).bind fun bt283 => (if (bt262.1 == bt283.1 && (bt262.2.1 == bt283.2.1 && (bt262.2.2.1.toList == bt283.2.2.toList))) = true then (if bt262.2.2.2 = 0 then ((alumref19_Bool.f false).bind fun bt286 => (if (bt270.1 == bt286.1 && (bt270.2.1 == bt286.2.1 && (bt270.2.2.1.toList == bt286.2.2.toList))) = true then (if bt270.2.2.2 = 0 then (if (bt278.1 == 0 && (bt278.2.1 == 0 && (bt278.2.2.1.toList == ([] : List UInt8)))) = true then (alumlaw19_sanity.j0 k (bt278.2.2.2 == 0) 2 0 (⟨#[97, 98, 99, 100]⟩ : ByteArray)) else (none)) else (none)) else (none))) else (none)) else (none))) else (none)) else (none)) else (none)))))))))) = some r := H
 have A3 := Aside0.mk A30
 clear A30
 replace H := Option.bind_eq_some_iff.mp H
 obtain ⟨⟨t251, t252, t253, t254⟩, A40, H⟩ := H
 replace H : ((alumlaw19_num.f 2).bind fun bt256 => ((alumlaw19_num.f 3).bind fun bt259 => ((value_Test.f k 8 bt256.1 bt256.2.1 bt256.2.2 bt259.1 bt259.2.1 bt259.2.2).bind fun bt262 => ((alumref19_Bool.f false).bind fun bt267 => ((value_And.f k bt267.1 bt267.2.1 bt267.2.2 0 0 (⟨#[]⟩ : ByteArray)).bind fun bt270 => ((alumref19_Bool.f false).bind fun bt275 => ((value_Or.f k bt275.1 bt275.2.1 bt275.2.2 0 0 (⟨#[]⟩ : ByteArray)).bind fun bt278 => (if (t243 == 0 && (t244 == 0 && (t245.toList == ([] : List UInt8)))) = true then (if t246 = 0 then (if t254 = 7 then ((alumref19_Bool.f true).bind fun bt283 => (if (bt262.1 == bt283.1 && (bt262.2.1 == bt283.2.1 && (bt262.2.2.1.toList == bt283.2.2.toList))) = true then (if bt262.2.2.2 = 0 then ((alumref19_Bool.f false).bind fun bt286 => (if (bt270.1 == bt286.1 && (bt270.2.1 == bt286.2.1 && (bt270.2.2.1.toList == bt286.2.2.toList))) = true then (if bt270.2.2.2 = 0 then (if (bt278.1 == 0 && (bt278.2.1 == 0 && (bt278.2.2.1.toList == ([] : List UInt8)))) = true then (alumlaw19_sanity.j0 k (bt278.2.2.2 == 0) 2 0 (⟨#[97, 98, 99, 100]⟩ : ByteArray)) else (none)) else (none)) else (none))) else (none)) else (none))) else (none)) else (none)) else (none))))))))) = some r := H
 have A4 := Aside0.mk A40
 clear A40
 replace H := Option.bind_eq_some_iff.mp H
 obtain ⟨⟨t256, t257, t258⟩, A50, H⟩ := H
 replace H : ((alumlaw19_num.f 3).bind fun bt259 => ((value_Test.f k 8 t256 t257 t258 bt259.1 bt259.2.1 bt259.2.2).bind fun bt262 => ((alumref19_Bool.f false).bind fun bt267 => ((value_And.f k bt267.1 bt267.2.1 bt267.2.2 0 0 (⟨#[]⟩ : ByteArray)).bind fun bt270 => ((alumref19_Bool.f false).bind fun bt275 => ((value_Or.f k bt275.1 bt275.2.1 bt275.2.2 0 0 (⟨#[]⟩ : ByteArray)).bind fun bt278 => (if (t243 == 0 && (t244 == 0 && (t245.toList == ([] : List UInt8)))) = true then (if t246 = 0 then (if t254 = 7 then ((alumref19_Bool.f true).bind fun bt283 => (if (bt262.1 == bt283.1 && (bt262.2.1 == bt283.2.1 && (bt262.2.2.1.toList == bt283.2.2.toList))) = true then (if bt262.2.2.2 = 0 then ((alumref19_Bool.f false).bind fun bt286 => (if (bt270.1 == bt286.1 && (bt270.2.1 == bt286.2.1 && (bt270.2.2.1.toList == bt286.2.2.toList))) = true then (if bt270.2.2.2 = 0 then (if (bt278.1 == 0 && (bt278.2.1 == 0 && (bt278.2.2.1.toList == ([] : List UInt8)))) = true then (alumlaw19_sanity.j0 k (bt278.2.2.2 == 0) 2 0 (⟨#[97, 98, 99, 100]⟩ : ByteArray)) else (none)) else (none)) else (none))) else (none)) else (none))) else (none)) else (none)) else (none)))))))) = some r := H
 have A5 := Aside0.mk A50
 clear A50
 replace H := Option.bind_eq_some_iff.mp H
 obtain ⟨⟨t259, t260, t261⟩, A60, H⟩ := H
 replace H : ((value_Test.f k 8 t256 t257 t258 t259 t260 t261).bind fun bt262 => ((alumref19_Bool.f false).bind fun bt267 => ((value_And.f k bt267.1 bt267.2.1 bt267.2.2 0 0 (⟨#[]⟩ : ByteArray)).bind fun bt270 => ((alumref19_Bool.f false).bind fun bt275 => ((value_Or.f k bt275.1 bt275.2.1 bt275.2.2 0 0 (⟨#[]⟩ : ByteArray)).bind fun bt278 => (if (t243 == 0 && (t244 == 0 && (t245.toList == ([] : List UInt8)))) = true then (if t246 = 0 then (if t254 = 7 then ((alumref19_Bool.f true).bind fun bt283 => (if (bt262.1 == bt283.1 && (bt262.2.1 == bt283.2.1 && (bt262.2.2.1.toList == bt283.2.2.toList))) = true then (if bt262.2.2.2 = 0 then ((alumref19_Bool.f false).bind fun bt286 => (if (bt270.1 == bt286.1 && (bt270.2.1 == bt286.2.1 && (bt270.2.2.1.toList == bt286.2.2.toList))) = true then (if bt270.2.2.2 = 0 then (if (bt278.1 == 0 && (bt278.2.1 == 0 && (bt278.2.2.1.toList == ([] : List UInt8)))) = true then (alumlaw19_sanity.j0 k (bt278.2.2.2 == 0) 2 0 (⟨#[97, 98, 99, 100]⟩ : ByteArray)) else (none)) else (none)) else (none))) else (none)) else (none))) else (none)) else (none)) else (none))))))) = some r := H
 have A6 := Aside0.mk A60
 clear A60
 replace H := Option.bind_eq_some_iff.mp H
 obtain ⟨⟨t262, t263, t264, t265⟩, A70, H⟩ := H
 replace H : ((alumref19_Bool.f false).bind fun bt267 => ((value_And.f k bt267.1 bt267.2.1 bt267.2.2 0 0 (⟨#[]⟩ : ByteArray)).bind fun bt270 => ((alumref19_Bool.f false).bind fun bt275 => ((value_Or.f k bt275.1 bt275.2.1 bt275.2.2 0 0 (⟨#[]⟩ : ByteArray)).bind fun bt278 => (if (t243 == 0 && (t244 == 0 && (t245.toList == ([] : List UInt8)))) = true then (if t246 = 0 then (if t254 = 7 then ((alumref19_Bool.f true).bind fun bt283 => (if (t262 == bt283.1 && (t263 == bt283.2.1 && (t264.toList == bt283.2.2.toList))) = true then (if t265 = 0 then ((alumref19_Bool.f false).bind fun bt286 => (if (bt270.1 == bt286.1 && (bt270.2.1 == bt286.2.1 && (bt270.2.2.1.toList == bt286.2.2.toList))) = true then (if bt270.2.2.2 = 0 then (if (bt278.1 == 0 && (bt278.2.1 == 0 && (bt278.2.2.1.toList == ([] : List UInt8)))) = true then (alumlaw19_sanity.j0 k (bt278.2.2.2 == 0) 2 0 (⟨#[97, 98, 99, 100]⟩ : ByteArray)) else (none)) else (none)) else (none))) else (none)) else (none))) else (none)) else (none)) else (none)))))) = some r := H
 have A7 := Aside0.mk A70
 clear A70
 replace H := Option.bind_eq_some_iff.mp H
 obtain ⟨⟨t267, t268, t269⟩, A80, H⟩ := H
 replace H : ((value_And.f k t267 t268 t269 0 0 (⟨#[]⟩ : ByteArray)).bind fun bt270 => ((alumref19_Bool.f false).bind fun bt275 => ((value_Or.f k bt275.1 bt275.2.1 bt275.2.2 0 0 (⟨#[]⟩ : ByteArray)).bind fun bt278 => (if (t243 == 0 && (t244 == 0 && (t245.toList == ([] : List UInt8)))) = true then (if t246 = 0 then (if t254 = 7 then ((alumref19_Bool.f true).bind fun bt283 => (if (t262 == bt283.1 && (t263 == bt283.2.1 && (t264.toList == bt283.2.2.toList))) = true then (if t265 = 0 then ((alumref19_Bool.f false).bind fun bt286 => (if (bt270.1 == bt286.1 && (bt270.2.1 == bt286.2.1 && (bt270.2.2.1.toList == bt286.2.2.toList))) = true then (if bt270.2.2.2 = 0 then (if (bt278.1 == 0 && (bt278.2.1 == 0 && (bt278.2.2.1.toList == ([] : List UInt8)))) = true then (alumlaw19_sanity.j0 k (bt278.2.2.2 == 0) 2 0 (⟨#[97, 98, 99, 100]⟩ : ByteArray)) else (none)) else (none)) else (none))) else (none)) else (none))) else (none)) else (none)) else (none))))) = some r := H
 have A8 := Aside0.mk A80
 clear A80
 replace H := Option.bind_eq_some_iff.mp H
 obtain ⟨⟨t270, t271, t272, t273⟩, A90, H⟩ := H
 replace H : ((alumref19_Bool.f false).bind fun bt275 => ((value_Or.f k bt275.1 bt275.2.1 bt275.2.2 0 0 (⟨#[]⟩ : ByteArray)).bind fun bt278 => (if (t243 == 0 && (t244 == 0 && (t245.toList == ([] : List UInt8)))) = true then (if t246 = 0 then (if t254 = 7 then ((alumref19_Bool.f true).bind fun bt283 => (if (t262 == bt283.1 && (t263 == bt283.2.1 && (t264.toList == bt283.2.2.toList))) = true then (if t265 = 0 then ((alumref19_Bool.f false).bind fun bt286 => (if (t270 == bt286.1 && (t271 == bt286.2.1 && (t272.toList == bt286.2.2.toList))) = true then (if t273 = 0 then (if (bt278.1 == 0 && (bt278.2.1 == 0 && (bt278.2.2.1.toList == ([] : List UInt8)))) = true then (alumlaw19_sanity.j0 k (bt278.2.2.2 == 0) 2 0 (⟨#[97, 98, 99, 100]⟩ : ByteArray)) else (none)) else (none)) else (none))) else (none)) else (none))) else (none)) else (none)) else (none)))) = some r := H
 have A9 := Aside0.mk A90
 clear A90
 replace H := Option.bind_eq_some_iff.mp H
 obtain ⟨⟨t275, t276, t277⟩, A100, H⟩ := H
 replace H : ((value_Or.f k t275 t276 t277 0 0 (⟨#[]⟩ : ByteArray)).bind fun bt278 => (if (t243 == 0 && (t244 == 0 && (t245.toList == ([] : List UInt8)))) = true then (if t246 = 0 then (if t254 = 7 then ((alumref19_Bool.f true).bind fun bt283 => (if (t262 == bt283.1 && (t263 == bt283.2.1 && (t264.toList == bt283.2.2.toList))) = true then (if t265 = 0 then ((alumref19_Bool.f false).bind fun bt286 => (if (t270 == bt286.1 && (t271 == bt286.2.1 && (t272.toList == bt286.2.2.toList))) = true then (if t273 = 0 then (if (bt278.1 == 0 && (bt278.2.1 == 0 && (bt278.2.2.1.toList == ([] : List UInt8)))) = true then (alumlaw19_sanity.j0 k (bt278.2.2.2 == 0) 2 0 (⟨#[97, 98, 99, 100]⟩ : ByteArray)) else (none)) else (none)) else (none))) else (none)) else (none))) else (none)) else (none)) else (none))) = some r := H
 have A10 := Aside0.mk A100
 clear A100
 replace H := Option.bind_eq_some_iff.mp H
 obtain ⟨⟨t278, t279, t280, t281⟩, A110, H⟩ := H
 replace H : (if (t243 == 0 && (t244 == 0 && (t245.toList == ([] : List UInt8)))) = true then (if t246 = 0 then (if t254 = 7 then ((alumref19_Bool.f true).bind fun bt283 => (if (t262 == bt283.1 && (t263 == bt283.2.1 && (t264.toList == bt283.2.2.toList))) = true then (if t265 = 0 then ((alumref19_Bool.f false).bind fun bt286 => (if (t270 == bt286.1 && (t271 == bt286.2.1 && (t272.toList == bt286.2.2.toList))) = true then (if t273 = 0 then (if (t278 == 0 && (t279 == 0 && (t280.toList == ([] : List UInt8)))) = true then (alumlaw19_sanity.j0 k (t281 == 0) 2 0 (⟨#[97, 98, 99, 100]⟩ : ByteArray)) else (none)) else (none)) else (none))) else (none)) else (none))) else (none)) else (none)) else (none)) = some r := H
 have A11 := Aside0.mk A110
 clear A110
 have HC12 := Aside0.mk H
 clear H
 go_enter Tryd.func12, Tryd.ntmps12
 try go_wp2_with (first | ((with_reducible refine gate_dst (N := 1) rfl ?_); refine box_event ?hg (N := 1) ?hd (cs := #[.int .i64 0, .int .i64 0, .string (⟨#[]⟩ : ByteArray)]) (t := 23) ?hr ?_; (case hd => rfl); (case hg => rfl); (case hr => first | (go_simp; done) | (go_simp; rfl)); intro gb239 hg w13 hbox hb; have BK239 := Aside0.mk (hbox); have GW239 := (sizeB HB hg : Aside0 (w.heap.size ≤ gb239)); have GE239 := (sizeB HB hg : Aside0 (w.heap.size ≤ gb239)); replace HB := stepB HB hb; clear hb hbox hg; have hcz14_0 : w13.cell? ⟨gb239, 0, none⟩ = some (.int .i64 0) := bc BK239 0; have hcz14_1 : w13.cell? ⟨gb239, 1, none⟩ = some (.int .i64 0) := bc BK239 1; have hcz14_2 : w13.cell? ⟨gb239, 2, none⟩ = some (.string (⟨#[]⟩ : ByteArray)) := bc BK239 2; have hfz14_0 := blk_frozen BK239.out 0; have hfz14_1 := blk_frozen BK239.out 1; have hfz14_2 := blk_frozen BK239.out 2) | ((with_reducible refine gate_callee (f := 42) rfl ?_); refine goesL_ (some 17) rfl rfl Tryd.func42 (by kernel_rfl) rfl #[.int .i64 3] rfl (by (try simp only [List.map_toArray, List.map_cons, List.map_nil]); first | done | rfl | (simp only [List.length_drop, List.length_take]; rfl)) ?_; (with_reducible refine (alumlaw19_num.calls 3 t240 t241 t242 _ A1.out).mono ?_); rintro e w15 ⟨rfl, hb⟩; refine ⟨_, rfl, ?_⟩; replace BK239 := Aside0.mk (blk_below (g := gb239) (o := .cells #[.int .i64 2, .int .i64 0, .string (⟨#[97, 98, 99, 100]⟩ : ByteArray)] 23 (0, 0)) (by (with_reducible repeat (first | refine blk_drewN ?_ _ | refine blk_drew ?_ | refine blk_alloc ?_ _)); refine blk_put (cs := #[.int .i64 2, .int .i64 0, .string (⟨#[]⟩ : ByteArray)]) ?_ 2 _ rfl; (with_reducible repeat (first | refine blk_drewN ?_ _ | refine blk_drew ?_ | refine blk_alloc ?_ _)); refine blk_put (cs := #[.int .i64 2, .int .i64 0, .string (⟨#[]⟩ : ByteArray)]) ?_ 1 _ rfl; (with_reducible repeat (first | refine blk_drewN ?_ _ | refine blk_drew ?_ | refine blk_alloc ?_ _)); refine blk_put (cs := #[.int .i64 0, .int .i64 0, .string (⟨#[]⟩ : ByteArray)]) ?_ 0 _ rfl; (with_reducible repeat (first | refine blk_drewN ?_ _ | refine blk_drew ?_ | refine blk_alloc ?_ _)); exact BK239.out) hb); replace HB := stepB HB hb; (try clear hb); (try clear hb2); (try clear hk); (try clear hi)) | ((with_reducible refine gate_callee (f := 14) rfl ?_); refine goesL_ (some 19) rfl rfl Tryd.func14 (by kernel_rfl) rfl #[.int .i64 9, .agg #[.int .i64 t240, .int .i64 t241, .string t242], .agg #[.int .i64 0, .int .i64 0, .string (⟨#[]⟩ : ByteArray)]] rfl (by (try simp only [List.map_toArray, List.map_cons, List.map_nil]); first | done | rfl | (simp only [List.length_drop, List.length_take]; rfl)) ?_; (with_reducible refine (value_Test.calls k 9 t240 t241 t242 0 0 (⟨#[]⟩ : ByteArray) t243 t244 t245 t246 _ A2.out).mono ?_); rintro e w16 ⟨rfl, hb⟩; refine ⟨_, rfl, ?_⟩; replace BK239 := blkB BK239 hb; replace HB := stepB HB hb; (try clear hb); (try clear hb2); (try clear hk); (try clear hi)) | ((with_reducible refine gate_dst (N := 2) rfl ?_); refine box_event ?hg (N := 2) ?hd (cs := #[.int .i64 0, .int .i64 0, .string (⟨#[]⟩ : ByteArray)]) (t := 23) ?hr ?_; (case hd => rfl); (case hg => rfl); (case hr => first | (go_simp; done) | (go_simp; rfl)); intro gb247 hg w17 hbox hb; have BK247 := Aside0.mk (hbox); have GW247 := (sizeB HB hg : Aside0 (w.heap.size ≤ gb247)); have GE247 := (sizeB HB hg : Aside0 (w.heap.size ≤ gb247)); have NB239_247 := neB BK239 hg; have NB247_239 := neC BK239 hg; replace BK239 := blkB BK239 hb; replace HB := stepB HB hb; clear hb hbox hg; have hnb18 := NB247_239.out; have hnc18 := NB239_247.out; have hcz19_0 : w17.cell? ⟨gb247, 0, none⟩ = some (.int .i64 0) := bc BK247 0; have hcz19_1 : w17.cell? ⟨gb247, 1, none⟩ = some (.int .i64 0) := bc BK247 1; have hcz19_2 : w17.cell? ⟨gb247, 2, none⟩ = some (.string (⟨#[]⟩ : ByteArray)) := bc BK247 2; have hfz19_0 := blk_frozen BK247.out 0; have hfz19_1 := blk_frozen BK247.out 1; have hfz19_2 := blk_frozen BK247.out 2))
 have n0_ : Aside0 ((((w17.setCell ⟨gb247, 0, none⟩ (.int .i64 t243)).setCell ⟨gb247, 1, none⟩ (.int .i64 t244)).setCell ⟨gb247, 2, none⟩ (.string t245)).heap[gb239]? = some (.cells #[.int .i64 2, .int .i64 0, .string (⟨#[97, 98, 99, 100]⟩ : ByteArray)] 23 (0, 0))) := ⟨by (with_reducible repeat (first | refine blk_drewN ?_ _ | refine blk_drew ?_ | refine blk_alloc ?_ _)); refine blk_far ?_ NB239_247.out _; (with_reducible repeat (first | refine blk_drewN ?_ _ | refine blk_drew ?_ | refine blk_alloc ?_ _)); refine blk_far ?_ NB239_247.out _; (with_reducible repeat (first | refine blk_drewN ?_ _ | refine blk_drew ?_ | refine blk_alloc ?_ _)); refine blk_far ?_ NB239_247.out _; (with_reducible repeat (first | refine blk_drewN ?_ _ | refine blk_drew ?_ | refine blk_alloc ?_ _)); exact BK239.out⟩
 have n1_ : Aside0 ((((w17.setCell ⟨gb247, 0, none⟩ (.int .i64 t243)).setCell ⟨gb247, 1, none⟩ (.int .i64 t244)).setCell ⟨gb247, 2, none⟩ (.string t245)).heap[gb247]? = some (.cells #[.int .i64 t243, .int .i64 t244, .string t245] 23 (0, 0))) := ⟨by (with_reducible repeat (first | refine blk_drewN ?_ _ | refine blk_drew ?_ | refine blk_alloc ?_ _)); refine blk_put (cs := #[.int .i64 t243, .int .i64 t244, .string (⟨#[]⟩ : ByteArray)]) ?_ 2 _ rfl; (with_reducible repeat (first | refine blk_drewN ?_ _ | refine blk_drew ?_ | refine blk_alloc ?_ _)); refine blk_put (cs := #[.int .i64 t243, .int .i64 0, .string (⟨#[]⟩ : ByteArray)]) ?_ 1 _ rfl; (with_reducible repeat (first | refine blk_drewN ?_ _ | refine blk_drew ?_ | refine blk_alloc ?_ _)); refine blk_put (cs := #[.int .i64 0, .int .i64 0, .string (⟨#[]⟩ : ByteArray)]) ?_ 0 _ rfl; (with_reducible repeat (first | refine blk_drewN ?_ _ | refine blk_drew ?_ | refine blk_alloc ?_ _)); exact BK247.out⟩
 have n2_ : Aside0 (Below w.heap.size w (((w17.setCell ⟨gb247, 0, none⟩ (.int .i64 t243)).setCell ⟨gb247, 1, none⟩ (.int .i64 t244)).setCell ⟨gb247, 2, none⟩ (.string t245))) := ⟨by repeat (first | (with_reducible first | exact HB.out | apply below_alloc | apply pw_below_drewN | apply below_drew1 | refine below_set ?_ GE239.out | refine below_set ?_ GE247.out) | exact HB.out)⟩
 (try clear BK239)
 (try clear BK247)
 (try clear HB)
 generalize (((w17.setCell ⟨gb247, 0, none⟩ (.int .i64 t243)).setCell ⟨gb247, 1, none⟩ (.int .i64 t244)).setCell ⟨gb247, 2, none⟩ (.string t245)) = w20 at n0_ n1_ n2_ ⊢
 have BK239 := n0_
 have BK247 := n1_
 have HB := n2_
 clear n0_ n1_ n2_
 replace BK239 := Aside0.mk (blk_drew BK239.out)
 replace BK247 := Aside0.mk (blk_drew BK247.out)
 replace HB := Aside0.mk (below_drew1 HB.out)
 refine start_ (n := 9) (S := fun w' => w'.cell? ⟨gb239, 0, none⟩ = some (.int .i64 2) ∧ w'.cell? ⟨gb239, 1, none⟩ = some (.int .i64 0) ∧ w'.cell? ⟨gb239, 2, none⟩ = some (.string (⟨#[97, 98, 99, 100]⟩ : ByteArray))) (ds := []) #[false, false, false, false, false, false, false, false, false] (by kernel_rfl) rfl rfl ⟨bc BK239 0, bc BK239 1, bc BK239 2⟩ (fun hHeld => ?_); refine with_tabW alumlaw19_sanity.tab3 alumlaw19_sanity.bits3 (fun HT_ HW_ => ?_)
 generalize w20.drew = w21 at BK239 BK247 HB hHeld ⊢
 refine takeA 1 24 #[false, true, false, false, false, false, false, false, false] HT_ HW_ hHeld ?_
 refine join_ (σ := Nat) 2 #[true, true, true, true, true, true, true, false, false] (fun s_ => [(23, .agg #[.int .i64 t248, .int .i64 t249, .string t250]), (25, .tuple #[.agg #[.int .i64 t251, .int .i64 t252, .string t253], .int .i64 t254]), (4, .pointer (some ⟨s_, 0, none⟩)), (22, .tuple #[.agg #[.int .i64 t251, .int .i64 t252, .string t253], .int .i64 t254]), (26, .agg #[.int .i64 t251, .int .i64 t252, .string t253]), (27, .int .i64 t254)]) (fun s_ w' => (w'.cell? ⟨gb239, 0, none⟩ = some (.int .i64 2) ∧ w'.cell? ⟨gb239, 1, none⟩ = some (.int .i64 0) ∧ w'.cell? ⟨gb239, 2, none⟩ = some (.string (⟨#[97, 98, 99, 100]⟩ : ByteArray))) ∧ (w'.heap[gb239]? = some (.cells #[.int .i64 2, .int .i64 0, .string (⟨#[97, 98, 99, 100]⟩ : ByteArray)] 23 (0, 0))) ∧ (w'.heap[gb247]? = some (.cells #[.int .i64 t243, .int .i64 t244, .string t245] 23 (0, 0))) ∧ (w'.heap[s_]? = some (.cells #[.int .i64 0, .int .i64 0, .string (⟨#[]⟩ : ByteArray)] 23 (0, 0))) ∧ (w.heap.size ≤ s_) ∧ (w.heap.size ≤ s_) ∧ (gb239 ≠ s_) ∧ (s_ ≠ gb239) ∧ (gb247 ≠ s_) ∧ (s_ ≠ gb247) ∧ (Below w.heap.size w w')) ?_ ?_
 rotate_left
 ·intro hCont
  refine two_ (i := 0) (j := 6) (Ni := some 23) (Nj := some 4) #[true, true, false, false, false, false, false, false, false] #[false, true, false, false, false, false, true, false, false] rfl rfl rfl rfl (two_of HT_.out (by kernel_rfl)) (by decide) (by decide) (fun K hK => ?_) (fun K hK => ?_)
  ·skip
   refine goes_ Tryd.func42 (by kernel_rfl) rfl #[.int .i64 3] (by rfl) rfl rfl (by (try simp only [List.map_toArray, List.map_cons, List.map_nil]); first | done | rfl | (simp only [List.length_drop, List.length_take]; rfl)) ?_
   with_reducible refine (alumlaw19_num.calls 3 t248 t249 t250 _ A3.out).mono ?_
   rintro e w22 ⟨rfl, hb⟩
   refine ⟨_, rfl, ?_⟩
   replace BK239 := blkB BK239 hb
   replace BK247 := blkB BK247 hb
   replace HB := stepB HB hb
   (try clear hb)
   (try clear hb2)
   (try clear hk)
   (try clear hi)
   refine hK.out _ _ ⟨bc BK239 0, bc BK239 1, bc BK239 2⟩ (fun hHeld => ?_)
   clear hK K
   refine normA 23 ?_
   refine two_ (i := 2) (j := 6) (Ni := some 25) (Nj := some 4) #[true, true, true, false, false, false, false, false, false] #[true, true, false, false, false, false, true, false, false] rfl rfl rfl rfl (two_of HT_.out (by kernel_rfl)) (by decide) (by decide) (fun K hK => ?_) (fun K hK => ?_)
   ·skip
    refine goes_ Tryd.func14 (by kernel_rfl) rfl #[.int .i64 6, .agg #[.int .i64 t248, .int .i64 t249, .string t250], .agg #[.int .i64 2, .int .i64 0, .string (⟨#[97, 98, 99, 100]⟩ : ByteArray)]] (by rfl) rfl rfl (by (try simp only [List.map_toArray, List.map_cons, List.map_nil]); first | done | rfl | (simp only [List.length_drop, List.length_take]; rfl)) ?_
    with_reducible refine (value_Test.calls k 6 t248 t249 t250 2 0 (⟨#[97, 98, 99, 100]⟩ : ByteArray) t251 t252 t253 t254 _ A4.out).mono ?_
    rintro e w23 ⟨rfl, hb⟩
    refine ⟨_, rfl, ?_⟩
    replace BK239 := blkB BK239 hb
    replace BK247 := blkB BK247 hb
    replace HB := stepB HB hb
    (try clear hb)
    (try clear hb2)
    (try clear hk)
    (try clear hi)
    refine hK.out _ _ ⟨bc BK239 0, bc BK239 1, bc BK239 2⟩ (fun hHeld => ?_)
    clear hK K
    refine normA 25 ?_
    refine pureA 3 22 #[true, true, true, true, false, false, false, false, false] HT_ ?_
    refine pureA 4 26 #[true, true, true, true, true, false, false, false, false] HT_ ?_
    refine pureA 5 27 #[true, true, true, true, true, true, false, false, false] HT_ ?_
    refine one_ (i := 6) (N := some 4) #[true, true, true, true, true, true, true, false, false] rfl rfl (one_of HT_.out (by kernel_rfl)) (by decide) (fun K hK => ?_)
    refine box_step ?hg (N := 4) ?hd (cs := #[.int .i64 0, .int .i64 0, .string (⟨#[]⟩ : ByteArray)]) (t := 23) ?hr ?_; (case hd => rfl); (case hg => rfl); (case hr => first | (go_simp; done) | (go_simp; rfl))
    intro gb255 hg w24 hbox hb
    have BK255 := Aside0.mk (hbox)
    have GW255 := (sizeB HB hg : Aside0 (w.heap.size ≤ gb255))
    have GE255 := (sizeB HB hg : Aside0 (w.heap.size ≤ gb255))
    have NB239_255 := neB BK239 hg
    have NB255_239 := neC BK239 hg
    have NB247_255 := neB BK247 hg
    have NB255_247 := neC BK247 hg
    replace BK239 := blkB BK239 hb
    replace BK247 := blkB BK247 hb
    replace HB := stepB HB hb
    clear hb hbox hg
    refine hK.out _ _ ⟨bc BK239 0, bc BK239 1, bc BK239 2⟩ (fun hHeld => ?_)
    clear hK K
    refine normA 4 ?_
    exact norm_ (by simp only [putAll, Act.put, List.setIfInBounds_toArray, List.set_cons_zero, List.set_cons_succ]) (hCont (gb255) _ ⟨hHeld, (by (with_reducible repeat (first | refine blk_drewN ?_ _ | refine blk_drew ?_ | refine blk_alloc ?_ _)); exact BK239.out), (by (with_reducible repeat (first | refine blk_drewN ?_ _ | refine blk_drew ?_ | refine blk_alloc ?_ _)); exact BK247.out), (by (with_reducible repeat (first | refine blk_drewN ?_ _ | refine blk_drew ?_ | refine blk_alloc ?_ _)); exact BK255.out), GW255.out, GE255.out, NB239_255.out, NB255_239.out, NB247_255.out, NB255_247.out, (by repeat (first | (with_reducible first | exact HB.out | apply below_alloc | apply pw_below_drewN | apply below_drew1 | refine below_set ?_ GE239.out | refine below_set ?_ GE247.out | refine below_set ?_ GE255.out) | exact HB.out))⟩)
   ·skip
    refine box_step ?hg (N := 4) ?hd (cs := #[.int .i64 0, .int .i64 0, .string (⟨#[]⟩ : ByteArray)]) (t := 23) ?hr ?_; (case hd => rfl); (case hg => rfl); (case hr => first | (go_simp; done) | (go_simp; rfl))
    intro gb255 hg w23 hbox hb
    have BK255 := Aside0.mk (hbox)
    have GW255 := (sizeB HB hg : Aside0 (w.heap.size ≤ gb255))
    have GE255 := (sizeB HB hg : Aside0 (w.heap.size ≤ gb255))
    have NB239_255 := neB BK239 hg
    have NB255_239 := neC BK239 hg
    have NB247_255 := neB BK247 hg
    have NB255_247 := neC BK247 hg
    replace BK239 := blkB BK239 hb
    replace BK247 := blkB BK247 hb
    replace HB := stepB HB hb
    clear hb hbox hg
    refine hK.out _ _ ⟨bc BK239 0, bc BK239 1, bc BK239 2⟩ (fun hHeld => ?_)
    clear hK K
    refine normA 4 ?_
    refine one_ (i := 2) (N := some 25) #[true, true, true, false, false, false, true, false, false] rfl rfl (one_of HT_.out (by kernel_rfl)) (by decide) (fun K hK => ?_)
    refine goes_ Tryd.func14 (by kernel_rfl) rfl #[.int .i64 6, .agg #[.int .i64 t248, .int .i64 t249, .string t250], .agg #[.int .i64 2, .int .i64 0, .string (⟨#[97, 98, 99, 100]⟩ : ByteArray)]] (by rfl) rfl rfl (by (try simp only [List.map_toArray, List.map_cons, List.map_nil]); first | done | rfl | (simp only [List.length_drop, List.length_take]; rfl)) ?_
    with_reducible refine (value_Test.calls k 6 t248 t249 t250 2 0 (⟨#[97, 98, 99, 100]⟩ : ByteArray) t251 t252 t253 t254 _ A4.out).mono ?_
    rintro e w24 ⟨rfl, hb⟩
    refine ⟨_, rfl, ?_⟩
    replace BK239 := blkB BK239 hb
    replace BK247 := blkB BK247 hb
    replace BK255 := blkB BK255 hb
    replace HB := stepB HB hb
    (try clear hb)
    (try clear hb2)
    (try clear hk)
    (try clear hi)
    refine hK.out _ _ ⟨bc BK239 0, bc BK239 1, bc BK239 2⟩ (fun hHeld => ?_)
    clear hK K
    refine normA 25 ?_
    refine pureA 3 22 #[true, true, true, true, false, false, true, false, false] HT_ ?_
    refine pureA 4 26 #[true, true, true, true, true, false, true, false, false] HT_ ?_
    refine pureA 5 27 #[true, true, true, true, true, true, true, false, false] HT_ ?_
    exact norm_ (by simp only [putAll, Act.put, List.setIfInBounds_toArray, List.set_cons_zero, List.set_cons_succ]) (hCont (gb255) _ ⟨hHeld, (by (with_reducible repeat (first | refine blk_drewN ?_ _ | refine blk_drew ?_ | refine blk_alloc ?_ _)); exact BK239.out), (by (with_reducible repeat (first | refine blk_drewN ?_ _ | refine blk_drew ?_ | refine blk_alloc ?_ _)); exact BK247.out), (by (with_reducible repeat (first | refine blk_drewN ?_ _ | refine blk_drew ?_ | refine blk_alloc ?_ _)); exact BK255.out), GW255.out, GE255.out, NB239_255.out, NB255_239.out, NB247_255.out, NB255_247.out, (by repeat (first | (with_reducible first | exact HB.out | apply below_alloc | apply pw_below_drewN | apply below_drew1 | refine below_set ?_ GE239.out | refine below_set ?_ GE247.out | refine below_set ?_ GE255.out) | exact HB.out))⟩)
  ·skip
   refine box_step ?hg (N := 4) ?hd (cs := #[.int .i64 0, .int .i64 0, .string (⟨#[]⟩ : ByteArray)]) (t := 23) ?hr ?_; (case hd => rfl); (case hg => rfl); (case hr => first | (go_simp; done) | (go_simp; rfl))
   intro gb255 hg w22 hbox hb
   have BK255 := Aside0.mk (hbox)
   have GW255 := (sizeB HB hg : Aside0 (w.heap.size ≤ gb255))
   have GE255 := (sizeB HB hg : Aside0 (w.heap.size ≤ gb255))
   have NB239_255 := neB BK239 hg
   have NB255_239 := neC BK239 hg
   have NB247_255 := neB BK247 hg
   have NB255_247 := neC BK247 hg
   replace BK239 := blkB BK239 hb
   replace BK247 := blkB BK247 hb
   replace HB := stepB HB hb
   clear hb hbox hg
   refine hK.out _ _ ⟨bc BK239 0, bc BK239 1, bc BK239 2⟩ (fun hHeld => ?_)
   clear hK K
   refine normA 4 ?_
   refine one_ (i := 0) (N := some 23) #[true, true, false, false, false, false, true, false, false] rfl rfl (one_of HT_.out (by kernel_rfl)) (by decide) (fun K hK => ?_)
   refine goes_ Tryd.func42 (by kernel_rfl) rfl #[.int .i64 3] (by rfl) rfl rfl (by (try simp only [List.map_toArray, List.map_cons, List.map_nil]); first | done | rfl | (simp only [List.length_drop, List.length_take]; rfl)) ?_
   with_reducible refine (alumlaw19_num.calls 3 t248 t249 t250 _ A3.out).mono ?_
   rintro e w23 ⟨rfl, hb⟩
   refine ⟨_, rfl, ?_⟩
   replace BK239 := blkB BK239 hb
   replace BK247 := blkB BK247 hb
   replace BK255 := blkB BK255 hb
   replace HB := stepB HB hb
   (try clear hb)
   (try clear hb2)
   (try clear hk)
   (try clear hi)
   refine hK.out _ _ ⟨bc BK239 0, bc BK239 1, bc BK239 2⟩ (fun hHeld => ?_)
   clear hK K
   refine normA 23 ?_
   refine one_ (i := 2) (N := some 25) #[true, true, true, false, false, false, true, false, false] rfl rfl (one_of HT_.out (by kernel_rfl)) (by decide) (fun K hK => ?_)
   refine goes_ Tryd.func14 (by kernel_rfl) rfl #[.int .i64 6, .agg #[.int .i64 t248, .int .i64 t249, .string t250], .agg #[.int .i64 2, .int .i64 0, .string (⟨#[97, 98, 99, 100]⟩ : ByteArray)]] (by rfl) rfl rfl (by (try simp only [List.map_toArray, List.map_cons, List.map_nil]); first | done | rfl | (simp only [List.length_drop, List.length_take]; rfl)) ?_
   with_reducible refine (value_Test.calls k 6 t248 t249 t250 2 0 (⟨#[97, 98, 99, 100]⟩ : ByteArray) t251 t252 t253 t254 _ A4.out).mono ?_
   rintro e w24 ⟨rfl, hb⟩
   refine ⟨_, rfl, ?_⟩
   replace BK239 := blkB BK239 hb
   replace BK247 := blkB BK247 hb
   replace BK255 := blkB BK255 hb
   replace HB := stepB HB hb
   (try clear hb)
   (try clear hb2)
   (try clear hk)
   (try clear hi)
   refine hK.out _ _ ⟨bc BK239 0, bc BK239 1, bc BK239 2⟩ (fun hHeld => ?_)
   clear hK K
   refine normA 25 ?_
   refine pureA 3 22 #[true, true, true, true, false, false, true, false, false] HT_ ?_
   refine pureA 4 26 #[true, true, true, true, true, false, true, false, false] HT_ ?_
   refine pureA 5 27 #[true, true, true, true, true, true, true, false, false] HT_ ?_
   exact norm_ (by simp only [putAll, Act.put, List.setIfInBounds_toArray, List.set_cons_zero, List.set_cons_succ]) (hCont (gb255) _ ⟨hHeld, (by (with_reducible repeat (first | refine blk_drewN ?_ _ | refine blk_drew ?_ | refine blk_alloc ?_ _)); exact BK239.out), (by (with_reducible repeat (first | refine blk_drewN ?_ _ | refine blk_drew ?_ | refine blk_alloc ?_ _)); exact BK247.out), (by (with_reducible repeat (first | refine blk_drewN ?_ _ | refine blk_drew ?_ | refine blk_alloc ?_ _)); exact BK255.out), GW255.out, GE255.out, NB239_255.out, NB255_239.out, NB247_255.out, NB255_247.out, (by repeat (first | (with_reducible first | exact HB.out | apply below_alloc | apply pw_below_drewN | apply below_drew1 | refine below_set ?_ GE239.out | refine below_set ?_ GE247.out | refine below_set ?_ GE255.out) | exact HB.out))⟩)
 rintro gb255 w25 ⟨hS_, h0_, h1_, h2_, h3_, h4_, h5_, h6_, h7_, h8_, h9_⟩
 have BK255 : Aside0 (w25.heap[gb255]? = some (.cells #[.int .i64 0, .int .i64 0, .string (⟨#[]⟩ : ByteArray)] 23 (0, 0))) := ⟨h2_⟩
 have GW255 : Aside0 (w.heap.size ≤ gb255) := ⟨h3_⟩
 have GE255 : Aside0 (w.heap.size ≤ gb255) := ⟨h4_⟩
 have NB239_255 : Aside0 (gb239 ≠ gb255) := ⟨h5_⟩
 have NB255_239 : Aside0 (gb255 ≠ gb239) := ⟨h6_⟩
 have NB247_255 : Aside0 (gb247 ≠ gb255) := ⟨h7_⟩
 have NB255_247 : Aside0 (gb255 ≠ gb247) := ⟨h8_⟩
 replace BK239 : Aside0 (w25.heap[gb239]? = some (.cells #[.int .i64 2, .int .i64 0, .string (⟨#[97, 98, 99, 100]⟩ : ByteArray)] 23 (0, 0))) := ⟨h0_⟩
 replace BK247 : Aside0 (w25.heap[gb247]? = some (.cells #[.int .i64 t243, .int .i64 t244, .string t245] 23 (0, 0))) := ⟨h1_⟩
 replace HB : Aside0 (Below w.heap.size w w25) := ⟨h9_⟩
 clear h0_ h1_ h2_ h3_ h4_ h5_ h6_ h7_ h8_ h9_
 have hHeld : w25.cell? ⟨gb239, 0, none⟩ = some (.int .i64 2) ∧ w25.cell? ⟨gb239, 1, none⟩ = some (.int .i64 0) ∧ w25.cell? ⟨gb239, 2, none⟩ = some (.string (⟨#[97, 98, 99, 100]⟩ : ByteArray)) := hS_
 refine norm_ (a' := ?_) ?_ ?_
 rotate_left
 ·simp only [putAll, Act.put, List.setIfInBounds_toArray, List.set_cons_zero, List.set_cons_succ]
  rfl
 refine one_ (i := 7) (N := none) #[true, true, true, true, true, true, true, true, false] rfl rfl (one_of HT_.out (by kernel_rfl)) (by decide) (fun K hK => ?_)
 have hs26 : w25.cell? ⟨gb255, 0, none⟩ = some (.int .i64 0) := bc BK255 0
 have hfs26 := blk_frozen BK255.out 0
 have hns26_0 := NB239_255.out
 have hns26_1 := NB247_255.out
 have hms26_0 := NB255_239.out
 have hms26_1 := NB255_247.out
 have hs27 : w25.cell? ⟨gb255, 1, none⟩ = some (.int .i64 0) := bc BK255 1
 have hfs27 := blk_frozen BK255.out 1
 have hns27_0 := NB239_255.out
 have hns27_1 := NB247_255.out
 have hms27_0 := NB255_239.out
 have hms27_1 := NB255_247.out
 have hs28 : w25.cell? ⟨gb255, 2, none⟩ = some (.string (⟨#[]⟩ : ByteArray)) := bc BK255 2
 have hfs28 := blk_frozen BK255.out 2
 have hns28_0 := NB239_255.out
 have hns28_1 := NB247_255.out
 have hms28_0 := NB255_239.out
 have hms28_1 := NB255_247.out
 refine skip_ (w1 := ?_) (by rfl) rfl ?_ ?_
 rotate_left
 ·go_simp
  rfl
 refine hK.out _ _ ⟨((cell_far (p := ⟨gb255, _, none⟩) NB239_255.out _).trans (((cell_far (p := ⟨gb255, _, none⟩) NB239_255.out _).trans (((cell_far (p := ⟨gb255, _, none⟩) NB239_255.out _).trans (hHeld.1)))))), ((cell_far (p := ⟨gb255, _, none⟩) NB239_255.out _).trans (((cell_far (p := ⟨gb255, _, none⟩) NB239_255.out _).trans (((cell_far (p := ⟨gb255, _, none⟩) NB239_255.out _).trans (hHeld.2.1)))))), ((cell_far (p := ⟨gb255, _, none⟩) NB239_255.out _).trans (((cell_far (p := ⟨gb255, _, none⟩) NB239_255.out _).trans (((cell_far (p := ⟨gb255, _, none⟩) NB239_255.out _).trans (hHeld.2.2))))))⟩ (fun hHeld => ?_)
 clear hK K
 refine pureA 8 5 #[true, true, true, true, true, true, true, true, true] HT_ ?_
 refine done_ (done_of HT_.out (by kernel_rfl)) ?_
 go_upto_region 7 with (first | ((with_reducible refine gate_callee (f := 42) rfl ?_); refine goesL_ (some 29) rfl rfl Tryd.func42 (by kernel_rfl) rfl #[.int .i64 2] rfl (by (try simp only [List.map_toArray, List.map_cons, List.map_nil]); first | done | rfl | (simp only [List.length_drop, List.length_take]; rfl)) ?_; (with_reducible refine (alumlaw19_num.calls 2 t256 t257 t258 _ A5.out).mono ?_); rintro e w29 ⟨rfl, hb⟩; refine ⟨_, rfl, ?_⟩; replace BK239 := Aside0.mk (blk_below (g := gb239) (o := .cells #[.int .i64 2, .int .i64 0, .string (⟨#[97, 98, 99, 100]⟩ : ByteArray)] 23 (0, 0)) (by (with_reducible repeat (first | refine blk_drewN ?_ _ | refine blk_drew ?_ | refine blk_alloc ?_ _)); refine blk_far ?_ NB239_255.out _; (with_reducible repeat (first | refine blk_drewN ?_ _ | refine blk_drew ?_ | refine blk_alloc ?_ _)); refine blk_far ?_ NB239_255.out _; (with_reducible repeat (first | refine blk_drewN ?_ _ | refine blk_drew ?_ | refine blk_alloc ?_ _)); refine blk_far ?_ NB239_255.out _; (with_reducible repeat (first | refine blk_drewN ?_ _ | refine blk_drew ?_ | refine blk_alloc ?_ _)); exact BK239.out) hb); replace BK247 := Aside0.mk (blk_below (g := gb247) (o := .cells #[.int .i64 t243, .int .i64 t244, .string t245] 23 (0, 0)) (by (with_reducible repeat (first | refine blk_drewN ?_ _ | refine blk_drew ?_ | refine blk_alloc ?_ _)); refine blk_far ?_ NB247_255.out _; (with_reducible repeat (first | refine blk_drewN ?_ _ | refine blk_drew ?_ | refine blk_alloc ?_ _)); refine blk_far ?_ NB247_255.out _; (with_reducible repeat (first | refine blk_drewN ?_ _ | refine blk_drew ?_ | refine blk_alloc ?_ _)); refine blk_far ?_ NB247_255.out _; (with_reducible repeat (first | refine blk_drewN ?_ _ | refine blk_drew ?_ | refine blk_alloc ?_ _)); exact BK247.out) hb); replace BK255 := Aside0.mk (blk_below (g := gb255) (o := .cells #[.int .i64 t251, .int .i64 t252, .string t253] 23 (0, 0)) (by (with_reducible repeat (first | refine blk_drewN ?_ _ | refine blk_drew ?_ | refine blk_alloc ?_ _)); refine blk_put (cs := #[.int .i64 t251, .int .i64 t252, .string (⟨#[]⟩ : ByteArray)]) ?_ 2 _ rfl; (with_reducible repeat (first | refine blk_drewN ?_ _ | refine blk_drew ?_ | refine blk_alloc ?_ _)); refine blk_put (cs := #[.int .i64 t251, .int .i64 0, .string (⟨#[]⟩ : ByteArray)]) ?_ 1 _ rfl; (with_reducible repeat (first | refine blk_drewN ?_ _ | refine blk_drew ?_ | refine blk_alloc ?_ _)); refine blk_put (cs := #[.int .i64 0, .int .i64 0, .string (⟨#[]⟩ : ByteArray)]) ?_ 0 _ rfl; (with_reducible repeat (first | refine blk_drewN ?_ _ | refine blk_drew ?_ | refine blk_alloc ?_ _)); exact BK255.out) hb); replace HB := stepB HB hb; (try clear hb); (try clear hb2); (try clear hk); (try clear hi)) | ((with_reducible refine gate_callee (f := 42) rfl ?_); refine goesL_ (some 30) rfl rfl Tryd.func42 (by kernel_rfl) rfl #[.int .i64 3] rfl (by (try simp only [List.map_toArray, List.map_cons, List.map_nil]); first | done | rfl | (simp only [List.length_drop, List.length_take]; rfl)) ?_; (with_reducible refine (alumlaw19_num.calls 3 t259 t260 t261 _ A6.out).mono ?_); rintro e w30 ⟨rfl, hb⟩; refine ⟨_, rfl, ?_⟩; replace BK239 := blkB BK239 hb; replace BK247 := blkB BK247 hb; replace BK255 := blkB BK255 hb; replace HB := stepB HB hb; (try clear hb); (try clear hb2); (try clear hk); (try clear hi)) | ((with_reducible refine gate_callee (f := 14) rfl ?_); refine goesL_ (some 31) rfl rfl Tryd.func14 (by kernel_rfl) rfl #[.int .i64 8, .agg #[.int .i64 t256, .int .i64 t257, .string t258], .agg #[.int .i64 t259, .int .i64 t260, .string t261]] rfl (by (try simp only [List.map_toArray, List.map_cons, List.map_nil]); first | done | rfl | (simp only [List.length_drop, List.length_take]; rfl)) ?_; (with_reducible refine (value_Test.calls k 8 t256 t257 t258 t259 t260 t261 t262 t263 t264 t265 _ A7.out).mono ?_); rintro e w31 ⟨rfl, hb⟩; refine ⟨_, rfl, ?_⟩; replace BK239 := blkB BK239 hb; replace BK247 := blkB BK247 hb; replace BK255 := blkB BK255 hb; replace HB := stepB HB hb; (try clear hb); (try clear hb2); (try clear hk); (try clear hi)) | ((with_reducible refine gate_dst (N := 6) rfl ?_); refine box_event ?hg (N := 6) ?hd (cs := #[.int .i64 0, .int .i64 0, .string (⟨#[]⟩ : ByteArray)]) (t := 23) ?hr ?_; (case hd => rfl); (case hg => rfl); (case hr => first | (go_simp; done) | (go_simp; rfl)); intro gb266 hg w32 hbox hb; have BK266 := Aside0.mk (hbox); have GW266 := (sizeB HB hg : Aside0 (w.heap.size ≤ gb266)); have GE266 := (sizeB HB hg : Aside0 (w.heap.size ≤ gb266)); have NB239_266 := neB BK239 hg; have NB266_239 := neC BK239 hg; have NB247_266 := neB BK247 hg; have NB266_247 := neC BK247 hg; have NB255_266 := neB BK255 hg; have NB266_255 := neC BK255 hg; replace BK239 := blkB BK239 hb; replace BK247 := blkB BK247 hb; replace BK255 := blkB BK255 hb; replace HB := stepB HB hb; clear hb hbox hg; have hnb33 := NB266_239.out; have hnc33 := NB239_266.out; have hnb34 := NB266_247.out; have hnc34 := NB247_266.out; have hnb35 := NB266_255.out; have hnc35 := NB255_266.out; have hcz36_0 : w32.cell? ⟨gb266, 0, none⟩ = some (.int .i64 0) := bc BK266 0; have hcz36_1 : w32.cell? ⟨gb266, 1, none⟩ = some (.int .i64 0) := bc BK266 1; have hcz36_2 : w32.cell? ⟨gb266, 2, none⟩ = some (.string (⟨#[]⟩ : ByteArray)) := bc BK266 2; have hfz36_0 := blk_frozen BK266.out 0; have hfz36_1 := blk_frozen BK266.out 1; have hfz36_2 := blk_frozen BK266.out 2) | ((with_reducible refine gate_callee (f := 15) rfl ?_); refine goesL_ (some 35) rfl rfl Tryd.func15 (by kernel_rfl) rfl #[.bool false] rfl (by (try simp only [List.map_toArray, List.map_cons, List.map_nil]); first | done | rfl | (simp only [List.length_drop, List.length_take]; rfl)) ?_; (with_reducible refine (alumref19_Bool.calls false t267 t268 t269 _ A8.out).mono ?_); rintro e w37 ⟨rfl, hb⟩; refine ⟨_, rfl, ?_⟩; replace BK239 := Aside0.mk (blk_below (g := gb239) (o := .cells #[.int .i64 2, .int .i64 0, .string (⟨#[97, 98, 99, 100]⟩ : ByteArray)] 23 (0, 0)) (by (with_reducible repeat (first | refine blk_drewN ?_ _ | refine blk_drew ?_ | refine blk_alloc ?_ _)); refine blk_far ?_ NB239_266.out _; (with_reducible repeat (first | refine blk_drewN ?_ _ | refine blk_drew ?_ | refine blk_alloc ?_ _)); refine blk_far ?_ NB239_266.out _; (with_reducible repeat (first | refine blk_drewN ?_ _ | refine blk_drew ?_ | refine blk_alloc ?_ _)); refine blk_far ?_ NB239_266.out _; (with_reducible repeat (first | refine blk_drewN ?_ _ | refine blk_drew ?_ | refine blk_alloc ?_ _)); exact BK239.out) hb); replace BK247 := Aside0.mk (blk_below (g := gb247) (o := .cells #[.int .i64 t243, .int .i64 t244, .string t245] 23 (0, 0)) (by (with_reducible repeat (first | refine blk_drewN ?_ _ | refine blk_drew ?_ | refine blk_alloc ?_ _)); refine blk_far ?_ NB247_266.out _; (with_reducible repeat (first | refine blk_drewN ?_ _ | refine blk_drew ?_ | refine blk_alloc ?_ _)); refine blk_far ?_ NB247_266.out _; (with_reducible repeat (first | refine blk_drewN ?_ _ | refine blk_drew ?_ | refine blk_alloc ?_ _)); refine blk_far ?_ NB247_266.out _; (with_reducible repeat (first | refine blk_drewN ?_ _ | refine blk_drew ?_ | refine blk_alloc ?_ _)); exact BK247.out) hb); replace BK255 := Aside0.mk (blk_below (g := gb255) (o := .cells #[.int .i64 t251, .int .i64 t252, .string t253] 23 (0, 0)) (by (with_reducible repeat (first | refine blk_drewN ?_ _ | refine blk_drew ?_ | refine blk_alloc ?_ _)); refine blk_far ?_ NB255_266.out _; (with_reducible repeat (first | refine blk_drewN ?_ _ | refine blk_drew ?_ | refine blk_alloc ?_ _)); refine blk_far ?_ NB255_266.out _; (with_reducible repeat (first | refine blk_drewN ?_ _ | refine blk_drew ?_ | refine blk_alloc ?_ _)); refine blk_far ?_ NB255_266.out _; (with_reducible repeat (first | refine blk_drewN ?_ _ | refine blk_drew ?_ | refine blk_alloc ?_ _)); exact BK255.out) hb); replace BK266 := Aside0.mk (blk_below (g := gb266) (o := .cells #[.int .i64 t262, .int .i64 t263, .string t264] 23 (0, 0)) (by (with_reducible repeat (first | refine blk_drewN ?_ _ | refine blk_drew ?_ | refine blk_alloc ?_ _)); refine blk_put (cs := #[.int .i64 t262, .int .i64 t263, .string (⟨#[]⟩ : ByteArray)]) ?_ 2 _ rfl; (with_reducible repeat (first | refine blk_drewN ?_ _ | refine blk_drew ?_ | refine blk_alloc ?_ _)); refine blk_put (cs := #[.int .i64 t262, .int .i64 0, .string (⟨#[]⟩ : ByteArray)]) ?_ 1 _ rfl; (with_reducible repeat (first | refine blk_drewN ?_ _ | refine blk_drew ?_ | refine blk_alloc ?_ _)); refine blk_put (cs := #[.int .i64 0, .int .i64 0, .string (⟨#[]⟩ : ByteArray)]) ?_ 0 _ rfl; (with_reducible repeat (first | refine blk_drewN ?_ _ | refine blk_drew ?_ | refine blk_alloc ?_ _)); exact BK266.out) hb); replace HB := stepB HB hb; (try clear hb); (try clear hb2); (try clear hk); (try clear hi)) | ((with_reducible refine gate_callee (f := 22) rfl ?_); refine goesL_ (some 37) rfl rfl Tryd.func22 (by kernel_rfl) rfl #[.agg #[.int .i64 t267, .int .i64 t268, .string t269], .agg #[.int .i64 0, .int .i64 0, .string (⟨#[]⟩ : ByteArray)]] rfl (by (try simp only [List.map_toArray, List.map_cons, List.map_nil]); first | done | rfl | (simp only [List.length_drop, List.length_take]; rfl)) ?_; (with_reducible refine (value_And.calls k t267 t268 t269 0 0 (⟨#[]⟩ : ByteArray) t270 t271 t272 t273 _ A9.out).mono ?_); rintro e w38 ⟨rfl, hb⟩; refine ⟨_, rfl, ?_⟩; replace BK239 := blkB BK239 hb; replace BK247 := blkB BK247 hb; replace BK255 := blkB BK255 hb; replace BK266 := blkB BK266 hb; replace HB := stepB HB hb; (try clear hb); (try clear hb2); (try clear hk); (try clear hi)) | ((with_reducible refine gate_dst (N := 8) rfl ?_); refine box_event ?hg (N := 8) ?hd (cs := #[.int .i64 0, .int .i64 0, .string (⟨#[]⟩ : ByteArray)]) (t := 23) ?hr ?_; (case hd => rfl); (case hg => rfl); (case hr => first | (go_simp; done) | (go_simp; rfl)); intro gb274 hg w39 hbox hb; have BK274 := Aside0.mk (hbox); have GW274 := (sizeB HB hg : Aside0 (w.heap.size ≤ gb274)); have GE274 := (sizeB HB hg : Aside0 (w.heap.size ≤ gb274)); have NB239_274 := neB BK239 hg; have NB274_239 := neC BK239 hg; have NB247_274 := neB BK247 hg; have NB274_247 := neC BK247 hg; have NB255_274 := neB BK255 hg; have NB274_255 := neC BK255 hg; have NB266_274 := neB BK266 hg; have NB274_266 := neC BK266 hg; replace BK239 := blkB BK239 hb; replace BK247 := blkB BK247 hb; replace BK255 := blkB BK255 hb; replace BK266 := blkB BK266 hb; replace HB := stepB HB hb; clear hb hbox hg; have hnb40 := NB274_239.out; have hnc40 := NB239_274.out; have hnb41 := NB274_247.out; have hnc41 := NB247_274.out; have hnb42 := NB274_255.out; have hnc42 := NB255_274.out; have hnb43 := NB274_266.out; have hnc43 := NB266_274.out; have hcz44_0 : w39.cell? ⟨gb274, 0, none⟩ = some (.int .i64 0) := bc BK274 0; have hcz44_1 : w39.cell? ⟨gb274, 1, none⟩ = some (.int .i64 0) := bc BK274 1; have hcz44_2 : w39.cell? ⟨gb274, 2, none⟩ = some (.string (⟨#[]⟩ : ByteArray)) := bc BK274 2; have hfz44_0 := blk_frozen BK274.out 0; have hfz44_1 := blk_frozen BK274.out 1; have hfz44_2 := blk_frozen BK274.out 2) | ((with_reducible refine gate_callee (f := 15) rfl ?_); refine goesL_ (some 41) rfl rfl Tryd.func15 (by kernel_rfl) rfl #[.bool false] rfl (by (try simp only [List.map_toArray, List.map_cons, List.map_nil]); first | done | rfl | (simp only [List.length_drop, List.length_take]; rfl)) ?_; (with_reducible refine (alumref19_Bool.calls false t275 t276 t277 _ A10.out).mono ?_); rintro e w45 ⟨rfl, hb⟩; refine ⟨_, rfl, ?_⟩; replace BK239 := Aside0.mk (blk_below (g := gb239) (o := .cells #[.int .i64 2, .int .i64 0, .string (⟨#[97, 98, 99, 100]⟩ : ByteArray)] 23 (0, 0)) (by (with_reducible repeat (first | refine blk_drewN ?_ _ | refine blk_drew ?_ | refine blk_alloc ?_ _)); refine blk_far ?_ NB239_274.out _; (with_reducible repeat (first | refine blk_drewN ?_ _ | refine blk_drew ?_ | refine blk_alloc ?_ _)); refine blk_far ?_ NB239_274.out _; (with_reducible repeat (first | refine blk_drewN ?_ _ | refine blk_drew ?_ | refine blk_alloc ?_ _)); refine blk_far ?_ NB239_274.out _; (with_reducible repeat (first | refine blk_drewN ?_ _ | refine blk_drew ?_ | refine blk_alloc ?_ _)); exact BK239.out) hb); replace BK247 := Aside0.mk (blk_below (g := gb247) (o := .cells #[.int .i64 t243, .int .i64 t244, .string t245] 23 (0, 0)) (by (with_reducible repeat (first | refine blk_drewN ?_ _ | refine blk_drew ?_ | refine blk_alloc ?_ _)); refine blk_far ?_ NB247_274.out _; (with_reducible repeat (first | refine blk_drewN ?_ _ | refine blk_drew ?_ | refine blk_alloc ?_ _)); refine blk_far ?_ NB247_274.out _; (with_reducible repeat (first | refine blk_drewN ?_ _ | refine blk_drew ?_ | refine blk_alloc ?_ _)); refine blk_far ?_ NB247_274.out _; (with_reducible repeat (first | refine blk_drewN ?_ _ | refine blk_drew ?_ | refine blk_alloc ?_ _)); exact BK247.out) hb); replace BK255 := Aside0.mk (blk_below (g := gb255) (o := .cells #[.int .i64 t251, .int .i64 t252, .string t253] 23 (0, 0)) (by (with_reducible repeat (first | refine blk_drewN ?_ _ | refine blk_drew ?_ | refine blk_alloc ?_ _)); refine blk_far ?_ NB255_274.out _; (with_reducible repeat (first | refine blk_drewN ?_ _ | refine blk_drew ?_ | refine blk_alloc ?_ _)); refine blk_far ?_ NB255_274.out _; (with_reducible repeat (first | refine blk_drewN ?_ _ | refine blk_drew ?_ | refine blk_alloc ?_ _)); refine blk_far ?_ NB255_274.out _; (with_reducible repeat (first | refine blk_drewN ?_ _ | refine blk_drew ?_ | refine blk_alloc ?_ _)); exact BK255.out) hb); replace BK266 := Aside0.mk (blk_below (g := gb266) (o := .cells #[.int .i64 t262, .int .i64 t263, .string t264] 23 (0, 0)) (by (with_reducible repeat (first | refine blk_drewN ?_ _ | refine blk_drew ?_ | refine blk_alloc ?_ _)); refine blk_far ?_ NB266_274.out _; (with_reducible repeat (first | refine blk_drewN ?_ _ | refine blk_drew ?_ | refine blk_alloc ?_ _)); refine blk_far ?_ NB266_274.out _; (with_reducible repeat (first | refine blk_drewN ?_ _ | refine blk_drew ?_ | refine blk_alloc ?_ _)); refine blk_far ?_ NB266_274.out _; (with_reducible repeat (first | refine blk_drewN ?_ _ | refine blk_drew ?_ | refine blk_alloc ?_ _)); exact BK266.out) hb); replace BK274 := Aside0.mk (blk_below (g := gb274) (o := .cells #[.int .i64 t270, .int .i64 t271, .string t272] 23 (0, 0)) (by (with_reducible repeat (first | refine blk_drewN ?_ _ | refine blk_drew ?_ | refine blk_alloc ?_ _)); refine blk_put (cs := #[.int .i64 t270, .int .i64 t271, .string (⟨#[]⟩ : ByteArray)]) ?_ 2 _ rfl; (with_reducible repeat (first | refine blk_drewN ?_ _ | refine blk_drew ?_ | refine blk_alloc ?_ _)); refine blk_put (cs := #[.int .i64 t270, .int .i64 0, .string (⟨#[]⟩ : ByteArray)]) ?_ 1 _ rfl; (with_reducible repeat (first | refine blk_drewN ?_ _ | refine blk_drew ?_ | refine blk_alloc ?_ _)); refine blk_put (cs := #[.int .i64 0, .int .i64 0, .string (⟨#[]⟩ : ByteArray)]) ?_ 0 _ rfl; (with_reducible repeat (first | refine blk_drewN ?_ _ | refine blk_drew ?_ | refine blk_alloc ?_ _)); exact BK274.out) hb); replace HB := stepB HB hb; (try clear hb); (try clear hb2); (try clear hk); (try clear hi)) | ((with_reducible refine gate_callee (f := 24) rfl ?_); refine goesL_ (some 43) rfl rfl Tryd.func24 (by kernel_rfl) rfl #[.agg #[.int .i64 t275, .int .i64 t276, .string t277], .agg #[.int .i64 0, .int .i64 0, .string (⟨#[]⟩ : ByteArray)]] rfl (by (try simp only [List.map_toArray, List.map_cons, List.map_nil]); first | done | rfl | (simp only [List.length_drop, List.length_take]; rfl)) ?_; (with_reducible refine (value_Or.calls k t275 t276 t277 0 0 (⟨#[]⟩ : ByteArray) t278 t279 t280 t281 _ A11.out).mono ?_); rintro e w46 ⟨rfl, hb⟩; refine ⟨_, rfl, ?_⟩; replace BK239 := blkB BK239 hb; replace BK247 := blkB BK247 hb; replace BK255 := blkB BK255 hb; replace BK266 := blkB BK266 hb; replace BK274 := blkB BK274 hb; replace HB := stepB HB hb; (try clear hb); (try clear hb2); (try clear hk); (try clear hi)) | ((with_reducible refine gate_dst (N := 10) rfl ?_); refine box_event ?hg (N := 10) ?hd (cs := #[.int .i64 0, .int .i64 0, .string (⟨#[]⟩ : ByteArray)]) (t := 23) ?hr ?_; (case hd => rfl); (case hg => rfl); (case hr => first | (go_simp; done) | (go_simp; rfl)); intro gb282 hg w47 hbox hb; have BK282 := Aside0.mk (hbox); have GW282 := (sizeB HB hg : Aside0 (w.heap.size ≤ gb282)); have GE282 := (sizeB HB hg : Aside0 (w.heap.size ≤ gb282)); have NB239_282 := neB BK239 hg; have NB282_239 := neC BK239 hg; have NB247_282 := neB BK247 hg; have NB282_247 := neC BK247 hg; have NB255_282 := neB BK255 hg; have NB282_255 := neC BK255 hg; have NB266_282 := neB BK266 hg; have NB282_266 := neC BK266 hg; have NB274_282 := neB BK274 hg; have NB282_274 := neC BK274 hg; replace BK239 := blkB BK239 hb; replace BK247 := blkB BK247 hb; replace BK255 := blkB BK255 hb; replace BK266 := blkB BK266 hb; replace BK274 := blkB BK274 hb; replace HB := stepB HB hb; clear hb hbox hg; have hnb48 := NB282_239.out; have hnc48 := NB239_282.out; have hnb49 := NB282_247.out; have hnc49 := NB247_282.out; have hnb50 := NB282_255.out; have hnc50 := NB255_282.out; have hnb51 := NB282_266.out; have hnc51 := NB266_282.out; have hnb52 := NB282_274.out; have hnc52 := NB274_282.out; have hcz53_0 : w47.cell? ⟨gb282, 0, none⟩ = some (.int .i64 0) := bc BK282 0; have hcz53_1 : w47.cell? ⟨gb282, 1, none⟩ = some (.int .i64 0) := bc BK282 1; have hcz53_2 : w47.cell? ⟨gb282, 2, none⟩ = some (.string (⟨#[]⟩ : ByteArray)) := bc BK282 2; have hfz53_0 := blk_frozen BK282.out 0; have hfz53_1 := blk_frozen BK282.out 1; have hfz53_2 := blk_frozen BK282.out 2))
 (try simp only [Act.put, List.setIfInBounds_toArray, List.set_cons_zero, List.set_cons_succ])
 go_cut [12] (fun v12 wc => ∃ (kq : Nat) (x12_11 : Bool), v12 = .bool x12_11 ∧ Aside0 (alumlaw19_sanity.j0 kq x12_11 2 0 (⟨#[97, 98, 99, 100]⟩ : ByteArray) = some r) ∧ Aside0 (kq ≤ k) ∧ Aside0 (wc.heap[gb239]? = some (.cells #[.int .i64 2, .int .i64 0, .string (⟨#[97, 98, 99, 100]⟩ : ByteArray)] 23 (0, 0))) ∧ Aside0 (wc.heap[gb247]? = some (.cells #[.int .i64 t243, .int .i64 t244, .string t245] 23 (0, 0))) ∧ Aside0 (wc.heap[gb255]? = some (.cells #[.int .i64 t251, .int .i64 t252, .string t253] 23 (0, 0))) ∧ Aside0 (wc.heap[gb266]? = some (.cells #[.int .i64 t262, .int .i64 t263, .string t264] 23 (0, 0))) ∧ Aside0 (wc.heap[gb274]? = some (.cells #[.int .i64 t270, .int .i64 t271, .string t272] 23 (0, 0))) ∧ Aside0 (wc.heap[gb282]? = some (.cells #[.int .i64 t278, .int .i64 t279, .string t280] 23 (0, 0))) ∧ Aside0 (Below w.heap.size w wc))
 case first =>
  have H := HC12.out
  clear HC12
  by_cases c54 : (t243 == 0 && (t244 == 0 && (t245.toList == ([] : List UInt8)))) = true
  ·rw [if_pos c54] at H
   have c54b0 : (t243 == 0 && (t244 == 0 && (t245.toList == ([] : List UInt8)))) = true := c54
   (try (have c54b1 : (t243 == 0 && (t244 == 0 && (t245.toList.isEmpty))) = true := by simpa using c54))
   (try (have c54b2 : decide (t243 = 0 && (t244 == 0 && (t245.toList == ([] : List UInt8)))) = true := by simpa using c54))
   (try (have c54b3 : (t243 == 0 && (t244 == 0 && (t245.toList == ([] : List UInt8)))) = true := by simpa using c54))
   clear c54
   (first | rw [c54b0] | (simp only [i64_w, i32_w]; rw [c54b0]) | skip)
   by_cases c55 : t246 = 0
   ·rw [if_pos c55] at H
    have c55b0 : (t246 == 0) = true := beq_iff_eq.mpr c55
    have c55b1 : (t246 != 0) = false := bne_eq_false_iff_eq.mpr c55
    clear c55
    by_cases c56 : t254 = 7
    ·rw [if_pos c56] at H
     have c56b0 : (t254 == 7) = true := beq_iff_eq.mpr c56
     have c56b1 : (t254 != 7) = false := bne_eq_false_iff_eq.mpr c56
     clear c56
     replace H := Option.bind_eq_some_iff.mp H
     obtain ⟨⟨t283, t284, t285⟩, A570, H⟩ := H
     replace H : (if (t262 == t283 && (t263 == t284 && (t264.toList == t285.toList))) = true then (if t265 = 0 then ((alumref19_Bool.f false).bind fun bt286 => (if (t270 == bt286.1 && (t271 == bt286.2.1 && (t272.toList == bt286.2.2.toList))) = true then (if t273 = 0 then (if (t278 == 0 && (t279 == 0 && (t280.toList == ([] : List UInt8)))) = true then (alumlaw19_sanity.j0 k (t281 == 0) 2 0 (⟨#[97, 98, 99, 100]⟩ : ByteArray)) else (none)) else (none)) else (none))) else (none)) else (none)) = some r := H
     have A57 := Aside0.mk A570
     clear A570
     by_cases c58 : (t262 == t283 && (t263 == t284 && (t264.toList == t285.toList))) = true
     ·rw [if_pos c58] at H
      have c58b0 : (t262 == t283 && (t263 == t284 && (t264.toList == t285.toList))) = true := c58
      (try (have c58b1 : decide (t262 = t283 && (t263 == t284 && (t264.toList == t285.toList))) = true := by simpa using c58))
      (try (have c58b2 : (t262 == t283 && (t263 == t284 && (t264.toList == t285.toList))) = true := by simpa using c58))
      clear c58
      by_cases c59 : t265 = 0
      ·rw [if_pos c59] at H
       have c59b0 : (t265 == 0) = true := beq_iff_eq.mpr c59
       have c59b1 : (t265 != 0) = false := bne_eq_false_iff_eq.mpr c59
       clear c59
       replace H := Option.bind_eq_some_iff.mp H
       obtain ⟨⟨t286, t287, t288⟩, A600, H⟩ := H
       replace H : (if (t270 == t286 && (t271 == t287 && (t272.toList == t288.toList))) = true then (if t273 = 0 then (if (t278 == 0 && (t279 == 0 && (t280.toList == ([] : List UInt8)))) = true then (alumlaw19_sanity.j0 k (t281 == 0) 2 0 (⟨#[97, 98, 99, 100]⟩ : ByteArray)) else (none)) else (none)) else (none)) = some r := H
       have A60 := Aside0.mk A600
       clear A600
       by_cases c61 : (t270 == t286 && (t271 == t287 && (t272.toList == t288.toList))) = true
       ·rw [if_pos c61] at H
        have c61b0 : (t270 == t286 && (t271 == t287 && (t272.toList == t288.toList))) = true := c61
        (try (have c61b1 : decide (t270 = t286 && (t271 == t287 && (t272.toList == t288.toList))) = true := by simpa using c61))
        (try (have c61b2 : (t270 == t286 && (t271 == t287 && (t272.toList == t288.toList))) = true := by simpa using c61))
        clear c61
        by_cases c62 : t273 = 0
        ·rw [if_pos c62] at H
         have c62b0 : (t273 == 0) = true := beq_iff_eq.mpr c62
         have c62b1 : (t273 != 0) = false := bne_eq_false_iff_eq.mpr c62
         clear c62
         by_cases c63 : (t278 == 0 && (t279 == 0 && (t280.toList == ([] : List UInt8)))) = true
         ·rw [if_pos c63] at H
          have c63b0 : (t278 == 0 && (t279 == 0 && (t280.toList == ([] : List UInt8)))) = true := c63
          (try (have c63b1 : (t278 == 0 && (t279 == 0 && (t280.toList.isEmpty))) = true := by simpa using c63))
          (try (have c63b2 : decide (t278 = 0 && (t279 == 0 && (t280.toList == ([] : List UInt8)))) = true := by simpa using c63))
          (try (have c63b3 : (t278 == 0 && (t279 == 0 && (t280.toList == ([] : List UInt8)))) = true := by simpa using c63))
          clear c63
          have H' := Aside0.mk H
          clear H
          try go_wp2
          have n0_ : Aside0 ((((w47.setCell ⟨gb282, 0, none⟩ (.int .i64 t278)).setCell ⟨gb282, 1, none⟩ (.int .i64 t279)).setCell ⟨gb282, 2, none⟩ (.string t280)).heap[gb239]? = some (.cells #[.int .i64 2, .int .i64 0, .string (⟨#[97, 98, 99, 100]⟩ : ByteArray)] 23 (0, 0))) := ⟨by (with_reducible repeat (first | refine blk_drewN ?_ _ | refine blk_drew ?_ | refine blk_alloc ?_ _)); refine blk_far ?_ NB239_282.out _; (with_reducible repeat (first | refine blk_drewN ?_ _ | refine blk_drew ?_ | refine blk_alloc ?_ _)); refine blk_far ?_ NB239_282.out _; (with_reducible repeat (first | refine blk_drewN ?_ _ | refine blk_drew ?_ | refine blk_alloc ?_ _)); refine blk_far ?_ NB239_282.out _; (with_reducible repeat (first | refine blk_drewN ?_ _ | refine blk_drew ?_ | refine blk_alloc ?_ _)); exact BK239.out⟩
          have n1_ : Aside0 ((((w47.setCell ⟨gb282, 0, none⟩ (.int .i64 t278)).setCell ⟨gb282, 1, none⟩ (.int .i64 t279)).setCell ⟨gb282, 2, none⟩ (.string t280)).heap[gb247]? = some (.cells #[.int .i64 t243, .int .i64 t244, .string t245] 23 (0, 0))) := ⟨by (with_reducible repeat (first | refine blk_drewN ?_ _ | refine blk_drew ?_ | refine blk_alloc ?_ _)); refine blk_far ?_ NB247_282.out _; (with_reducible repeat (first | refine blk_drewN ?_ _ | refine blk_drew ?_ | refine blk_alloc ?_ _)); refine blk_far ?_ NB247_282.out _; (with_reducible repeat (first | refine blk_drewN ?_ _ | refine blk_drew ?_ | refine blk_alloc ?_ _)); refine blk_far ?_ NB247_282.out _; (with_reducible repeat (first | refine blk_drewN ?_ _ | refine blk_drew ?_ | refine blk_alloc ?_ _)); exact BK247.out⟩
          have n2_ : Aside0 ((((w47.setCell ⟨gb282, 0, none⟩ (.int .i64 t278)).setCell ⟨gb282, 1, none⟩ (.int .i64 t279)).setCell ⟨gb282, 2, none⟩ (.string t280)).heap[gb255]? = some (.cells #[.int .i64 t251, .int .i64 t252, .string t253] 23 (0, 0))) := ⟨by (with_reducible repeat (first | refine blk_drewN ?_ _ | refine blk_drew ?_ | refine blk_alloc ?_ _)); refine blk_far ?_ NB255_282.out _; (with_reducible repeat (first | refine blk_drewN ?_ _ | refine blk_drew ?_ | refine blk_alloc ?_ _)); refine blk_far ?_ NB255_282.out _; (with_reducible repeat (first | refine blk_drewN ?_ _ | refine blk_drew ?_ | refine blk_alloc ?_ _)); refine blk_far ?_ NB255_282.out _; (with_reducible repeat (first | refine blk_drewN ?_ _ | refine blk_drew ?_ | refine blk_alloc ?_ _)); exact BK255.out⟩
          have n3_ : Aside0 ((((w47.setCell ⟨gb282, 0, none⟩ (.int .i64 t278)).setCell ⟨gb282, 1, none⟩ (.int .i64 t279)).setCell ⟨gb282, 2, none⟩ (.string t280)).heap[gb266]? = some (.cells #[.int .i64 t262, .int .i64 t263, .string t264] 23 (0, 0))) := ⟨by (with_reducible repeat (first | refine blk_drewN ?_ _ | refine blk_drew ?_ | refine blk_alloc ?_ _)); refine blk_far ?_ NB266_282.out _; (with_reducible repeat (first | refine blk_drewN ?_ _ | refine blk_drew ?_ | refine blk_alloc ?_ _)); refine blk_far ?_ NB266_282.out _; (with_reducible repeat (first | refine blk_drewN ?_ _ | refine blk_drew ?_ | refine blk_alloc ?_ _)); refine blk_far ?_ NB266_282.out _; (with_reducible repeat (first | refine blk_drewN ?_ _ | refine blk_drew ?_ | refine blk_alloc ?_ _)); exact BK266.out⟩
          have n4_ : Aside0 ((((w47.setCell ⟨gb282, 0, none⟩ (.int .i64 t278)).setCell ⟨gb282, 1, none⟩ (.int .i64 t279)).setCell ⟨gb282, 2, none⟩ (.string t280)).heap[gb274]? = some (.cells #[.int .i64 t270, .int .i64 t271, .string t272] 23 (0, 0))) := ⟨by (with_reducible repeat (first | refine blk_drewN ?_ _ | refine blk_drew ?_ | refine blk_alloc ?_ _)); refine blk_far ?_ NB274_282.out _; (with_reducible repeat (first | refine blk_drewN ?_ _ | refine blk_drew ?_ | refine blk_alloc ?_ _)); refine blk_far ?_ NB274_282.out _; (with_reducible repeat (first | refine blk_drewN ?_ _ | refine blk_drew ?_ | refine blk_alloc ?_ _)); refine blk_far ?_ NB274_282.out _; (with_reducible repeat (first | refine blk_drewN ?_ _ | refine blk_drew ?_ | refine blk_alloc ?_ _)); exact BK274.out⟩
          have n5_ : Aside0 ((((w47.setCell ⟨gb282, 0, none⟩ (.int .i64 t278)).setCell ⟨gb282, 1, none⟩ (.int .i64 t279)).setCell ⟨gb282, 2, none⟩ (.string t280)).heap[gb282]? = some (.cells #[.int .i64 t278, .int .i64 t279, .string t280] 23 (0, 0))) := ⟨by (with_reducible repeat (first | refine blk_drewN ?_ _ | refine blk_drew ?_ | refine blk_alloc ?_ _)); refine blk_put (cs := #[.int .i64 t278, .int .i64 t279, .string (⟨#[]⟩ : ByteArray)]) ?_ 2 _ rfl; (with_reducible repeat (first | refine blk_drewN ?_ _ | refine blk_drew ?_ | refine blk_alloc ?_ _)); refine blk_put (cs := #[.int .i64 t278, .int .i64 0, .string (⟨#[]⟩ : ByteArray)]) ?_ 1 _ rfl; (with_reducible repeat (first | refine blk_drewN ?_ _ | refine blk_drew ?_ | refine blk_alloc ?_ _)); refine blk_put (cs := #[.int .i64 0, .int .i64 0, .string (⟨#[]⟩ : ByteArray)]) ?_ 0 _ rfl; (with_reducible repeat (first | refine blk_drewN ?_ _ | refine blk_drew ?_ | refine blk_alloc ?_ _)); exact BK282.out⟩
          have n6_ : Aside0 (Below w.heap.size w (((w47.setCell ⟨gb282, 0, none⟩ (.int .i64 t278)).setCell ⟨gb282, 1, none⟩ (.int .i64 t279)).setCell ⟨gb282, 2, none⟩ (.string t280))) := ⟨by repeat (first | (with_reducible first | exact HB.out | apply below_alloc | apply pw_below_drewN | apply below_drew1 | refine below_set ?_ GE239.out | refine below_set ?_ GE247.out | refine below_set ?_ GE255.out | refine below_set ?_ GE266.out | refine below_set ?_ GE274.out | refine below_set ?_ GE282.out) | exact HB.out)⟩
          (try clear BK239)
          (try clear BK247)
          (try clear BK255)
          (try clear BK266)
          (try clear BK274)
          (try clear BK282)
          (try clear HB)
          generalize (((w47.setCell ⟨gb282, 0, none⟩ (.int .i64 t278)).setCell ⟨gb282, 1, none⟩ (.int .i64 t279)).setCell ⟨gb282, 2, none⟩ (.string t280)) = w64 at n0_ n1_ n2_ n3_ n4_ n5_ n6_ ⊢
          have BK239 := n0_
          have BK247 := n1_
          have BK255 := n2_
          have BK266 := n3_
          have BK274 := n4_
          have BK282 := n5_
          have HB := n6_
          clear n0_ n1_ n2_ n3_ n4_ n5_ n6_
          replace BK239 := Aside0.mk (blk_drew BK239.out)
          replace BK247 := Aside0.mk (blk_drew BK247.out)
          replace BK255 := Aside0.mk (blk_drew BK255.out)
          replace BK266 := Aside0.mk (blk_drew BK266.out)
          replace BK274 := Aside0.mk (blk_drew BK274.out)
          replace BK282 := Aside0.mk (blk_drew BK282.out)
          replace HB := Aside0.mk (below_drew1 HB.out)
          refine start_ (n := 39) (S := fun w' => w'.cell? ⟨gb247, 0, none⟩ = some (.int .i64 t243) ∧ w'.cell? ⟨gb247, 1, none⟩ = some (.int .i64 t244) ∧ w'.cell? ⟨gb247, 2, none⟩ = some (.string t245) ∧ w'.cell? ⟨gb266, 0, none⟩ = some (.int .i64 t262) ∧ w'.cell? ⟨gb266, 1, none⟩ = some (.int .i64 t263) ∧ w'.cell? ⟨gb266, 2, none⟩ = some (.string t264) ∧ w'.cell? ⟨gb274, 0, none⟩ = some (.int .i64 t270) ∧ w'.cell? ⟨gb274, 1, none⟩ = some (.int .i64 t271) ∧ w'.cell? ⟨gb274, 2, none⟩ = some (.string t272) ∧ w'.cell? ⟨gb282, 0, none⟩ = some (.int .i64 t278) ∧ w'.cell? ⟨gb282, 1, none⟩ = some (.int .i64 t279) ∧ w'.cell? ⟨gb282, 2, none⟩ = some (.string t280)) (ds := []) #[false, false, false, false, false, false, false, false, false, false, false, false, false, false, false, false, false, false, false, false, false, false, false, false, false, false, false, false, false, false, false, false, false, false, false, false, false, false, false] (by kernel_rfl) rfl rfl ⟨bc BK247 0, bc BK247 1, bc BK247 2, bc BK266 0, bc BK266 1, bc BK266 2, bc BK274 0, bc BK274 1, bc BK274 2, bc BK282 0, bc BK282 1, bc BK282 2⟩ (fun hHeld => ?_); refine with_tabW alumlaw19_sanity.tab7 alumlaw19_sanity.bits7 (fun HT_ HW_ => ?_)
          generalize w64.drew = w65 at BK239 BK247 BK255 BK266 BK274 BK282 HB hHeld ⊢
          refine pureA 1 47 #[false, true, false, false, false, false, false, false, false, false, false, false, false, false, false, false, false, false, false, false, false, false, false, false, false, false, false, false, false, false, false, false, false, false, false, false, false, false, false] HT_ ?_
          refine takeA 0 46 #[true, true, false, false, false, false, false, false, false, false, false, false, false, false, false, false, false, false, false, false, false, false, false, false, false, false, false, false, false, false, false, false, false, false, false, false, false, false, false] HT_ HW_ hHeld ?_
          refine pureA 2 48 #[true, true, true, false, false, false, false, false, false, false, false, false, false, false, false, false, false, false, false, false, false, false, false, false, false, false, false, false, false, false, false, false, false, false, false, false, false, false, false] HT_ ?_
          refine pureA 3 49 #[true, true, true, true, false, false, false, false, false, false, false, false, false, false, false, false, false, false, false, false, false, false, false, false, false, false, false, false, false, false, false, false, false, false, false, false, false, false, false] HT_ ?_
          refine pureA 4 50 #[true, true, true, true, true, false, false, false, false, false, false, false, false, false, false, false, false, false, false, false, false, false, false, false, false, false, false, false, false, false, false, false, false, false, false, false, false, false, false] HT_ ?_
          refine pureA 5 51 #[true, true, true, true, true, true, false, false, false, false, false, false, false, false, false, false, false, false, false, false, false, false, false, false, false, false, false, false, false, false, false, false, false, false, false, false, false, false, false] HT_ ?_
          refine pureA 6 52 #[true, true, true, true, true, true, true, false, false, false, false, false, false, false, false, false, false, false, false, false, false, false, false, false, false, false, false, false, false, false, false, false, false, false, false, false, false, false, false] HT_ ?_
          refine pureA 7 53 #[true, true, true, true, true, true, true, true, false, false, false, false, false, false, false, false, false, false, false, false, false, false, false, false, false, false, false, false, false, false, false, false, false, false, false, false, false, false, false] HT_ ?_
          refine pureA 8 54 #[true, true, true, true, true, true, true, true, true, false, false, false, false, false, false, false, false, false, false, false, false, false, false, false, false, false, false, false, false, false, false, false, false, false, false, false, false, false, false] HT_ ?_
          refine pureA 9 55 #[true, true, true, true, true, true, true, true, true, true, false, false, false, false, false, false, false, false, false, false, false, false, false, false, false, false, false, false, false, false, false, false, false, false, false, false, false, false, false] HT_ ?_
          refine pureA 10 56 #[true, true, true, true, true, true, true, true, true, true, true, false, false, false, false, false, false, false, false, false, false, false, false, false, false, false, false, false, false, false, false, false, false, false, false, false, false, false, false] HT_ ?_
          refine pureA 11 57 #[true, true, true, true, true, true, true, true, true, true, true, true, false, false, false, false, false, false, false, false, false, false, false, false, false, false, false, false, false, false, false, false, false, false, false, false, false, false, false] HT_ ?_
          refine takeA 12 58 #[true, true, true, true, true, true, true, true, true, true, true, true, true, false, false, false, false, false, false, false, false, false, false, false, false, false, false, false, false, false, false, false, false, false, false, false, false, false, false] HT_ HW_ hHeld ?_
          refine one_ (i := 13) (N := some 59) #[true, true, true, true, true, true, true, true, true, true, true, true, true, true, false, false, false, false, false, false, false, false, false, false, false, false, false, false, false, false, false, false, false, false, false, false, false, false, false] rfl rfl (one_of HT_.out (by kernel_rfl)) (by decide) (fun K hK => ?_)
          refine goes_ Tryd.func15 (by kernel_rfl) rfl #[.bool true] (by rfl) rfl rfl (by (try simp only [List.map_toArray, List.map_cons, List.map_nil]); first | done | rfl | (simp only [List.length_drop, List.length_take]; rfl)) ?_
          with_reducible refine (alumref19_Bool.calls true t283 t284 t285 _ A57.out).mono ?_
          rintro e w66 ⟨rfl, hb⟩
          refine ⟨_, rfl, ?_⟩
          replace BK239 := blkB BK239 hb
          replace BK247 := blkB BK247 hb
          replace BK255 := blkB BK255 hb
          replace BK266 := blkB BK266 hb
          replace BK274 := blkB BK274 hb
          replace BK282 := blkB BK282 hb
          replace HB := stepB HB hb
          (try clear hb)
          (try clear hb2)
          (try clear hk)
          (try clear hi)
          refine hK.out _ _ ⟨bc BK247 0, bc BK247 1, bc BK247 2, bc BK266 0, bc BK266 1, bc BK266 2, bc BK274 0, bc BK274 1, bc BK274 2, bc BK282 0, bc BK282 1, bc BK282 2⟩ (fun hHeld => ?_)
          clear hK K
          refine normA 59 ?_
          refine pureA 14 60 #[true, true, true, true, true, true, true, true, true, true, true, true, true, true, true, false, false, false, false, false, false, false, false, false, false, false, false, false, false, false, false, false, false, false, false, false, false, false, false] HT_ ?_
          refine pureA 15 61 #[true, true, true, true, true, true, true, true, true, true, true, true, true, true, true, true, false, false, false, false, false, false, false, false, false, false, false, false, false, false, false, false, false, false, false, false, false, false, false] HT_ ?_
          refine pureA 16 62 #[true, true, true, true, true, true, true, true, true, true, true, true, true, true, true, true, true, false, false, false, false, false, false, false, false, false, false, false, false, false, false, false, false, false, false, false, false, false, false] HT_ ?_
          refine pureA 17 63 #[true, true, true, true, true, true, true, true, true, true, true, true, true, true, true, true, true, true, false, false, false, false, false, false, false, false, false, false, false, false, false, false, false, false, false, false, false, false, false] HT_ ?_
          refine pureA 18 64 #[true, true, true, true, true, true, true, true, true, true, true, true, true, true, true, true, true, true, true, false, false, false, false, false, false, false, false, false, false, false, false, false, false, false, false, false, false, false, false] HT_ ?_
          refine pureA 19 65 #[true, true, true, true, true, true, true, true, true, true, true, true, true, true, true, true, true, true, true, true, false, false, false, false, false, false, false, false, false, false, false, false, false, false, false, false, false, false, false] HT_ ?_
          refine pureA 20 66 #[true, true, true, true, true, true, true, true, true, true, true, true, true, true, true, true, true, true, true, true, true, false, false, false, false, false, false, false, false, false, false, false, false, false, false, false, false, false, false] HT_ ?_
          refine takeA 21 67 #[true, true, true, true, true, true, true, true, true, true, true, true, true, true, true, true, true, true, true, true, true, true, false, false, false, false, false, false, false, false, false, false, false, false, false, false, false, false, false] HT_ HW_ hHeld ?_
          refine one_ (i := 22) (N := some 68) #[true, true, true, true, true, true, true, true, true, true, true, true, true, true, true, true, true, true, true, true, true, true, true, false, false, false, false, false, false, false, false, false, false, false, false, false, false, false, false] rfl rfl (one_of HT_.out (by kernel_rfl)) (by decide) (fun K hK => ?_)
          refine goes_ Tryd.func15 (by kernel_rfl) rfl #[.bool false] (by rfl) rfl rfl (by (try simp only [List.map_toArray, List.map_cons, List.map_nil]); first | done | rfl | (simp only [List.length_drop, List.length_take]; rfl)) ?_
          with_reducible refine (alumref19_Bool.calls false t286 t287 t288 _ A60.out).mono ?_
          rintro e w67 ⟨rfl, hb⟩
          refine ⟨_, rfl, ?_⟩
          replace BK239 := blkB BK239 hb
          replace BK247 := blkB BK247 hb
          replace BK255 := blkB BK255 hb
          replace BK266 := blkB BK266 hb
          replace BK274 := blkB BK274 hb
          replace BK282 := blkB BK282 hb
          replace HB := stepB HB hb
          (try clear hb)
          (try clear hb2)
          (try clear hk)
          (try clear hi)
          refine hK.out _ _ ⟨bc BK247 0, bc BK247 1, bc BK247 2, bc BK266 0, bc BK266 1, bc BK266 2, bc BK274 0, bc BK274 1, bc BK274 2, bc BK282 0, bc BK282 1, bc BK282 2⟩ (fun hHeld => ?_)
          clear hK K
          refine normA 68 ?_
          refine pureA 23 69 #[true, true, true, true, true, true, true, true, true, true, true, true, true, true, true, true, true, true, true, true, true, true, true, true, false, false, false, false, false, false, false, false, false, false, false, false, false, false, false] HT_ ?_
          refine pureA 24 70 #[true, true, true, true, true, true, true, true, true, true, true, true, true, true, true, true, true, true, true, true, true, true, true, true, true, false, false, false, false, false, false, false, false, false, false, false, false, false, false] HT_ ?_
          refine pureA 25 71 #[true, true, true, true, true, true, true, true, true, true, true, true, true, true, true, true, true, true, true, true, true, true, true, true, true, true, false, false, false, false, false, false, false, false, false, false, false, false, false] HT_ ?_
          refine pureA 26 72 #[true, true, true, true, true, true, true, true, true, true, true, true, true, true, true, true, true, true, true, true, true, true, true, true, true, true, true, false, false, false, false, false, false, false, false, false, false, false, false] HT_ ?_
          refine pureA 27 73 #[true, true, true, true, true, true, true, true, true, true, true, true, true, true, true, true, true, true, true, true, true, true, true, true, true, true, true, true, false, false, false, false, false, false, false, false, false, false, false] HT_ ?_
          refine pureA 28 74 #[true, true, true, true, true, true, true, true, true, true, true, true, true, true, true, true, true, true, true, true, true, true, true, true, true, true, true, true, true, false, false, false, false, false, false, false, false, false, false] HT_ ?_
          refine pureA 29 75 #[true, true, true, true, true, true, true, true, true, true, true, true, true, true, true, true, true, true, true, true, true, true, true, true, true, true, true, true, true, true, false, false, false, false, false, false, false, false, false] HT_ ?_
          refine pureA 31 77 #[true, true, true, true, true, true, true, true, true, true, true, true, true, true, true, true, true, true, true, true, true, true, true, true, true, true, true, true, true, true, false, true, false, false, false, false, false, false, false] HT_ ?_
          refine takeA 30 76 #[true, true, true, true, true, true, true, true, true, true, true, true, true, true, true, true, true, true, true, true, true, true, true, true, true, true, true, true, true, true, true, true, false, false, false, false, false, false, false] HT_ HW_ hHeld ?_
          refine pureA 32 78 #[true, true, true, true, true, true, true, true, true, true, true, true, true, true, true, true, true, true, true, true, true, true, true, true, true, true, true, true, true, true, true, true, true, false, false, false, false, false, false] HT_ ?_
          refine pureA 33 79 #[true, true, true, true, true, true, true, true, true, true, true, true, true, true, true, true, true, true, true, true, true, true, true, true, true, true, true, true, true, true, true, true, true, true, false, false, false, false, false] HT_ ?_
          refine pureA 34 80 #[true, true, true, true, true, true, true, true, true, true, true, true, true, true, true, true, true, true, true, true, true, true, true, true, true, true, true, true, true, true, true, true, true, true, true, false, false, false, false] HT_ ?_
          refine pureA 35 81 #[true, true, true, true, true, true, true, true, true, true, true, true, true, true, true, true, true, true, true, true, true, true, true, true, true, true, true, true, true, true, true, true, true, true, true, true, false, false, false] HT_ ?_
          refine pureA 36 82 #[true, true, true, true, true, true, true, true, true, true, true, true, true, true, true, true, true, true, true, true, true, true, true, true, true, true, true, true, true, true, true, true, true, true, true, true, true, false, false] HT_ ?_
          refine pureA 37 83 #[true, true, true, true, true, true, true, true, true, true, true, true, true, true, true, true, true, true, true, true, true, true, true, true, true, true, true, true, true, true, true, true, true, true, true, true, true, true, false] HT_ ?_
          refine pureA 38 12 #[true, true, true, true, true, true, true, true, true, true, true, true, true, true, true, true, true, true, true, true, true, true, true, true, true, true, true, true, true, true, true, true, true, true, true, true, true, true, true] HT_ ?_
          refine done_ (done_of HT_.out (by kernel_rfl)) ?_
          try go_wp2
          go_meet
          case rel => exact ⟨_, ((t281 == 0)), (by first | rfl | (simp; done) | (simp [*]; done)), H', ⟨by first | omega | exact Nat.le_refl _⟩, ⟨by (with_reducible repeat (first | refine blk_drewN ?_ _ | refine blk_drew ?_ | refine blk_alloc ?_ _)); exact BK239.out⟩, ⟨by (with_reducible repeat (first | refine blk_drewN ?_ _ | refine blk_drew ?_ | refine blk_alloc ?_ _)); exact BK247.out⟩, ⟨by (with_reducible repeat (first | refine blk_drewN ?_ _ | refine blk_drew ?_ | refine blk_alloc ?_ _)); exact BK255.out⟩, ⟨by (with_reducible repeat (first | refine blk_drewN ?_ _ | refine blk_drew ?_ | refine blk_alloc ?_ _)); exact BK266.out⟩, ⟨by (with_reducible repeat (first | refine blk_drewN ?_ _ | refine blk_drew ?_ | refine blk_alloc ?_ _)); exact BK274.out⟩, ⟨by (with_reducible repeat (first | refine blk_drewN ?_ _ | refine blk_drew ?_ | refine blk_alloc ?_ _)); exact BK282.out⟩, ⟨by repeat (first | (with_reducible first | exact HB.out | apply below_alloc | apply pw_below_drewN | apply below_drew1 | refine below_set ?_ GE239.out | refine below_set ?_ GE247.out | refine below_set ?_ GE255.out | refine below_set ?_ GE266.out | refine below_set ?_ GE274.out | refine below_set ?_ GE282.out) | exact HB.out)⟩⟩
         ·rw [if_neg c63] at H
          exact absurd H (by simp)
        ·rw [if_neg c62] at H
         exact absurd H (by simp)
       ·rw [if_neg c61] at H
        exact absurd H (by simp)
      ·rw [if_neg c59] at H
       exact absurd H (by simp)
     ·rw [if_neg c58] at H
      exact absurd H (by simp)
    ·rw [if_neg c56] at H
     exact absurd H (by simp)
   ·rw [if_neg c55] at H
    exact absurd H (by simp)
  ·rw [if_neg c54] at H
   exact absurd H (by simp)
 case rest =>
  clear HC12
  try clear c1
  try clear c2
  try clear p2
  try clear c3
  try clear c4
  try clear c5
  try clear c6
  try clear c14
  try clear c15
  try clear c22
  try clear c24
  try clear c33
  try clear c34
  try clear c35
  try clear c40
  try clear c41
  try clear c42
  try clear c43
  try clear c48
  try clear c49
  try clear c50
  try clear c51
  try clear c52
  try clear c54
  try clear c54b0
  try clear c54b1
  try clear c54b2
  try clear c55
  try clear c55b0
  try clear c55b1
  try clear c56
  try clear c56b0
  try clear c56b1
  try clear c58
  try clear c58b0
  try clear c58b1
  try clear c58b2
  try clear c59
  try clear c59b0
  try clear c59b1
  try clear c61
  try clear c61b0
  try clear c61b1
  try clear c61b2
  try clear c62
  try clear c62b0
  try clear c62b1
  try clear c63
  try clear c63b0
  try clear c63b1
  try clear c63b2
  try clear hcz36_0
  try clear hcz36_1
  try clear hcz36_2
  try clear hcz44_0
  try clear hcz44_1
  try clear hcz44_2
  try clear hcz53_0
  try clear hcz53_1
  try clear hcz53_2
  try clear hfz36_0
  try clear hfz36_1
  try clear hfz36_2
  try clear hfz44_0
  try clear hfz44_1
  try clear hfz44_2
  try clear hfz53_0
  try clear hfz53_1
  try clear hfz53_2
  obtain ⟨kq, x12_11, rfl, HA, HJ11, BK239, BK247, BK255, BK266, BK274, BK282, HB⟩ := hcut
  cases kq with
  | zero => exact absurd HA.out (by simp [alumlaw19_sanity.j0])
  | succ kj11 =>
   have H := HA.out
   clear HA
   simp only [alumlaw19_sanity.j0] at H
   replace H := Option.bind_eq_some_iff.mp H
   obtain ⟨⟨t289, t290, t291⟩, A680, H⟩ := H
   replace H : ((value_Key.f kj11 (([(⟨t289, t290, t291⟩ : S23), (⟨2, 0, (⟨#[97, 98, 99, 100]⟩ : ByteArray)⟩ : S23)] : List (S23))) 9).bind fun t295 => ((alumref19_SameInts.f kj11 t295 (([1, 0, 2, 418262508548, 0] : List Int))).bind fun t301 => (if t301 = true then ((alumlaw19_num.f (-5)).bind fun bt302 => ((value_Compare.f kj11 0 0 (⟨#[]⟩ : ByteArray) bt302.1 bt302.2.1 bt302.2.2).bind fun t305 => (if t305 = (-1) then ((value_Compare.f kj11 2 0 (⟨#[98]⟩ : ByteArray) 2 0 (⟨#[97, 98]⟩ : ByteArray)).bind fun t306 => (alumlaw19_sanity.j1 kj11 x12_11 (t306 == 1))) else (none)))) else (none)))) = some r := H
   have A68 := Aside0.mk A680
   clear A680
   obtain ⟨y292, hy292⟩ : ∃ y_ : List (S23), y_ = (([(⟨t289, t290, t291⟩ : S23), (⟨2, 0, (⟨#[97, 98, 99, 100]⟩ : ByteArray)⟩ : S23)] : List (S23))) := ⟨_, rfl⟩
   replace H : ((value_Key.f kj11 y292 9).bind fun t295 => ((alumref19_SameInts.f kj11 t295 (([1, 0, 2, 418262508548, 0] : List Int))).bind fun t301 => (if t301 = true then ((alumlaw19_num.f (-5)).bind fun bt302 => ((value_Compare.f kj11 0 0 (⟨#[]⟩ : ByteArray) bt302.1 bt302.2.1 bt302.2.2).bind fun t305 => (if t305 = (-1) then ((value_Compare.f kj11 2 0 (⟨#[98]⟩ : ByteArray) 2 0 (⟨#[97, 98]⟩ : ByteArray)).bind fun t306 => (alumlaw19_sanity.j1 kj11 x12_11 (t306 == 1))) else (none)))) else (none)))) = some r := by first | (rw [hy292]; with_reducible exact H) | (have H2_ := (Option.bind_some _ _).symm.trans H; rw [hy292]; with_reducible exact H2_) | (have H2_ := (Option.bind_some _ _).symm.trans H; with_reducible exact H2_) | with_reducible exact H | (rw [hy292]; exact H) | exact H
   have Ny292 := Aside0.mk hy292
   clear hy292
   replace H := Option.bind_eq_some_iff.mp H
   obtain ⟨t295, A690, H⟩ := H
   replace H : ((alumref19_SameInts.f kj11 t295 (([1, 0, 2, 418262508548, 0] : List Int))).bind fun t301 => (if t301 = true then ((alumlaw19_num.f (-5)).bind fun bt302 => ((value_Compare.f kj11 0 0 (⟨#[]⟩ : ByteArray) bt302.1 bt302.2.1 bt302.2.2).bind fun t305 => (if t305 = (-1) then ((value_Compare.f kj11 2 0 (⟨#[98]⟩ : ByteArray) 2 0 (⟨#[97, 98]⟩ : ByteArray)).bind fun t306 => (alumlaw19_sanity.j1 kj11 x12_11 (t306 == 1))) else (none)))) else (none))) = some r := H
   have A69 := Aside0.mk A690
   clear A690
   have HC70 := Aside0.mk H
   clear H
   try go_wp2
   replace BK239 := Aside0.mk (blk_drew BK239.out)
   replace BK247 := Aside0.mk (blk_drew BK247.out)
   replace BK255 := Aside0.mk (blk_drew BK255.out)
   replace BK266 := Aside0.mk (blk_drew BK266.out)
   replace BK274 := Aside0.mk (blk_drew BK274.out)
   replace BK282 := Aside0.mk (blk_drew BK282.out)
   replace HB := Aside0.mk (below_drew1 HB.out)
   refine start_ (n := 5) (S := fun w' => w'.cell? ⟨gb239, 0, none⟩ = some (.int .i64 2) ∧ w'.cell? ⟨gb239, 1, none⟩ = some (.int .i64 0) ∧ w'.cell? ⟨gb239, 2, none⟩ = some (.string (⟨#[97, 98, 99, 100]⟩ : ByteArray))) (ds := []) #[false, false, false, false, false] (by kernel_rfl) rfl rfl ⟨bc BK239 0, bc BK239 1, bc BK239 2⟩ (fun hHeld => ?_)
   generalize wc.drew = w71 at BK239 BK247 BK255 BK266 BK274 BK282 HB hHeld ⊢
   refine take_ (i := 1) (N := some 85) (v := ?_) (a' := ?_) #[false, true, false, false, false] rfl rfl (by kernel_rfl) (fun _ _ _ h => h) (Or.inl ⟨by rfl, ?_⟩) hHeld ?_ ?_
   rotate_left
   ·rintro w' ⟨s0, s1, s2⟩
    go_simp
    with_reducible rfl
   rotate_left
   ·simp only [Act.put, List.setIfInBounds_toArray, List.set_cons_zero, List.set_cons_succ, i64_w, i32_w]
    rfl
   refine one_ (i := 0) (N := some 84) #[true, true, false, false, false] rfl rfl (by kernel_rfl) (by decide) (fun K hK => ?_)
   refine goes_ Tryd.func42 (by kernel_rfl) rfl #[.int .i64 (-549755813888)] (by rfl) rfl rfl (by (try simp only [List.map_toArray, List.map_cons, List.map_nil]); first | done | rfl | (simp only [List.length_drop, List.length_take]; rfl)) ?_
   with_reducible refine (alumlaw19_num.calls (-549755813888) t289 t290 t291 _ A68.out).mono ?_
   rintro e w72 ⟨rfl, hb⟩
   refine ⟨_, rfl, ?_⟩
   replace BK239 := blkB BK239 hb
   replace BK247 := blkB BK247 hb
   replace BK255 := blkB BK255 hb
   replace BK266 := blkB BK266 hb
   replace BK274 := blkB BK274 hb
   replace BK282 := blkB BK282 hb
   replace HB := stepB HB hb
   (try clear hb)
   (try clear hb2)
   (try clear hk)
   (try clear hi)
   refine hK.out _ _ ⟨bc BK239 0, bc BK239 1, bc BK239 2⟩ (fun hHeld => ?_)
   clear hK K
   refine normA 84 ?_
   refine one_ (i := 2) (N := some 86) #[true, true, true, false, false] rfl rfl (by kernel_rfl) (by decide) (fun K hK => ?_)
   refine Kd.R_lit_step k23 _ 23 ?hg (N := 86) ?hd (xs := ([(⟨t289, t290, t291⟩ : S23), (⟨2, 0, (⟨#[97, 98, 99, 100]⟩ : ByteArray)⟩ : S23)] : List (S23))) (inner := [.int .i64 t289, .int .i64 t290, .string t291, .int .i64 2, .int .i64 0, .string (⟨#[97, 98, 99, 100]⟩ : ByteArray)]) (ok := fun _ => True) (okp := fun _ => True) ?hr ?hp (fun _ hk => hk) trivial (Below.refl _ _) (Nat.le_refl _) (by simp) ?_; (case hd => rfl); (case hg => rfl); (case hr => first | (go_simp; done) | (go_simp; rfl)); (case hp => exact (Reps.c3 (show Kd.M k23 _ _ _ (⟨t289, t290, t291⟩ : S23) [.int .i64 t289, .int .i64 t290, .string t291] from (k23_mkM _ _ _ (⟨t289, t290, t291⟩ : S23) )) (Reps.c3 (show Kd.M k23 _ _ _ (⟨2, 0, (⟨#[97, 98, 99, 100]⟩ : ByteArray)⟩ : S23) [.int .i64 2, .int .i64 0, .string (⟨#[97, 98, 99, 100]⟩ : ByteArray)] from (k23_mkM _ _ _ (⟨2, 0, (⟨#[97, 98, 99, 100]⟩ : ByteArray)⟩ : S23) )) (Reps.none _ _))))
   intro v293 w73 ho74 hb hg_ hnew_
   clear hg_ hnew_
   (first | rw [← Ny292.out] at ho74 | (simp only [Int.reduceToNat] at ho74; rw [← Ny292.out] at ho74))
   have HO294 := Aside0.mk (Kd.R_lower (Kd.R_newB (Kd.R_newB (Kd.R_newB (Kd.R_newB (Kd.R_newB (Kd.R_newB ho74 (g := gb239) (o := .cells #[.int .i64 2, .int .i64 0, .string (⟨#[97, 98, 99, 100]⟩ : ByteArray)] 23 (0, 0)) (by (with_reducible repeat (first | refine blk_drewN ?_ _ | refine blk_drew ?_ | refine blk_alloc ?_ _)); exact BK239.out)) (g := gb247) (o := .cells #[.int .i64 t243, .int .i64 t244, .string t245] 23 (0, 0)) (by (with_reducible repeat (first | refine blk_drewN ?_ _ | refine blk_drew ?_ | refine blk_alloc ?_ _)); exact BK247.out)) (g := gb255) (o := .cells #[.int .i64 t251, .int .i64 t252, .string t253] 23 (0, 0)) (by (with_reducible repeat (first | refine blk_drewN ?_ _ | refine blk_drew ?_ | refine blk_alloc ?_ _)); exact BK255.out)) (g := gb266) (o := .cells #[.int .i64 t262, .int .i64 t263, .string t264] 23 (0, 0)) (by (with_reducible repeat (first | refine blk_drewN ?_ _ | refine blk_drew ?_ | refine blk_alloc ?_ _)); exact BK266.out)) (g := gb274) (o := .cells #[.int .i64 t270, .int .i64 t271, .string t272] 23 (0, 0)) (by (with_reducible repeat (first | refine blk_drewN ?_ _ | refine blk_drew ?_ | refine blk_alloc ?_ _)); exact BK274.out)) (g := gb282) (o := .cells #[.int .i64 t278, .int .i64 t279, .string t280] 23 (0, 0)) (by (with_reducible repeat (first | refine blk_drewN ?_ _ | refine blk_drew ?_ | refine blk_alloc ?_ _)); exact BK282.out)) (below_size (by repeat (first | (with_reducible first | exact HB.out | apply below_alloc | apply pw_below_drewN | apply below_drew1 | refine below_set ?_ GE239.out | refine below_set ?_ GE247.out | refine below_set ?_ GE255.out | refine below_set ?_ GE266.out | refine below_set ?_ GE274.out | refine below_set ?_ GE282.out) | exact HB.out))))
   replace BK239 := blkB BK239 hb
   replace BK247 := blkB BK247 hb
   replace BK255 := blkB BK255 hb
   replace BK266 := blkB BK266 hb
   replace BK274 := blkB BK274 hb
   replace BK282 := blkB BK282 hb
   replace HB := stepB HB hb
   clear hb ho74
   obtain ⟨Ao75, co75, eo75⟩ := Kd.R_slice HO294.out
   (first | subst eo75 | (injection eo75 with f1_ f2_ f3_; have f4_ := f1_.symm; have f5_ := f3_.symm; clear f1_ f2_ f3_; subst f4_; subst f5_))
   refine hK.out _ _ ⟨bc BK239 0, bc BK239 1, bc BK239 2⟩ (fun hHeld => ?_)
   clear hK K
   refine normA 86 ?_
   refine one_ (i := 3) (N := some 87) #[true, true, true, true, false] rfl rfl (by kernel_rfl) (by decide) (fun K hK => ?_)
   refine goes_ Tryd.func35 (by kernel_rfl) rfl #[.slice Ao75 y292.length co75, .int .i64 9] (by rfl) rfl rfl (by (try simp only [List.map_toArray, List.map_cons, List.map_nil]); first | done | rfl | (simp only [List.length_drop, List.length_take]; rfl)) ?_
   with_reducible refine (value_Key.calls kj11 _ _ y292 9 t295 _ ?side1 ?side2 A69.out).mono ?_
   (case side1 => repeat (first | exact (Kd.R_reads' HO294.out).2.2 | (with_reducible refine Kd.C_alloc ?_ _) | (with_reducible refine Kd.C_drewN ?_ _) | (with_reducible refine Kd.C_drew ?_)))
   (case side2 => exact (Kd.R_reads' HO294.out).2.1)
   rintro e w76 ⟨v296, rfl, ho0, hb⟩
   refine ⟨_, rfl, ?_⟩
   have HO297 := Aside0.mk (Kd.R_lower ho0 (below_size (by repeat (first | (with_reducible first | exact HB.out | apply below_alloc | apply pw_below_drewN | apply below_drew1 | refine below_set ?_ GE239.out | refine below_set ?_ GE247.out | refine below_set ?_ GE255.out | refine below_set ?_ GE266.out | refine below_set ?_ GE274.out | refine below_set ?_ GE282.out) | exact HB.out))))
   replace HO294 := Aside0.mk (Kd.R_below (by (with_reducible repeat (first | apply Kd.R_alloc | apply Kd.R_drewN | apply Kd.R_drew)); exact HO294.out) hb)
   replace BK239 := blkB BK239 hb
   replace BK247 := blkB BK247 hb
   replace BK255 := blkB BK255 hb
   replace BK266 := blkB BK266 hb
   replace BK274 := blkB BK274 hb
   replace BK282 := blkB BK282 hb
   replace HB := stepB HB hb
   (try clear hb)
   (try clear hb2)
   (try clear hk)
   (try clear hi)
   (try clear ho0)
   refine hK.out _ _ ⟨bc BK239 0, bc BK239 1, bc BK239 2⟩ (fun hHeld => ?_)
   clear hK K
   refine normA 87 ?_
   refine pure_ (i := 4) (N := some 13) (v := ?_) (a' := ?_) #[true, true, true, true, true] rfl rfl (by kernel_rfl) (fun _ _ _ h => h) (Or.inl ⟨by rfl, ?_⟩) ?_ ?_
   rotate_left
   ·intro w'
    go_simp
    with_reducible rfl
   rotate_left
   ·simp only [Act.put, List.setIfInBounds_toArray, List.set_cons_zero, List.set_cons_succ, i64_w, i32_w]
    rfl
   refine done_ (by kernel_rfl) ?_
   go_upto_region 9 with (fail)
   go_cut [14] (fun v14 wc => ∃ (kq : Nat) (x14_69 : Bool), v14 = .bool x14_69 ∧ Aside0 (alumlaw19_sanity.j1 kq x12_11 x14_69 = some r) ∧ Aside0 (kq ≤ kj11) ∧ Aside0 (wc.heap[gb239]? = some (.cells #[.int .i64 2, .int .i64 0, .string (⟨#[97, 98, 99, 100]⟩ : ByteArray)] 23 (0, 0))) ∧ Aside0 (wc.heap[gb247]? = some (.cells #[.int .i64 t243, .int .i64 t244, .string t245] 23 (0, 0))) ∧ Aside0 (wc.heap[gb255]? = some (.cells #[.int .i64 t251, .int .i64 t252, .string t253] 23 (0, 0))) ∧ Aside0 (wc.heap[gb266]? = some (.cells #[.int .i64 t262, .int .i64 t263, .string t264] 23 (0, 0))) ∧ Aside0 (wc.heap[gb274]? = some (.cells #[.int .i64 t270, .int .i64 t271, .string t272] 23 (0, 0))) ∧ Aside0 (wc.heap[gb282]? = some (.cells #[.int .i64 t278, .int .i64 t279, .string t280] 23 (0, 0))) ∧ Aside0 (Below w.heap.size w wc))
   case first =>
    have H := HC70.out
    clear HC70
    obtain ⟨y298, hy298⟩ : ∃ y_ : List Int, y_ = (([1, 0, 2, 418262508548, 0] : List Int)) := ⟨_, rfl⟩
    replace H : ((alumref19_SameInts.f kj11 t295 y298).bind fun t301 => (if t301 = true then ((alumlaw19_num.f (-5)).bind fun bt302 => ((value_Compare.f kj11 0 0 (⟨#[]⟩ : ByteArray) bt302.1 bt302.2.1 bt302.2.2).bind fun t305 => (if t305 = (-1) then ((value_Compare.f kj11 2 0 (⟨#[98]⟩ : ByteArray) 2 0 (⟨#[97, 98]⟩ : ByteArray)).bind fun t306 => (alumlaw19_sanity.j1 kj11 x12_11 (t306 == 1))) else (none)))) else (none))) = some r := by first | (rw [hy298]; with_reducible exact H) | (have H2_ := (Option.bind_some _ _).symm.trans H; rw [hy298]; with_reducible exact H2_) | (have H2_ := (Option.bind_some _ _).symm.trans H; with_reducible exact H2_) | with_reducible exact H | (rw [hy298]; exact H) | exact H
    have Ny298 := Aside0.mk hy298
    clear hy298
    replace H := Option.bind_eq_some_iff.mp H
    obtain ⟨t301, A770, H⟩ := H
    replace H : (if t301 = true then ((alumlaw19_num.f (-5)).bind fun bt302 => ((value_Compare.f kj11 0 0 (⟨#[]⟩ : ByteArray) bt302.1 bt302.2.1 bt302.2.2).bind fun t305 => (if t305 = (-1) then ((value_Compare.f kj11 2 0 (⟨#[98]⟩ : ByteArray) 2 0 (⟨#[97, 98]⟩ : ByteArray)).bind fun t306 => (alumlaw19_sanity.j1 kj11 x12_11 (t306 == 1))) else (none)))) else (none)) = some r := H
    have A77 := Aside0.mk A770
    clear A770
    by_cases c78 : t301 = true
    ·subst c78
     have H1 : ((alumlaw19_num.f (-5)).bind fun bt302 => ((value_Compare.f kj11 0 0 (⟨#[]⟩ : ByteArray) bt302.1 bt302.2.1 bt302.2.2).bind fun t305 => (if t305 = (-1) then ((value_Compare.f kj11 2 0 (⟨#[98]⟩ : ByteArray) 2 0 (⟨#[97, 98]⟩ : ByteArray)).bind fun t306 => (alumlaw19_sanity.j1 kj11 x12_11 (t306 == 1))) else (none)))) = some r := by rw [if_pos rfl] at H; exact H
     clear H
     have H := H1
     clear H1
     replace H := Option.bind_eq_some_iff.mp H
     obtain ⟨⟨t302, t303, t304⟩, A790, H⟩ := H
     replace H : ((value_Compare.f kj11 0 0 (⟨#[]⟩ : ByteArray) t302 t303 t304).bind fun t305 => (if t305 = (-1) then ((value_Compare.f kj11 2 0 (⟨#[98]⟩ : ByteArray) 2 0 (⟨#[97, 98]⟩ : ByteArray)).bind fun t306 => (alumlaw19_sanity.j1 kj11 x12_11 (t306 == 1))) else (none))) = some r := H
     have A79 := Aside0.mk A790
     clear A790
     replace H := Option.bind_eq_some_iff.mp H
     obtain ⟨t305, A800, H⟩ := H
     replace H : (if t305 = (-1) then ((value_Compare.f kj11 2 0 (⟨#[98]⟩ : ByteArray) 2 0 (⟨#[97, 98]⟩ : ByteArray)).bind fun t306 => (alumlaw19_sanity.j1 kj11 x12_11 (t306 == 1))) else (none)) = some r := H
     have A80 := Aside0.mk A800
     clear A800
     by_cases c81 : t305 = (-1)
     ·rw [if_pos c81] at H
      have c81b0 : (t305 == (-1)) = true := beq_iff_eq.mpr c81
      have c81b1 : (t305 != (-1)) = false := bne_eq_false_iff_eq.mpr c81
      clear c81
      (first | rw [c81b0] | (simp only [i64_w, i32_w]; rw [c81b0]) | skip)
      replace H := Option.bind_eq_some_iff.mp H
      obtain ⟨t306, A820, H⟩ := H
      replace H : (alumlaw19_sanity.j1 kj11 x12_11 (t306 == 1)) = some r := H
      have A82 := Aside0.mk A820
      clear A820
      have H' := Aside0.mk H
      clear H
      go_wp2_with (first | ((with_reducible refine gate_dst (N := 89) rfl ?_); refine Kd.R_lit (Kd.int .i64) _ 3 ?hg (N := 89) ?hd (xs := ([1, 0, 2, 418262508548, 0] : List Int)) (inner := [.int .i64 1, .int .i64 0, .int .i64 2, .int .i64 418262508548, .int .i64 0]) (ok := fun _ => True) (okp := fun _ => True) ?hr ?hp (fun _ hk => hk) trivial (Below.refl _ _) (Nat.le_refl _) (by simp) ?_; (case hd => rfl); (case hg => rfl); (case hr => first | (go_simp; done) | (go_simp; rfl)); (case hp => exact (Reps.one (show Kd.M (Kd.int .i64) _ _ _ 1 [.int .i64 1] from rfl) (Reps.one (show Kd.M (Kd.int .i64) _ _ _ 0 [.int .i64 0] from rfl) (Reps.one (show Kd.M (Kd.int .i64) _ _ _ 2 [.int .i64 2] from rfl) (Reps.one (show Kd.M (Kd.int .i64) _ _ _ 418262508548 [.int .i64 418262508548] from rfl) (Reps.one (show Kd.M (Kd.int .i64) _ _ _ 0 [.int .i64 0] from rfl) (Reps.none _ _))))))); intro v299 w83 ho84 hb hg_ hnew_; clear hg_ hnew_; (first | rw [← Ny298.out] at ho84 | (simp only [Int.reduceToNat] at ho84; rw [← Ny298.out] at ho84)); have HO300 := Aside0.mk (Kd.R_lower (Kd.R_new' ho84 (Kd.R_lt (by (with_reducible repeat (first | apply Kd.R_alloc | apply Kd.R_drewN | apply Kd.R_drew)); exact HO297.out))) (below_size (by repeat (first | (with_reducible first | exact HB.out | apply below_alloc | apply pw_below_drewN | apply below_drew1 | refine below_set ?_ GE239.out | refine below_set ?_ GE247.out | refine below_set ?_ GE255.out | refine below_set ?_ GE266.out | refine below_set ?_ GE274.out | refine below_set ?_ GE282.out) | exact HB.out)))); replace HO294 := Aside0.mk (Kd.R_below (by (with_reducible repeat (first | apply Kd.R_alloc | apply Kd.R_drewN | apply Kd.R_drew)); exact HO294.out) hb); replace HO297 := Aside0.mk (Kd.R_elder' (by (with_reducible repeat (first | apply Kd.R_alloc | apply Kd.R_drewN | apply Kd.R_drew)); exact HO297.out) (Kd.R_base ho84) hb); replace BK239 := blkB BK239 hb; replace BK247 := blkB BK247 hb; replace BK255 := blkB BK255 hb; replace BK266 := blkB BK266 hb; replace BK274 := blkB BK274 hb; replace BK282 := blkB BK282 hb; replace HB := stepB HB hb; clear hb ho84; obtain ⟨Ao85, co85, eo85⟩ := Kd.R_slice HO297.out; subst eo85; obtain ⟨Ao86, co86, eo86⟩ := Kd.R_slice HO300.out; subst eo86) | ((with_reducible refine gate_callee (f := 34) rfl ?_); refine goesL_ (some 90) rfl rfl Tryd.func34 (by kernel_rfl) rfl #[.slice Ao85 t295.length co85, .slice Ao86 y298.length co86] rfl (by (try simp only [List.map_toArray, List.map_cons, List.map_nil]); first | done | rfl | (simp only [List.length_drop, List.length_take]; rfl)) ?_; (with_reducible refine (alumref19_SameInts.calls kj11 _ _ t295 _ _ y298 true _ ?side1 ?side2 ?side3 ?side4 A77.out).mono ?_); (case side1 => repeat (first | exact (Kd.R_reads' HO297.out).2.2 | (with_reducible refine Kd.C_alloc ?_ _) | (with_reducible refine Kd.C_drewN ?_ _) | (with_reducible refine Kd.C_drew ?_))); (case side2 => exact (Kd.R_reads' HO297.out).2.1); (case side3 => repeat (first | exact (Kd.R_reads' HO300.out).2.2 | (with_reducible refine Kd.C_alloc ?_ _) | (with_reducible refine Kd.C_drewN ?_ _) | (with_reducible refine Kd.C_drew ?_))); (case side4 => exact (Kd.R_reads' HO300.out).2.1); rintro e w' ⟨rfl, ⟨nd, rfl⟩⟩; refine ⟨_, rfl, ?_⟩) | (go_at_call 42; (with_reducible refine (alumlaw19_num.calls (-5) t302 t303 t304 _ A79.out).mono ?_); rintro e w87 ⟨rfl, hb⟩; replace HO294 := Aside0.mk (Kd.R_below (by (with_reducible repeat (first | apply Kd.R_alloc | apply Kd.R_drewN | apply Kd.R_drew)); exact HO294.out) hb); replace HO297 := Aside0.mk (Kd.R_below (by (with_reducible repeat (first | apply Kd.R_alloc | apply Kd.R_drewN | apply Kd.R_drew)); exact HO297.out) hb); replace HO300 := Aside0.mk (Kd.R_below (by (with_reducible repeat (first | apply Kd.R_alloc | apply Kd.R_drewN | apply Kd.R_drew)); exact HO300.out) hb); replace BK239 := blkB BK239 hb; replace BK247 := blkB BK247 hb; replace BK255 := blkB BK255 hb; replace BK266 := blkB BK266 hb; replace BK274 := blkB BK274 hb; replace BK282 := blkB BK282 hb; replace HB := stepB HB hb; (try clear hb); (try clear hb2); (try clear hk); (try clear hi)) | (go_at_call 13; (with_reducible refine (value_Compare.calls kj11 0 0 (⟨#[]⟩ : ByteArray) t302 t303 t304 t305 _ A80.out).mono ?_); rintro e w88 ⟨rfl, hb⟩; replace HO294 := Aside0.mk (Kd.R_below (by (with_reducible repeat (first | apply Kd.R_alloc | apply Kd.R_drewN | apply Kd.R_drew)); exact HO294.out) hb); replace HO297 := Aside0.mk (Kd.R_below (by (with_reducible repeat (first | apply Kd.R_alloc | apply Kd.R_drewN | apply Kd.R_drew)); exact HO297.out) hb); replace HO300 := Aside0.mk (Kd.R_below (by (with_reducible repeat (first | apply Kd.R_alloc | apply Kd.R_drewN | apply Kd.R_drew)); exact HO300.out) hb); replace BK239 := blkB BK239 hb; replace BK247 := blkB BK247 hb; replace BK255 := blkB BK255 hb; replace BK266 := blkB BK266 hb; replace BK274 := blkB BK274 hb; replace BK282 := blkB BK282 hb; replace HB := stepB HB hb; (try clear hb); (try clear hb2); (try clear hk); (try clear hi)) | (go_at_call 13; (with_reducible refine (value_Compare.calls kj11 2 0 (⟨#[98]⟩ : ByteArray) 2 0 (⟨#[97, 98]⟩ : ByteArray) t306 _ A82.out).mono ?_); rintro e w89 ⟨rfl, hb⟩; replace HO294 := Aside0.mk (Kd.R_below (by (with_reducible repeat (first | apply Kd.R_alloc | apply Kd.R_drewN | apply Kd.R_drew)); exact HO294.out) hb); replace HO297 := Aside0.mk (Kd.R_below (by (with_reducible repeat (first | apply Kd.R_alloc | apply Kd.R_drewN | apply Kd.R_drew)); exact HO297.out) hb); replace HO300 := Aside0.mk (Kd.R_below (by (with_reducible repeat (first | apply Kd.R_alloc | apply Kd.R_drewN | apply Kd.R_drew)); exact HO300.out) hb); replace BK239 := blkB BK239 hb; replace BK247 := blkB BK247 hb; replace BK255 := blkB BK255 hb; replace BK266 := blkB BK266 hb; replace BK274 := blkB BK274 hb; replace BK282 := blkB BK282 hb; replace HB := stepB HB hb; (try clear hb); (try clear hb2); (try clear hk); (try clear hi)))
      go_meet
      case rel => exact ⟨_, ((t306 == 1)), (by first | rfl | (simp; done) | (simp [*]; done)), H', ⟨by have := HJ11.out; first | omega | exact Nat.le_refl _⟩, ⟨by (with_reducible repeat (first | refine blk_drewN ?_ _ | refine blk_drew ?_ | refine blk_alloc ?_ _)); exact BK239.out⟩, ⟨by (with_reducible repeat (first | refine blk_drewN ?_ _ | refine blk_drew ?_ | refine blk_alloc ?_ _)); exact BK247.out⟩, ⟨by (with_reducible repeat (first | refine blk_drewN ?_ _ | refine blk_drew ?_ | refine blk_alloc ?_ _)); exact BK255.out⟩, ⟨by (with_reducible repeat (first | refine blk_drewN ?_ _ | refine blk_drew ?_ | refine blk_alloc ?_ _)); exact BK266.out⟩, ⟨by (with_reducible repeat (first | refine blk_drewN ?_ _ | refine blk_drew ?_ | refine blk_alloc ?_ _)); exact BK274.out⟩, ⟨by (with_reducible repeat (first | refine blk_drewN ?_ _ | refine blk_drew ?_ | refine blk_alloc ?_ _)); exact BK282.out⟩, ⟨by repeat (first | (with_reducible first | exact HB.out | apply below_alloc | apply pw_below_drewN | apply below_drew1 | refine below_set ?_ GE239.out | refine below_set ?_ GE247.out | refine below_set ?_ GE255.out | refine below_set ?_ GE266.out | refine below_set ?_ GE274.out | refine below_set ?_ GE282.out) | exact HB.out)⟩⟩
     ·rw [if_neg c81] at H
      exact absurd H (by simp)
    ·replace c78 := Bool.eq_false_iff.mpr c78
     subst c78
     have H1 : (none) = some r := by rw [if_neg (show ¬ (false = true) by decide)] at H; exact H
     clear H
     have H := H1
     clear H1
     exact absurd H (by simp)
   case rest =>
    clear HC70
    try clear c1
    try clear c2
    try clear p2
    try clear c3
    try clear c4
    try clear c5
    try clear c6
    try clear c7
    try clear c8
    try clear c14
    try clear c15
    try clear c22
    try clear c24
    try clear c33
    try clear c34
    try clear c35
    try clear c40
    try clear c41
    try clear c42
    try clear c43
    try clear c48
    try clear c49
    try clear c50
    try clear c51
    try clear c52
    try clear c54
    try clear c54b0
    try clear c54b1
    try clear c54b2
    try clear c55
    try clear c55b0
    try clear c55b1
    try clear c56
    try clear c56b0
    try clear c56b1
    try clear c58
    try clear c58b0
    try clear c58b1
    try clear c58b2
    try clear c59
    try clear c59b0
    try clear c59b1
    try clear c61
    try clear c61b0
    try clear c61b1
    try clear c61b2
    try clear c62
    try clear c62b0
    try clear c62b1
    try clear c63
    try clear c63b0
    try clear c63b1
    try clear c63b2
    try clear c78
    try clear c81
    try clear c81b0
    try clear c81b1
    try clear hcz36_0
    try clear hcz36_1
    try clear hcz36_2
    try clear hcz44_0
    try clear hcz44_1
    try clear hcz44_2
    try clear hcz53_0
    try clear hcz53_1
    try clear hcz53_2
    try clear hfz36_0
    try clear hfz36_1
    try clear hfz36_2
    try clear hfz44_0
    try clear hfz44_1
    try clear hfz44_2
    try clear hfz53_0
    try clear hfz53_1
    try clear hfz53_2
    try clear p2
    obtain ⟨kq, x14_69, rfl, HA, HJ69, BK239, BK247, BK255, BK266, BK274, BK282, HB⟩ := hcut
    cases kq with
    | zero => exact absurd HA.out (by simp [alumlaw19_sanity.j1])
    | succ kj69 =>
     have H := HA.out
     clear HA
     simp only [alumlaw19_sanity.j1] at H
     by_cases c90 : x12_11 = true
     ·subst c90
      have H1 : (if x14_69 = true then ((value_Print.f kj69 2 0 (⟨#[97, 39, 10]⟩ : ByteArray)).bind fun t307 => (if t307.toList = ([39, 97, 92, 50, 55, 92, 48, 97, 39] : List UInt8) then ((alumlaw19_num.f 549755813887).bind fun bt308 => ((value_Right.f bt308.1 bt308.2.1 bt308.2.2).bind fun t311 => (if t311 = true then ((alumlaw19_num.f 549755813888).bind fun bt312 => ((value_Right.f bt312.1 bt312.2.1 bt312.2.2).bind fun t315 => (some (!t315)))) else (none)))) else (none))) else (none)) = some r := by rw [if_pos rfl] at H; exact H
      clear H
      have H := H1
      clear H1
      by_cases c91 : x14_69 = true
      ·subst c91
       have H1 : ((value_Print.f kj69 2 0 (⟨#[97, 39, 10]⟩ : ByteArray)).bind fun t307 => (if t307.toList = ([39, 97, 92, 50, 55, 92, 48, 97, 39] : List UInt8) then ((alumlaw19_num.f 549755813887).bind fun bt308 => ((value_Right.f bt308.1 bt308.2.1 bt308.2.2).bind fun t311 => (if t311 = true then ((alumlaw19_num.f 549755813888).bind fun bt312 => ((value_Right.f bt312.1 bt312.2.1 bt312.2.2).bind fun t315 => (some (!t315)))) else (none)))) else (none))) = some r := by rw [if_pos rfl] at H; exact H
       clear H
       have H := H1
       clear H1
       replace H := Option.bind_eq_some_iff.mp H
       obtain ⟨t307, A920, H⟩ := H
       replace H : (if t307.toList = ([39, 97, 92, 50, 55, 92, 48, 97, 39] : List UInt8) then ((alumlaw19_num.f 549755813887).bind fun bt308 => ((value_Right.f bt308.1 bt308.2.1 bt308.2.2).bind fun t311 => (if t311 = true then ((alumlaw19_num.f 549755813888).bind fun bt312 => ((value_Right.f bt312.1 bt312.2.1 bt312.2.2).bind fun t315 => (some (!t315)))) else (none)))) else (none)) = some r := H
       have A92 := Aside0.mk A920
       clear A920
       by_cases c93 : t307.toList = ([39, 97, 92, 50, 55, 92, 48, 97, 39] : List UInt8)
       ·rw [if_pos c93] at H
        have c93b0 : (t307.toList == ([39, 97, 92, 50, 55, 92, 48, 97, 39] : List UInt8)) = true := beq_iff_eq.mpr c93
        have c93b1 : (t307.toList != ([39, 97, 92, 50, 55, 92, 48, 97, 39] : List UInt8)) = false := bne_eq_false_iff_eq.mpr c93
        clear c93
        replace H := Option.bind_eq_some_iff.mp H
        obtain ⟨⟨t308, t309, t310⟩, A940, H⟩ := H
        replace H : ((value_Right.f t308 t309 t310).bind fun t311 => (if t311 = true then ((alumlaw19_num.f 549755813888).bind fun bt312 => ((value_Right.f bt312.1 bt312.2.1 bt312.2.2).bind fun t315 => (some (!t315)))) else (none))) = some r := H
        have A94 := Aside0.mk A940
        clear A940
        replace H := Option.bind_eq_some_iff.mp H
        obtain ⟨t311, A950, H⟩ := H
        replace H : (if t311 = true then ((alumlaw19_num.f 549755813888).bind fun bt312 => ((value_Right.f bt312.1 bt312.2.1 bt312.2.2).bind fun t315 => (some (!t315)))) else (none)) = some r := H
        have A95 := Aside0.mk A950
        clear A950
        by_cases c96 : t311 = true
        ·subst c96
         have H1 : ((alumlaw19_num.f 549755813888).bind fun bt312 => ((value_Right.f bt312.1 bt312.2.1 bt312.2.2).bind fun t315 => (some (!t315)))) = some r := by rw [if_pos rfl] at H; exact H
         clear H
         have H := H1
         clear H1
         replace H := Option.bind_eq_some_iff.mp H
         obtain ⟨⟨t312, t313, t314⟩, A970, H⟩ := H
         replace H : ((value_Right.f t312 t313 t314).bind fun t315 => (some (!t315))) = some r := H
         have A97 := Aside0.mk A970
         clear A970
         replace H := Option.bind_eq_some_iff.mp H
         obtain ⟨t315, A980, H⟩ := H
         replace H : (some (!t315)) = some r := H
         have A98 := Aside0.mk A980
         clear A980
         obtain rfl := Option.some.inj H
         go_wp2_with (first | (go_at_call 29; (with_reducible refine (value_Print.calls kj69 2 0 (⟨#[97, 39, 10]⟩ : ByteArray) t307 _ A92.out).mono ?_); rintro e w99 ⟨rfl, hb⟩; replace BK239 := blkB BK239 hb; replace BK247 := blkB BK247 hb; replace BK255 := blkB BK255 hb; replace BK266 := blkB BK266 hb; replace BK274 := blkB BK274 hb; replace BK282 := blkB BK282 hb; replace HB := stepB HB hb; (try clear hb); (try clear hb2); (try clear hk); (try clear hi)) | (go_at_call 42; (with_reducible refine (alumlaw19_num.calls 549755813887 t308 t309 t310 _ A94.out).mono ?_); rintro e w100 ⟨rfl, hb⟩; replace BK239 := blkB BK239 hb; replace BK247 := blkB BK247 hb; replace BK255 := blkB BK255 hb; replace BK266 := blkB BK266 hb; replace BK274 := blkB BK274 hb; replace BK282 := blkB BK282 hb; replace HB := stepB HB hb; (try clear hb); (try clear hb2); (try clear hk); (try clear hi)) | (go_at_call 19; (with_reducible refine (value_Right.calls t308 t309 t310 true _ A95.out).mono ?_); rintro e w101 ⟨rfl, hb⟩; replace BK239 := blkB BK239 hb; replace BK247 := blkB BK247 hb; replace BK255 := blkB BK255 hb; replace BK266 := blkB BK266 hb; replace BK274 := blkB BK274 hb; replace BK282 := blkB BK282 hb; replace HB := stepB HB hb; (try clear hb); (try clear hb2); (try clear hk); (try clear hi)) | (go_at_call 42; (with_reducible refine (alumlaw19_num.calls 549755813888 t312 t313 t314 _ A97.out).mono ?_); rintro e w102 ⟨rfl, hb⟩; replace BK239 := blkB BK239 hb; replace BK247 := blkB BK247 hb; replace BK255 := blkB BK255 hb; replace BK266 := blkB BK266 hb; replace BK274 := blkB BK274 hb; replace BK282 := blkB BK282 hb; replace HB := stepB HB hb; (try clear hb); (try clear hb2); (try clear hk); (try clear hi)) | (go_at_call 19; (with_reducible refine (value_Right.calls t312 t313 t314 t315 _ A98.out).mono ?_); rintro e w103 ⟨rfl, hb⟩; replace BK239 := blkB BK239 hb; replace BK247 := blkB BK247 hb; replace BK255 := blkB BK255 hb; replace BK266 := blkB BK266 hb; replace BK274 := blkB BK274 hb; replace BK282 := blkB BK282 hb; replace HB := stepB HB hb; (try clear hb); (try clear hb2); (try clear hk); (try clear hi)))
         go_ret
         exact ⟨by first | rfl | (simp [errW_none, errW_some] <;> rfl) | (simp [*, errW_none, errW_some] <;> rfl), by repeat (first | (with_reducible first | exact HB.out | apply below_alloc | apply pw_below_drewN | apply below_drew1 | refine below_set ?_ GE239.out | refine below_set ?_ GE247.out | refine below_set ?_ GE255.out | refine below_set ?_ GE266.out | refine below_set ?_ GE274.out | refine below_set ?_ GE282.out) | exact HB.out)⟩
        ·replace c96 := Bool.eq_false_iff.mpr c96
         subst c96
         have H1 : (none) = some r := by rw [if_neg (show ¬ (false = true) by decide)] at H; exact H
         clear H
         have H := H1
         clear H1
         exact absurd H (by simp)
       ·rw [if_neg c93] at H
        exact absurd H (by simp)
      ·replace c91 := Bool.eq_false_iff.mpr c91
       subst c91
       have H1 : (none) = some r := by rw [if_neg (show ¬ (false = true) by decide)] at H; exact H
       clear H
       have H := H1
       clear H1
       exact absurd H (by simp)
     ·replace c90 := Bool.eq_false_iff.mpr c90
      subst c90
      have H1 : (none) = some r := by rw [if_neg (show ¬ (false = true) by decide)] at H; exact H
      clear H
      have H := H1
      clear H1
      exact absurd H (by simp)
end Go.Proofs.YtmhnfdgegejlkaaDoor.P
end

section
namespace Go.Proofs.YtmhnfdgegejlkaaDoor.P
open Go.RowKit Go.Proofs.YtmhnfdgegejlkaaDoorW.PrintWords Go.Proofs.YtmhnfdgegejlkaaDoorW.PrintLast Go.Proofs.YtmhnfdgegejlkaaDoorW.PrintMore
attribute [local go_sem] max2_int min2_int max_two min_two max_three min_three max_four min_four
set_option linter.unusedVariables false
set_option linter.unusedSimpArgs false
def alumref19_Right.f (a0_0 : Int) (a0_1 : Int) (a0_2 : ByteArray) : Option (Bool) := if a0_0 = 0 then (if a0_1 = 0 then (some (a0_2.toList == ([] : List UInt8))) else (some false)) else (if a0_0 = 1 then (if a0_1 ≥ (-549755813888) then (if a0_1 ≤ 549755813887 then (some (a0_2.toList == ([] : List UInt8))) else (some false)) else (some false)) else (if a0_0 = 2 then (if a0_1 = 0 then (some (decide ((a0_2.size : Int) ≤ 40))) else (some false)) else (if a0_0 = 3 then (if a0_1 = 0 then (some (a0_2.toList == ([] : List UInt8))) else (if a0_1 = 1 then (some (a0_2.toList == ([] : List UInt8))) else (some false))) else (some false))))
set_option maxHeartbeats 8000000 in
set_option maxRecDepth 100000 in
theorem alumref19_Right.calls (a0_0 : Int) (a0_1 : Int) (a0_2 : ByteArray) (r : Bool) (w : World) (h : alumref19_Right.f a0_0 a0_1 a0_2 = some r) :
  Calls Tryd.prog 11 #[.agg #[.int .i64 a0_0, .int .i64 a0_1, .string a0_2]] w fun e w' => e = .returned (.bool r) ∧ Below w.heap.size w w' := by
 have hu23 := Tryd.underlying23
 have HB := Aside0.mk (Below.refl w.heap.size w)
 have H : (if a0_0 = 0 then (if a0_1 = 0 then (some (a0_2.toList == ([] : List UInt8))) else (some false)) else (if a0_0 = 1 then (if a0_1 ≥ (-549755813888) then (if a0_1 ≤ 549755813887 then (some (a0_2.toList == ([] : List UInt8))) else (some false)) else (some false)) else (if a0_0 = 2 then (if a0_1 = 0 then (some (decide ((a0_2.size : Int) ≤ 40))) else (some false)) else (if a0_0 = 3 then (if a0_1 = 0 then (some (a0_2.toList == ([] : List UInt8))) else (if a0_1 = 1 then (some (a0_2.toList == ([] : List UInt8))) else (some false))) else (some false))))) = some r := h
 clear h
 by_cases c2 : a0_0 = 0
 ·rw [if_pos c2] at H
  have c2b0 : (a0_0 == 0) = true := beq_iff_eq.mpr c2
  have c2b1 : (a0_0 != 0) = false := bne_eq_false_iff_eq.mpr c2
  clear c2
  by_cases c3 : a0_1 = 0
  ·rw [if_pos c3] at H
   have c3b0 : (a0_1 == 0) = true := beq_iff_eq.mpr c3
   have c3b1 : (a0_1 != 0) = false := bne_eq_false_iff_eq.mpr c3
   clear c3
   obtain rfl := Option.some.inj H
   go_enter Tryd.func11, Tryd.ntmps11
   go_wp2_with (first | ((with_reducible refine gate_dst (N := 1) rfl ?_); (try (refine gate_guard (by rfl) ?_; dsimp only)); refine box_event ?hg (N := 1) ?hd (cs := #[.int .i64 a0_0, .int .i64 a0_1, .string a0_2]) (t := 23) ?hr ?_; (case hd => rfl); (case hg => rfl); (case hr => first | (go_simp; done) | (go_simp; rfl)); intro gb101 hg w4 hbox hb; have BK101 := Aside0.mk (hbox); have GW101 := (sizeB HB hg : Aside0 (w.heap.size ≤ gb101)); have GE101 := (sizeB HB hg : Aside0 (w.heap.size ≤ gb101)); replace HB := stepB HB hb; clear hb hbox hg; have hcz5_0 : w4.cell? ⟨gb101, 0, none⟩ = some (.int .i64 a0_0) := bc BK101 0; have hcz5_1 : w4.cell? ⟨gb101, 1, none⟩ = some (.int .i64 a0_1) := bc BK101 1; have hcz5_2 : w4.cell? ⟨gb101, 2, none⟩ = some (.string a0_2) := bc BK101 2; have hfz5_0 := blk_frozen BK101.out 0; have hfz5_1 := blk_frozen BK101.out 1; have hfz5_2 := blk_frozen BK101.out 2))
   go_ret
   exact ⟨by first | rfl | (simp [errW_none, errW_some] <;> rfl) | (simp [*, errW_none, errW_some] <;> rfl), by repeat (first | (with_reducible first | exact HB.out | apply below_alloc | apply pw_below_drewN | apply below_drew1 | refine below_set ?_ GE101.out) | exact HB.out)⟩
  ·rw [if_neg c3] at H
   have c3b0 : (a0_1 == 0) = false := beq_eq_false_iff_ne.mpr c3
   have c3b1 : (a0_1 != 0) = true := bne_iff_ne.mpr c3
   obtain rfl := Option.some.inj H
   go_enter Tryd.func11, Tryd.ntmps11
   go_wp2_with (first | ((with_reducible refine gate_dst (N := 1) rfl ?_); (try (refine gate_guard (by rfl) ?_; dsimp only)); refine box_event ?hg (N := 1) ?hd (cs := #[.int .i64 a0_0, .int .i64 a0_1, .string a0_2]) (t := 23) ?hr ?_; (case hd => rfl); (case hg => rfl); (case hr => first | (go_simp; done) | (go_simp; rfl)); intro gb101 hg w6 hbox hb; have BK101 := Aside0.mk (hbox); have GW101 := (sizeB HB hg : Aside0 (w.heap.size ≤ gb101)); have GE101 := (sizeB HB hg : Aside0 (w.heap.size ≤ gb101)); replace HB := stepB HB hb; clear hb hbox hg; have hcz7_0 : w6.cell? ⟨gb101, 0, none⟩ = some (.int .i64 a0_0) := bc BK101 0; have hcz7_1 : w6.cell? ⟨gb101, 1, none⟩ = some (.int .i64 a0_1) := bc BK101 1; have hcz7_2 : w6.cell? ⟨gb101, 2, none⟩ = some (.string a0_2) := bc BK101 2; have hfz7_0 := blk_frozen BK101.out 0; have hfz7_1 := blk_frozen BK101.out 1; have hfz7_2 := blk_frozen BK101.out 2))
   go_ret
   exact ⟨by first | rfl | (simp [errW_none, errW_some] <;> rfl) | (simp [*, errW_none, errW_some] <;> rfl), by repeat (first | (with_reducible first | exact HB.out | apply below_alloc | apply pw_below_drewN | apply below_drew1 | refine below_set ?_ GE101.out) | exact HB.out)⟩
 ·rw [if_neg c2] at H
  have c2b0 : (a0_0 == 0) = false := beq_eq_false_iff_ne.mpr c2
  have c2b1 : (a0_0 != 0) = true := bne_iff_ne.mpr c2
  by_cases c8 : a0_0 = 1
  ·rw [if_pos c8] at H
   have c8b0 : (a0_0 == 1) = true := beq_iff_eq.mpr c8
   have c8b1 : (a0_0 != 1) = false := bne_eq_false_iff_eq.mpr c8
   clear c8
   by_cases c9 : a0_1 ≥ (-549755813888)
   ·rw [if_pos c9] at H
    have c9b0 : decide ((-549755813888) ≤ a0_1) = true := decide_eq_true c9
    clear c9
    by_cases c10 : a0_1 ≤ 549755813887
    ·rw [if_pos c10] at H
     have c10b0 : decide (a0_1 ≤ 549755813887) = true := decide_eq_true c10
     clear c10
     obtain rfl := Option.some.inj H
     go_enter Tryd.func11, Tryd.ntmps11
     go_wp2_with (first | ((with_reducible refine gate_dst (N := 1) rfl ?_); (try (refine gate_guard (by rfl) ?_; dsimp only)); refine box_event ?hg (N := 1) ?hd (cs := #[.int .i64 a0_0, .int .i64 a0_1, .string a0_2]) (t := 23) ?hr ?_; (case hd => rfl); (case hg => rfl); (case hr => first | (go_simp; done) | (go_simp; rfl)); intro gb101 hg w11 hbox hb; have BK101 := Aside0.mk (hbox); have GW101 := (sizeB HB hg : Aside0 (w.heap.size ≤ gb101)); have GE101 := (sizeB HB hg : Aside0 (w.heap.size ≤ gb101)); replace HB := stepB HB hb; clear hb hbox hg; have hcz12_0 : w11.cell? ⟨gb101, 0, none⟩ = some (.int .i64 a0_0) := bc BK101 0; have hcz12_1 : w11.cell? ⟨gb101, 1, none⟩ = some (.int .i64 a0_1) := bc BK101 1; have hcz12_2 : w11.cell? ⟨gb101, 2, none⟩ = some (.string a0_2) := bc BK101 2; have hfz12_0 := blk_frozen BK101.out 0; have hfz12_1 := blk_frozen BK101.out 1; have hfz12_2 := blk_frozen BK101.out 2))
     go_ret
     exact ⟨by first | rfl | (simp [errW_none, errW_some] <;> rfl) | (simp [*, errW_none, errW_some] <;> rfl), by repeat (first | (with_reducible first | exact HB.out | apply below_alloc | apply pw_below_drewN | apply below_drew1 | refine below_set ?_ GE101.out) | exact HB.out)⟩
    ·rw [if_neg c10] at H
     have c10b0 : decide (a0_1 ≤ 549755813887) = false := decide_eq_false c10
     clear c10
     obtain rfl := Option.some.inj H
     go_enter Tryd.func11, Tryd.ntmps11
     go_wp2_with (first | ((with_reducible refine gate_dst (N := 1) rfl ?_); (try (refine gate_guard (by rfl) ?_; dsimp only)); refine box_event ?hg (N := 1) ?hd (cs := #[.int .i64 a0_0, .int .i64 a0_1, .string a0_2]) (t := 23) ?hr ?_; (case hd => rfl); (case hg => rfl); (case hr => first | (go_simp; done) | (go_simp; rfl)); intro gb101 hg w13 hbox hb; have BK101 := Aside0.mk (hbox); have GW101 := (sizeB HB hg : Aside0 (w.heap.size ≤ gb101)); have GE101 := (sizeB HB hg : Aside0 (w.heap.size ≤ gb101)); replace HB := stepB HB hb; clear hb hbox hg; have hcz14_0 : w13.cell? ⟨gb101, 0, none⟩ = some (.int .i64 a0_0) := bc BK101 0; have hcz14_1 : w13.cell? ⟨gb101, 1, none⟩ = some (.int .i64 a0_1) := bc BK101 1; have hcz14_2 : w13.cell? ⟨gb101, 2, none⟩ = some (.string a0_2) := bc BK101 2; have hfz14_0 := blk_frozen BK101.out 0; have hfz14_1 := blk_frozen BK101.out 1; have hfz14_2 := blk_frozen BK101.out 2))
     go_ret
     exact ⟨by first | rfl | (simp [errW_none, errW_some] <;> rfl) | (simp [*, errW_none, errW_some] <;> rfl), by repeat (first | (with_reducible first | exact HB.out | apply below_alloc | apply pw_below_drewN | apply below_drew1 | refine below_set ?_ GE101.out) | exact HB.out)⟩
   ·rw [if_neg c9] at H
    have c9b0 : decide ((-549755813888) ≤ a0_1) = false := decide_eq_false c9
    clear c9
    obtain rfl := Option.some.inj H
    go_enter Tryd.func11, Tryd.ntmps11
    go_wp2_with (first | ((with_reducible refine gate_dst (N := 1) rfl ?_); (try (refine gate_guard (by rfl) ?_; dsimp only)); refine box_event ?hg (N := 1) ?hd (cs := #[.int .i64 a0_0, .int .i64 a0_1, .string a0_2]) (t := 23) ?hr ?_; (case hd => rfl); (case hg => rfl); (case hr => first | (go_simp; done) | (go_simp; rfl)); intro gb101 hg w15 hbox hb; have BK101 := Aside0.mk (hbox); have GW101 := (sizeB HB hg : Aside0 (w.heap.size ≤ gb101)); have GE101 := (sizeB HB hg : Aside0 (w.heap.size ≤ gb101)); replace HB := stepB HB hb; clear hb hbox hg; have hcz16_0 : w15.cell? ⟨gb101, 0, none⟩ = some (.int .i64 a0_0) := bc BK101 0; have hcz16_1 : w15.cell? ⟨gb101, 1, none⟩ = some (.int .i64 a0_1) := bc BK101 1; have hcz16_2 : w15.cell? ⟨gb101, 2, none⟩ = some (.string a0_2) := bc BK101 2; have hfz16_0 := blk_frozen BK101.out 0; have hfz16_1 := blk_frozen BK101.out 1; have hfz16_2 := blk_frozen BK101.out 2))
    go_ret
    exact ⟨by first | rfl | (simp [errW_none, errW_some] <;> rfl) | (simp [*, errW_none, errW_some] <;> rfl), by repeat (first | (with_reducible first | exact HB.out | apply below_alloc | apply pw_below_drewN | apply below_drew1 | refine below_set ?_ GE101.out) | exact HB.out)⟩
  ·rw [if_neg c8] at H
   have c8b0 : (a0_0 == 1) = false := beq_eq_false_iff_ne.mpr c8
   have c8b1 : (a0_0 != 1) = true := bne_iff_ne.mpr c8
   by_cases c17 : a0_0 = 2
   ·rw [if_pos c17] at H
    have c17b0 : (a0_0 == 2) = true := beq_iff_eq.mpr c17
    have c17b1 : (a0_0 != 2) = false := bne_eq_false_iff_eq.mpr c17
    clear c17
    by_cases c18 : a0_1 = 0
    ·rw [if_pos c18] at H
     have c18b0 : (a0_1 == 0) = true := beq_iff_eq.mpr c18
     have c18b1 : (a0_1 != 0) = false := bne_eq_false_iff_eq.mpr c18
     clear c18
     obtain rfl := Option.some.inj H
     go_enter Tryd.func11, Tryd.ntmps11
     go_wp2_with (first | ((with_reducible refine gate_dst (N := 1) rfl ?_); (try (refine gate_guard (by rfl) ?_; dsimp only)); refine box_event ?hg (N := 1) ?hd (cs := #[.int .i64 a0_0, .int .i64 a0_1, .string a0_2]) (t := 23) ?hr ?_; (case hd => rfl); (case hg => rfl); (case hr => first | (go_simp; done) | (go_simp; rfl)); intro gb101 hg w19 hbox hb; have BK101 := Aside0.mk (hbox); have GW101 := (sizeB HB hg : Aside0 (w.heap.size ≤ gb101)); have GE101 := (sizeB HB hg : Aside0 (w.heap.size ≤ gb101)); replace HB := stepB HB hb; clear hb hbox hg; have hcz20_0 : w19.cell? ⟨gb101, 0, none⟩ = some (.int .i64 a0_0) := bc BK101 0; have hcz20_1 : w19.cell? ⟨gb101, 1, none⟩ = some (.int .i64 a0_1) := bc BK101 1; have hcz20_2 : w19.cell? ⟨gb101, 2, none⟩ = some (.string a0_2) := bc BK101 2; have hfz20_0 := blk_frozen BK101.out 0; have hfz20_1 := blk_frozen BK101.out 1; have hfz20_2 := blk_frozen BK101.out 2))
     go_ret
     exact ⟨by first | rfl | (simp [errW_none, errW_some] <;> rfl) | (simp [*, errW_none, errW_some] <;> rfl), by repeat (first | (with_reducible first | exact HB.out | apply below_alloc | apply pw_below_drewN | apply below_drew1 | refine below_set ?_ GE101.out) | exact HB.out)⟩
    ·rw [if_neg c18] at H
     have c18b0 : (a0_1 == 0) = false := beq_eq_false_iff_ne.mpr c18
     have c18b1 : (a0_1 != 0) = true := bne_iff_ne.mpr c18
     obtain rfl := Option.some.inj H
     go_enter Tryd.func11, Tryd.ntmps11
     go_wp2_with (first | ((with_reducible refine gate_dst (N := 1) rfl ?_); (try (refine gate_guard (by rfl) ?_; dsimp only)); refine box_event ?hg (N := 1) ?hd (cs := #[.int .i64 a0_0, .int .i64 a0_1, .string a0_2]) (t := 23) ?hr ?_; (case hd => rfl); (case hg => rfl); (case hr => first | (go_simp; done) | (go_simp; rfl)); intro gb101 hg w21 hbox hb; have BK101 := Aside0.mk (hbox); have GW101 := (sizeB HB hg : Aside0 (w.heap.size ≤ gb101)); have GE101 := (sizeB HB hg : Aside0 (w.heap.size ≤ gb101)); replace HB := stepB HB hb; clear hb hbox hg; have hcz22_0 : w21.cell? ⟨gb101, 0, none⟩ = some (.int .i64 a0_0) := bc BK101 0; have hcz22_1 : w21.cell? ⟨gb101, 1, none⟩ = some (.int .i64 a0_1) := bc BK101 1; have hcz22_2 : w21.cell? ⟨gb101, 2, none⟩ = some (.string a0_2) := bc BK101 2; have hfz22_0 := blk_frozen BK101.out 0; have hfz22_1 := blk_frozen BK101.out 1; have hfz22_2 := blk_frozen BK101.out 2))
     go_ret
     exact ⟨by first | rfl | (simp [errW_none, errW_some] <;> rfl) | (simp [*, errW_none, errW_some] <;> rfl), by repeat (first | (with_reducible first | exact HB.out | apply below_alloc | apply pw_below_drewN | apply below_drew1 | refine below_set ?_ GE101.out) | exact HB.out)⟩
   ·rw [if_neg c17] at H
    have c17b0 : (a0_0 == 2) = false := beq_eq_false_iff_ne.mpr c17
    have c17b1 : (a0_0 != 2) = true := bne_iff_ne.mpr c17
    by_cases c23 : a0_0 = 3
    ·rw [if_pos c23] at H
     have c23b0 : (a0_0 == 3) = true := beq_iff_eq.mpr c23
     have c23b1 : (a0_0 != 3) = false := bne_eq_false_iff_eq.mpr c23
     clear c23
     by_cases c24 : a0_1 = 0
     ·rw [if_pos c24] at H
      have c24b0 : (a0_1 == 0) = true := beq_iff_eq.mpr c24
      have c24b1 : (a0_1 != 0) = false := bne_eq_false_iff_eq.mpr c24
      clear c24
      obtain rfl := Option.some.inj H
      go_enter Tryd.func11, Tryd.ntmps11
      go_wp2_with (first | ((with_reducible refine gate_dst (N := 1) rfl ?_); (try (refine gate_guard (by rfl) ?_; dsimp only)); refine box_event ?hg (N := 1) ?hd (cs := #[.int .i64 a0_0, .int .i64 a0_1, .string a0_2]) (t := 23) ?hr ?_; (case hd => rfl); (case hg => rfl); (case hr => first | (go_simp; done) | (go_simp; rfl)); intro gb101 hg w25 hbox hb; have BK101 := Aside0.mk (hbox); have GW101 := (sizeB HB hg : Aside0 (w.heap.size ≤ gb101)); have GE101 := (sizeB HB hg : Aside0 (w.heap.size ≤ gb101)); replace HB := stepB HB hb; clear hb hbox hg; have hcz26_0 : w25.cell? ⟨gb101, 0, none⟩ = some (.int .i64 a0_0) := bc BK101 0; have hcz26_1 : w25.cell? ⟨gb101, 1, none⟩ = some (.int .i64 a0_1) := bc BK101 1; have hcz26_2 : w25.cell? ⟨gb101, 2, none⟩ = some (.string a0_2) := bc BK101 2; have hfz26_0 := blk_frozen BK101.out 0; have hfz26_1 := blk_frozen BK101.out 1; have hfz26_2 := blk_frozen BK101.out 2))
      go_ret
      exact ⟨by first | rfl | (simp [errW_none, errW_some] <;> rfl) | (simp [*, errW_none, errW_some] <;> rfl), by repeat (first | (with_reducible first | exact HB.out | apply below_alloc | apply pw_below_drewN | apply below_drew1 | refine below_set ?_ GE101.out) | exact HB.out)⟩
     ·rw [if_neg c24] at H
      have c24b0 : (a0_1 == 0) = false := beq_eq_false_iff_ne.mpr c24
      have c24b1 : (a0_1 != 0) = true := bne_iff_ne.mpr c24
      by_cases c27 : a0_1 = 1
      ·rw [if_pos c27] at H
       have c27b0 : (a0_1 == 1) = true := beq_iff_eq.mpr c27
       have c27b1 : (a0_1 != 1) = false := bne_eq_false_iff_eq.mpr c27
       clear c27
       obtain rfl := Option.some.inj H
       go_enter Tryd.func11, Tryd.ntmps11
       go_wp2_with (first | ((with_reducible refine gate_dst (N := 1) rfl ?_); (try (refine gate_guard (by rfl) ?_; dsimp only)); refine box_event ?hg (N := 1) ?hd (cs := #[.int .i64 a0_0, .int .i64 a0_1, .string a0_2]) (t := 23) ?hr ?_; (case hd => rfl); (case hg => rfl); (case hr => first | (go_simp; done) | (go_simp; rfl)); intro gb101 hg w28 hbox hb; have BK101 := Aside0.mk (hbox); have GW101 := (sizeB HB hg : Aside0 (w.heap.size ≤ gb101)); have GE101 := (sizeB HB hg : Aside0 (w.heap.size ≤ gb101)); replace HB := stepB HB hb; clear hb hbox hg; have hcz29_0 : w28.cell? ⟨gb101, 0, none⟩ = some (.int .i64 a0_0) := bc BK101 0; have hcz29_1 : w28.cell? ⟨gb101, 1, none⟩ = some (.int .i64 a0_1) := bc BK101 1; have hcz29_2 : w28.cell? ⟨gb101, 2, none⟩ = some (.string a0_2) := bc BK101 2; have hfz29_0 := blk_frozen BK101.out 0; have hfz29_1 := blk_frozen BK101.out 1; have hfz29_2 := blk_frozen BK101.out 2))
       go_ret
       exact ⟨by first | rfl | (simp [errW_none, errW_some] <;> rfl) | (simp [*, errW_none, errW_some] <;> rfl), by repeat (first | (with_reducible first | exact HB.out | apply below_alloc | apply pw_below_drewN | apply below_drew1 | refine below_set ?_ GE101.out) | exact HB.out)⟩
      ·rw [if_neg c27] at H
       have c27b0 : (a0_1 == 1) = false := beq_eq_false_iff_ne.mpr c27
       have c27b1 : (a0_1 != 1) = true := bne_iff_ne.mpr c27
       obtain rfl := Option.some.inj H
       go_enter Tryd.func11, Tryd.ntmps11
       go_wp2_with (first | ((with_reducible refine gate_dst (N := 1) rfl ?_); (try (refine gate_guard (by rfl) ?_; dsimp only)); refine box_event ?hg (N := 1) ?hd (cs := #[.int .i64 a0_0, .int .i64 a0_1, .string a0_2]) (t := 23) ?hr ?_; (case hd => rfl); (case hg => rfl); (case hr => first | (go_simp; done) | (go_simp; rfl)); intro gb101 hg w30 hbox hb; have BK101 := Aside0.mk (hbox); have GW101 := (sizeB HB hg : Aside0 (w.heap.size ≤ gb101)); have GE101 := (sizeB HB hg : Aside0 (w.heap.size ≤ gb101)); replace HB := stepB HB hb; clear hb hbox hg; have hcz31_0 : w30.cell? ⟨gb101, 0, none⟩ = some (.int .i64 a0_0) := bc BK101 0; have hcz31_1 : w30.cell? ⟨gb101, 1, none⟩ = some (.int .i64 a0_1) := bc BK101 1; have hcz31_2 : w30.cell? ⟨gb101, 2, none⟩ = some (.string a0_2) := bc BK101 2; have hfz31_0 := blk_frozen BK101.out 0; have hfz31_1 := blk_frozen BK101.out 1; have hfz31_2 := blk_frozen BK101.out 2))
       go_ret
       exact ⟨by first | rfl | (simp [errW_none, errW_some] <;> rfl) | (simp [*, errW_none, errW_some] <;> rfl), by repeat (first | (with_reducible first | exact HB.out | apply below_alloc | apply pw_below_drewN | apply below_drew1 | refine below_set ?_ GE101.out) | exact HB.out)⟩
    ·rw [if_neg c23] at H
     have c23b0 : (a0_0 == 3) = false := beq_eq_false_iff_ne.mpr c23
     have c23b1 : (a0_0 != 3) = true := bne_iff_ne.mpr c23
     obtain rfl := Option.some.inj H
     go_enter Tryd.func11, Tryd.ntmps11
     go_wp2_with (first | ((with_reducible refine gate_dst (N := 1) rfl ?_); (try (refine gate_guard (by rfl) ?_; dsimp only)); refine box_event ?hg (N := 1) ?hd (cs := #[.int .i64 a0_0, .int .i64 a0_1, .string a0_2]) (t := 23) ?hr ?_; (case hd => rfl); (case hg => rfl); (case hr => first | (go_simp; done) | (go_simp; rfl)); intro gb101 hg w32 hbox hb; have BK101 := Aside0.mk (hbox); have GW101 := (sizeB HB hg : Aside0 (w.heap.size ≤ gb101)); have GE101 := (sizeB HB hg : Aside0 (w.heap.size ≤ gb101)); replace HB := stepB HB hb; clear hb hbox hg; have hcz33_0 : w32.cell? ⟨gb101, 0, none⟩ = some (.int .i64 a0_0) := bc BK101 0; have hcz33_1 : w32.cell? ⟨gb101, 1, none⟩ = some (.int .i64 a0_1) := bc BK101 1; have hcz33_2 : w32.cell? ⟨gb101, 2, none⟩ = some (.string a0_2) := bc BK101 2; have hfz33_0 := blk_frozen BK101.out 0; have hfz33_1 := blk_frozen BK101.out 1; have hfz33_2 := blk_frozen BK101.out 2))
     go_ret
     exact ⟨by first | rfl | (simp [errW_none, errW_some] <;> rfl) | (simp [*, errW_none, errW_some] <;> rfl), by repeat (first | (with_reducible first | exact HB.out | apply below_alloc | apply pw_below_drewN | apply below_drew1 | refine below_set ?_ GE101.out) | exact HB.out)⟩
end Go.Proofs.YtmhnfdgegejlkaaDoor.P
end

section
namespace Go.Proofs.YtmhnfdgegejlkaaDoor.P
open Go.RowKit Go.Proofs.YtmhnfdgegejlkaaDoorW.PrintWords Go.Proofs.YtmhnfdgegejlkaaDoorW.PrintLast Go.Proofs.YtmhnfdgegejlkaaDoorW.PrintMore
attribute [local go_sem] max2_int min2_int max_two min_two max_three min_three max_four min_four
set_option linter.unusedVariables false
set_option linter.unusedSimpArgs false
attribute [local go_sem high] eqA23
mutual
def alumlaw19_ValueLogic.l0 : Nat → Bool → List (S23) → Int → Int → Int → Int → ByteArray → Int → Int → ByteArray → Int → Int → ByteArray → Option (Bool)
 | 0, _, _, _, _, _, _, _, _, _, _, _, _, _ => none
 | k + 1, x7, x17, x18, x19, x374000, x374001, x374002, x375000, x375001, x375002, x376000, x376001, x376002 => if x19 < x18 then (if 0 ≤ x19 then (if x19 < (x17.length : Int) then (if x7 = true then ((alumref19_Right.f ((rd_T23 x17 x19).f0) ((rd_T23 x17 x19).f1) ((rd_T23 x17 x19).f2)).bind fun t381 => (if t381 = true then (if ((rd_T23 x17 x19).f0) = 0 then (alumlaw19_ValueLogic.l0 k true x17 x18 (wrap64 (x19 + 1)) x374000 x374001 x374002 x375000 x375001 x375002 x376000 x376001 x376002) else (alumlaw19_ValueLogic.l0 k (((rd_T23 x17 x19).f0) == 3) x17 x18 (wrap64 (x19 + 1)) x374000 x374001 x374002 x375000 x375001 x375002 x376000 x376001 x376002)) else (alumlaw19_ValueLogic.l0 k false x17 x18 (wrap64 (x19 + 1)) x374000 x374001 x374002 x375000 x375001 x375002 x376000 x376001 x376002))) else (alumlaw19_ValueLogic.l0 k false x17 x18 (wrap64 (x19 + 1)) x374000 x374001 x374002 x375000 x375001 x375002 x376000 x376001 x376002)) else (none)) else (none)) else (if x7 = true then ((alumlaw19_and.f k x374000 x374001 x374002 x375000 x375001 x375002).bind fun bt383 => ((alumlaw19_and.f k x375000 x375001 x375002 x374000 x374001 x374002).bind fun bt386 => (if (!(bt383.1 == bt386.1) || (!(bt383.2.1 == bt386.2.1) || (!(bt383.2.2.toList == bt386.2.2.toList)))) = true then (none) else ((alumlaw19_or.f k x374000 x374001 x374002 x375000 x375001 x375002).bind fun bt389 => ((alumlaw19_or.f k x375000 x375001 x375002 x374000 x374001 x374002).bind fun bt392 => (if (!(bt389.1 == bt392.1) || (!(bt389.2.1 == bt392.2.1) || (!(bt389.2.2.toList == bt392.2.2.toList)))) = true then (none) else ((alumlaw19_and.f k x375000 x375001 x375002 x376000 x376001 x376002).bind fun bt395 => ((alumlaw19_and.f k x374000 x374001 x374002 bt395.1 bt395.2.1 bt395.2.2).bind fun bt398 => ((alumlaw19_and.f k x374000 x374001 x374002 x375000 x375001 x375002).bind fun bt401 => ((alumlaw19_and.f k bt401.1 bt401.2.1 bt401.2.2 x376000 x376001 x376002).bind fun bt404 => (if (!(bt398.1 == bt404.1) || (!(bt398.2.1 == bt404.2.1) || (!(bt398.2.2.toList == bt404.2.2.toList)))) = true then (none) else ((alumlaw19_or.f k x375000 x375001 x375002 x376000 x376001 x376002).bind fun bt407 => ((alumlaw19_or.f k x374000 x374001 x374002 bt407.1 bt407.2.1 bt407.2.2).bind fun bt410 => ((alumlaw19_or.f k x374000 x374001 x374002 x375000 x375001 x375002).bind fun bt413 => ((alumlaw19_or.f k bt413.1 bt413.2.1 bt413.2.2 x376000 x376001 x376002).bind fun bt416 => (alumlaw19_ValueLogic.j1 k (!(bt410.1 == bt416.1) || (!(bt410.2.1 == bt416.2.1) || (!(bt410.2.2.toList == bt416.2.2.toList)))) x374000 x374001 x374002 x375000 x375001 x375002 x376000 x376001 x376002)))))))))))))))) else ((alumlaw19_sanity.f k).bind fun t382 => (some t382)))
def alumlaw19_ValueLogic.j1 : Nat → Bool → Int → Int → ByteArray → Int → Int → ByteArray → Int → Int → ByteArray → Option (Bool)
 | 0, _, _, _, _, _, _, _, _, _, _ => none
 | k + 1, x83, x374000, x374001, x374002, x375000, x375001, x375002, x376000, x376001, x376002 => if x83 = true then (none) else ((alumlaw19_or.f k x375000 x375001 x375002 x376000 x376001 x376002).bind fun bt419 => ((alumlaw19_and.f k x374000 x374001 x374002 bt419.1 bt419.2.1 bt419.2.2).bind fun bt422 => ((alumlaw19_and.f k x374000 x374001 x374002 x375000 x375001 x375002).bind fun bt425 => ((alumlaw19_and.f k x374000 x374001 x374002 x376000 x376001 x376002).bind fun bt428 => ((alumlaw19_or.f k bt425.1 bt425.2.1 bt425.2.2 bt428.1 bt428.2.1 bt428.2.2).bind fun bt431 => (if (!(bt422.1 == bt431.1) || (!(bt422.2.1 == bt431.2.1) || (!(bt422.2.2.toList == bt431.2.2.toList)))) = true then (none) else ((alumlaw19_and.f k x375000 x375001 x375002 x376000 x376001 x376002).bind fun bt434 => ((alumlaw19_or.f k x374000 x374001 x374002 bt434.1 bt434.2.1 bt434.2.2).bind fun bt437 => ((alumlaw19_or.f k x374000 x374001 x374002 x375000 x375001 x375002).bind fun bt440 => ((alumlaw19_or.f k x374000 x374001 x374002 x376000 x376001 x376002).bind fun bt443 => ((alumlaw19_and.f k bt440.1 bt440.2.1 bt440.2.2 bt443.1 bt443.2.1 bt443.2.2).bind fun bt446 => (if (!(bt437.1 == bt446.1) || (!(bt437.2.1 == bt446.2.1) || (!(bt437.2.2.toList == bt446.2.2.toList)))) = true then (none) else ((alumlaw19_not.f k x374000 x374001 x374002).bind fun bt449 => ((alumlaw19_not.f k bt449.1 bt449.2.1 bt449.2.2).bind fun bt452 => (if (!(bt452.1 == x374000) || (!(bt452.2.1 == x374001) || (!(bt452.2.2.toList == x374002.toList)))) = true then (none) else ((alumlaw19_and.f k x374000 x374001 x374002 x375000 x375001 x375002).bind fun bt455 => ((alumlaw19_not.f k bt455.1 bt455.2.1 bt455.2.2).bind fun bt458 => ((alumlaw19_not.f k x374000 x374001 x374002).bind fun bt461 => ((alumlaw19_not.f k x375000 x375001 x375002).bind fun bt464 => ((alumlaw19_or.f k bt461.1 bt461.2.1 bt461.2.2 bt464.1 bt464.2.1 bt464.2.2).bind fun bt467 => (alumlaw19_ValueLogic.j2 k (!(bt458.1 == bt467.1) || (!(bt458.2.1 == bt467.2.1) || (!(bt458.2.2.toList == bt467.2.2.toList)))) x374000 x374001 x374002 x375000 x375001 x375002 x376000 x376001 x376002)))))))))))))))))))))
def alumlaw19_ValueLogic.j2 : Nat → Bool → Int → Int → ByteArray → Int → Int → ByteArray → Int → Int → ByteArray → Option (Bool)
 | 0, _, _, _, _, _, _, _, _, _, _ => none
 | k + 1, x130, x374000, x374001, x374002, x375000, x375001, x375002, x376000, x376001, x376002 => if x130 = true then (none) else (if x374000 = 0 then (alumlaw19_ValueLogic.j3 k x374000 x374001 x374002 x375000 x375001 x375002 x376000 x376001 x376002 x376000 x376001 x376002 x375000 x375001 x375002) else (alumlaw19_ValueLogic.j3 k x374000 x374001 x374002 x375000 x375001 x375002 x376000 x376001 x376002 x374000 x374001 x374002 x375000 x375001 x375002))
def alumlaw19_ValueLogic.j3 : Nat → Int → Int → ByteArray → Int → Int → ByteArray → Int → Int → ByteArray → Int → Int → ByteArray → Int → Int → ByteArray → Option (Bool)
 | 0, _, _, _, _, _, _, _, _, _, _, _, _, _, _, _ => none
 | k + 1, x374000, x374001, x374002, x375000, x375001, x375002, x376000, x376001, x376002, x471000, x471001, x471002, x472000, x472001, x472002 => if x472000 = 0 then (alumlaw19_ValueLogic.j4 k x374000 x374001 x374002 x375000 x375001 x375002 x376000 x376001 x376002 x471000 x471001 x471002 x376000 x376001 x376002) else (alumlaw19_ValueLogic.j4 k x374000 x374001 x374002 x375000 x375001 x375002 x376000 x376001 x376002 x471000 x471001 x471002 x472000 x472001 x472002)
def alumlaw19_ValueLogic.j4 : Nat → Int → Int → ByteArray → Int → Int → ByteArray → Int → Int → ByteArray → Int → Int → ByteArray → Int → Int → ByteArray → Option (Bool)
 | 0, _, _, _, _, _, _, _, _, _, _, _, _, _, _, _ => none
 | k + 1, x374000, x374001, x374002, x375000, x375001, x375002, x376000, x376001, x376002, x471000, x471001, x471002, x472000, x472001, x472002 => if x376000 = 0 then ((alumlaw19_sanity.f k).bind fun t472 => (some t472)) else ((alumlaw19_and.f k x374000 x374001 x374002 x375000 x375001 x375002).bind fun bt473 => ((alumlaw19_or.f k x374000 x374001 x374002 x375000 x375001 x375002).bind fun bt476 => ((alumlaw19_sanity.f k).bind fun t481 => (if t481 = true then (if bt473.1 = 0 then (if bt476.1 = 0 then (some true) else ((alumlaw19_or.f k x471000 x471001 x471002 x472000 x472001 x472002).bind fun bt482 => (some (bt482.1 == bt476.1 && (bt482.2.1 == bt476.2.1 && (bt482.2.2.toList == bt476.2.2.toList)))))) else ((alumlaw19_and.f k x471000 x471001 x471002 x472000 x472001 x472002).bind fun bt485 => (if (bt485.1 == bt473.1 && (bt485.2.1 == bt473.2.1 && (bt485.2.2.toList == bt473.2.2.toList))) = true then (if bt476.1 = 0 then (some true) else ((alumlaw19_or.f k x471000 x471001 x471002 x472000 x472001 x472002).bind fun bt488 => (some (bt488.1 == bt476.1 && (bt488.2.1 == bt476.2.1 && (bt488.2.2.toList == bt476.2.2.toList)))))) else (none)))) else (none)))))
end
def alumlaw19_ValueLogic.f (k : Nat) (a0_0 : Int) (a0_1 : Int) (a0_2 : ByteArray) (a1_0 : Int) (a1_1 : Int) (a1_2 : ByteArray) (a2_0 : Int) (a2_1 : Int) (a2_2 : ByteArray) : Option (Bool) := (some (([(⟨a0_0, a0_1, a0_2⟩ : S23), (⟨a1_0, a1_1, a1_2⟩ : S23), (⟨a2_0, a2_1, a2_2⟩ : S23)] : List (S23)) : List (S23))).bind fun y376 => (alumlaw19_ValueLogic.l0 k true y376 (y376.length : Int) 0 a0_0 a0_1 a0_2 a1_0 a1_1 a1_2 a2_0 a2_1 a2_2)
def alumlaw19_ValueLogic.T9 : Bool × List (List Nat × List Nat) := (true, [([], []), ([], []), ([0, 1], [0, 1]), ([], []), ([], []), ([3, 4, 2], [3, 4]), ([2, 5], [2, 5]), ([6, 5], [6]), ([7], [7]), ([7], [7]), ([8, 9, 7, 7], [7, 8, 9]), ([7], [7]), ([7], [7]), ([11, 12, 10, 7], [7, 11, 12]), ([10, 13, 7], [7, 10, 13]), ([7, 14], [7, 14]), ([15, 13], [15]), ([16], [16]), ([16], [16]), ([16], [16]), ([18, 19, 16, 16], [16, 18, 19]), ([17, 20, 20, 16], [16, 17, 20]), ([16], [16]), ([16], [16]), ([22, 23, 21, 16], [16, 22, 23]), ([16], [16]), ([24, 25, 24, 16], [16, 24, 25]), ([21, 26, 16], [16, 21, 26]), ([16, 27], [16, 27]), ([28, 26], [28]), ([29], [29]), ([29], [29]), ([29], [29]), ([31, 32, 29, 29], [29, 31, 32]), ([30, 33, 33, 29], [29, 30, 33]), ([29], [29]), ([29], [29]), ([35, 36, 34, 29], [29, 35, 36]), ([29], [29]), ([37, 38, 37, 29], [29, 37, 38]), ([34, 39, 29], [29, 34, 39]), ([29, 40], [29, 40])])
def alumlaw19_ValueLogic.B9 : List Nat := [0, 0, 3, 0, 0, 31, 63, 127, 255, 255, 1023, 255, 255, 8191, 16383, 32767, 65535, 131071, 131071, 131071, 917503, 2097151, 131071, 131071, 16777215, 131071, 67108863, 134217727, 268435455, 536870911, 1073741823, 1073741823, 1073741823, 7516192767, 17179869183, 1073741823, 1073741823, 137438953471, 1073741823, 549755813887, 1099511627775, 2199023255551]
theorem alumlaw19_ValueLogic.tab9 : rtab .any (opsOf Tryd.f4 9) = alumlaw19_ValueLogic.T9 := by kernel_rfl
theorem alumlaw19_ValueLogic.bits9 : waitsOk alumlaw19_ValueLogic.T9.2 alumlaw19_ValueLogic.B9 = true := by kernel_rfl
def alumlaw19_ValueLogic.T11 : Bool × List (List Nat × List Nat) := (true, [([], []), ([], []), ([], []), ([1, 2], [1, 2]), ([0, 3, 3], [0, 3]), ([], []), ([], []), ([5, 6, 4], [5, 6]), ([], []), ([], []), ([8, 9, 7], [8, 9]), ([7, 10, 10], [7, 10]), ([4, 11], [4, 11]), ([12, 11], [12]), ([13], [13]), ([13], [13]), ([13], [13]), ([15, 16, 13, 13], [13, 15, 16]), ([14, 17, 17, 13], [13, 14, 17]), ([13], [13]), ([13], [13]), ([19, 20, 18, 13], [13, 19, 20]), ([13], [13]), ([13], [13]), ([22, 23, 21, 13], [13, 22, 23]), ([21, 24, 24, 13], [13, 21, 24]), ([18, 25, 13], [13, 18, 25]), ([13, 26], [13, 26]), ([27, 25], [27]), ([28], [28]), ([29, 28, 28], [28, 29]), ([30, 30, 28], [28, 30]), ([28], [28]), ([31, 32, 28], [28, 31, 32]), ([28, 33], [28, 33]), ([34, 31], [34]), ([35], [35]), ([35], [35]), ([36, 37, 35, 35], [35, 36, 37]), ([38, 38, 35], [35, 38]), ([35], [35]), ([40, 39, 35], [35, 40]), ([35], [35]), ([42, 41, 35], [35, 42]), ([41, 43, 43, 35], [35, 41, 43]), ([39, 44, 35], [35, 39, 44]), ([35, 45], [35, 45])])
def alumlaw19_ValueLogic.B11 : List Nat := [0, 0, 0, 6, 15, 0, 0, 127, 0, 0, 1023, 2047, 4095, 8191, 16383, 16383, 16383, 114687, 262143, 16383, 16383, 2097151, 16383, 16383, 16777215, 33554431, 67108863, 134217727, 268435455, 536870911, 1073741823, 2147483647, 536870911, 8589934591, 17179869183, 34359738367, 68719476735, 68719476735, 274877906943, 549755813887, 68719476735, 2199023255551, 68719476735, 8796093022207, 17592186044415, 35184372088831, 70368744177663]
theorem alumlaw19_ValueLogic.tab11 : rtab .any (opsOf Tryd.f4 11) = alumlaw19_ValueLogic.T11 := by kernel_rfl
theorem alumlaw19_ValueLogic.bits11 : waitsOk alumlaw19_ValueLogic.T11.2 alumlaw19_ValueLogic.B11 = true := by kernel_rfl
def alumlaw19_ValueLogic.T20 : Bool × List (List Nat × List Nat) := (true, [([], []), ([], []), ([0, 1], [0, 1]), ([], []), ([], []), ([3, 4, 2], [3, 4]), ([], []), ([], []), ([6, 2, 5, 0, 1, 2, 6, 7], [2, 6]), ([7, 5, 8, 0, 1, 2, 3, 4, 5, 6, 7, 8], [5, 7])])
def alumlaw19_ValueLogic.B20 : List Nat := [0, 0, 3, 0, 0, 31, 0, 0, 255, 511]
theorem alumlaw19_ValueLogic.tab20 : rtab .any (opsOf Tryd.f4 20) = alumlaw19_ValueLogic.T20 := by kernel_rfl
theorem alumlaw19_ValueLogic.bits20 : waitsOk alumlaw19_ValueLogic.T20.2 alumlaw19_ValueLogic.B20 = true := by kernel_rfl
def alumlaw19_ValueLogic.T21 : Bool × List (List Nat × List Nat) := (true, [([], []), ([0, 0], [0]), ([1], [1]), ([2, 1], [1, 2]), ([3, 1], [1, 3]), ([4, 1, 1], [1, 4]), ([5], [5]), ([5], [5]), ([6, 7, 5, 5], [5, 6, 7]), ([5], [5]), ([8, 9, 5], [5, 8, 9]), ([5, 10, 1], [1, 5, 10]), ([1, 11], [1, 11]), ([12, 8], [12]), ([13], [13]), ([14, 13], [13, 14]), ([15, 13], [13, 15]), ([16, 13, 13], [13, 16]), ([17], [17]), ([17], [17]), ([18, 19, 17, 17], [17, 18, 19]), ([17], [17]), ([20, 21, 17], [17, 20, 21]), ([17, 22, 13], [13, 17, 22]), ([13, 23], [13, 23]), ([24, 20, 0, 1, 2, 3, 4, 5, 6, 7, 8, 9, 10, 11, 12, 13, 14, 15, 16, 17, 18, 19, 20, 21, 22, 23, 24], [24])])
def alumlaw19_ValueLogic.B21 : List Nat := [0, 1, 3, 7, 15, 31, 63, 63, 255, 63, 1023, 2047, 4095, 8191, 16383, 32767, 65535, 131071, 262143, 262143, 1048575, 262143, 4194303, 8388607, 16777215, 33554431]
theorem alumlaw19_ValueLogic.tab21 : rtab .any (opsOf Tryd.f4 21) = alumlaw19_ValueLogic.T21 := by kernel_rfl
theorem alumlaw19_ValueLogic.bits21 : waitsOk alumlaw19_ValueLogic.T21.2 alumlaw19_ValueLogic.B21 = true := by kernel_rfl
end Go.Proofs.YtmhnfdgegejlkaaDoor.P
end

section
namespace Go.Proofs.YtmhnfdgegejlkaaDoor.P
open Go.RowKit Go.Proofs.YtmhnfdgegejlkaaDoorW.PrintWords
section
variable {H : Type} {enc : TypeId × Value → H} {P : Program} {W : World}
def Opens {α : Type} (enc : TypeId × Value → H) (P : Program) (W : World) (d : Kd α) (t : TypeId) (good : α → Prop) : Prop :=
  P.cellsOf t = d.sz ∧ ∀ (fuel : Nat) (cs : List Value) (x : DataW H) (ps : List MemPlace), DataW.trod enc P W 0 (fun _ => true) true fuel t cs = some (x, ps) → (∀ n ∈ x.weights P t, n ≤ reachBytes) → ∃ a : α, d.K W a cs ∧ good a
theorem opens_int {t : TypeId} {k : IntKind} (hu : P.underlying t = some (.int k)) (hc : P.cellsOf t = 1) : Opens enc P W (Kd.int k) t (fun a => (Lit.int k a).wf = true) := by
  refine ⟨hc, fun fuel cs x ps h _ => ?_⟩
  obtain ⟨n, rfl, _, hw⟩ := DataW.trod_int hu h
  exact ⟨n, rfl, hw⟩
theorem opens_string {t : TypeId} (hu : P.underlying t = some .string) (hc : P.cellsOf t = 1) : Opens enc P W Kd.string t (fun s => s.size ≤ 140737488351232) := by
  refine ⟨hc, fun fuel cs x ps h hw => ?_⟩
  obtain ⟨s, rfl, hx, _⟩ := DataW.trod_string hu h
  obtain ⟨rfl, rfl⟩ := Prod.mk.inj hx
  refine ⟨s, rfl, ?_⟩
  have := hw s.data.toList.length (by simp [DataW.weights])
  rw [Array.length_toList] at this
  exact this
def OpensFs {α : Type} (enc : TypeId × Value → H) (P : Program) (W : World) (d : Kd α) (fs : List Field) (o : Nat) (good : α → Prop) : Prop :=
  ∀ (n : Nat) (cs : List Value) (xs : List (DataW H × List MemPlace)), xs.length = fs.length → cs.length = o + d.sz →
    (∀ (i : Nat) (f : Field), fs[i]? = some f → DataW.trod enc P W 0 (fun _ => true) true n f.type ((cs.drop f.offset).take (P.cellsOf f.type)) = xs[i]?) →
    (∀ m ∈ DataW.weightsEach P (fs.map (·.type)) (xs.map (·.1)), m ≤ reachBytes) → ∃ a : α, d.K W a (cs.drop o) ∧ good a
theorem opensFs_one {α : Type} {d : Kd α} {f : Field} {o : Nat} {good : α → Prop} (ho : f.offset = o) (hf : Opens enc P W d f.type good) : OpensFs enc P W d [f] o good := by
  intro n cs xs hl hcs h hw
  match xs, hl with
  | [x], _ =>
    have h0 := h 0 f rfl
    rw [ho, hf.1, List.take_of_length_le (by simp; omega)] at h0
    exact hf.2 n _ x.1 x.2 h0 (fun m hm => hw m (by simpa [DataW.weightsEach] using hm))
theorem opensFs_cons {α β : Type} {d : Kd α} {e : Kd β} {f : Field} {fs : List Field} {o o' : Nat} {good : α → Prop} {good' : β → Prop} (ho : f.offset = o) (hf : Opens enc P W d f.type good) (ho' : o + d.sz = o') (hfs : OpensFs enc P W e fs o' good') :
    OpensFs enc P W (Kd.pair d e) (f :: fs) o (fun p => good p.1 ∧ good' p.2) := by
  intro n cs xs hl hcs h hw
  match xs, hl with
  | x :: xs, hl =>
    have hsz : (Kd.pair d e).sz = d.sz + e.sz := rfl
    have h0 := h 0 f rfl
    rw [ho, hf.1] at h0
    obtain ⟨a, ha, ga⟩ := hf.2 n _ x.1 x.2 h0 (fun m hm => hw m (by simp [DataW.weightsEach]; exact Or.inl hm))
    obtain ⟨b, hb, gb⟩ := hfs n cs xs (by simpa using hl) (by omega) (fun i g hg => h (i + 1) g (by simpa using hg)) (fun m hm => hw m (by simp [DataW.weightsEach]; exact Or.inr (by simpa using hm)))
    refine ⟨(a, b), ⟨(cs.drop o).take d.sz, cs.drop o', ?_, ha, hb⟩, ga, gb⟩
    rw [← ho', ← List.drop_drop, List.take_append_drop]
theorem opens_struct {α : Type} {d : Kd α} {t : TypeId} {fs : Array Field} {good : α → Prop} (hu : P.underlying t = some (.struct fs)) (hc : P.cellsOf t = d.sz) (h : OpensFs enc P W d fs.toList 0 good) : Opens enc P W d t good := by
  refine ⟨hc, fun fuel cs x ps hx hw => ?_⟩
  obtain ⟨xs, n, _, he, hl, hn, hf⟩ := DataW.trod_struct hu hx
  obtain ⟨rfl, rfl⟩ := Prod.mk.inj he
  have := h n cs xs (by simpa using hn) (by omega) (fun i f hi => hf i f (by simpa using hi)) (fun m hm => hw m (by simp only [DataW.weights, hu]; exact hm))
  simpa using this
theorem opens_iso {α β : Type} {d : Kd α} {t : TypeId} {good : α → Prop} (f : β → α) (g : α → β) (hfg : ∀ a, f (g a) = a) (h : Opens enc P W d t good) : Opens enc P W (Kd.iso d f) t (fun b => good (f b)) := by
  refine ⟨h.1, fun fuel cs x ps hx hw => ?_⟩
  obtain ⟨a, ha, ga⟩ := h.2 fuel cs x ps hx hw
  exact ⟨g a, by show d.K W (f (g a)) cs; rw [hfg]; exact ha, by show good (f (g a)); rw [hfg]; exact ga⟩
end
end Go.Proofs.YtmhnfdgegejlkaaDoor.P
end

section
namespace Go.Proofs.YtmhnfdgegejlkaaDoor.P
open Go Go.RowKit Go.Proofs.YtmhnfdgegejlkaaDoorW.PrintWords
set_option linter.unusedVariables false
theorem op3 {H : Type} (enc : TypeId × Value → H) (W : World) : Opens enc Tryd.prog W (Kd.int .i64) 3 (fun a => (Lit.int .i64 a).wf = true) := opens_int Tryd.underlying3 (by kernel_rfl)
theorem op9 {H : Type} (enc : TypeId × Value → H) (W : World) : Opens enc Tryd.prog W Kd.string 9 (fun s => s.size ≤ 140737488351232) := opens_string Tryd.underlying9 (by kernel_rfl)
def G23 (x : S23) : Prop := (Lit.int .i64 x.f0).wf = true ∧ (Lit.int .i64 x.f1).wf = true ∧ x.f2.size ≤ 140737488351232
theorem op23 {H : Type} (enc : TypeId × Value → H) (W : World) : Opens enc Tryd.prog W k23 23 G23 := opens_iso (fun x : S23 => (x.f0, x.f1, x.f2)) (fun p => ⟨p.1, p.2.1, p.2.2⟩) (fun _ => rfl) (opens_struct Tryd.underlying23 (by kernel_rfl) (opensFs_cons rfl (op3 enc W) rfl (opensFs_cons rfl (op3 enc W) rfl (opensFs_one rfl (op9 enc W)))))
def alumlaw19_ValueLogic.Pure : Prop := ∀ (x0 : S23) (x1 : S23) (x2 : S23), G23 x0 → G23 x1 → G23 x2 → ∃ k, alumlaw19_ValueLogic.f k x0.f0 x0.f1 x0.f2 x1.f0 x1.f1 x1.f2 x2.f0 x2.f1 x2.f2 = some true
end Go.Proofs.YtmhnfdgegejlkaaDoor.P
end

section
namespace Go.Proofs.YtmhnfdgegejlkaaDoor.V
open Go Go.RowKit Go.Proofs.YtmhnfdgegejlkaaDoor.P Go.Proofs.YtmhnfdgegejlkaaDoorW.PrintWords
theorem sanity_at : alumlaw19_sanity.f 40 = some true := by kernel_rfl
theorem ev_sanity (k : Nat) (hk : 40 ≤ k) : alumlaw19_sanity.f k = some true := at_rounds (fun k => alumlaw19_sanity.mono k) hk sanity_at
end Go.Proofs.YtmhnfdgegejlkaaDoor.V
end

section
namespace Go.Proofs.YtmhnfdgegejlkaaDoor.V
open Go
set_option linter.unusedSimpArgs false
set_option linter.unusedVariables false
structure TC {α : Type} (f : α → α → Int) : Prop where
  rng : ∀ a b, f a b = -1 ∨ f a b = 0 ∨ f a b = 1
  eq0 : ∀ a b, f a b = 0 ↔ a = b
  sym : ∀ a b, f b a = - f a b
  tr : ∀ a b c, f a b = -1 → f b c = -1 → f a c = -1
namespace TC
variable {α : Type} {f : α → α → Int} (h : TC f)
include h
theorem refl (a : α) : f a a = 0 := (h.eq0 a a).2 rfl
theorem le_trans {a b c : α} (h1 : f a b ≤ 0) (h2 : f b c ≤ 0) : f a c ≤ 0 := by
  have r1 := h.rng a b; have r2 := h.rng b c
  rcases r1 with r1 | r1 | r1
  · rcases r2 with r2 | r2 | r2
    · have := h.tr a b c r1 r2; omega
    · rw [h.eq0] at r2; subst r2; omega
    · omega
  · rw [h.eq0] at r1; subst r1; exact h2
  · omega
end TC
theorem bytes_ext {a b : ByteArray} (h : a.data.toList = b.data.toList) : a = b := ByteArray.ext (Array.toList_inj.1 h)
end Go.Proofs.YtmhnfdgegejlkaaDoor.V
end

section
namespace Go.Proofs.YtmhnfdgegejlkaaDoor.V
open Go Go.RowKit Go.Proofs.YtmhnfdgegejlkaaDoor.P Go.Proofs.YtmhnfdgegejlkaaDoorW.PrintWords
set_option linter.unusedSimpArgs false
set_option linter.unusedVariables false
abbrev V := S23
abbrev e0 : ByteArray := ⟨#[]⟩
theorem V_ext {a b : V} (h0 : a.f0 = b.f0) (h1 : a.f1 = b.f1) (h2 : a.f2 = b.f2) : a = b := by cases a; cases b; simp_all
instance : DecidableEq V := fun a b => decidable_of_iff (a.f0 = b.f0 ∧ a.f1 = b.f1 ∧ a.f2 = b.f2) ⟨fun h => V_ext h.1 h.2.1 h.2.2, fun h => by rw [h]; exact ⟨rfl, rfl, rfl⟩⟩
theorem wrap64_id {x : Int} (h1 : -9223372036854775808 ≤ x) (h2 : x ≤ 9223372036854775807) : wrap64 x = x := by unfold wrap64; omega
end Go.Proofs.YtmhnfdgegejlkaaDoor.V
end

section
namespace Go.Proofs.YtmhnfdgegejlkaaDoor.P
open Go.RowKit Go.Proofs.YtmhnfdgegejlkaaDoorW.PrintWords Go.Proofs.YtmhnfdgegejlkaaDoorW.PrintLast Go.Proofs.YtmhnfdgegejlkaaDoorW.PrintMore
attribute [local go_sem] max2_int min2_int max_two min_two max_three min_three max_four min_four
set_option linter.unusedVariables false
set_option linter.unusedSimpArgs false
end Go.Proofs.YtmhnfdgegejlkaaDoor.P
end

section
namespace Go.Proofs.YtmhnfdgegejlkaaDoor.P
open Go.RowKit Go.Proofs.YtmhnfdgegejlkaaDoorW.PrintWords Go.Proofs.YtmhnfdgegejlkaaDoorW.PrintLast Go.Proofs.YtmhnfdgegejlkaaDoorW.PrintMore
attribute [local go_sem] max2_int min2_int max_two min_two max_three min_three max_four min_four
set_option linter.unusedVariables false
set_option linter.unusedSimpArgs false
end Go.Proofs.YtmhnfdgegejlkaaDoor.P
end

section
namespace Go.Proofs.YtmhnfdgegejlkaaDoor.V
open Go Go.RowKit Go.Proofs.YtmhnfdgegejlkaaDoor.P Go.Proofs.YtmhnfdgegejlkaaDoorW.PrintWords
set_option linter.unusedSimpArgs false
set_option linter.unusedVariables false
theorem rdV (l : List V) (i : Nat) (h : i < l.length) : rd_T23 l (i : Int) = l[i] := by
  unfold rd_T23
  rw [Int.toNat_natCast, List.getD_eq_getElem?_getD, List.getElem?_eq_getElem h]
  rfl
theorem wrap_succ (i : Nat) (h : i < 9223372036854775807) : wrap64 ((i : Int) + 1) = ((i + 1 : Nat) : Int) := by rw [wrap64_id (by omega) (by omega)]; rfl
end Go.Proofs.YtmhnfdgegejlkaaDoor.V
end

section
namespace Go.Proofs.YtmhnfdgegejlkaaDoor.V
open Go Go.RowKit Go.Proofs.YtmhnfdgegejlkaaDoor.P Go.Proofs.YtmhnfdgegejlkaaDoorW.PrintWords
set_option linter.unusedSimpArgs false
set_option linter.unusedVariables false
def Rt (v : V) : Prop := (v.f0 = 0 ∧ v.f1 = 0 ∧ v.f2 = e0) ∨ (v.f0 = 1 ∧ -549755813888 ≤ v.f1 ∧ v.f1 ≤ 549755813887 ∧ v.f2 = e0) ∨ (v.f0 = 2 ∧ v.f1 = 0 ∧ v.f2.size ≤ 40) ∨ (v.f0 = 3 ∧ (v.f1 = 0 ∨ v.f1 = 1) ∧ v.f2 = e0)
theorem empty_beq (s : ByteArray) : (s.toList == ([] : List UInt8)) = true ↔ s = e0 := by
  rw [beq_iff_eq, ByteArray.toList_eq]
  constructor
  · intro h; exact bytes_ext h
  · rintro rfl; rfl
theorem refRight_some (v : V) : ∃ b, alumref19_Right.f v.f0 v.f1 v.f2 = some b ∧ (b = true ↔ Rt v) := by
  unfold alumref19_Right.f Rt
  by_cases h0 : v.f0 = 0
  · rw [if_pos h0]
    by_cases h1 : v.f1 = 0
    · rw [if_pos h1]; exact ⟨_, rfl, by rw [empty_beq]; simp [h0, h1]⟩
    · rw [if_neg h1]; exact ⟨_, rfl, by simp [h0, h1]⟩
  · rw [if_neg h0]
    by_cases h1 : v.f0 = 1
    · rw [if_pos h1]
      by_cases h2 : v.f1 ≥ -549755813888
      · rw [if_pos h2]
        by_cases h3 : v.f1 ≤ 549755813887
        · rw [if_pos h3]; exact ⟨_, rfl, by rw [empty_beq]; simp [h1, h3]; omega⟩
        · rw [if_neg h3]; exact ⟨_, rfl, by simp [h1, h3]⟩
      · rw [if_neg h2]; exact ⟨_, rfl, by simp [h1]; omega⟩
    · rw [if_neg h1]
      by_cases h2 : v.f0 = 2
      · rw [if_pos h2]
        by_cases h3 : v.f1 = 0
        · rw [if_pos h3]; exact ⟨_, rfl, by simp [h2, h3]; omega⟩
        · rw [if_neg h3]; exact ⟨_, rfl, by simp [h2, h3]⟩
      · rw [if_neg h2]
        by_cases h3 : v.f0 = 3
        · rw [if_pos h3]
          by_cases h4 : v.f1 = 0
          · rw [if_pos h4]; exact ⟨_, rfl, by rw [empty_beq]; simp [h3, h4]⟩
          · rw [if_neg h4]
            by_cases h5 : v.f1 = 1
            · rw [if_pos h5]; exact ⟨_, rfl, by rw [empty_beq]; simp [h3, h4, h5]⟩
            · rw [if_neg h5]; exact ⟨_, rfl, by simp [h3, h4, h5]⟩
        · rw [if_neg h3]; exact ⟨_, rfl, by simp [h0, h1, h2, h3]⟩
theorem refRight_yes {v : V} (h : Rt v) : alumref19_Right.f v.f0 v.f1 v.f2 = some true := by
  obtain ⟨b, hb, hi⟩ := refRight_some v
  rw [hb, hi.2 h]
theorem refRight_no {v : V} (h : ¬ Rt v) : alumref19_Right.f v.f0 v.f1 v.f2 = some false := by
  obtain ⟨b, hb, hi⟩ := refRight_some v
  rw [hb]
  cases b with
  | false => rfl
  | true => exact absurd (hi.1 rfl) h
end Go.Proofs.YtmhnfdgegejlkaaDoor.V
end

section
namespace Go.Proofs.YtmhnfdgegejlkaaDoor.P
open Go.RowKit Go.Proofs.YtmhnfdgegejlkaaDoorW.PrintWords Go.Proofs.YtmhnfdgegejlkaaDoorW.PrintLast Go.Proofs.YtmhnfdgegejlkaaDoorW.PrintMore
attribute [local go_sem] max2_int min2_int max_two min_two max_three min_three max_four min_four
set_option linter.unusedVariables false
set_option linter.unusedSimpArgs false
end Go.Proofs.YtmhnfdgegejlkaaDoor.P
end

section
namespace Go.Proofs.YtmhnfdgegejlkaaDoor.P
open Go.RowKit Go.Proofs.YtmhnfdgegejlkaaDoorW.PrintWords Go.Proofs.YtmhnfdgegejlkaaDoorW.PrintLast Go.Proofs.YtmhnfdgegejlkaaDoorW.PrintMore
attribute [local go_sem] max2_int min2_int max_two min_two max_three min_three max_four min_four
set_option linter.unusedVariables false
set_option linter.unusedSimpArgs false
end Go.Proofs.YtmhnfdgegejlkaaDoor.P
end

section
namespace Go.Proofs.YtmhnfdgegejlkaaDoor.P
open Go.RowKit Go.Proofs.YtmhnfdgegejlkaaDoorW.PrintWords Go.Proofs.YtmhnfdgegejlkaaDoorW.PrintLast Go.Proofs.YtmhnfdgegejlkaaDoorW.PrintMore
attribute [local go_sem] max2_int min2_int max_two min_two max_three min_three max_four min_four
set_option linter.unusedVariables false
set_option linter.unusedSimpArgs false
end Go.Proofs.YtmhnfdgegejlkaaDoor.P
end

section
namespace Go.Proofs.YtmhnfdgegejlkaaDoor.P
open Go.RowKit Go.Proofs.YtmhnfdgegejlkaaDoorW.PrintWords Go.Proofs.YtmhnfdgegejlkaaDoorW.PrintLast Go.Proofs.YtmhnfdgegejlkaaDoorW.PrintMore
attribute [local go_sem] max2_int min2_int max_two min_two max_three min_three max_four min_four
set_option linter.unusedVariables false
set_option linter.unusedSimpArgs false
end Go.Proofs.YtmhnfdgegejlkaaDoor.P
end

section
namespace Go.Proofs.YtmhnfdgegejlkaaDoor.P
open Go.RowKit Go.Proofs.YtmhnfdgegejlkaaDoorW.PrintWords Go.Proofs.YtmhnfdgegejlkaaDoorW.PrintLast Go.Proofs.YtmhnfdgegejlkaaDoorW.PrintMore
attribute [local go_sem] max2_int min2_int max_two min_two max_three min_three max_four min_four
set_option linter.unusedVariables false
set_option linter.unusedSimpArgs false
end Go.Proofs.YtmhnfdgegejlkaaDoor.P
end

section
namespace Go.Proofs.YtmhnfdgegejlkaaDoor.P
open Go.RowKit Go.Proofs.YtmhnfdgegejlkaaDoorW.PrintWords Go.Proofs.YtmhnfdgegejlkaaDoorW.PrintLast Go.Proofs.YtmhnfdgegejlkaaDoorW.PrintMore
attribute [local go_sem] max2_int min2_int max_two min_two max_three min_three max_four min_four
set_option linter.unusedVariables false
set_option linter.unusedSimpArgs false
end Go.Proofs.YtmhnfdgegejlkaaDoor.P
end
