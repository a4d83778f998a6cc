/- Part 2 of the proof of ValueLogic: what the functions that it reaches answer. -/
import Derived.Test.YtmhnfdgegejlkaaDoorBValueLogic0
import Derived.Test.YtmhnfdgegejlkaaDoorBValueLogic1
import Derived.Laws.BitsLemmas
import Derived.Lib.QuoteBits
import Derived.KernelRfl
section
namespace Go.Proofs.YtmhnfdgegejlkaaDoor.P
open Go.RowKit Go.Proofs.YtmhnfdgegejlkaaDoorW.PrintWords Go.Proofs.YtmhnfdgegejlkaaDoorW.PrintLast Go.Proofs.YtmhnfdgegejlkaaDoorW.PrintMore
attribute [local go_sem] max2_int min2_int max_two min_two max_three min_three max_four min_four
set_option linter.unusedVariables false
set_option linter.unusedSimpArgs false
end Go.Proofs.YtmhnfdgegejlkaaDoor.P
end

section
namespace Go.Proofs.YtmhnfdgegejlkaaDoor.P
open Go.RowKit Go.Proofs.YtmhnfdgegejlkaaDoorW.PrintWords Go.Proofs.YtmhnfdgegejlkaaDoorW.PrintLast Go.Proofs.YtmhnfdgegejlkaaDoorW.PrintMore
attribute [local go_sem] max2_int min2_int max_two min_two max_three min_three max_four min_four
set_option linter.unusedVariables false
set_option linter.unusedSimpArgs false
end Go.Proofs.YtmhnfdgegejlkaaDoor.P
end

section
namespace Go.Proofs.YtmhnfdgegejlkaaDoor.P
open Go.RowKit Go.Proofs.YtmhnfdgegejlkaaDoorW.PrintWords Go.Proofs.YtmhnfdgegejlkaaDoorW.PrintLast Go.Proofs.YtmhnfdgegejlkaaDoorW.PrintMore
attribute [local go_sem] max2_int min2_int max_two min_two max_three min_three max_four min_four
set_option linter.unusedVariables false
set_option linter.unusedSimpArgs false
end Go.Proofs.YtmhnfdgegejlkaaDoor.P
end

section
namespace Go.Proofs.YtmhnfdgegejlkaaDoor.P
open Go.RowKit Go.Proofs.YtmhnfdgegejlkaaDoorW.PrintWords Go.Proofs.YtmhnfdgegejlkaaDoorW.PrintLast Go.Proofs.YtmhnfdgegejlkaaDoorW.PrintMore
attribute [local go_sem] max2_int min2_int max_two min_two max_three min_three max_four min_four
set_option linter.unusedVariables false
set_option linter.unusedSimpArgs false
end Go.Proofs.YtmhnfdgegejlkaaDoor.P
end

section
namespace Go.Proofs.YtmhnfdgegejlkaaDoor.V
open Go Go.RowKit Go.Proofs.YtmhnfdgegejlkaaDoor.P Go.Proofs.YtmhnfdgegejlkaaDoorW.PrintWords Go.Proofs.YtmhnfdgegejlkaaDoorW.PrintMore
set_option linter.unusedSimpArgs false
set_option linter.unusedVariables false
def bts (s : ByteArray) : List Int := s.data.toList.map fun b => (b.toNat : Int)
def w4 (a b c d n : Int) : Int := (((a * 256 + b) * 256 + c) * 256 + d) * 256 + n
def tw : List Int → List Int
  | [] => [w4 0 0 0 0 0]
  | [a] => [w4 a 0 0 0 1]
  | [a, b] => [w4 a b 0 0 2]
  | [a, b, c] => [w4 a b c 0 3]
  | a :: b :: c :: d :: r => w4 a b c d 4 :: tw r
def W (v : V) : List Int := if v.f0 = 1 then [1, v.f1 + 549755813888] else if v.f0 = 3 then [3, v.f1] else if v.f0 = 0 then [0] else 2 :: tw (bts v.f2)
end Go.Proofs.YtmhnfdgegejlkaaDoor.V
end

section
namespace Go.Proofs.YtmhnfdgegejlkaaDoor.P
open Go.RowKit Go.Proofs.YtmhnfdgegejlkaaDoorW.PrintWords Go.Proofs.YtmhnfdgegejlkaaDoorW.PrintLast Go.Proofs.YtmhnfdgegejlkaaDoorW.PrintMore
attribute [local go_sem] max2_int min2_int max_two min_two max_three min_three max_four min_four
set_option linter.unusedVariables false
set_option linter.unusedSimpArgs false
end Go.Proofs.YtmhnfdgegejlkaaDoor.P
end

section
namespace Go.Proofs.YtmhnfdgegejlkaaDoor.P
open Go.RowKit Go.Proofs.YtmhnfdgegejlkaaDoorW.PrintWords Go.Proofs.YtmhnfdgegejlkaaDoorW.PrintLast Go.Proofs.YtmhnfdgegejlkaaDoorW.PrintMore
attribute [local go_sem] max2_int min2_int max_two min_two max_three min_three max_four min_four
set_option linter.unusedVariables false
set_option linter.unusedSimpArgs false
end Go.Proofs.YtmhnfdgegejlkaaDoor.P
end

section
namespace Go.Proofs.YtmhnfdgegejlkaaDoor.P
open Go.RowKit Go.Proofs.YtmhnfdgegejlkaaDoorW.PrintWords Go.Proofs.YtmhnfdgegejlkaaDoorW.PrintLast Go.Proofs.YtmhnfdgegejlkaaDoorW.PrintMore
attribute [local go_sem] max2_int min2_int max_two min_two max_three min_three max_four min_four
set_option linter.unusedVariables false
set_option linter.unusedSimpArgs false
end Go.Proofs.YtmhnfdgegejlkaaDoor.P
end

section
namespace Go.Proofs.YtmhnfdgegejlkaaDoor.P
open Go.RowKit Go.Proofs.YtmhnfdgegejlkaaDoorW.PrintWords Go.Proofs.YtmhnfdgegejlkaaDoorW.PrintLast Go.Proofs.YtmhnfdgegejlkaaDoorW.PrintMore
attribute [local go_sem] max2_int min2_int max_two min_two max_three min_three max_four min_four
set_option linter.unusedVariables false
set_option linter.unusedSimpArgs false
end Go.Proofs.YtmhnfdgegejlkaaDoor.P
end

section
namespace Go.Proofs.YtmhnfdgegejlkaaDoor.P
open Go.RowKit Go.Proofs.YtmhnfdgegejlkaaDoorW.PrintWords Go.Proofs.YtmhnfdgegejlkaaDoorW.PrintLast Go.Proofs.YtmhnfdgegejlkaaDoorW.PrintMore
attribute [local go_sem] max2_int min2_int max_two min_two max_three min_three max_four min_four
set_option linter.unusedVariables false
set_option linter.unusedSimpArgs false
end Go.Proofs.YtmhnfdgegejlkaaDoor.P
end

section
namespace Go.Proofs.YtmhnfdgegejlkaaDoor.P
open Go.RowKit Go.Proofs.YtmhnfdgegejlkaaDoorW.PrintWords Go.Proofs.YtmhnfdgegejlkaaDoorW.PrintLast Go.Proofs.YtmhnfdgegejlkaaDoorW.PrintMore
attribute [local go_sem] max2_int min2_int max_two min_two max_three min_three max_four min_four
set_option linter.unusedVariables false
set_option linter.unusedSimpArgs false
end Go.Proofs.YtmhnfdgegejlkaaDoor.P
end

section
namespace Go.Proofs.YtmhnfdgegejlkaaDoor.P
open Go.RowKit Go.Proofs.YtmhnfdgegejlkaaDoorW.PrintWords Go.Proofs.YtmhnfdgegejlkaaDoorW.PrintLast Go.Proofs.YtmhnfdgegejlkaaDoorW.PrintMore
attribute [local go_sem] max2_int min2_int max_two min_two max_three min_three max_four min_four
set_option linter.unusedVariables false
set_option linter.unusedSimpArgs false
attribute [local go_sem high] eqA23
end Go.Proofs.YtmhnfdgegejlkaaDoor.P
end

section
namespace Go.Proofs.YtmhnfdgegejlkaaDoor.P
open Go.RowKit Go.Proofs.YtmhnfdgegejlkaaDoorW.PrintWords Go.Proofs.YtmhnfdgegejlkaaDoorW.PrintLast Go.Proofs.YtmhnfdgegejlkaaDoorW.PrintMore
attribute [local go_sem] max2_int min2_int max_two min_two max_three min_three max_four min_four
set_option linter.unusedVariables false
set_option linter.unusedSimpArgs false
attribute [local go_sem high] eqA23
end Go.Proofs.YtmhnfdgegejlkaaDoor.P
end

section
namespace Go.Proofs.YtmhnfdgegejlkaaDoor.P
open Go.RowKit Go.Proofs.YtmhnfdgegejlkaaDoorW.PrintWords Go.Proofs.YtmhnfdgegejlkaaDoorW.PrintLast Go.Proofs.YtmhnfdgegejlkaaDoorW.PrintMore
attribute [local go_sem] max2_int min2_int max_two min_two max_three min_three max_four min_four
set_option linter.unusedVariables false
set_option linter.unusedSimpArgs false
end Go.Proofs.YtmhnfdgegejlkaaDoor.P
end

section
namespace Go.Proofs.YtmhnfdgegejlkaaDoor.V
open Go Go.RowKit Go.Proofs.YtmhnfdgegejlkaaDoor.P Go.Proofs.YtmhnfdgegejlkaaDoorW.PrintWords Go.Proofs.YtmhnfdgegejlkaaDoorW.PrintMore
set_option linter.unusedSimpArgs false
set_option linter.unusedVariables false
theorem w12 : wrap64 (1 + 1) = 2 := wrap64_id (by omega) (by omega)
def vN : V := ⟨0, 0, e0⟩
def vF : V := ⟨3, 0, e0⟩
def vT : V := ⟨3, 1, e0⟩
def Lg (v : V) : Prop := v.f0 = 0 ∨ v.f0 = 3
instance (v : V) : Decidable (Lg v) := inferInstanceAs (Decidable (_ ∨ _))
theorem Lg.of {v : V} (h : Lg v) (hr : Rt v) : v = vN ∨ v = vF ∨ v = vT := by
  rcases hr with hr | hr | hr | hr
  · exact Or.inl (V_ext hr.1 hr.2.1 hr.2.2)
  · rcases h with h | h <;> omega
  · rcases h with h | h <;> omega
  · rcases hr.2.1 with h1 | h1
    · exact Or.inr (Or.inl (V_ext hr.1 h1 hr.2.2))
    · exact Or.inr (Or.inr (V_ext hr.1 h1 hr.2.2))
end Go.Proofs.YtmhnfdgegejlkaaDoor.V
end

section
namespace Go.Proofs.YtmhnfdgegejlkaaDoor.V
open Go Go.RowKit Go.Proofs.YtmhnfdgegejlkaaDoor.P Go.Proofs.YtmhnfdgegejlkaaDoorW.PrintWords
set_option linter.unusedSimpArgs false
set_option linter.unusedVariables false
def Lr (v : V) : Prop := Rt v ∧ Lg v
theorem Lr.of {v : V} (h : Lr v) : v = vN ∨ v = vF ∨ v = vT := h.2.of h.1
open Classical in
theorem vl_step (k : Nat) (b : Bool) (l : List V) (i : Nat) (hi : i < l.length) (hl : l.length ≤ 100) (p0 p1 : Int) (p2 : ByteArray) (q0 q1 : Int) (q2 : ByteArray) (r0 r1 : Int) (r2 : ByteArray) :
    alumlaw19_ValueLogic.l0 (k + 1) b l l.length i p0 p1 p2 q0 q1 q2 r0 r1 r2 = alumlaw19_ValueLogic.l0 k (b && decide (Lr l[i])) l l.length ((i + 1 : Nat) : Int) p0 p1 p2 q0 q1 q2 r0 r1 r2 := by
  rw [alumlaw19_ValueLogic.l0, if_pos (by omega), if_pos (by omega), if_pos (by omega), wrap_succ i (by omega), rdV l i hi]
  cases b with
  | false => rfl
  | true =>
    rw [if_pos rfl, Bool.true_and]
    by_cases hr : Rt l[i]
    · rw [refRight_yes hr, Option.bind_some, if_pos rfl]
      by_cases h0 : l[i].f0 = 0
      · rw [if_pos h0, decide_eq_true (show Lr l[i] from ⟨hr, Or.inl h0⟩)]
      · rw [if_neg h0]
        by_cases h3 : l[i].f0 = 3
        · rw [decide_eq_true (show Lr l[i] from ⟨hr, Or.inr h3⟩), show (l[i].f0 == 3) = true from by simp [h3]]
        · rw [decide_eq_false (show ¬ Lr l[i] from fun h => by rcases h.2 with h | h <;> contradiction), show (l[i].f0 == 3) = false from by simp [h3]]
    · rw [refRight_no hr, Option.bind_some, if_neg (by simp), decide_eq_false (show ¬ Lr l[i] from fun h => hr h.1)]
theorem vl_no (k : Nat) (hk : 50 ≤ k) (l : List V) (p0 p1 : Int) (p2 : ByteArray) (q0 q1 : Int) (q2 : ByteArray) (r0 r1 : Int) (r2 : ByteArray) :
    alumlaw19_ValueLogic.l0 k false l l.length l.length p0 p1 p2 q0 q1 q2 r0 r1 r2 = some true := by
  obtain ⟨k, rfl⟩ : ∃ m, k = m + 1 := ⟨k - 1, by omega⟩
  rw [alumlaw19_ValueLogic.l0, if_neg (by omega), if_neg (by simp), ev_sanity _ (by omega)]
  rfl
def vs : List V := [vN, vF, vT]
theorem vl_all : (vs.all fun a => vs.all fun b => vs.all fun c => alumlaw19_ValueLogic.f 80 a.f0 a.f1 a.f2 b.f0 b.f1 b.f2 c.f0 c.f1 c.f2 == some true) = true := by kernel_rfl
theorem Lr.mem {v : V} (h : Lr v) : v ∈ vs := by
  rcases h.of with rfl | rfl | rfl <;> simp [vs]
open Classical in
theorem ValueLogic : alumlaw19_ValueLogic.Pure := by
  intro a b c ga gb gc
  refine ⟨80, ?_⟩
  by_cases h : Lr a ∧ Lr b ∧ Lr c
  · have h1 := List.all_eq_true.1 (List.all_eq_true.1 (List.all_eq_true.1 vl_all a h.1.mem) b h.2.1.mem) c h.2.2.mem
    exact eq_of_beq h1
  · unfold alumlaw19_ValueLogic.f
    rw [show ([(⟨a.f0, a.f1, a.f2⟩ : V), (⟨b.f0, b.f1, b.f2⟩ : V), (⟨c.f0, c.f1, c.f2⟩ : V)] : List V) = [a, b, c] from rfl, Option.bind_some]
    have s0 := vl_step 79 true [a, b, c] 0 (by simp) (by simp) a.f0 a.f1 a.f2 b.f0 b.f1 b.f2 c.f0 c.f1 c.f2
    rw [Int.natCast_zero] at s0
    rw [s0, vl_step 78 _ [a, b, c] 1 (by simp) (by simp), vl_step 77 _ [a, b, c] 2 (by simp) (by simp)]
    have e : ((true && decide (Lr ([a, b, c] : List V)[0])) && decide (Lr ([a, b, c] : List V)[1]) && decide (Lr ([a, b, c] : List V)[2])) = false := by
      show ((true && decide (Lr a)) && decide (Lr b) && decide (Lr c)) = false
      rw [Bool.true_and, Bool.eq_false_iff]
      intro h'
      simp only [Bool.and_eq_true, decide_eq_true_eq] at h'
      exact h ⟨h'.1.1, h'.1.2, h'.2⟩
    rw [e]
    exact vl_no 77 (by omega) [a, b, c] _ _ _ _ _ _ _ _ _
end Go.Proofs.YtmhnfdgegejlkaaDoor.V
end

section
namespace Go.Proofs.YtmhnfdgegejlkaaDoor.P
open Go.RowKit Go.Proofs.YtmhnfdgegejlkaaDoorW.PrintWords Go.Proofs.YtmhnfdgegejlkaaDoorW.PrintLast Go.Proofs.YtmhnfdgegejlkaaDoorW.PrintMore
attribute [local go_sem] max2_int min2_int max_two min_two max_three min_three max_four min_four
set_option linter.unusedVariables false
set_option linter.unusedSimpArgs false
attribute [local go_sem high] eqA23
set_option maxHeartbeats 8000000 in
set_option maxRecDepth 100000 in
theorem alumlaw19_ValueLogic.pq (kj144 : Nat) (a0_0 a0_1 : Int) (a0_2 : ByteArray) (a1_0 a1_1 : Int) (a1_2 : ByteArray) (a2_0 a2_1 : Int) (a2_2 : ByteArray) (x471000_118 x471001_118 : Int) (x471002_118 : ByteArray) (x472000_144 x472001_144 : Int) (x472002_144 : ByteArray) (t473 t474 : Int) (t475 : ByteArray) (t476 t477 : Int) (t478 : ByteArray) (gb373 gb374 gb375 gb470 gb471 : Nat) (w wc : World) (Q : Exit → Act → World → Prop) (hP : ∀ c (b : Act) (d : Tmp) (v : Value) w, Q (.panic c) (b.put (some d) v) w → Q (.panic c) b w) (v0 v1 v2 v5 v6 v7 v8 v9 v10 v11 v12 v13 v14 v15 v16 v17 v18 v19 v20 v21 v22 v23 v24 v25 v26 v27 v28 v29 v30 v31 v32 v33 v34 v35 v36 v37 v38 v39 v40 v41 v42 v43 v44 v45 v46 v47 v48 v49 v50 v51 v52 v53 v54 v55 v56 v57 v58 v59 v60 v61 v62 v63 v64 v65 v66 v67 v68 v69 v70 v71 v72 v73 v74 v75 v76 v77 v78 v79 v80 v81 v82 v83 v84 v85 v86 v87 v88 v89 v90 v91 v92 v93 v94 v95 v96 v97 v98 v99 v100 v101 v102 v103 v104 v105 v106 v107 v108 v109 v110 v111 v112 v113 v114 v115 v116 v117 v118 v119 v120 v121 v122 v123 v124 v125 v126 v127 v128 v129 v130 v131 v132 v133 v134 v135 v136 v137 v138 v139 v140 v141 v142 v143 v144 v145 v146 v147 v148 v149 v150 v151 v152 v153 v154 v155 v156 v157 v158 v159 v160 v161 v162 v163 v164 v165 v166 v167 v168 v169 v170 v171 v172 v173 v174 v175 : Value) (A169 : Aside0 (alumlaw19_and.f kj144 a0_0 a0_1 a0_2 a1_0 a1_1 a1_2 = some (t473, t474, t475))) (A170 : Aside0 (alumlaw19_or.f kj144 a0_0 a0_1 a0_2 a1_0 a1_1 a1_2 = some (t476, t477, t478))) (BK373 : Aside0 (wc.heap[gb373]? = some (.cells #[.int .i64 a0_0, .int .i64 a0_1, .string a0_2] 23 (0, 0)))) (BK374 : Aside0 (wc.heap[gb374]? = some (.cells #[.int .i64 a1_0, .int .i64 a1_1, .string a1_2] 23 (0, 0)))) (BK375 : Aside0 (wc.heap[gb375]? = some (.cells #[.int .i64 a2_0, .int .i64 a2_1, .string a2_2] 23 (0, 0)))) (BK470 : Aside0 (wc.heap[gb470]? = some (.cells #[.int .i64 x471000_118, .int .i64 x471001_118, .string x471002_118] 23 (0, 0)))) (BK471 : Aside0 (wc.heap[gb471]? = some (.cells #[.int .i64 x472000_144, .int .i64 x472001_144, .string x472002_144] 23 (0, 0)))) (HB : Aside0 (Below w.heap.size w wc)) (GE373 : Aside0 (w.heap.size ≤ gb373)) (GE374 : Aside0 (w.heap.size ≤ gb374)) (GE375 : Aside0 (w.heap.size ≤ gb375)) (GE470 : Aside0 (w.heap.size ≤ gb470)) (GE471 : Aside0 (w.heap.size ≤ gb471))
 (hK_ : ∀ (gb479 gb480 : Nat) (W : World), Aside0 (W.heap[gb373]? = some (.cells #[.int .i64 a0_0, .int .i64 a0_1, .string a0_2] 23 (0, 0))) → Aside0 (W.heap[gb374]? = some (.cells #[.int .i64 a1_0, .int .i64 a1_1, .string a1_2] 23 (0, 0))) → Aside0 (W.heap[gb375]? = some (.cells #[.int .i64 a2_0, .int .i64 a2_1, .string a2_2] 23 (0, 0))) → Aside0 (W.heap[gb470]? = some (.cells #[.int .i64 x471000_118, .int .i64 x471001_118, .string x471002_118] 23 (0, 0))) → Aside0 (W.heap[gb471]? = some (.cells #[.int .i64 x472000_144, .int .i64 x472001_144, .string x472002_144] 23 (0, 0))) → Aside0 (W.heap[gb479]? = some (.cells #[.int .i64 t473, .int .i64 t474, .string t475] 23 (0, 0))) → Aside0 (W.heap[gb480]? = some (.cells #[.int .i64 t476, .int .i64 t477, .string t478] 23 (0, 0))) → Aside0 (Below w.heap.size w W) → Aside0 (w.heap.size ≤ gb479) → Aside0 (w.heap.size ≤ gb479) → Aside0 (w.heap.size ≤ gb480) → Aside0 (w.heap.size ≤ gb480) → Aside0 (gb373 ≠ gb479) → Aside0 (gb373 ≠ gb480) → Aside0 (gb374 ≠ gb479) → Aside0 (gb374 ≠ gb480) → Aside0 (gb375 ≠ gb479) → Aside0 (gb375 ≠ gb480) → Aside0 (gb470 ≠ gb479) → Aside0 (gb470 ≠ gb480) → Aside0 (gb471 ≠ gb479) → Aside0 (gb471 ≠ gb480) → Aside0 (gb479 ≠ gb373) → Aside0 (gb480 ≠ gb373) → Aside0 (gb479 ≠ gb374) → Aside0 (gb480 ≠ gb374) → Aside0 (gb479 ≠ gb375) → Aside0 (gb480 ≠ gb375) → Aside0 (gb479 ≠ gb470) → Aside0 (gb480 ≠ gb470) → Aside0 (gb479 ≠ gb471) → Aside0 (gb480 ≠ gb471) → Aside0 (gb479 ≠ gb480) → Aside0 (gb480 ≠ gb479) → Q .normal { tmps := (v0 :: v1 :: v2 :: .pointer (some ⟨gb373, 0, none⟩) :: .pointer (some ⟨gb374, 0, none⟩) :: v5 :: v6 :: v7 :: v8 :: v9 :: v10 :: v11 :: .pointer (some ⟨gb479, 0, none⟩) :: .pointer (some ⟨gb480, 0, none⟩) :: v14 :: v15 :: v16 :: v17 :: v18 :: v19 :: v20 :: v21 :: v22 :: v23 :: v24 :: v25 :: v26 :: v27 :: v28 :: v29 :: v30 :: v31 :: v32 :: v33 :: v34 :: v35 :: v36 :: v37 :: v38 :: v39 :: v40 :: v41 :: v42 :: v43 :: v44 :: v45 :: v46 :: v47 :: v48 :: v49 :: v50 :: v51 :: v52 :: v53 :: v54 :: v55 :: v56 :: v57 :: v58 :: v59 :: v60 :: v61 :: v62 :: v63 :: v64 :: v65 :: v66 :: v67 :: v68 :: v69 :: v70 :: v71 :: v72 :: v73 :: v74 :: v75 :: v76 :: v77 :: v78 :: v79 :: v80 :: v81 :: v82 :: v83 :: v84 :: v85 :: v86 :: v87 :: v88 :: v89 :: v90 :: v91 :: v92 :: v93 :: v94 :: v95 :: v96 :: v97 :: v98 :: v99 :: v100 :: v101 :: v102 :: v103 :: v104 :: v105 :: v106 :: v107 :: v108 :: v109 :: v110 :: v111 :: v112 :: v113 :: v114 :: v115 :: v116 :: v117 :: v118 :: v119 :: v120 :: v121 :: v122 :: v123 :: v124 :: v125 :: v126 :: v127 :: v128 :: v129 :: v130 :: v131 :: v132 :: v133 :: v134 :: v135 :: v136 :: v137 :: v138 :: v139 :: v140 :: v141 :: v142 :: v143 :: v144 :: .agg #[.int .i64 a0_0, .int .i64 a0_1, .string a0_2] :: .agg #[.int .i64 a1_0, .int .i64 a1_1, .string a1_2] :: .agg #[.int .i64 t473, .int .i64 t474, .string t475] :: .agg #[.int .i64 a0_0, .int .i64 a0_1, .string a0_2] :: .agg #[.int .i64 a1_0, .int .i64 a1_1, .string a1_2] :: .agg #[.int .i64 t476, .int .i64 t477, .string t478] :: v151 :: v152 :: v153 :: v154 :: v155 :: v156 :: v157 :: v158 :: v159 :: v160 :: v161 :: v162 :: v163 :: v164 :: v165 :: v166 :: v167 :: v168 :: v169 :: v170 :: v171 :: v172 :: v173 :: v174 :: v175 :: ([] : List Value)).toArray, defers := [] } W) :
 Aside0 (Code.wp Tryd.prog (Code.region 20 #[{ dst := some 145, op := Go.Op.load 23 (Go.Operand.tmp 3), type := 23, pos := "law.go:124", after := #[], guard := none }, { dst := some 146, op := Go.Op.load 23 (Go.Operand.tmp 4), type := 23, pos := "law.go:124", after := #[], guard := none }, { dst := some 147, op := Go.Op.call { callee := Go.Callee.value (Go.Operand.func 16), args := #[Go.Operand.tmp 145, Go.Operand.tmp 146], argTypes := #[23, 23] }, type := 23, pos := "law.go:124", after := #[{ on := 0, ground := Go.Ground.data }, { on := 1, ground := Go.Ground.data }], guard := none }, { dst := some 148, op := Go.Op.load 23 (Go.Operand.tmp 3), type := 23, pos := "law.go:124", after := #[], guard := none }, { dst := some 149, op := Go.Op.load 23 (Go.Operand.tmp 4), type := 23, pos := "law.go:124", after := #[], guard := none }, { dst := some 150, op := Go.Op.call { callee := Go.Callee.value (Go.Operand.func 17), args := #[Go.Operand.tmp 148, Go.Operand.tmp 149], argTypes := #[23, 23] }, type := 23, pos := "law.go:124", after := #[{ on := 3, ground := Go.Ground.data }, { on := 4, ground := Go.Ground.data }, { on := 2, ground := Go.Ground.chain }], guard := none }, { dst := some 12, op := Go.Op.alloc 23, type := 0, pos := "law.go:124", after := #[], guard := none }, { dst := some 13, op := Go.Op.alloc 23, type := 0, pos := "law.go:124", after := #[], guard := none }, { dst := none, op := Go.Op.store 23 (Go.Operand.tmp 12) (Go.Operand.tmp 147), type := 0, pos := "law.go:124", after := #[{ on := 6, ground := Go.Ground.data }, { on := 2, ground := Go.Ground.data }, { on := 5, ground := Go.Ground.chain }, { on := 0, ground := Go.Ground.phase }, { on := 1, ground := Go.Ground.phase }, { on := 2, ground := Go.Ground.phase }, { on := 3, ground := Go.Ground.textOnly Go.Departure.lateStores }, { on := 4, ground := Go.Ground.textOnly Go.Departure.lateStores }, { on := 5, ground := Go.Ground.textOnly Go.Departure.lateStoresUnsure }, { on := 6, ground := Go.Ground.phase }, { on := 7, ground := Go.Ground.phase }], guard := none }, { dst := none, op := Go.Op.store 23 (Go.Operand.tmp 13) (Go.Operand.tmp 150), type := 0, pos := "law.go:124", after := #[{ on := 7, ground := Go.Ground.data }, { on := 5, ground := Go.Ground.data }, { on := 8, ground := Go.Ground.chain }, { on := 0, ground := Go.Ground.phase }, { on := 1, ground := Go.Ground.phase }, { on := 2, ground := Go.Ground.phase }, { on := 3, ground := Go.Ground.phase }, { on := 4, ground := Go.Ground.phase }, { on := 5, ground := Go.Ground.phase }, { on := 6, ground := Go.Ground.phase }, { on := 7, ground := Go.Ground.phase }, { on := 8, ground := Go.Ground.phase }], guard := none }] true) Q { tmps := (v0 :: v1 :: v2 :: .pointer (some ⟨gb373, 0, none⟩) :: .pointer (some ⟨gb374, 0, none⟩) :: v5 :: v6 :: v7 :: v8 :: v9 :: v10 :: v11 :: v12 :: v13 :: v14 :: v15 :: v16 :: v17 :: v18 :: v19 :: v20 :: v21 :: v22 :: v23 :: v24 :: v25 :: v26 :: v27 :: v28 :: v29 :: v30 :: v31 :: v32 :: v33 :: v34 :: v35 :: v36 :: v37 :: v38 :: v39 :: v40 :: v41 :: v42 :: v43 :: v44 :: v45 :: v46 :: v47 :: v48 :: v49 :: v50 :: v51 :: v52 :: v53 :: v54 :: v55 :: v56 :: v57 :: v58 :: v59 :: v60 :: v61 :: v62 :: v63 :: v64 :: v65 :: v66 :: v67 :: v68 :: v69 :: v70 :: v71 :: v72 :: v73 :: v74 :: v75 :: v76 :: v77 :: v78 :: v79 :: v80 :: v81 :: v82 :: v83 :: v84 :: v85 :: v86 :: v87 :: v88 :: v89 :: v90 :: v91 :: v92 :: v93 :: v94 :: v95 :: v96 :: v97 :: v98 :: v99 :: v100 :: v101 :: v102 :: v103 :: v104 :: v105 :: v106 :: v107 :: v108 :: v109 :: v110 :: v111 :: v112 :: v113 :: v114 :: v115 :: v116 :: v117 :: v118 :: v119 :: v120 :: v121 :: v122 :: v123 :: v124 :: v125 :: v126 :: v127 :: v128 :: v129 :: v130 :: v131 :: v132 :: v133 :: v134 :: v135 :: v136 :: v137 :: v138 :: v139 :: v140 :: v141 :: v142 :: v143 :: v144 :: v145 :: v146 :: v147 :: v148 :: v149 :: v150 :: v151 :: v152 :: v153 :: v154 :: v155 :: v156 :: v157 :: v158 :: v159 :: v160 :: v161 :: v162 :: v163 :: v164 :: v165 :: v166 :: v167 :: v168 :: v169 :: v170 :: v171 :: v172 :: v173 :: v174 :: v175 :: ([] : List Value)).toArray, defers := [] } wc) := by
 refine ⟨?_⟩
 replace BK373 := Aside0.mk (blk_drew BK373.out)
 replace BK374 := Aside0.mk (blk_drew BK374.out)
 replace BK375 := Aside0.mk (blk_drew BK375.out)
 replace BK470 := Aside0.mk (blk_drew BK470.out)
 replace BK471 := Aside0.mk (blk_drew BK471.out)
 replace HB := Aside0.mk (below_drew1 HB.out)
 refine start_ (n := 10) (S := fun w' => w'.cell? ⟨gb373, 0, none⟩ = some (.int .i64 a0_0) ∧ w'.cell? ⟨gb373, 1, none⟩ = some (.int .i64 a0_1) ∧ w'.cell? ⟨gb373, 2, none⟩ = some (.string a0_2) ∧ w'.cell? ⟨gb374, 0, none⟩ = some (.int .i64 a1_0) ∧ w'.cell? ⟨gb374, 1, none⟩ = some (.int .i64 a1_1) ∧ w'.cell? ⟨gb374, 2, none⟩ = some (.string a1_2)) (ds := []) #[false, false, false, false, false, false, false, false, false, false] (by kernel_rfl) rfl rfl ⟨bc BK373 0, bc BK373 1, bc BK373 2, bc BK374 0, bc BK374 1, bc BK374 2⟩ (fun hHeld => ?_); refine with_tabW alumlaw19_ValueLogic.tab20 alumlaw19_ValueLogic.bits20 (fun HT_ HW_ => ?_)
 generalize wc.drew = w180 at BK373 BK374 BK375 BK470 BK471 HB hHeld ⊢
 refine takeA 0 145 #[true, false, false, false, false, false, false, false, false, false] HT_ HW_ hHeld ?_ (hQ := fun _ _ _ h => hP _ _ _ _ _ h)
 refine takeA 1 146 #[true, true, false, false, false, false, false, false, false, false] HT_ HW_ hHeld ?_ (hQ := fun _ _ _ h => hP _ _ _ _ _ h)
 refine takeA 3 148 #[true, true, false, true, false, false, false, false, false, false] HT_ HW_ hHeld ?_ (hQ := fun _ _ _ h => hP _ _ _ _ _ h)
 refine takeA 4 149 #[true, true, false, true, true, false, false, false, false, false] HT_ HW_ hHeld ?_ (hQ := fun _ _ _ h => hP _ _ _ _ _ h)
 refine join_ (σ := Nat × Nat) 2 #[true, true, true, true, true, true, true, true, false, false] (fun s_ => [(147, .agg #[.int .i64 t473, .int .i64 t474, .string t475]), (150, .agg #[.int .i64 t476, .int .i64 t477, .string t478]), (12, .pointer (some ⟨s_.1, 0, none⟩)), (13, .pointer (some ⟨s_.2, 0, none⟩))]) (fun s_ w' => (w'.cell? ⟨gb373, 0, none⟩ = some (.int .i64 a0_0) ∧ w'.cell? ⟨gb373, 1, none⟩ = some (.int .i64 a0_1) ∧ w'.cell? ⟨gb373, 2, none⟩ = some (.string a0_2) ∧ w'.cell? ⟨gb374, 0, none⟩ = some (.int .i64 a1_0) ∧ w'.cell? ⟨gb374, 1, none⟩ = some (.int .i64 a1_1) ∧ w'.cell? ⟨gb374, 2, none⟩ = some (.string a1_2)) ∧ (w'.heap[gb373]? = some (.cells #[.int .i64 a0_0, .int .i64 a0_1, .string a0_2] 23 (0, 0))) ∧ (w'.heap[gb374]? = some (.cells #[.int .i64 a1_0, .int .i64 a1_1, .string a1_2] 23 (0, 0))) ∧ (w'.heap[gb375]? = some (.cells #[.int .i64 a2_0, .int .i64 a2_1, .string a2_2] 23 (0, 0))) ∧ (w'.heap[gb470]? = some (.cells #[.int .i64 x471000_118, .int .i64 x471001_118, .string x471002_118] 23 (0, 0))) ∧ (w'.heap[gb471]? = some (.cells #[.int .i64 x472000_144, .int .i64 x472001_144, .string x472002_144] 23 (0, 0))) ∧ (w'.heap[s_.1]? = some (.cells #[.int .i64 0, .int .i64 0, .string (⟨#[]⟩ : ByteArray)] 23 (0, 0))) ∧ (w'.heap[s_.2]? = some (.cells #[.int .i64 0, .int .i64 0, .string (⟨#[]⟩ : ByteArray)] 23 (0, 0))) ∧ (w.heap.size ≤ s_.1) ∧ (w.heap.size ≤ s_.1) ∧ (gb373 ≠ s_.1) ∧ (s_.1 ≠ gb373) ∧ (gb374 ≠ s_.1) ∧ (s_.1 ≠ gb374) ∧ (gb375 ≠ s_.1) ∧ (s_.1 ≠ gb375) ∧ (gb470 ≠ s_.1) ∧ (s_.1 ≠ gb470) ∧ (gb471 ≠ s_.1) ∧ (s_.1 ≠ gb471) ∧ (s_.2 ≠ s_.1) ∧ (s_.1 ≠ s_.2) ∧ (w.heap.size ≤ s_.2) ∧ (w.heap.size ≤ s_.2) ∧ (gb373 ≠ s_.2) ∧ (s_.2 ≠ gb373) ∧ (gb374 ≠ s_.2) ∧ (s_.2 ≠ gb374) ∧ (gb375 ≠ s_.2) ∧ (s_.2 ≠ gb375) ∧ (gb470 ≠ s_.2) ∧ (s_.2 ≠ gb470) ∧ (gb471 ≠ s_.2) ∧ (s_.2 ≠ gb471) ∧ (Below w.heap.size w w')) ?_ ?_
 rotate_left
 ·intro hJ2_5_6_7
  refine join_ (σ := Nat) 3 #[true, true, true, true, true, true, true, false, false, false] (fun s_ => [(147, .agg #[.int .i64 t473, .int .i64 t474, .string t475]), (150, .agg #[.int .i64 t476, .int .i64 t477, .string t478]), (12, .pointer (some ⟨s_, 0, none⟩))]) (fun s_ w' => (w'.cell? ⟨gb373, 0, none⟩ = some (.int .i64 a0_0) ∧ w'.cell? ⟨gb373, 1, none⟩ = some (.int .i64 a0_1) ∧ w'.cell? ⟨gb373, 2, none⟩ = some (.string a0_2) ∧ w'.cell? ⟨gb374, 0, none⟩ = some (.int .i64 a1_0) ∧ w'.cell? ⟨gb374, 1, none⟩ = some (.int .i64 a1_1) ∧ w'.cell? ⟨gb374, 2, none⟩ = some (.string a1_2)) ∧ (w'.heap[gb373]? = some (.cells #[.int .i64 a0_0, .int .i64 a0_1, .string a0_2] 23 (0, 0))) ∧ (w'.heap[gb374]? = some (.cells #[.int .i64 a1_0, .int .i64 a1_1, .string a1_2] 23 (0, 0))) ∧ (w'.heap[gb375]? = some (.cells #[.int .i64 a2_0, .int .i64 a2_1, .string a2_2] 23 (0, 0))) ∧ (w'.heap[gb470]? = some (.cells #[.int .i64 x471000_118, .int .i64 x471001_118, .string x471002_118] 23 (0, 0))) ∧ (w'.heap[gb471]? = some (.cells #[.int .i64 x472000_144, .int .i64 x472001_144, .string x472002_144] 23 (0, 0))) ∧ (w'.heap[s_]? = some (.cells #[.int .i64 0, .int .i64 0, .string (⟨#[]⟩ : ByteArray)] 23 (0, 0))) ∧ (w.heap.size ≤ s_) ∧ (w.heap.size ≤ s_) ∧ (gb373 ≠ s_) ∧ (s_ ≠ gb373) ∧ (gb374 ≠ s_) ∧ (s_ ≠ gb374) ∧ (gb375 ≠ s_) ∧ (s_ ≠ gb375) ∧ (gb470 ≠ s_) ∧ (s_ ≠ gb470) ∧ (gb471 ≠ s_) ∧ (s_ ≠ gb471) ∧ (Below w.heap.size w w')) ?_ ?_
  rotate_left
  ·intro hJ2_5_6
   refine join_ (σ := Nat) 3 #[true, true, true, true, true, true, false, true, false, false] (fun s_ => [(147, .agg #[.int .i64 t473, .int .i64 t474, .string t475]), (150, .agg #[.int .i64 t476, .int .i64 t477, .string t478]), (13, .pointer (some ⟨s_, 0, none⟩))]) (fun s_ w' => (w'.cell? ⟨gb373, 0, none⟩ = some (.int .i64 a0_0) ∧ w'.cell? ⟨gb373, 1, none⟩ = some (.int .i64 a0_1) ∧ w'.cell? ⟨gb373, 2, none⟩ = some (.string a0_2) ∧ w'.cell? ⟨gb374, 0, none⟩ = some (.int .i64 a1_0) ∧ w'.cell? ⟨gb374, 1, none⟩ = some (.int .i64 a1_1) ∧ w'.cell? ⟨gb374, 2, none⟩ = some (.string a1_2)) ∧ (w'.heap[gb373]? = some (.cells #[.int .i64 a0_0, .int .i64 a0_1, .string a0_2] 23 (0, 0))) ∧ (w'.heap[gb374]? = some (.cells #[.int .i64 a1_0, .int .i64 a1_1, .string a1_2] 23 (0, 0))) ∧ (w'.heap[gb375]? = some (.cells #[.int .i64 a2_0, .int .i64 a2_1, .string a2_2] 23 (0, 0))) ∧ (w'.heap[gb470]? = some (.cells #[.int .i64 x471000_118, .int .i64 x471001_118, .string x471002_118] 23 (0, 0))) ∧ (w'.heap[gb471]? = some (.cells #[.int .i64 x472000_144, .int .i64 x472001_144, .string x472002_144] 23 (0, 0))) ∧ (w'.heap[s_]? = some (.cells #[.int .i64 0, .int .i64 0, .string (⟨#[]⟩ : ByteArray)] 23 (0, 0))) ∧ (w.heap.size ≤ s_) ∧ (w.heap.size ≤ s_) ∧ (gb373 ≠ s_) ∧ (s_ ≠ gb373) ∧ (gb374 ≠ s_) ∧ (s_ ≠ gb374) ∧ (gb375 ≠ s_) ∧ (s_ ≠ gb375) ∧ (gb470 ≠ s_) ∧ (s_ ≠ gb470) ∧ (gb471 ≠ s_) ∧ (s_ ≠ gb471) ∧ (Below w.heap.size w w')) ?_ ?_
   rotate_left
   ·intro hJ2_5_7
    refine join_ (σ := Nat × Nat) 3 #[true, true, true, true, true, false, true, true, false, false] (fun s_ => [(147, .agg #[.int .i64 t473, .int .i64 t474, .string t475]), (12, .pointer (some ⟨s_.1, 0, none⟩)), (13, .pointer (some ⟨s_.2, 0, none⟩))]) (fun s_ w' => (w'.cell? ⟨gb373, 0, none⟩ = some (.int .i64 a0_0) ∧ w'.cell? ⟨gb373, 1, none⟩ = some (.int .i64 a0_1) ∧ w'.cell? ⟨gb373, 2, none⟩ = some (.string a0_2) ∧ w'.cell? ⟨gb374, 0, none⟩ = some (.int .i64 a1_0) ∧ w'.cell? ⟨gb374, 1, none⟩ = some (.int .i64 a1_1) ∧ w'.cell? ⟨gb374, 2, none⟩ = some (.string a1_2)) ∧ (w'.heap[gb373]? = some (.cells #[.int .i64 a0_0, .int .i64 a0_1, .string a0_2] 23 (0, 0))) ∧ (w'.heap[gb374]? = some (.cells #[.int .i64 a1_0, .int .i64 a1_1, .string a1_2] 23 (0, 0))) ∧ (w'.heap[gb375]? = some (.cells #[.int .i64 a2_0, .int .i64 a2_1, .string a2_2] 23 (0, 0))) ∧ (w'.heap[gb470]? = some (.cells #[.int .i64 x471000_118, .int .i64 x471001_118, .string x471002_118] 23 (0, 0))) ∧ (w'.heap[gb471]? = some (.cells #[.int .i64 x472000_144, .int .i64 x472001_144, .string x472002_144] 23 (0, 0))) ∧ (w'.heap[s_.1]? = some (.cells #[.int .i64 0, .int .i64 0, .string (⟨#[]⟩ : ByteArray)] 23 (0, 0))) ∧ (w'.heap[s_.2]? = some (.cells #[.int .i64 0, .int .i64 0, .string (⟨#[]⟩ : ByteArray)] 23 (0, 0))) ∧ (w.heap.size ≤ s_.1) ∧ (w.heap.size ≤ s_.1) ∧ (gb373 ≠ s_.1) ∧ (s_.1 ≠ gb373) ∧ (gb374 ≠ s_.1) ∧ (s_.1 ≠ gb374) ∧ (gb375 ≠ s_.1) ∧ (s_.1 ≠ gb375) ∧ (gb470 ≠ s_.1) ∧ (s_.1 ≠ gb470) ∧ (gb471 ≠ s_.1) ∧ (s_.1 ≠ gb471) ∧ (s_.2 ≠ s_.1) ∧ (s_.1 ≠ s_.2) ∧ (w.heap.size ≤ s_.2) ∧ (w.heap.size ≤ s_.2) ∧ (gb373 ≠ s_.2) ∧ (s_.2 ≠ gb373) ∧ (gb374 ≠ s_.2) ∧ (s_.2 ≠ gb374) ∧ (gb375 ≠ s_.2) ∧ (s_.2 ≠ gb375) ∧ (gb470 ≠ s_.2) ∧ (s_.2 ≠ gb470) ∧ (gb471 ≠ s_.2) ∧ (s_.2 ≠ gb471) ∧ (Below w.heap.size w w')) ?_ ?_
    rotate_left
    ·intro hJ2_6_7
     refine join_ (σ := Unit) 4 #[true, true, true, true, true, true, false, false, false, false] (fun s_ => [(147, .agg #[.int .i64 t473, .int .i64 t474, .string t475]), (150, .agg #[.int .i64 t476, .int .i64 t477, .string t478])]) (fun s_ w' => (w'.cell? ⟨gb373, 0, none⟩ = some (.int .i64 a0_0) ∧ w'.cell? ⟨gb373, 1, none⟩ = some (.int .i64 a0_1) ∧ w'.cell? ⟨gb373, 2, none⟩ = some (.string a0_2) ∧ w'.cell? ⟨gb374, 0, none⟩ = some (.int .i64 a1_0) ∧ w'.cell? ⟨gb374, 1, none⟩ = some (.int .i64 a1_1) ∧ w'.cell? ⟨gb374, 2, none⟩ = some (.string a1_2)) ∧ (w'.heap[gb373]? = some (.cells #[.int .i64 a0_0, .int .i64 a0_1, .string a0_2] 23 (0, 0))) ∧ (w'.heap[gb374]? = some (.cells #[.int .i64 a1_0, .int .i64 a1_1, .string a1_2] 23 (0, 0))) ∧ (w'.heap[gb375]? = some (.cells #[.int .i64 a2_0, .int .i64 a2_1, .string a2_2] 23 (0, 0))) ∧ (w'.heap[gb470]? = some (.cells #[.int .i64 x471000_118, .int .i64 x471001_118, .string x471002_118] 23 (0, 0))) ∧ (w'.heap[gb471]? = some (.cells #[.int .i64 x472000_144, .int .i64 x472001_144, .string x472002_144] 23 (0, 0))) ∧ (Below w.heap.size w w')) ?_ ?_
     rotate_left
     ·intro hJ2_5
      refine join_ (σ := Nat) 4 #[true, true, true, true, true, false, true, false, false, false] (fun s_ => [(147, .agg #[.int .i64 t473, .int .i64 t474, .string t475]), (12, .pointer (some ⟨s_, 0, none⟩))]) (fun s_ w' => (w'.cell? ⟨gb373, 0, none⟩ = some (.int .i64 a0_0) ∧ w'.cell? ⟨gb373, 1, none⟩ = some (.int .i64 a0_1) ∧ w'.cell? ⟨gb373, 2, none⟩ = some (.string a0_2) ∧ w'.cell? ⟨gb374, 0, none⟩ = some (.int .i64 a1_0) ∧ w'.cell? ⟨gb374, 1, none⟩ = some (.int .i64 a1_1) ∧ w'.cell? ⟨gb374, 2, none⟩ = some (.string a1_2)) ∧ (w'.heap[gb373]? = some (.cells #[.int .i64 a0_0, .int .i64 a0_1, .string a0_2] 23 (0, 0))) ∧ (w'.heap[gb374]? = some (.cells #[.int .i64 a1_0, .int .i64 a1_1, .string a1_2] 23 (0, 0))) ∧ (w'.heap[gb375]? = some (.cells #[.int .i64 a2_0, .int .i64 a2_1, .string a2_2] 23 (0, 0))) ∧ (w'.heap[gb470]? = some (.cells #[.int .i64 x471000_118, .int .i64 x471001_118, .string x471002_118] 23 (0, 0))) ∧ (w'.heap[gb471]? = some (.cells #[.int .i64 x472000_144, .int .i64 x472001_144, .string x472002_144] 23 (0, 0))) ∧ (w'.heap[s_]? = some (.cells #[.int .i64 0, .int .i64 0, .string (⟨#[]⟩ : ByteArray)] 23 (0, 0))) ∧ (w.heap.size ≤ s_) ∧ (w.heap.size ≤ s_) ∧ (gb373 ≠ s_) ∧ (s_ ≠ gb373) ∧ (gb374 ≠ s_) ∧ (s_ ≠ gb374) ∧ (gb375 ≠ s_) ∧ (s_ ≠ gb375) ∧ (gb470 ≠ s_) ∧ (s_ ≠ gb470) ∧ (gb471 ≠ s_) ∧ (s_ ≠ gb471) ∧ (Below w.heap.size w w')) ?_ ?_
      rotate_left
      ·intro hJ2_6
       refine join_ (σ := Nat) 4 #[true, true, true, true, true, false, false, true, false, false] (fun s_ => [(147, .agg #[.int .i64 t473, .int .i64 t474, .string t475]), (13, .pointer (some ⟨s_, 0, none⟩))]) (fun s_ w' => (w'.cell? ⟨gb373, 0, none⟩ = some (.int .i64 a0_0) ∧ w'.cell? ⟨gb373, 1, none⟩ = some (.int .i64 a0_1) ∧ w'.cell? ⟨gb373, 2, none⟩ = some (.string a0_2) ∧ w'.cell? ⟨gb374, 0, none⟩ = some (.int .i64 a1_0) ∧ w'.cell? ⟨gb374, 1, none⟩ = some (.int .i64 a1_1) ∧ w'.cell? ⟨gb374, 2, none⟩ = some (.string a1_2)) ∧ (w'.heap[gb373]? = some (.cells #[.int .i64 a0_0, .int .i64 a0_1, .string a0_2] 23 (0, 0))) ∧ (w'.heap[gb374]? = some (.cells #[.int .i64 a1_0, .int .i64 a1_1, .string a1_2] 23 (0, 0))) ∧ (w'.heap[gb375]? = some (.cells #[.int .i64 a2_0, .int .i64 a2_1, .string a2_2] 23 (0, 0))) ∧ (w'.heap[gb470]? = some (.cells #[.int .i64 x471000_118, .int .i64 x471001_118, .string x471002_118] 23 (0, 0))) ∧ (w'.heap[gb471]? = some (.cells #[.int .i64 x472000_144, .int .i64 x472001_144, .string x472002_144] 23 (0, 0))) ∧ (w'.heap[s_]? = some (.cells #[.int .i64 0, .int .i64 0, .string (⟨#[]⟩ : ByteArray)] 23 (0, 0))) ∧ (w.heap.size ≤ s_) ∧ (w.heap.size ≤ s_) ∧ (gb373 ≠ s_) ∧ (s_ ≠ gb373) ∧ (gb374 ≠ s_) ∧ (s_ ≠ gb374) ∧ (gb375 ≠ s_) ∧ (s_ ≠ gb375) ∧ (gb470 ≠ s_) ∧ (s_ ≠ gb470) ∧ (gb471 ≠ s_) ∧ (s_ ≠ gb471) ∧ (Below w.heap.size w w')) ?_ ?_
       rotate_left
       ·intro hJ2_7
        refine join_ (σ := Nat × Nat) 4 #[true, true, false, true, true, false, true, true, false, false] (fun s_ => [(12, .pointer (some ⟨s_.1, 0, none⟩)), (13, .pointer (some ⟨s_.2, 0, none⟩))]) (fun s_ w' => (w'.cell? ⟨gb373, 0, none⟩ = some (.int .i64 a0_0) ∧ w'.cell? ⟨gb373, 1, none⟩ = some (.int .i64 a0_1) ∧ w'.cell? ⟨gb373, 2, none⟩ = some (.string a0_2) ∧ w'.cell? ⟨gb374, 0, none⟩ = some (.int .i64 a1_0) ∧ w'.cell? ⟨gb374, 1, none⟩ = some (.int .i64 a1_1) ∧ w'.cell? ⟨gb374, 2, none⟩ = some (.string a1_2)) ∧ (w'.heap[gb373]? = some (.cells #[.int .i64 a0_0, .int .i64 a0_1, .string a0_2] 23 (0, 0))) ∧ (w'.heap[gb374]? = some (.cells #[.int .i64 a1_0, .int .i64 a1_1, .string a1_2] 23 (0, 0))) ∧ (w'.heap[gb375]? = some (.cells #[.int .i64 a2_0, .int .i64 a2_1, .string a2_2] 23 (0, 0))) ∧ (w'.heap[gb470]? = some (.cells #[.int .i64 x471000_118, .int .i64 x471001_118, .string x471002_118] 23 (0, 0))) ∧ (w'.heap[gb471]? = some (.cells #[.int .i64 x472000_144, .int .i64 x472001_144, .string x472002_144] 23 (0, 0))) ∧ (w'.heap[s_.1]? = some (.cells #[.int .i64 0, .int .i64 0, .string (⟨#[]⟩ : ByteArray)] 23 (0, 0))) ∧ (w'.heap[s_.2]? = some (.cells #[.int .i64 0, .int .i64 0, .string (⟨#[]⟩ : ByteArray)] 23 (0, 0))) ∧ (w.heap.size ≤ s_.1) ∧ (w.heap.size ≤ s_.1) ∧ (gb373 ≠ s_.1) ∧ (s_.1 ≠ gb373) ∧ (gb374 ≠ s_.1) ∧ (s_.1 ≠ gb374) ∧ (gb375 ≠ s_.1) ∧ (s_.1 ≠ gb375) ∧ (gb470 ≠ s_.1) ∧ (s_.1 ≠ gb470) ∧ (gb471 ≠ s_.1) ∧ (s_.1 ≠ gb471) ∧ (s_.2 ≠ s_.1) ∧ (s_.1 ≠ s_.2) ∧ (w.heap.size ≤ s_.2) ∧ (w.heap.size ≤ s_.2) ∧ (gb373 ≠ s_.2) ∧ (s_.2 ≠ gb373) ∧ (gb374 ≠ s_.2) ∧ (s_.2 ≠ gb374) ∧ (gb375 ≠ s_.2) ∧ (s_.2 ≠ gb375) ∧ (gb470 ≠ s_.2) ∧ (s_.2 ≠ gb470) ∧ (gb471 ≠ s_.2) ∧ (s_.2 ≠ gb471) ∧ (Below w.heap.size w w')) ?_ ?_
        rotate_left
        ·intro hJ6_7
         refine join_ (σ := Unit) 5 #[true, true, true, true, true, false, false, false, false, false] (fun s_ => [(147, .agg #[.int .i64 t473, .int .i64 t474, .string t475])]) (fun s_ w' => (w'.cell? ⟨gb373, 0, none⟩ = some (.int .i64 a0_0) ∧ w'.cell? ⟨gb373, 1, none⟩ = some (.int .i64 a0_1) ∧ w'.cell? ⟨gb373, 2, none⟩ = some (.string a0_2) ∧ w'.cell? ⟨gb374, 0, none⟩ = some (.int .i64 a1_0) ∧ w'.cell? ⟨gb374, 1, none⟩ = some (.int .i64 a1_1) ∧ w'.cell? ⟨gb374, 2, none⟩ = some (.string a1_2)) ∧ (w'.heap[gb373]? = some (.cells #[.int .i64 a0_0, .int .i64 a0_1, .string a0_2] 23 (0, 0))) ∧ (w'.heap[gb374]? = some (.cells #[.int .i64 a1_0, .int .i64 a1_1, .string a1_2] 23 (0, 0))) ∧ (w'.heap[gb375]? = some (.cells #[.int .i64 a2_0, .int .i64 a2_1, .string a2_2] 23 (0, 0))) ∧ (w'.heap[gb470]? = some (.cells #[.int .i64 x471000_118, .int .i64 x471001_118, .string x471002_118] 23 (0, 0))) ∧ (w'.heap[gb471]? = some (.cells #[.int .i64 x472000_144, .int .i64 x472001_144, .string x472002_144] 23 (0, 0))) ∧ (Below w.heap.size w w')) ?_ ?_
         rotate_left
         ·intro hJ2
          refine join_ (σ := Nat) 5 #[true, true, false, true, true, false, true, false, false, false] (fun s_ => [(12, .pointer (some ⟨s_, 0, none⟩))]) (fun s_ w' => (w'.cell? ⟨gb373, 0, none⟩ = some (.int .i64 a0_0) ∧ w'.cell? ⟨gb373, 1, none⟩ = some (.int .i64 a0_1) ∧ w'.cell? ⟨gb373, 2, none⟩ = some (.string a0_2) ∧ w'.cell? ⟨gb374, 0, none⟩ = some (.int .i64 a1_0) ∧ w'.cell? ⟨gb374, 1, none⟩ = some (.int .i64 a1_1) ∧ w'.cell? ⟨gb374, 2, none⟩ = some (.string a1_2)) ∧ (w'.heap[gb373]? = some (.cells #[.int .i64 a0_0, .int .i64 a0_1, .string a0_2] 23 (0, 0))) ∧ (w'.heap[gb374]? = some (.cells #[.int .i64 a1_0, .int .i64 a1_1, .string a1_2] 23 (0, 0))) ∧ (w'.heap[gb375]? = some (.cells #[.int .i64 a2_0, .int .i64 a2_1, .string a2_2] 23 (0, 0))) ∧ (w'.heap[gb470]? = some (.cells #[.int .i64 x471000_118, .int .i64 x471001_118, .string x471002_118] 23 (0, 0))) ∧ (w'.heap[gb471]? = some (.cells #[.int .i64 x472000_144, .int .i64 x472001_144, .string x472002_144] 23 (0, 0))) ∧ (w'.heap[s_]? = some (.cells #[.int .i64 0, .int .i64 0, .string (⟨#[]⟩ : ByteArray)] 23 (0, 0))) ∧ (w.heap.size ≤ s_) ∧ (w.heap.size ≤ s_) ∧ (gb373 ≠ s_) ∧ (s_ ≠ gb373) ∧ (gb374 ≠ s_) ∧ (s_ ≠ gb374) ∧ (gb375 ≠ s_) ∧ (s_ ≠ gb375) ∧ (gb470 ≠ s_) ∧ (s_ ≠ gb470) ∧ (gb471 ≠ s_) ∧ (s_ ≠ gb471) ∧ (Below w.heap.size w w')) ?_ ?_
          rotate_left
          ·intro hJ6
           refine join_ (σ := Nat) 5 #[true, true, false, true, true, false, false, true, false, false] (fun s_ => [(13, .pointer (some ⟨s_, 0, none⟩))]) (fun s_ w' => (w'.cell? ⟨gb373, 0, none⟩ = some (.int .i64 a0_0) ∧ w'.cell? ⟨gb373, 1, none⟩ = some (.int .i64 a0_1) ∧ w'.cell? ⟨gb373, 2, none⟩ = some (.string a0_2) ∧ w'.cell? ⟨gb374, 0, none⟩ = some (.int .i64 a1_0) ∧ w'.cell? ⟨gb374, 1, none⟩ = some (.int .i64 a1_1) ∧ w'.cell? ⟨gb374, 2, none⟩ = some (.string a1_2)) ∧ (w'.heap[gb373]? = some (.cells #[.int .i64 a0_0, .int .i64 a0_1, .string a0_2] 23 (0, 0))) ∧ (w'.heap[gb374]? = some (.cells #[.int .i64 a1_0, .int .i64 a1_1, .string a1_2] 23 (0, 0))) ∧ (w'.heap[gb375]? = some (.cells #[.int .i64 a2_0, .int .i64 a2_1, .string a2_2] 23 (0, 0))) ∧ (w'.heap[gb470]? = some (.cells #[.int .i64 x471000_118, .int .i64 x471001_118, .string x471002_118] 23 (0, 0))) ∧ (w'.heap[gb471]? = some (.cells #[.int .i64 x472000_144, .int .i64 x472001_144, .string x472002_144] 23 (0, 0))) ∧ (w'.heap[s_]? = some (.cells #[.int .i64 0, .int .i64 0, .string (⟨#[]⟩ : ByteArray)] 23 (0, 0))) ∧ (w.heap.size ≤ s_) ∧ (w.heap.size ≤ s_) ∧ (gb373 ≠ s_) ∧ (s_ ≠ gb373) ∧ (gb374 ≠ s_) ∧ (s_ ≠ gb374) ∧ (gb375 ≠ s_) ∧ (s_ ≠ gb375) ∧ (gb470 ≠ s_) ∧ (s_ ≠ gb470) ∧ (gb471 ≠ s_) ∧ (s_ ≠ gb471) ∧ (Below w.heap.size w w')) ?_ ?_
           rotate_left
           ·intro hJ7
            refine three_ (i := 2) (j := 6) (k := 7) (Ni := some 147) (Nj := some 12) (Nk := some 13) #[true, true, true, true, true, false, false, false, false, false] #[true, true, false, true, true, false, true, false, false, false] #[true, true, false, true, true, false, false, true, false, false] rfl rfl rfl rfl rfl rfl (three_of HT_.out (by kernel_rfl)) (by decide) (by decide) (by decide) (fun K hK => ?_) (fun K hK => ?_) (fun K hK => ?_)
            ·skip
             refine goes_ Tryd.func16 (by kernel_rfl) rfl #[.agg #[.int .i64 a0_0, .int .i64 a0_1, .string a0_2], .agg #[.int .i64 a1_0, .int .i64 a1_1, .string a1_2]] (by rfl) rfl rfl (by (try simp only [List.map_toArray, List.map_cons, List.map_nil]); first | done | rfl | (simp only [List.length_drop, List.length_take]; rfl)) ?_
             with_reducible refine (alumlaw19_and.calls kj144 a0_0 a0_1 a0_2 a1_0 a1_1 a1_2 t473 t474 t475 _ A169.out).mono ?_
             rintro e w181 ⟨rfl, hb⟩
             refine ⟨_, rfl, ?_⟩
             replace BK373 := blkB BK373 hb
             replace BK374 := blkB BK374 hb
             replace BK375 := blkB BK375 hb
             replace BK470 := blkB BK470 hb
             replace BK471 := blkB BK471 hb
             replace HB := stepB HB hb
             (try clear hb)
             (try clear hb2)
             (try clear hk)
             (try clear hi)
             refine hK.out _ _ ⟨bc BK373 0, bc BK373 1, bc BK373 2, bc BK374 0, bc BK374 1, bc BK374 2⟩ (fun hHeld => ?_)
             clear hK K
             refine normA 147 ?_
             exact norm_ (by first | (simp only [putAll, Act.put, List.setIfInBounds_toArray, List.set_cons_zero, List.set_cons_succ]; done) | (simp only [putAll, Act.put, List.setIfInBounds_toArray, List.set_cons_zero, List.set_cons_succ]; rfl)) (hJ2 () _ ⟨hHeld, (by (with_reducible repeat (first | refine blk_drewN ?_ _ | refine blk_drew ?_ | refine blk_alloc ?_ _)); exact BK373.out), (by (with_reducible repeat (first | refine blk_drewN ?_ _ | refine blk_drew ?_ | refine blk_alloc ?_ _)); exact BK374.out), (by (with_reducible repeat (first | refine blk_drewN ?_ _ | refine blk_drew ?_ | refine blk_alloc ?_ _)); exact BK375.out), (by (with_reducible repeat (first | refine blk_drewN ?_ _ | refine blk_drew ?_ | refine blk_alloc ?_ _)); exact BK470.out), (by (with_reducible repeat (first | refine blk_drewN ?_ _ | refine blk_drew ?_ | refine blk_alloc ?_ _)); exact BK471.out), (by repeat (first | (with_reducible first | exact HB.out | apply below_alloc | apply pw_below_drewN | apply below_drew1 | refine below_set ?_ GE373.out | refine below_set ?_ GE374.out | refine below_set ?_ GE375.out | refine below_set ?_ GE470.out | refine below_set ?_ GE471.out) | exact HB.out))⟩)
            ·skip
             refine box_step ?hg (N := 12) ?hd (cs := #[.int .i64 0, .int .i64 0, .string (⟨#[]⟩ : ByteArray)]) (t := 23) ?hr ?_; (case hd => rfl); (case hg => rfl); (case hr => first | (go_simp; done) | (go_simp; rfl))
             intro gb479 hg w181 hbox hb
             have BK479 := Aside0.mk (hbox)
             have GW479 := (sizeB HB hg : Aside0 (w.heap.size ≤ gb479))
             have GE479 := (sizeB HB hg : Aside0 (w.heap.size ≤ gb479))
             have NB373_479 := neB BK373 hg
             have NB479_373 := neC BK373 hg
             have NB374_479 := neB BK374 hg
             have NB479_374 := neC BK374 hg
             have NB375_479 := neB BK375 hg
             have NB479_375 := neC BK375 hg
             have NB470_479 := neB BK470 hg
             have NB479_470 := neC BK470 hg
             have NB471_479 := neB BK471 hg
             have NB479_471 := neC BK471 hg
             replace BK373 := blkB BK373 hb
             replace BK374 := blkB BK374 hb
             replace BK375 := blkB BK375 hb
             replace BK470 := blkB BK470 hb
             replace BK471 := blkB BK471 hb
             replace HB := stepB HB hb
             clear hb hbox hg
             refine hK.out _ _ ⟨bc BK373 0, bc BK373 1, bc BK373 2, bc BK374 0, bc BK374 1, bc BK374 2⟩ (fun hHeld => ?_)
             clear hK K
             refine normA 12 ?_
             exact norm_ (by first | (simp only [putAll, Act.put, List.setIfInBounds_toArray, List.set_cons_zero, List.set_cons_succ]; done) | (simp only [putAll, Act.put, List.setIfInBounds_toArray, List.set_cons_zero, List.set_cons_succ]; rfl)) (hJ6 (gb479) _ ⟨hHeld, (by (with_reducible repeat (first | refine blk_drewN ?_ _ | refine blk_drew ?_ | refine blk_alloc ?_ _)); exact BK373.out), (by (with_reducible repeat (first | refine blk_drewN ?_ _ | refine blk_drew ?_ | refine blk_alloc ?_ _)); exact BK374.out), (by (with_reducible repeat (first | refine blk_drewN ?_ _ | refine blk_drew ?_ | refine blk_alloc ?_ _)); exact BK375.out), (by (with_reducible repeat (first | refine blk_drewN ?_ _ | refine blk_drew ?_ | refine blk_alloc ?_ _)); exact BK470.out), (by (with_reducible repeat (first | refine blk_drewN ?_ _ | refine blk_drew ?_ | refine blk_alloc ?_ _)); exact BK471.out), (by (with_reducible repeat (first | refine blk_drewN ?_ _ | refine blk_drew ?_ | refine blk_alloc ?_ _)); exact BK479.out), GW479.out, GE479.out, NB373_479.out, NB479_373.out, NB374_479.out, NB479_374.out, NB375_479.out, NB479_375.out, NB470_479.out, NB479_470.out, NB471_479.out, NB479_471.out, (by repeat (first | (with_reducible first | exact HB.out | apply below_alloc | apply pw_below_drewN | apply below_drew1 | refine below_set ?_ GE373.out | refine below_set ?_ GE374.out | refine below_set ?_ GE375.out | refine below_set ?_ GE470.out | refine below_set ?_ GE471.out | refine below_set ?_ GE479.out) | exact HB.out))⟩)
            ·skip
             refine box_step ?hg (N := 13) ?hd (cs := #[.int .i64 0, .int .i64 0, .string (⟨#[]⟩ : ByteArray)]) (t := 23) ?hr ?_; (case hd => rfl); (case hg => rfl); (case hr => first | (go_simp; done) | (go_simp; rfl))
             intro gb480 hg w181 hbox hb
             have BK480 := Aside0.mk (hbox)
             have GW480 := (sizeB HB hg : Aside0 (w.heap.size ≤ gb480))
             have GE480 := (sizeB HB hg : Aside0 (w.heap.size ≤ gb480))
             have NB373_480 := neB BK373 hg
             have NB480_373 := neC BK373 hg
             have NB374_480 := neB BK374 hg
             have NB480_374 := neC BK374 hg
             have NB375_480 := neB BK375 hg
             have NB480_375 := neC BK375 hg
             have NB470_480 := neB BK470 hg
             have NB480_470 := neC BK470 hg
             have NB471_480 := neB BK471 hg
             have NB480_471 := neC BK471 hg
             replace BK373 := blkB BK373 hb
             replace BK374 := blkB BK374 hb
             replace BK375 := blkB BK375 hb
             replace BK470 := blkB BK470 hb
             replace BK471 := blkB BK471 hb
             replace HB := stepB HB hb
             clear hb hbox hg
             refine hK.out _ _ ⟨bc BK373 0, bc BK373 1, bc BK373 2, bc BK374 0, bc BK374 1, bc BK374 2⟩ (fun hHeld => ?_)
             clear hK K
             refine normA 13 ?_
             exact norm_ (by first | (simp only [putAll, Act.put, List.setIfInBounds_toArray, List.set_cons_zero, List.set_cons_succ]; done) | (simp only [putAll, Act.put, List.setIfInBounds_toArray, List.set_cons_zero, List.set_cons_succ]; rfl)) (hJ7 (gb480) _ ⟨hHeld, (by (with_reducible repeat (first | refine blk_drewN ?_ _ | refine blk_drew ?_ | refine blk_alloc ?_ _)); exact BK373.out), (by (with_reducible repeat (first | refine blk_drewN ?_ _ | refine blk_drew ?_ | refine blk_alloc ?_ _)); exact BK374.out), (by (with_reducible repeat (first | refine blk_drewN ?_ _ | refine blk_drew ?_ | refine blk_alloc ?_ _)); exact BK375.out), (by (with_reducible repeat (first | refine blk_drewN ?_ _ | refine blk_drew ?_ | refine blk_alloc ?_ _)); exact BK470.out), (by (with_reducible repeat (first | refine blk_drewN ?_ _ | refine blk_drew ?_ | refine blk_alloc ?_ _)); exact BK471.out), (by (with_reducible repeat (first | refine blk_drewN ?_ _ | refine blk_drew ?_ | refine blk_alloc ?_ _)); exact BK480.out), GW480.out, GE480.out, NB373_480.out, NB480_373.out, NB374_480.out, NB480_374.out, NB375_480.out, NB480_375.out, NB470_480.out, NB480_470.out, NB471_480.out, NB480_471.out, (by repeat (first | (with_reducible first | exact HB.out | apply below_alloc | apply pw_below_drewN | apply below_drew1 | refine below_set ?_ GE373.out | refine below_set ?_ GE374.out | refine below_set ?_ GE375.out | refine below_set ?_ GE470.out | refine below_set ?_ GE471.out | refine below_set ?_ GE480.out) | exact HB.out))⟩)
           ·skip
            rintro gb480 w182 ⟨hS_, h0_, h1_, h2_, h3_, h4_, h5_, h6_, h7_, h8_, h9_, h10_, h11_, h12_, h13_, h14_, h15_, h16_, h17_, h18_⟩
            have BK480 : Aside0 (w182.heap[gb480]? = some (.cells #[.int .i64 0, .int .i64 0, .string (⟨#[]⟩ : ByteArray)] 23 (0, 0))) := ⟨h5_⟩
            have GW480 : Aside0 (w.heap.size ≤ gb480) := ⟨h6_⟩
            have GE480 : Aside0 (w.heap.size ≤ gb480) := ⟨h7_⟩
            have NB373_480 : Aside0 (gb373 ≠ gb480) := ⟨h8_⟩
            have NB480_373 : Aside0 (gb480 ≠ gb373) := ⟨h9_⟩
            have NB374_480 : Aside0 (gb374 ≠ gb480) := ⟨h10_⟩
            have NB480_374 : Aside0 (gb480 ≠ gb374) := ⟨h11_⟩
            have NB375_480 : Aside0 (gb375 ≠ gb480) := ⟨h12_⟩
            have NB480_375 : Aside0 (gb480 ≠ gb375) := ⟨h13_⟩
            have NB470_480 : Aside0 (gb470 ≠ gb480) := ⟨h14_⟩
            have NB480_470 : Aside0 (gb480 ≠ gb470) := ⟨h15_⟩
            have NB471_480 : Aside0 (gb471 ≠ gb480) := ⟨h16_⟩
            have NB480_471 : Aside0 (gb480 ≠ gb471) := ⟨h17_⟩
            replace BK373 : Aside0 (w182.heap[gb373]? = some (.cells #[.int .i64 a0_0, .int .i64 a0_1, .string a0_2] 23 (0, 0))) := ⟨h0_⟩
            replace BK374 : Aside0 (w182.heap[gb374]? = some (.cells #[.int .i64 a1_0, .int .i64 a1_1, .string a1_2] 23 (0, 0))) := ⟨h1_⟩
            replace BK375 : Aside0 (w182.heap[gb375]? = some (.cells #[.int .i64 a2_0, .int .i64 a2_1, .string a2_2] 23 (0, 0))) := ⟨h2_⟩
            replace BK470 : Aside0 (w182.heap[gb470]? = some (.cells #[.int .i64 x471000_118, .int .i64 x471001_118, .string x471002_118] 23 (0, 0))) := ⟨h3_⟩
            replace BK471 : Aside0 (w182.heap[gb471]? = some (.cells #[.int .i64 x472000_144, .int .i64 x472001_144, .string x472002_144] 23 (0, 0))) := ⟨h4_⟩
            replace HB : Aside0 (Below w.heap.size w w182) := ⟨h18_⟩
            clear h0_ h1_ h2_ h3_ h4_ h5_ h6_ h7_ h8_ h9_ h10_ h11_ h12_ h13_ h14_ h15_ h16_ h17_ h18_
            have hHeld : w182.cell? ⟨gb373, 0, none⟩ = some (.int .i64 a0_0) ∧ w182.cell? ⟨gb373, 1, none⟩ = some (.int .i64 a0_1) ∧ w182.cell? ⟨gb373, 2, none⟩ = some (.string a0_2) ∧ w182.cell? ⟨gb374, 0, none⟩ = some (.int .i64 a1_0) ∧ w182.cell? ⟨gb374, 1, none⟩ = some (.int .i64 a1_1) ∧ w182.cell? ⟨gb374, 2, none⟩ = some (.string a1_2) := hS_
            refine norm_ (a' := ?_) ?_ ?_
            rotate_left
            ·simp only [putAll, Act.put, List.setIfInBounds_toArray, List.set_cons_zero, List.set_cons_succ]
             rfl
            refine two_ (i := 2) (j := 6) (Ni := some 147) (Nj := some 12) #[true, true, true, true, true, false, false, true, false, false] #[true, true, false, true, true, false, true, true, false, false] rfl rfl rfl rfl (two_of HT_.out (by kernel_rfl)) (by decide) (by decide) (fun K hK => ?_) (fun K hK => ?_)
            ·skip
             refine goes_ Tryd.func16 (by kernel_rfl) rfl #[.agg #[.int .i64 a0_0, .int .i64 a0_1, .string a0_2], .agg #[.int .i64 a1_0, .int .i64 a1_1, .string a1_2]] (by rfl) rfl rfl (by (try simp only [List.map_toArray, List.map_cons, List.map_nil]); first | done | rfl | (simp only [List.length_drop, List.length_take]; rfl)) ?_
             with_reducible refine (alumlaw19_and.calls kj144 a0_0 a0_1 a0_2 a1_0 a1_1 a1_2 t473 t474 t475 _ A169.out).mono ?_
             rintro e w183 ⟨rfl, hb⟩
             refine ⟨_, rfl, ?_⟩
             replace BK373 := blkB BK373 hb
             replace BK374 := blkB BK374 hb
             replace BK375 := blkB BK375 hb
             replace BK470 := blkB BK470 hb
             replace BK471 := blkB BK471 hb
             replace BK480 := blkB BK480 hb
             replace HB := stepB HB hb
             (try clear hb)
             (try clear hb2)
             (try clear hk)
             (try clear hi)
             refine hK.out _ _ ⟨bc BK373 0, bc BK373 1, bc BK373 2, bc BK374 0, bc BK374 1, bc BK374 2⟩ (fun hHeld => ?_)
             clear hK K
             refine normA 147 ?_
             exact norm_ (by first | (simp only [putAll, Act.put, List.setIfInBounds_toArray, List.set_cons_zero, List.set_cons_succ]; done) | (simp only [putAll, Act.put, List.setIfInBounds_toArray, List.set_cons_zero, List.set_cons_succ]; rfl)) (hJ2_7 (gb480) _ ⟨hHeld, (by (with_reducible repeat (first | refine blk_drewN ?_ _ | refine blk_drew ?_ | refine blk_alloc ?_ _)); exact BK373.out), (by (with_reducible repeat (first | refine blk_drewN ?_ _ | refine blk_drew ?_ | refine blk_alloc ?_ _)); exact BK374.out), (by (with_reducible repeat (first | refine blk_drewN ?_ _ | refine blk_drew ?_ | refine blk_alloc ?_ _)); exact BK375.out), (by (with_reducible repeat (first | refine blk_drewN ?_ _ | refine blk_drew ?_ | refine blk_alloc ?_ _)); exact BK470.out), (by (with_reducible repeat (first | refine blk_drewN ?_ _ | refine blk_drew ?_ | refine blk_alloc ?_ _)); exact BK471.out), (by (with_reducible repeat (first | refine blk_drewN ?_ _ | refine blk_drew ?_ | refine blk_alloc ?_ _)); exact BK480.out), GW480.out, GE480.out, NB373_480.out, NB480_373.out, NB374_480.out, NB480_374.out, NB375_480.out, NB480_375.out, NB470_480.out, NB480_470.out, NB471_480.out, NB480_471.out, (by repeat (first | (with_reducible first | exact HB.out | apply below_alloc | apply pw_below_drewN | apply below_drew1 | refine below_set ?_ GE373.out | refine below_set ?_ GE374.out | refine below_set ?_ GE375.out | refine below_set ?_ GE470.out | refine below_set ?_ GE471.out | refine below_set ?_ GE480.out) | exact HB.out))⟩)
            ·skip
             refine box_step ?hg (N := 12) ?hd (cs := #[.int .i64 0, .int .i64 0, .string (⟨#[]⟩ : ByteArray)]) (t := 23) ?hr ?_; (case hd => rfl); (case hg => rfl); (case hr => first | (go_simp; done) | (go_simp; rfl))
             intro gb479 hg w183 hbox hb
             have BK479 := Aside0.mk (hbox)
             have GW479 := (sizeB HB hg : Aside0 (w.heap.size ≤ gb479))
             have GE479 := (sizeB HB hg : Aside0 (w.heap.size ≤ gb479))
             have NB373_479 := neB BK373 hg
             have NB479_373 := neC BK373 hg
             have NB374_479 := neB BK374 hg
             have NB479_374 := neC BK374 hg
             have NB375_479 := neB BK375 hg
             have NB479_375 := neC BK375 hg
             have NB470_479 := neB BK470 hg
             have NB479_470 := neC BK470 hg
             have NB471_479 := neB BK471 hg
             have NB479_471 := neC BK471 hg
             have NB480_479 := neB BK480 hg
             have NB479_480 := neC BK480 hg
             replace BK373 := blkB BK373 hb
             replace BK374 := blkB BK374 hb
             replace BK375 := blkB BK375 hb
             replace BK470 := blkB BK470 hb
             replace BK471 := blkB BK471 hb
             replace BK480 := blkB BK480 hb
             replace HB := stepB HB hb
             clear hb hbox hg
             refine hK.out _ _ ⟨bc BK373 0, bc BK373 1, bc BK373 2, bc BK374 0, bc BK374 1, bc BK374 2⟩ (fun hHeld => ?_)
             clear hK K
             refine normA 12 ?_
             exact norm_ (by first | (simp only [putAll, Act.put, List.setIfInBounds_toArray, List.set_cons_zero, List.set_cons_succ]; done) | (simp only [putAll, Act.put, List.setIfInBounds_toArray, List.set_cons_zero, List.set_cons_succ]; rfl)) (hJ6_7 (gb479, gb480) _ ⟨hHeld, (by (with_reducible repeat (first | refine blk_drewN ?_ _ | refine blk_drew ?_ | refine blk_alloc ?_ _)); exact BK373.out), (by (with_reducible repeat (first | refine blk_drewN ?_ _ | refine blk_drew ?_ | refine blk_alloc ?_ _)); exact BK374.out), (by (with_reducible repeat (first | refine blk_drewN ?_ _ | refine blk_drew ?_ | refine blk_alloc ?_ _)); exact BK375.out), (by (with_reducible repeat (first | refine blk_drewN ?_ _ | refine blk_drew ?_ | refine blk_alloc ?_ _)); exact BK470.out), (by (with_reducible repeat (first | refine blk_drewN ?_ _ | refine blk_drew ?_ | refine blk_alloc ?_ _)); exact BK471.out), (by (with_reducible repeat (first | refine blk_drewN ?_ _ | refine blk_drew ?_ | refine blk_alloc ?_ _)); exact BK479.out), (by (with_reducible repeat (first | refine blk_drewN ?_ _ | refine blk_drew ?_ | refine blk_alloc ?_ _)); exact BK480.out), GW479.out, GE479.out, NB373_479.out, NB479_373.out, NB374_479.out, NB479_374.out, NB375_479.out, NB479_375.out, NB470_479.out, NB479_470.out, NB471_479.out, NB479_471.out, NB480_479.out, NB479_480.out, GW480.out, GE480.out, NB373_480.out, NB480_373.out, NB374_480.out, NB480_374.out, NB375_480.out, NB480_375.out, NB470_480.out, NB480_470.out, NB471_480.out, NB480_471.out, (by repeat (first | (with_reducible first | exact HB.out | apply below_alloc | apply pw_below_drewN | apply below_drew1 | refine below_set ?_ GE373.out | refine below_set ?_ GE374.out | refine below_set ?_ GE375.out | refine below_set ?_ GE470.out | refine below_set ?_ GE471.out | refine below_set ?_ GE480.out | refine below_set ?_ GE479.out) | exact HB.out))⟩)
          ·skip
           rintro gb479 w182 ⟨hS_, h0_, h1_, h2_, h3_, h4_, h5_, h6_, h7_, h8_, h9_, h10_, h11_, h12_, h13_, h14_, h15_, h16_, h17_, h18_⟩
           have BK479 : Aside0 (w182.heap[gb479]? = some (.cells #[.int .i64 0, .int .i64 0, .string (⟨#[]⟩ : ByteArray)] 23 (0, 0))) := ⟨h5_⟩
           have GW479 : Aside0 (w.heap.size ≤ gb479) := ⟨h6_⟩
           have GE479 : Aside0 (w.heap.size ≤ gb479) := ⟨h7_⟩
           have NB373_479 : Aside0 (gb373 ≠ gb479) := ⟨h8_⟩
           have NB479_373 : Aside0 (gb479 ≠ gb373) := ⟨h9_⟩
           have NB374_479 : Aside0 (gb374 ≠ gb479) := ⟨h10_⟩
           have NB479_374 : Aside0 (gb479 ≠ gb374) := ⟨h11_⟩
           have NB375_479 : Aside0 (gb375 ≠ gb479) := ⟨h12_⟩
           have NB479_375 : Aside0 (gb479 ≠ gb375) := ⟨h13_⟩
           have NB470_479 : Aside0 (gb470 ≠ gb479) := ⟨h14_⟩
           have NB479_470 : Aside0 (gb479 ≠ gb470) := ⟨h15_⟩
           have NB471_479 : Aside0 (gb471 ≠ gb479) := ⟨h16_⟩
           have NB479_471 : Aside0 (gb479 ≠ gb471) := ⟨h17_⟩
           replace BK373 : Aside0 (w182.heap[gb373]? = some (.cells #[.int .i64 a0_0, .int .i64 a0_1, .string a0_2] 23 (0, 0))) := ⟨h0_⟩
           replace BK374 : Aside0 (w182.heap[gb374]? = some (.cells #[.int .i64 a1_0, .int .i64 a1_1, .string a1_2] 23 (0, 0))) := ⟨h1_⟩
           replace BK375 : Aside0 (w182.heap[gb375]? = some (.cells #[.int .i64 a2_0, .int .i64 a2_1, .string a2_2] 23 (0, 0))) := ⟨h2_⟩
           replace BK470 : Aside0 (w182.heap[gb470]? = some (.cells #[.int .i64 x471000_118, .int .i64 x471001_118, .string x471002_118] 23 (0, 0))) := ⟨h3_⟩
           replace BK471 : Aside0 (w182.heap[gb471]? = some (.cells #[.int .i64 x472000_144, .int .i64 x472001_144, .string x472002_144] 23 (0, 0))) := ⟨h4_⟩
           replace HB : Aside0 (Below w.heap.size w w182) := ⟨h18_⟩
           clear h0_ h1_ h2_ h3_ h4_ h5_ h6_ h7_ h8_ h9_ h10_ h11_ h12_ h13_ h14_ h15_ h16_ h17_ h18_
           have hHeld : w182.cell? ⟨gb373, 0, none⟩ = some (.int .i64 a0_0) ∧ w182.cell? ⟨gb373, 1, none⟩ = some (.int .i64 a0_1) ∧ w182.cell? ⟨gb373, 2, none⟩ = some (.string a0_2) ∧ w182.cell? ⟨gb374, 0, none⟩ = some (.int .i64 a1_0) ∧ w182.cell? ⟨gb374, 1, none⟩ = some (.int .i64 a1_1) ∧ w182.cell? ⟨gb374, 2, none⟩ = some (.string a1_2) := hS_
           refine norm_ (a' := ?_) ?_ ?_
           rotate_left
           ·simp only [putAll, Act.put, List.setIfInBounds_toArray, List.set_cons_zero, List.set_cons_succ]
            rfl
           refine two_ (i := 2) (j := 7) (Ni := some 147) (Nj := some 13) #[true, true, true, true, true, false, true, false, false, false] #[true, true, false, true, true, false, true, true, false, false] rfl rfl rfl rfl (two_of HT_.out (by kernel_rfl)) (by decide) (by decide) (fun K hK => ?_) (fun K hK => ?_)
           ·skip
            refine goes_ Tryd.func16 (by kernel_rfl) rfl #[.agg #[.int .i64 a0_0, .int .i64 a0_1, .string a0_2], .agg #[.int .i64 a1_0, .int .i64 a1_1, .string a1_2]] (by rfl) rfl rfl (by (try simp only [List.map_toArray, List.map_cons, List.map_nil]); first | done | rfl | (simp only [List.length_drop, List.length_take]; rfl)) ?_
            with_reducible refine (alumlaw19_and.calls kj144 a0_0 a0_1 a0_2 a1_0 a1_1 a1_2 t473 t474 t475 _ A169.out).mono ?_
            rintro e w183 ⟨rfl, hb⟩
            refine ⟨_, rfl, ?_⟩
            replace BK373 := blkB BK373 hb
            replace BK374 := blkB BK374 hb
            replace BK375 := blkB BK375 hb
            replace BK470 := blkB BK470 hb
            replace BK471 := blkB BK471 hb
            replace BK479 := blkB BK479 hb
            replace HB := stepB HB hb
            (try clear hb)
            (try clear hb2)
            (try clear hk)
            (try clear hi)
            refine hK.out _ _ ⟨bc BK373 0, bc BK373 1, bc BK373 2, bc BK374 0, bc BK374 1, bc BK374 2⟩ (fun hHeld => ?_)
            clear hK K
            refine normA 147 ?_
            exact norm_ (by first | (simp only [putAll, Act.put, List.setIfInBounds_toArray, List.set_cons_zero, List.set_cons_succ]; done) | (simp only [putAll, Act.put, List.setIfInBounds_toArray, List.set_cons_zero, List.set_cons_succ]; rfl)) (hJ2_6 (gb479) _ ⟨hHeld, (by (with_reducible repeat (first | refine blk_drewN ?_ _ | refine blk_drew ?_ | refine blk_alloc ?_ _)); exact BK373.out), (by (with_reducible repeat (first | refine blk_drewN ?_ _ | refine blk_drew ?_ | refine blk_alloc ?_ _)); exact BK374.out), (by (with_reducible repeat (first | refine blk_drewN ?_ _ | refine blk_drew ?_ | refine blk_alloc ?_ _)); exact BK375.out), (by (with_reducible repeat (first | refine blk_drewN ?_ _ | refine blk_drew ?_ | refine blk_alloc ?_ _)); exact BK470.out), (by (with_reducible repeat (first | refine blk_drewN ?_ _ | refine blk_drew ?_ | refine blk_alloc ?_ _)); exact BK471.out), (by (with_reducible repeat (first | refine blk_drewN ?_ _ | refine blk_drew ?_ | refine blk_alloc ?_ _)); exact BK479.out), GW479.out, GE479.out, NB373_479.out, NB479_373.out, NB374_479.out, NB479_374.out, NB375_479.out, NB479_375.out, NB470_479.out, NB479_470.out, NB471_479.out, NB479_471.out, (by repeat (first | (with_reducible first | exact HB.out | apply below_alloc | apply pw_below_drewN | apply below_drew1 | refine below_set ?_ GE373.out | refine below_set ?_ GE374.out | refine below_set ?_ GE375.out | refine below_set ?_ GE470.out | refine below_set ?_ GE471.out | refine below_set ?_ GE479.out) | exact HB.out))⟩)
           ·skip
            refine box_step ?hg (N := 13) ?hd (cs := #[.int .i64 0, .int .i64 0, .string (⟨#[]⟩ : ByteArray)]) (t := 23) ?hr ?_; (case hd => rfl); (case hg => rfl); (case hr => first | (go_simp; done) | (go_simp; rfl))
            intro gb480 hg w183 hbox hb
            have BK480 := Aside0.mk (hbox)
            have GW480 := (sizeB HB hg : Aside0 (w.heap.size ≤ gb480))
            have GE480 := (sizeB HB hg : Aside0 (w.heap.size ≤ gb480))
            have NB373_480 := neB BK373 hg
            have NB480_373 := neC BK373 hg
            have NB374_480 := neB BK374 hg
            have NB480_374 := neC BK374 hg
            have NB375_480 := neB BK375 hg
            have NB480_375 := neC BK375 hg
            have NB470_480 := neB BK470 hg
            have NB480_470 := neC BK470 hg
            have NB471_480 := neB BK471 hg
            have NB480_471 := neC BK471 hg
            have NB479_480 := neB BK479 hg
            have NB480_479 := neC BK479 hg
            replace BK373 := blkB BK373 hb
            replace BK374 := blkB BK374 hb
            replace BK375 := blkB BK375 hb
            replace BK470 := blkB BK470 hb
            replace BK471 := blkB BK471 hb
            replace BK479 := blkB BK479 hb
            replace HB := stepB HB hb
            clear hb hbox hg
            refine hK.out _ _ ⟨bc BK373 0, bc BK373 1, bc BK373 2, bc BK374 0, bc BK374 1, bc BK374 2⟩ (fun hHeld => ?_)
            clear hK K
            refine normA 13 ?_
            exact norm_ (by first | (simp only [putAll, Act.put, List.setIfInBounds_toArray, List.set_cons_zero, List.set_cons_succ]; done) | (simp only [putAll, Act.put, List.setIfInBounds_toArray, List.set_cons_zero, List.set_cons_succ]; rfl)) (hJ6_7 (gb479, gb480) _ ⟨hHeld, (by (with_reducible repeat (first | refine blk_drewN ?_ _ | refine blk_drew ?_ | refine blk_alloc ?_ _)); exact BK373.out), (by (with_reducible repeat (first | refine blk_drewN ?_ _ | refine blk_drew ?_ | refine blk_alloc ?_ _)); exact BK374.out), (by (with_reducible repeat (first | refine blk_drewN ?_ _ | refine blk_drew ?_ | refine blk_alloc ?_ _)); exact BK375.out), (by (with_reducible repeat (first | refine blk_drewN ?_ _ | refine blk_drew ?_ | refine blk_alloc ?_ _)); exact BK470.out), (by (with_reducible repeat (first | refine blk_drewN ?_ _ | refine blk_drew ?_ | refine blk_alloc ?_ _)); exact BK471.out), (by (with_reducible repeat (first | refine blk_drewN ?_ _ | refine blk_drew ?_ | refine blk_alloc ?_ _)); exact BK479.out), (by (with_reducible repeat (first | refine blk_drewN ?_ _ | refine blk_drew ?_ | refine blk_alloc ?_ _)); exact BK480.out), GW479.out, GE479.out, NB373_479.out, NB479_373.out, NB374_479.out, NB479_374.out, NB375_479.out, NB479_375.out, NB470_479.out, NB479_470.out, NB471_479.out, NB479_471.out, NB480_479.out, NB479_480.out, GW480.out, GE480.out, NB373_480.out, NB480_373.out, NB374_480.out, NB480_374.out, NB375_480.out, NB480_375.out, NB470_480.out, NB480_470.out, NB471_480.out, NB480_471.out, (by repeat (first | (with_reducible first | exact HB.out | apply below_alloc | apply pw_below_drewN | apply below_drew1 | refine below_set ?_ GE373.out | refine below_set ?_ GE374.out | refine below_set ?_ GE375.out | refine below_set ?_ GE470.out | refine below_set ?_ GE471.out | refine below_set ?_ GE479.out | refine below_set ?_ GE480.out) | exact HB.out))⟩)
         ·skip
          rintro _ w182 ⟨hS_, h0_, h1_, h2_, h3_, h4_, h5_⟩
          replace BK373 : Aside0 (w182.heap[gb373]? = some (.cells #[.int .i64 a0_0, .int .i64 a0_1, .string a0_2] 23 (0, 0))) := ⟨h0_⟩
          replace BK374 : Aside0 (w182.heap[gb374]? = some (.cells #[.int .i64 a1_0, .int .i64 a1_1, .string a1_2] 23 (0, 0))) := ⟨h1_⟩
          replace BK375 : Aside0 (w182.heap[gb375]? = some (.cells #[.int .i64 a2_0, .int .i64 a2_1, .string a2_2] 23 (0, 0))) := ⟨h2_⟩
          replace BK470 : Aside0 (w182.heap[gb470]? = some (.cells #[.int .i64 x471000_118, .int .i64 x471001_118, .string x471002_118] 23 (0, 0))) := ⟨h3_⟩
          replace BK471 : Aside0 (w182.heap[gb471]? = some (.cells #[.int .i64 x472000_144, .int .i64 x472001_144, .string x472002_144] 23 (0, 0))) := ⟨h4_⟩
          replace HB : Aside0 (Below w.heap.size w w182) := ⟨h5_⟩
          clear h0_ h1_ h2_ h3_ h4_ h5_
          have hHeld : w182.cell? ⟨gb373, 0, none⟩ = some (.int .i64 a0_0) ∧ w182.cell? ⟨gb373, 1, none⟩ = some (.int .i64 a0_1) ∧ w182.cell? ⟨gb373, 2, none⟩ = some (.string a0_2) ∧ w182.cell? ⟨gb374, 0, none⟩ = some (.int .i64 a1_0) ∧ w182.cell? ⟨gb374, 1, none⟩ = some (.int .i64 a1_1) ∧ w182.cell? ⟨gb374, 2, none⟩ = some (.string a1_2) := hS_
          refine norm_ (a' := ?_) ?_ ?_
          rotate_left
          ·simp only [putAll, Act.put, List.setIfInBounds_toArray, List.set_cons_zero, List.set_cons_succ]
           rfl
          refine three_ (i := 5) (j := 6) (k := 7) (Ni := some 150) (Nj := some 12) (Nk := some 13) #[true, true, true, true, true, true, false, false, false, false] #[true, true, true, true, true, false, true, false, false, false] #[true, true, true, true, true, false, false, true, false, false] rfl rfl rfl rfl rfl rfl (three_of HT_.out (by kernel_rfl)) (by decide) (by decide) (by decide) (fun K hK => ?_) (fun K hK => ?_) (fun K hK => ?_)
          ·skip
           refine goes_ Tryd.func17 (by kernel_rfl) rfl #[.agg #[.int .i64 a0_0, .int .i64 a0_1, .string a0_2], .agg #[.int .i64 a1_0, .int .i64 a1_1, .string a1_2]] (by rfl) rfl rfl (by (try simp only [List.map_toArray, List.map_cons, List.map_nil]); first | done | rfl | (simp only [List.length_drop, List.length_take]; rfl)) ?_
           with_reducible refine (alumlaw19_or.calls kj144 a0_0 a0_1 a0_2 a1_0 a1_1 a1_2 t476 t477 t478 _ A170.out).mono ?_
           rintro e w183 ⟨rfl, hb⟩
           refine ⟨_, rfl, ?_⟩
           replace BK373 := blkB BK373 hb
           replace BK374 := blkB BK374 hb
           replace BK375 := blkB BK375 hb
           replace BK470 := blkB BK470 hb
           replace BK471 := blkB BK471 hb
           replace HB := stepB HB hb
           (try clear hb)
           (try clear hb2)
           (try clear hk)
           (try clear hi)
           refine hK.out _ _ ⟨bc BK373 0, bc BK373 1, bc BK373 2, bc BK374 0, bc BK374 1, bc BK374 2⟩ (fun hHeld => ?_)
           clear hK K
           refine normA 150 ?_
           exact norm_ (by first | (simp only [putAll, Act.put, List.setIfInBounds_toArray, List.set_cons_zero, List.set_cons_succ]; done) | (simp only [putAll, Act.put, List.setIfInBounds_toArray, List.set_cons_zero, List.set_cons_succ]; rfl)) (hJ2_5 () _ ⟨hHeld, (by (with_reducible repeat (first | refine blk_drewN ?_ _ | refine blk_drew ?_ | refine blk_alloc ?_ _)); exact BK373.out), (by (with_reducible repeat (first | refine blk_drewN ?_ _ | refine blk_drew ?_ | refine blk_alloc ?_ _)); exact BK374.out), (by (with_reducible repeat (first | refine blk_drewN ?_ _ | refine blk_drew ?_ | refine blk_alloc ?_ _)); exact BK375.out), (by (with_reducible repeat (first | refine blk_drewN ?_ _ | refine blk_drew ?_ | refine blk_alloc ?_ _)); exact BK470.out), (by (with_reducible repeat (first | refine blk_drewN ?_ _ | refine blk_drew ?_ | refine blk_alloc ?_ _)); exact BK471.out), (by repeat (first | (with_reducible first | exact HB.out | apply below_alloc | apply pw_below_drewN | apply below_drew1 | refine below_set ?_ GE373.out | refine below_set ?_ GE374.out | refine below_set ?_ GE375.out | refine below_set ?_ GE470.out | refine below_set ?_ GE471.out) | exact HB.out))⟩)
          ·skip
           refine box_step ?hg (N := 12) ?hd (cs := #[.int .i64 0, .int .i64 0, .string (⟨#[]⟩ : ByteArray)]) (t := 23) ?hr ?_; (case hd => rfl); (case hg => rfl); (case hr => first | (go_simp; done) | (go_simp; rfl))
           intro gb479 hg w183 hbox hb
           have BK479 := Aside0.mk (hbox)
           have GW479 := (sizeB HB hg : Aside0 (w.heap.size ≤ gb479))
           have GE479 := (sizeB HB hg : Aside0 (w.heap.size ≤ gb479))
           have NB373_479 := neB BK373 hg
           have NB479_373 := neC BK373 hg
           have NB374_479 := neB BK374 hg
           have NB479_374 := neC BK374 hg
           have NB375_479 := neB BK375 hg
           have NB479_375 := neC BK375 hg
           have NB470_479 := neB BK470 hg
           have NB479_470 := neC BK470 hg
           have NB471_479 := neB BK471 hg
           have NB479_471 := neC BK471 hg
           replace BK373 := blkB BK373 hb
           replace BK374 := blkB BK374 hb
           replace BK375 := blkB BK375 hb
           replace BK470 := blkB BK470 hb
           replace BK471 := blkB BK471 hb
           replace HB := stepB HB hb
           clear hb hbox hg
           refine hK.out _ _ ⟨bc BK373 0, bc BK373 1, bc BK373 2, bc BK374 0, bc BK374 1, bc BK374 2⟩ (fun hHeld => ?_)
           clear hK K
           refine normA 12 ?_
           exact norm_ (by first | (simp only [putAll, Act.put, List.setIfInBounds_toArray, List.set_cons_zero, List.set_cons_succ]; done) | (simp only [putAll, Act.put, List.setIfInBounds_toArray, List.set_cons_zero, List.set_cons_succ]; rfl)) (hJ2_6 (gb479) _ ⟨hHeld, (by (with_reducible repeat (first | refine blk_drewN ?_ _ | refine blk_drew ?_ | refine blk_alloc ?_ _)); exact BK373.out), (by (with_reducible repeat (first | refine blk_drewN ?_ _ | refine blk_drew ?_ | refine blk_alloc ?_ _)); exact BK374.out), (by (with_reducible repeat (first | refine blk_drewN ?_ _ | refine blk_drew ?_ | refine blk_alloc ?_ _)); exact BK375.out), (by (with_reducible repeat (first | refine blk_drewN ?_ _ | refine blk_drew ?_ | refine blk_alloc ?_ _)); exact BK470.out), (by (with_reducible repeat (first | refine blk_drewN ?_ _ | refine blk_drew ?_ | refine blk_alloc ?_ _)); exact BK471.out), (by (with_reducible repeat (first | refine blk_drewN ?_ _ | refine blk_drew ?_ | refine blk_alloc ?_ _)); exact BK479.out), GW479.out, GE479.out, NB373_479.out, NB479_373.out, NB374_479.out, NB479_374.out, NB375_479.out, NB479_375.out, NB470_479.out, NB479_470.out, NB471_479.out, NB479_471.out, (by repeat (first | (with_reducible first | exact HB.out | apply below_alloc | apply pw_below_drewN | apply below_drew1 | refine below_set ?_ GE373.out | refine below_set ?_ GE374.out | refine below_set ?_ GE375.out | refine below_set ?_ GE470.out | refine below_set ?_ GE471.out | refine below_set ?_ GE479.out) | exact HB.out))⟩)
          ·skip
           refine box_step ?hg (N := 13) ?hd (cs := #[.int .i64 0, .int .i64 0, .string (⟨#[]⟩ : ByteArray)]) (t := 23) ?hr ?_; (case hd => rfl); (case hg => rfl); (case hr => first | (go_simp; done) | (go_simp; rfl))
           intro gb480 hg w183 hbox hb
           have BK480 := Aside0.mk (hbox)
           have GW480 := (sizeB HB hg : Aside0 (w.heap.size ≤ gb480))
           have GE480 := (sizeB HB hg : Aside0 (w.heap.size ≤ gb480))
           have NB373_480 := neB BK373 hg
           have NB480_373 := neC BK373 hg
           have NB374_480 := neB BK374 hg
           have NB480_374 := neC BK374 hg
           have NB375_480 := neB BK375 hg
           have NB480_375 := neC BK375 hg
           have NB470_480 := neB BK470 hg
           have NB480_470 := neC BK470 hg
           have NB471_480 := neB BK471 hg
           have NB480_471 := neC BK471 hg
           replace BK373 := blkB BK373 hb
           replace BK374 := blkB BK374 hb
           replace BK375 := blkB BK375 hb
           replace BK470 := blkB BK470 hb
           replace BK471 := blkB BK471 hb
           replace HB := stepB HB hb
           clear hb hbox hg
           refine hK.out _ _ ⟨bc BK373 0, bc BK373 1, bc BK373 2, bc BK374 0, bc BK374 1, bc BK374 2⟩ (fun hHeld => ?_)
           clear hK K
           refine normA 13 ?_
           exact norm_ (by first | (simp only [putAll, Act.put, List.setIfInBounds_toArray, List.set_cons_zero, List.set_cons_succ]; done) | (simp only [putAll, Act.put, List.setIfInBounds_toArray, List.set_cons_zero, List.set_cons_succ]; rfl)) (hJ2_7 (gb480) _ ⟨hHeld, (by (with_reducible repeat (first | refine blk_drewN ?_ _ | refine blk_drew ?_ | refine blk_alloc ?_ _)); exact BK373.out), (by (with_reducible repeat (first | refine blk_drewN ?_ _ | refine blk_drew ?_ | refine blk_alloc ?_ _)); exact BK374.out), (by (with_reducible repeat (first | refine blk_drewN ?_ _ | refine blk_drew ?_ | refine blk_alloc ?_ _)); exact BK375.out), (by (with_reducible repeat (first | refine blk_drewN ?_ _ | refine blk_drew ?_ | refine blk_alloc ?_ _)); exact BK470.out), (by (with_reducible repeat (first | refine blk_drewN ?_ _ | refine blk_drew ?_ | refine blk_alloc ?_ _)); exact BK471.out), (by (with_reducible repeat (first | refine blk_drewN ?_ _ | refine blk_drew ?_ | refine blk_alloc ?_ _)); exact BK480.out), GW480.out, GE480.out, NB373_480.out, NB480_373.out, NB374_480.out, NB480_374.out, NB375_480.out, NB480_375.out, NB470_480.out, NB480_470.out, NB471_480.out, NB480_471.out, (by repeat (first | (with_reducible first | exact HB.out | apply below_alloc | apply pw_below_drewN | apply below_drew1 | refine below_set ?_ GE373.out | refine below_set ?_ GE374.out | refine below_set ?_ GE375.out | refine below_set ?_ GE470.out | refine below_set ?_ GE471.out | refine below_set ?_ GE480.out) | exact HB.out))⟩)
        ·skip
         rintro ⟨gb479, gb480⟩ w183 ⟨hS_, h0_, h1_, h2_, h3_, h4_, h5_, h6_, h7_, h8_, h9_, h10_, h11_, h12_, h13_, h14_, h15_, h16_, h17_, h18_, h19_, h20_, h21_, h22_, h23_, h24_, h25_, h26_, h27_, h28_, h29_, h30_, h31_, h32_, h33_⟩
         have BK479 : Aside0 (w183.heap[gb479]? = some (.cells #[.int .i64 0, .int .i64 0, .string (⟨#[]⟩ : ByteArray)] 23 (0, 0))) := ⟨h5_⟩
         have BK480 : Aside0 (w183.heap[gb480]? = some (.cells #[.int .i64 0, .int .i64 0, .string (⟨#[]⟩ : ByteArray)] 23 (0, 0))) := ⟨h6_⟩
         have GW479 : Aside0 (w.heap.size ≤ gb479) := ⟨h7_⟩
         have GE479 : Aside0 (w.heap.size ≤ gb479) := ⟨h8_⟩
         have NB373_479 : Aside0 (gb373 ≠ gb479) := ⟨h9_⟩
         have NB479_373 : Aside0 (gb479 ≠ gb373) := ⟨h10_⟩
         have NB374_479 : Aside0 (gb374 ≠ gb479) := ⟨h11_⟩
         have NB479_374 : Aside0 (gb479 ≠ gb374) := ⟨h12_⟩
         have NB375_479 : Aside0 (gb375 ≠ gb479) := ⟨h13_⟩
         have NB479_375 : Aside0 (gb479 ≠ gb375) := ⟨h14_⟩
         have NB470_479 : Aside0 (gb470 ≠ gb479) := ⟨h15_⟩
         have NB479_470 : Aside0 (gb479 ≠ gb470) := ⟨h16_⟩
         have NB471_479 : Aside0 (gb471 ≠ gb479) := ⟨h17_⟩
         have NB479_471 : Aside0 (gb479 ≠ gb471) := ⟨h18_⟩
         have NB480_479 : Aside0 (gb480 ≠ gb479) := ⟨h19_⟩
         have NB479_480 : Aside0 (gb479 ≠ gb480) := ⟨h20_⟩
         have GW480 : Aside0 (w.heap.size ≤ gb480) := ⟨h21_⟩
         have GE480 : Aside0 (w.heap.size ≤ gb480) := ⟨h22_⟩
         have NB373_480 : Aside0 (gb373 ≠ gb480) := ⟨h23_⟩
         have NB480_373 : Aside0 (gb480 ≠ gb373) := ⟨h24_⟩
         have NB374_480 : Aside0 (gb374 ≠ gb480) := ⟨h25_⟩
         have NB480_374 : Aside0 (gb480 ≠ gb374) := ⟨h26_⟩
         have NB375_480 : Aside0 (gb375 ≠ gb480) := ⟨h27_⟩
         have NB480_375 : Aside0 (gb480 ≠ gb375) := ⟨h28_⟩
         have NB470_480 : Aside0 (gb470 ≠ gb480) := ⟨h29_⟩
         have NB480_470 : Aside0 (gb480 ≠ gb470) := ⟨h30_⟩
         have NB471_480 : Aside0 (gb471 ≠ gb480) := ⟨h31_⟩
         have NB480_471 : Aside0 (gb480 ≠ gb471) := ⟨h32_⟩
         replace BK373 : Aside0 (w183.heap[gb373]? = some (.cells #[.int .i64 a0_0, .int .i64 a0_1, .string a0_2] 23 (0, 0))) := ⟨h0_⟩
         replace BK374 : Aside0 (w183.heap[gb374]? = some (.cells #[.int .i64 a1_0, .int .i64 a1_1, .string a1_2] 23 (0, 0))) := ⟨h1_⟩
         replace BK375 : Aside0 (w183.heap[gb375]? = some (.cells #[.int .i64 a2_0, .int .i64 a2_1, .string a2_2] 23 (0, 0))) := ⟨h2_⟩
         replace BK470 : Aside0 (w183.heap[gb470]? = some (.cells #[.int .i64 x471000_118, .int .i64 x471001_118, .string x471002_118] 23 (0, 0))) := ⟨h3_⟩
         replace BK471 : Aside0 (w183.heap[gb471]? = some (.cells #[.int .i64 x472000_144, .int .i64 x472001_144, .string x472002_144] 23 (0, 0))) := ⟨h4_⟩
         replace HB : Aside0 (Below w.heap.size w w183) := ⟨h33_⟩
         clear h0_ h1_ h2_ h3_ h4_ h5_ h6_ h7_ h8_ h9_ h10_ h11_ h12_ h13_ h14_ h15_ h16_ h17_ h18_ h19_ h20_ h21_ h22_ h23_ h24_ h25_ h26_ h27_ h28_ h29_ h30_ h31_ h32_ h33_
         have hHeld : w183.cell? ⟨gb373, 0, none⟩ = some (.int .i64 a0_0) ∧ w183.cell? ⟨gb373, 1, none⟩ = some (.int .i64 a0_1) ∧ w183.cell? ⟨gb373, 2, none⟩ = some (.string a0_2) ∧ w183.cell? ⟨gb374, 0, none⟩ = some (.int .i64 a1_0) ∧ w183.cell? ⟨gb374, 1, none⟩ = some (.int .i64 a1_1) ∧ w183.cell? ⟨gb374, 2, none⟩ = some (.string a1_2) := hS_
         refine norm_ (a' := ?_) ?_ ?_
         rotate_left
         ·simp only [putAll, Act.put, List.setIfInBounds_toArray, List.set_cons_zero, List.set_cons_succ]
          rfl
         refine one_ (i := 2) (N := some 147) #[true, true, true, true, true, false, true, true, false, false] rfl rfl (one_of HT_.out (by kernel_rfl)) (by decide) (fun K hK => ?_)
         refine goes_ Tryd.func16 (by kernel_rfl) rfl #[.agg #[.int .i64 a0_0, .int .i64 a0_1, .string a0_2], .agg #[.int .i64 a1_0, .int .i64 a1_1, .string a1_2]] (by rfl) rfl rfl (by (try simp only [List.map_toArray, List.map_cons, List.map_nil]); first | done | rfl | (simp only [List.length_drop, List.length_take]; rfl)) ?_
         with_reducible refine (alumlaw19_and.calls kj144 a0_0 a0_1 a0_2 a1_0 a1_1 a1_2 t473 t474 t475 _ A169.out).mono ?_
         rintro e w184 ⟨rfl, hb⟩
         refine ⟨_, rfl, ?_⟩
         replace BK373 := blkB BK373 hb
         replace BK374 := blkB BK374 hb
         replace BK375 := blkB BK375 hb
         replace BK470 := blkB BK470 hb
         replace BK471 := blkB BK471 hb
         replace BK479 := blkB BK479 hb
         replace BK480 := blkB BK480 hb
         replace HB := stepB HB hb
         (try clear hb)
         (try clear hb2)
         (try clear hk)
         (try clear hi)
         refine hK.out _ _ ⟨bc BK373 0, bc BK373 1, bc BK373 2, bc BK374 0, bc BK374 1, bc BK374 2⟩ (fun hHeld => ?_)
         clear hK K
         refine normA 147 ?_
         exact norm_ (by first | (simp only [putAll, Act.put, List.setIfInBounds_toArray, List.set_cons_zero, List.set_cons_succ]; done) | (simp only [putAll, Act.put, List.setIfInBounds_toArray, List.set_cons_zero, List.set_cons_succ]; rfl)) (hJ2_6_7 (gb479, gb480) _ ⟨hHeld, (by (with_reducible repeat (first | refine blk_drewN ?_ _ | refine blk_drew ?_ | refine blk_alloc ?_ _)); exact BK373.out), (by (with_reducible repeat (first | refine blk_drewN ?_ _ | refine blk_drew ?_ | refine blk_alloc ?_ _)); exact BK374.out), (by (with_reducible repeat (first | refine blk_drewN ?_ _ | refine blk_drew ?_ | refine blk_alloc ?_ _)); exact BK375.out), (by (with_reducible repeat (first | refine blk_drewN ?_ _ | refine blk_drew ?_ | refine blk_alloc ?_ _)); exact BK470.out), (by (with_reducible repeat (first | refine blk_drewN ?_ _ | refine blk_drew ?_ | refine blk_alloc ?_ _)); exact BK471.out), (by (with_reducible repeat (first | refine blk_drewN ?_ _ | refine blk_drew ?_ | refine blk_alloc ?_ _)); exact BK479.out), (by (with_reducible repeat (first | refine blk_drewN ?_ _ | refine blk_drew ?_ | refine blk_alloc ?_ _)); exact BK480.out), GW479.out, GE479.out, NB373_479.out, NB479_373.out, NB374_479.out, NB479_374.out, NB375_479.out, NB479_375.out, NB470_479.out, NB479_470.out, NB471_479.out, NB479_471.out, NB480_479.out, NB479_480.out, GW480.out, GE480.out, NB373_480.out, NB480_373.out, NB374_480.out, NB480_374.out, NB375_480.out, NB480_375.out, NB470_480.out, NB480_470.out, NB471_480.out, NB480_471.out, (by repeat (first | (with_reducible first | exact HB.out | apply below_alloc | apply pw_below_drewN | apply below_drew1 | refine below_set ?_ GE373.out | refine below_set ?_ GE374.out | refine below_set ?_ GE375.out | refine below_set ?_ GE470.out | refine below_set ?_ GE471.out | refine below_set ?_ GE479.out | refine below_set ?_ GE480.out) | exact HB.out))⟩)
       ·skip
        rintro gb480 w183 ⟨hS_, h0_, h1_, h2_, h3_, h4_, h5_, h6_, h7_, h8_, h9_, h10_, h11_, h12_, h13_, h14_, h15_, h16_, h17_, h18_⟩
        have BK480 : Aside0 (w183.heap[gb480]? = some (.cells #[.int .i64 0, .int .i64 0, .string (⟨#[]⟩ : ByteArray)] 23 (0, 0))) := ⟨h5_⟩
        have GW480 : Aside0 (w.heap.size ≤ gb480) := ⟨h6_⟩
        have GE480 : Aside0 (w.heap.size ≤ gb480) := ⟨h7_⟩
        have NB373_480 : Aside0 (gb373 ≠ gb480) := ⟨h8_⟩
        have NB480_373 : Aside0 (gb480 ≠ gb373) := ⟨h9_⟩
        have NB374_480 : Aside0 (gb374 ≠ gb480) := ⟨h10_⟩
        have NB480_374 : Aside0 (gb480 ≠ gb374) := ⟨h11_⟩
        have NB375_480 : Aside0 (gb375 ≠ gb480) := ⟨h12_⟩
        have NB480_375 : Aside0 (gb480 ≠ gb375) := ⟨h13_⟩
        have NB470_480 : Aside0 (gb470 ≠ gb480) := ⟨h14_⟩
        have NB480_470 : Aside0 (gb480 ≠ gb470) := ⟨h15_⟩
        have NB471_480 : Aside0 (gb471 ≠ gb480) := ⟨h16_⟩
        have NB480_471 : Aside0 (gb480 ≠ gb471) := ⟨h17_⟩
        replace BK373 : Aside0 (w183.heap[gb373]? = some (.cells #[.int .i64 a0_0, .int .i64 a0_1, .string a0_2] 23 (0, 0))) := ⟨h0_⟩
        replace BK374 : Aside0 (w183.heap[gb374]? = some (.cells #[.int .i64 a1_0, .int .i64 a1_1, .string a1_2] 23 (0, 0))) := ⟨h1_⟩
        replace BK375 : Aside0 (w183.heap[gb375]? = some (.cells #[.int .i64 a2_0, .int .i64 a2_1, .string a2_2] 23 (0, 0))) := ⟨h2_⟩
        replace BK470 : Aside0 (w183.heap[gb470]? = some (.cells #[.int .i64 x471000_118, .int .i64 x471001_118, .string x471002_118] 23 (0, 0))) := ⟨h3_⟩
        replace BK471 : Aside0 (w183.heap[gb471]? = some (.cells #[.int .i64 x472000_144, .int .i64 x472001_144, .string x472002_144] 23 (0, 0))) := ⟨h4_⟩
        replace HB : Aside0 (Below w.heap.size w w183) := ⟨h18_⟩
        clear h0_ h1_ h2_ h3_ h4_ h5_ h6_ h7_ h8_ h9_ h10_ h11_ h12_ h13_ h14_ h15_ h16_ h17_ h18_
        have hHeld : w183.cell? ⟨gb373, 0, none⟩ = some (.int .i64 a0_0) ∧ w183.cell? ⟨gb373, 1, none⟩ = some (.int .i64 a0_1) ∧ w183.cell? ⟨gb373, 2, none⟩ = some (.string a0_2) ∧ w183.cell? ⟨gb374, 0, none⟩ = some (.int .i64 a1_0) ∧ w183.cell? ⟨gb374, 1, none⟩ = some (.int .i64 a1_1) ∧ w183.cell? ⟨gb374, 2, none⟩ = some (.string a1_2) := hS_
        refine norm_ (a' := ?_) ?_ ?_
        rotate_left
        ·simp only [putAll, Act.put, List.setIfInBounds_toArray, List.set_cons_zero, List.set_cons_succ]
         rfl
        refine two_ (i := 5) (j := 6) (Ni := some 150) (Nj := some 12) #[true, true, true, true, true, true, false, true, false, false] #[true, true, true, true, true, false, true, true, false, false] rfl rfl rfl rfl (two_of HT_.out (by kernel_rfl)) (by decide) (by decide) (fun K hK => ?_) (fun K hK => ?_)
        ·skip
         refine goes_ Tryd.func17 (by kernel_rfl) rfl #[.agg #[.int .i64 a0_0, .int .i64 a0_1, .string a0_2], .agg #[.int .i64 a1_0, .int .i64 a1_1, .string a1_2]] (by rfl) rfl rfl (by (try simp only [List.map_toArray, List.map_cons, List.map_nil]); first | done | rfl | (simp only [List.length_drop, List.length_take]; rfl)) ?_
         with_reducible refine (alumlaw19_or.calls kj144 a0_0 a0_1 a0_2 a1_0 a1_1 a1_2 t476 t477 t478 _ A170.out).mono ?_
         rintro e w184 ⟨rfl, hb⟩
         refine ⟨_, rfl, ?_⟩
         replace BK373 := blkB BK373 hb
         replace BK374 := blkB BK374 hb
         replace BK375 := blkB BK375 hb
         replace BK470 := blkB BK470 hb
         replace BK471 := blkB BK471 hb
         replace BK480 := blkB BK480 hb
         replace HB := stepB HB hb
         (try clear hb)
         (try clear hb2)
         (try clear hk)
         (try clear hi)
         refine hK.out _ _ ⟨bc BK373 0, bc BK373 1, bc BK373 2, bc BK374 0, bc BK374 1, bc BK374 2⟩ (fun hHeld => ?_)
         clear hK K
         refine normA 150 ?_
         exact norm_ (by first | (simp only [putAll, Act.put, List.setIfInBounds_toArray, List.set_cons_zero, List.set_cons_succ]; done) | (simp only [putAll, Act.put, List.setIfInBounds_toArray, List.set_cons_zero, List.set_cons_succ]; rfl)) (hJ2_5_7 (gb480) _ ⟨hHeld, (by (with_reducible repeat (first | refine blk_drewN ?_ _ | refine blk_drew ?_ | refine blk_alloc ?_ _)); exact BK373.out), (by (with_reducible repeat (first | refine blk_drewN ?_ _ | refine blk_drew ?_ | refine blk_alloc ?_ _)); exact BK374.out), (by (with_reducible repeat (first | refine blk_drewN ?_ _ | refine blk_drew ?_ | refine blk_alloc ?_ _)); exact BK375.out), (by (with_reducible repeat (first | refine blk_drewN ?_ _ | refine blk_drew ?_ | refine blk_alloc ?_ _)); exact BK470.out), (by (with_reducible repeat (first | refine blk_drewN ?_ _ | refine blk_drew ?_ | refine blk_alloc ?_ _)); exact BK471.out), (by (with_reducible repeat (first | refine blk_drewN ?_ _ | refine blk_drew ?_ | refine blk_alloc ?_ _)); exact BK480.out), GW480.out, GE480.out, NB373_480.out, NB480_373.out, NB374_480.out, NB480_374.out, NB375_480.out, NB480_375.out, NB470_480.out, NB480_470.out, NB471_480.out, NB480_471.out, (by repeat (first | (with_reducible first | exact HB.out | apply below_alloc | apply pw_below_drewN | apply below_drew1 | refine below_set ?_ GE373.out | refine below_set ?_ GE374.out | refine below_set ?_ GE375.out | refine below_set ?_ GE470.out | refine below_set ?_ GE471.out | refine below_set ?_ GE480.out) | exact HB.out))⟩)
        ·skip
         refine box_step ?hg (N := 12) ?hd (cs := #[.int .i64 0, .int .i64 0, .string (⟨#[]⟩ : ByteArray)]) (t := 23) ?hr ?_; (case hd => rfl); (case hg => rfl); (case hr => first | (go_simp; done) | (go_simp; rfl))
         intro gb479 hg w184 hbox hb
         have BK479 := Aside0.mk (hbox)
         have GW479 := (sizeB HB hg : Aside0 (w.heap.size ≤ gb479))
         have GE479 := (sizeB HB hg : Aside0 (w.heap.size ≤ gb479))
         have NB373_479 := neB BK373 hg
         have NB479_373 := neC BK373 hg
         have NB374_479 := neB BK374 hg
         have NB479_374 := neC BK374 hg
         have NB375_479 := neB BK375 hg
         have NB479_375 := neC BK375 hg
         have NB470_479 := neB BK470 hg
         have NB479_470 := neC BK470 hg
         have NB471_479 := neB BK471 hg
         have NB479_471 := neC BK471 hg
         have NB480_479 := neB BK480 hg
         have NB479_480 := neC BK480 hg
         replace BK373 := blkB BK373 hb
         replace BK374 := blkB BK374 hb
         replace BK375 := blkB BK375 hb
         replace BK470 := blkB BK470 hb
         replace BK471 := blkB BK471 hb
         replace BK480 := blkB BK480 hb
         replace HB := stepB HB hb
         clear hb hbox hg
         refine hK.out _ _ ⟨bc BK373 0, bc BK373 1, bc BK373 2, bc BK374 0, bc BK374 1, bc BK374 2⟩ (fun hHeld => ?_)
         clear hK K
         refine normA 12 ?_
         exact norm_ (by first | (simp only [putAll, Act.put, List.setIfInBounds_toArray, List.set_cons_zero, List.set_cons_succ]; done) | (simp only [putAll, Act.put, List.setIfInBounds_toArray, List.set_cons_zero, List.set_cons_succ]; rfl)) (hJ2_6_7 (gb479, gb480) _ ⟨hHeld, (by (with_reducible repeat (first | refine blk_drewN ?_ _ | refine blk_drew ?_ | refine blk_alloc ?_ _)); exact BK373.out), (by (with_reducible repeat (first | refine blk_drewN ?_ _ | refine blk_drew ?_ | refine blk_alloc ?_ _)); exact BK374.out), (by (with_reducible repeat (first | refine blk_drewN ?_ _ | refine blk_drew ?_ | refine blk_alloc ?_ _)); exact BK375.out), (by (with_reducible repeat (first | refine blk_drewN ?_ _ | refine blk_drew ?_ | refine blk_alloc ?_ _)); exact BK470.out), (by (with_reducible repeat (first | refine blk_drewN ?_ _ | refine blk_drew ?_ | refine blk_alloc ?_ _)); exact BK471.out), (by (with_reducible repeat (first | refine blk_drewN ?_ _ | refine blk_drew ?_ | refine blk_alloc ?_ _)); exact BK479.out), (by (with_reducible repeat (first | refine blk_drewN ?_ _ | refine blk_drew ?_ | refine blk_alloc ?_ _)); exact BK480.out), GW479.out, GE479.out, NB373_479.out, NB479_373.out, NB374_479.out, NB479_374.out, NB375_479.out, NB479_375.out, NB470_479.out, NB479_470.out, NB471_479.out, NB479_471.out, NB480_479.out, NB479_480.out, GW480.out, GE480.out, NB373_480.out, NB480_373.out, NB374_480.out, NB480_374.out, NB375_480.out, NB480_375.out, NB470_480.out, NB480_470.out, NB471_480.out, NB480_471.out, (by repeat (first | (with_reducible first | exact HB.out | apply below_alloc | apply pw_below_drewN | apply below_drew1 | refine below_set ?_ GE373.out | refine below_set ?_ GE374.out | refine below_set ?_ GE375.out | refine below_set ?_ GE470.out | refine below_set ?_ GE471.out | refine below_set ?_ GE480.out | refine below_set ?_ GE479.out) | exact HB.out))⟩)
      ·skip
       rintro gb479 w183 ⟨hS_, h0_, h1_, h2_, h3_, h4_, h5_, h6_, h7_, h8_, h9_, h10_, h11_, h12_, h13_, h14_, h15_, h16_, h17_, h18_⟩
       have BK479 : Aside0 (w183.heap[gb479]? = some (.cells #[.int .i64 0, .int .i64 0, .string (⟨#[]⟩ : ByteArray)] 23 (0, 0))) := ⟨h5_⟩
       have GW479 : Aside0 (w.heap.size ≤ gb479) := ⟨h6_⟩
       have GE479 : Aside0 (w.heap.size ≤ gb479) := ⟨h7_⟩
       have NB373_479 : Aside0 (gb373 ≠ gb479) := ⟨h8_⟩
       have NB479_373 : Aside0 (gb479 ≠ gb373) := ⟨h9_⟩
       have NB374_479 : Aside0 (gb374 ≠ gb479) := ⟨h10_⟩
       have NB479_374 : Aside0 (gb479 ≠ gb374) := ⟨h11_⟩
       have NB375_479 : Aside0 (gb375 ≠ gb479) := ⟨h12_⟩
       have NB479_375 : Aside0 (gb479 ≠ gb375) := ⟨h13_⟩
       have NB470_479 : Aside0 (gb470 ≠ gb479) := ⟨h14_⟩
       have NB479_470 : Aside0 (gb479 ≠ gb470) := ⟨h15_⟩
       have NB471_479 : Aside0 (gb471 ≠ gb479) := ⟨h16_⟩
       have NB479_471 : Aside0 (gb479 ≠ gb471) := ⟨h17_⟩
       replace BK373 : Aside0 (w183.heap[gb373]? = some (.cells #[.int .i64 a0_0, .int .i64 a0_1, .string a0_2] 23 (0, 0))) := ⟨h0_⟩
       replace BK374 : Aside0 (w183.heap[gb374]? = some (.cells #[.int .i64 a1_0, .int .i64 a1_1, .string a1_2] 23 (0, 0))) := ⟨h1_⟩
       replace BK375 : Aside0 (w183.heap[gb375]? = some (.cells #[.int .i64 a2_0, .int .i64 a2_1, .string a2_2] 23 (0, 0))) := ⟨h2_⟩
       replace BK470 : Aside0 (w183.heap[gb470]? = some (.cells #[.int .i64 x471000_118, .int .i64 x471001_118, .string x471002_118] 23 (0, 0))) := ⟨h3_⟩
       replace BK471 : Aside0 (w183.heap[gb471]? = some (.cells #[.int .i64 x472000_144, .int .i64 x472001_144, .string x472002_144] 23 (0, 0))) := ⟨h4_⟩
       replace HB : Aside0 (Below w.heap.size w w183) := ⟨h18_⟩
       clear h0_ h1_ h2_ h3_ h4_ h5_ h6_ h7_ h8_ h9_ h10_ h11_ h12_ h13_ h14_ h15_ h16_ h17_ h18_
       have hHeld : w183.cell? ⟨gb373, 0, none⟩ = some (.int .i64 a0_0) ∧ w183.cell? ⟨gb373, 1, none⟩ = some (.int .i64 a0_1) ∧ w183.cell? ⟨gb373, 2, none⟩ = some (.string a0_2) ∧ w183.cell? ⟨gb374, 0, none⟩ = some (.int .i64 a1_0) ∧ w183.cell? ⟨gb374, 1, none⟩ = some (.int .i64 a1_1) ∧ w183.cell? ⟨gb374, 2, none⟩ = some (.string a1_2) := hS_
       refine norm_ (a' := ?_) ?_ ?_
       rotate_left
       ·simp only [putAll, Act.put, List.setIfInBounds_toArray, List.set_cons_zero, List.set_cons_succ]
        rfl
       refine two_ (i := 5) (j := 7) (Ni := some 150) (Nj := some 13) #[true, true, true, true, true, true, true, false, false, false] #[true, true, true, true, true, false, true, true, false, false] rfl rfl rfl rfl (two_of HT_.out (by kernel_rfl)) (by decide) (by decide) (fun K hK => ?_) (fun K hK => ?_)
       ·skip
        refine goes_ Tryd.func17 (by kernel_rfl) rfl #[.agg #[.int .i64 a0_0, .int .i64 a0_1, .string a0_2], .agg #[.int .i64 a1_0, .int .i64 a1_1, .string a1_2]] (by rfl) rfl rfl (by (try simp only [List.map_toArray, List.map_cons, List.map_nil]); first | done | rfl | (simp only [List.length_drop, List.length_take]; rfl)) ?_
        with_reducible refine (alumlaw19_or.calls kj144 a0_0 a0_1 a0_2 a1_0 a1_1 a1_2 t476 t477 t478 _ A170.out).mono ?_
        rintro e w184 ⟨rfl, hb⟩
        refine ⟨_, rfl, ?_⟩
        replace BK373 := blkB BK373 hb
        replace BK374 := blkB BK374 hb
        replace BK375 := blkB BK375 hb
        replace BK470 := blkB BK470 hb
        replace BK471 := blkB BK471 hb
        replace BK479 := blkB BK479 hb
        replace HB := stepB HB hb
        (try clear hb)
        (try clear hb2)
        (try clear hk)
        (try clear hi)
        refine hK.out _ _ ⟨bc BK373 0, bc BK373 1, bc BK373 2, bc BK374 0, bc BK374 1, bc BK374 2⟩ (fun hHeld => ?_)
        clear hK K
        refine normA 150 ?_
        exact norm_ (by first | (simp only [putAll, Act.put, List.setIfInBounds_toArray, List.set_cons_zero, List.set_cons_succ]; done) | (simp only [putAll, Act.put, List.setIfInBounds_toArray, List.set_cons_zero, List.set_cons_succ]; rfl)) (hJ2_5_6 (gb479) _ ⟨hHeld, (by (with_reducible repeat (first | refine blk_drewN ?_ _ | refine blk_drew ?_ | refine blk_alloc ?_ _)); exact BK373.out), (by (with_reducible repeat (first | refine blk_drewN ?_ _ | refine blk_drew ?_ | refine blk_alloc ?_ _)); exact BK374.out), (by (with_reducible repeat (first | refine blk_drewN ?_ _ | refine blk_drew ?_ | refine blk_alloc ?_ _)); exact BK375.out), (by (with_reducible repeat (first | refine blk_drewN ?_ _ | refine blk_drew ?_ | refine blk_alloc ?_ _)); exact BK470.out), (by (with_reducible repeat (first | refine blk_drewN ?_ _ | refine blk_drew ?_ | refine blk_alloc ?_ _)); exact BK471.out), (by (with_reducible repeat (first | refine blk_drewN ?_ _ | refine blk_drew ?_ | refine blk_alloc ?_ _)); exact BK479.out), GW479.out, GE479.out, NB373_479.out, NB479_373.out, NB374_479.out, NB479_374.out, NB375_479.out, NB479_375.out, NB470_479.out, NB479_470.out, NB471_479.out, NB479_471.out, (by repeat (first | (with_reducible first | exact HB.out | apply below_alloc | apply pw_below_drewN | apply below_drew1 | refine below_set ?_ GE373.out | refine below_set ?_ GE374.out | refine below_set ?_ GE375.out | refine below_set ?_ GE470.out | refine below_set ?_ GE471.out | refine below_set ?_ GE479.out) | exact HB.out))⟩)
       ·skip
        refine box_step ?hg (N := 13) ?hd (cs := #[.int .i64 0, .int .i64 0, .string (⟨#[]⟩ : ByteArray)]) (t := 23) ?hr ?_; (case hd => rfl); (case hg => rfl); (case hr => first | (go_simp; done) | (go_simp; rfl))
        intro gb480 hg w184 hbox hb
        have BK480 := Aside0.mk (hbox)
        have GW480 := (sizeB HB hg : Aside0 (w.heap.size ≤ gb480))
        have GE480 := (sizeB HB hg : Aside0 (w.heap.size ≤ gb480))
        have NB373_480 := neB BK373 hg
        have NB480_373 := neC BK373 hg
        have NB374_480 := neB BK374 hg
        have NB480_374 := neC BK374 hg
        have NB375_480 := neB BK375 hg
        have NB480_375 := neC BK375 hg
        have NB470_480 := neB BK470 hg
        have NB480_470 := neC BK470 hg
        have NB471_480 := neB BK471 hg
        have NB480_471 := neC BK471 hg
        have NB479_480 := neB BK479 hg
        have NB480_479 := neC BK479 hg
        replace BK373 := blkB BK373 hb
        replace BK374 := blkB BK374 hb
        replace BK375 := blkB BK375 hb
        replace BK470 := blkB BK470 hb
        replace BK471 := blkB BK471 hb
        replace BK479 := blkB BK479 hb
        replace HB := stepB HB hb
        clear hb hbox hg
        refine hK.out _ _ ⟨bc BK373 0, bc BK373 1, bc BK373 2, bc BK374 0, bc BK374 1, bc BK374 2⟩ (fun hHeld => ?_)
        clear hK K
        refine normA 13 ?_
        exact norm_ (by first | (simp only [putAll, Act.put, List.setIfInBounds_toArray, List.set_cons_zero, List.set_cons_succ]; done) | (simp only [putAll, Act.put, List.setIfInBounds_toArray, List.set_cons_zero, List.set_cons_succ]; rfl)) (hJ2_6_7 (gb479, gb480) _ ⟨hHeld, (by (with_reducible repeat (first | refine blk_drewN ?_ _ | refine blk_drew ?_ | refine blk_alloc ?_ _)); exact BK373.out), (by (with_reducible repeat (first | refine blk_drewN ?_ _ | refine blk_drew ?_ | refine blk_alloc ?_ _)); exact BK374.out), (by (with_reducible repeat (first | refine blk_drewN ?_ _ | refine blk_drew ?_ | refine blk_alloc ?_ _)); exact BK375.out), (by (with_reducible repeat (first | refine blk_drewN ?_ _ | refine blk_drew ?_ | refine blk_alloc ?_ _)); exact BK470.out), (by (with_reducible repeat (first | refine blk_drewN ?_ _ | refine blk_drew ?_ | refine blk_alloc ?_ _)); exact BK471.out), (by (with_reducible repeat (first | refine blk_drewN ?_ _ | refine blk_drew ?_ | refine blk_alloc ?_ _)); exact BK479.out), (by (with_reducible repeat (first | refine blk_drewN ?_ _ | refine blk_drew ?_ | refine blk_alloc ?_ _)); exact BK480.out), GW479.out, GE479.out, NB373_479.out, NB479_373.out, NB374_479.out, NB479_374.out, NB375_479.out, NB479_375.out, NB470_479.out, NB479_470.out, NB471_479.out, NB479_471.out, NB480_479.out, NB479_480.out, GW480.out, GE480.out, NB373_480.out, NB480_373.out, NB374_480.out, NB480_374.out, NB375_480.out, NB480_375.out, NB470_480.out, NB480_470.out, NB471_480.out, NB480_471.out, (by repeat (first | (with_reducible first | exact HB.out | apply below_alloc | apply pw_below_drewN | apply below_drew1 | refine below_set ?_ GE373.out | refine below_set ?_ GE374.out | refine below_set ?_ GE375.out | refine below_set ?_ GE470.out | refine below_set ?_ GE471.out | refine below_set ?_ GE479.out | refine below_set ?_ GE480.out) | exact HB.out))⟩)
     ·skip
      rintro _ w183 ⟨hS_, h0_, h1_, h2_, h3_, h4_, h5_⟩
      replace BK373 : Aside0 (w183.heap[gb373]? = some (.cells #[.int .i64 a0_0, .int .i64 a0_1, .string a0_2] 23 (0, 0))) := ⟨h0_⟩
      replace BK374 : Aside0 (w183.heap[gb374]? = some (.cells #[.int .i64 a1_0, .int .i64 a1_1, .string a1_2] 23 (0, 0))) := ⟨h1_⟩
      replace BK375 : Aside0 (w183.heap[gb375]? = some (.cells #[.int .i64 a2_0, .int .i64 a2_1, .string a2_2] 23 (0, 0))) := ⟨h2_⟩
      replace BK470 : Aside0 (w183.heap[gb470]? = some (.cells #[.int .i64 x471000_118, .int .i64 x471001_118, .string x471002_118] 23 (0, 0))) := ⟨h3_⟩
      replace BK471 : Aside0 (w183.heap[gb471]? = some (.cells #[.int .i64 x472000_144, .int .i64 x472001_144, .string x472002_144] 23 (0, 0))) := ⟨h4_⟩
      replace HB : Aside0 (Below w.heap.size w w183) := ⟨h5_⟩
      clear h0_ h1_ h2_ h3_ h4_ h5_
      have hHeld : w183.cell? ⟨gb373, 0, none⟩ = some (.int .i64 a0_0) ∧ w183.cell? ⟨gb373, 1, none⟩ = some (.int .i64 a0_1) ∧ w183.cell? ⟨gb373, 2, none⟩ = some (.string a0_2) ∧ w183.cell? ⟨gb374, 0, none⟩ = some (.int .i64 a1_0) ∧ w183.cell? ⟨gb374, 1, none⟩ = some (.int .i64 a1_1) ∧ w183.cell? ⟨gb374, 2, none⟩ = some (.string a1_2) := hS_
      refine norm_ (a' := ?_) ?_ ?_
      rotate_left
      ·simp only [putAll, Act.put, List.setIfInBounds_toArray, List.set_cons_zero, List.set_cons_succ]
       rfl
      refine two_ (i := 6) (j := 7) (Ni := some 12) (Nj := some 13) #[true, true, true, true, true, true, true, false, false, false] #[true, true, true, true, true, true, false, true, false, false] rfl rfl rfl rfl (two_of HT_.out (by kernel_rfl)) (by decide) (by decide) (fun K hK => ?_) (fun K hK => ?_)
      ·skip
       refine box_step ?hg (N := 12) ?hd (cs := #[.int .i64 0, .int .i64 0, .string (⟨#[]⟩ : ByteArray)]) (t := 23) ?hr ?_; (case hd => rfl); (case hg => rfl); (case hr => first | (go_simp; done) | (go_simp; rfl))
       intro gb479 hg w184 hbox hb
       have BK479 := Aside0.mk (hbox)
       have GW479 := (sizeB HB hg : Aside0 (w.heap.size ≤ gb479))
       have GE479 := (sizeB HB hg : Aside0 (w.heap.size ≤ gb479))
       have NB373_479 := neB BK373 hg
       have NB479_373 := neC BK373 hg
       have NB374_479 := neB BK374 hg
       have NB479_374 := neC BK374 hg
       have NB375_479 := neB BK375 hg
       have NB479_375 := neC BK375 hg
       have NB470_479 := neB BK470 hg
       have NB479_470 := neC BK470 hg
       have NB471_479 := neB BK471 hg
       have NB479_471 := neC BK471 hg
       replace BK373 := blkB BK373 hb
       replace BK374 := blkB BK374 hb
       replace BK375 := blkB BK375 hb
       replace BK470 := blkB BK470 hb
       replace BK471 := blkB BK471 hb
       replace HB := stepB HB hb
       clear hb hbox hg
       refine hK.out _ _ ⟨bc BK373 0, bc BK373 1, bc BK373 2, bc BK374 0, bc BK374 1, bc BK374 2⟩ (fun hHeld => ?_)
       clear hK K
       refine normA 12 ?_
       exact norm_ (by first | (simp only [putAll, Act.put, List.setIfInBounds_toArray, List.set_cons_zero, List.set_cons_succ]; done) | (simp only [putAll, Act.put, List.setIfInBounds_toArray, List.set_cons_zero, List.set_cons_succ]; rfl)) (hJ2_5_6 (gb479) _ ⟨hHeld, (by (with_reducible repeat (first | refine blk_drewN ?_ _ | refine blk_drew ?_ | refine blk_alloc ?_ _)); exact BK373.out), (by (with_reducible repeat (first | refine blk_drewN ?_ _ | refine blk_drew ?_ | refine blk_alloc ?_ _)); exact BK374.out), (by (with_reducible repeat (first | refine blk_drewN ?_ _ | refine blk_drew ?_ | refine blk_alloc ?_ _)); exact BK375.out), (by (with_reducible repeat (first | refine blk_drewN ?_ _ | refine blk_drew ?_ | refine blk_alloc ?_ _)); exact BK470.out), (by (with_reducible repeat (first | refine blk_drewN ?_ _ | refine blk_drew ?_ | refine blk_alloc ?_ _)); exact BK471.out), (by (with_reducible repeat (first | refine blk_drewN ?_ _ | refine blk_drew ?_ | refine blk_alloc ?_ _)); exact BK479.out), GW479.out, GE479.out, NB373_479.out, NB479_373.out, NB374_479.out, NB479_374.out, NB375_479.out, NB479_375.out, NB470_479.out, NB479_470.out, NB471_479.out, NB479_471.out, (by repeat (first | (with_reducible first | exact HB.out | apply below_alloc | apply pw_below_drewN | apply below_drew1 | refine below_set ?_ GE373.out | refine below_set ?_ GE374.out | refine below_set ?_ GE375.out | refine below_set ?_ GE470.out | refine below_set ?_ GE471.out | refine below_set ?_ GE479.out) | exact HB.out))⟩)
      ·skip
       refine box_step ?hg (N := 13) ?hd (cs := #[.int .i64 0, .int .i64 0, .string (⟨#[]⟩ : ByteArray)]) (t := 23) ?hr ?_; (case hd => rfl); (case hg => rfl); (case hr => first | (go_simp; done) | (go_simp; rfl))
       intro gb480 hg w184 hbox hb
       have BK480 := Aside0.mk (hbox)
       have GW480 := (sizeB HB hg : Aside0 (w.heap.size ≤ gb480))
       have GE480 := (sizeB HB hg : Aside0 (w.heap.size ≤ gb480))
       have NB373_480 := neB BK373 hg
       have NB480_373 := neC BK373 hg
       have NB374_480 := neB BK374 hg
       have NB480_374 := neC BK374 hg
       have NB375_480 := neB BK375 hg
       have NB480_375 := neC BK375 hg
       have NB470_480 := neB BK470 hg
       have NB480_470 := neC BK470 hg
       have NB471_480 := neB BK471 hg
       have NB480_471 := neC BK471 hg
       replace BK373 := blkB BK373 hb
       replace BK374 := blkB BK374 hb
       replace BK375 := blkB BK375 hb
       replace BK470 := blkB BK470 hb
       replace BK471 := blkB BK471 hb
       replace HB := stepB HB hb
       clear hb hbox hg
       refine hK.out _ _ ⟨bc BK373 0, bc BK373 1, bc BK373 2, bc BK374 0, bc BK374 1, bc BK374 2⟩ (fun hHeld => ?_)
       clear hK K
       refine normA 13 ?_
       exact norm_ (by first | (simp only [putAll, Act.put, List.setIfInBounds_toArray, List.set_cons_zero, List.set_cons_succ]; done) | (simp only [putAll, Act.put, List.setIfInBounds_toArray, List.set_cons_zero, List.set_cons_succ]; rfl)) (hJ2_5_7 (gb480) _ ⟨hHeld, (by (with_reducible repeat (first | refine blk_drewN ?_ _ | refine blk_drew ?_ | refine blk_alloc ?_ _)); exact BK373.out), (by (with_reducible repeat (first | refine blk_drewN ?_ _ | refine blk_drew ?_ | refine blk_alloc ?_ _)); exact BK374.out), (by (with_reducible repeat (first | refine blk_drewN ?_ _ | refine blk_drew ?_ | refine blk_alloc ?_ _)); exact BK375.out), (by (with_reducible repeat (first | refine blk_drewN ?_ _ | refine blk_drew ?_ | refine blk_alloc ?_ _)); exact BK470.out), (by (with_reducible repeat (first | refine blk_drewN ?_ _ | refine blk_drew ?_ | refine blk_alloc ?_ _)); exact BK471.out), (by (with_reducible repeat (first | refine blk_drewN ?_ _ | refine blk_drew ?_ | refine blk_alloc ?_ _)); exact BK480.out), GW480.out, GE480.out, NB373_480.out, NB480_373.out, NB374_480.out, NB480_374.out, NB375_480.out, NB480_375.out, NB470_480.out, NB480_470.out, NB471_480.out, NB480_471.out, (by repeat (first | (with_reducible first | exact HB.out | apply below_alloc | apply pw_below_drewN | apply below_drew1 | refine below_set ?_ GE373.out | refine below_set ?_ GE374.out | refine below_set ?_ GE375.out | refine below_set ?_ GE470.out | refine below_set ?_ GE471.out | refine below_set ?_ GE480.out) | exact HB.out))⟩)
    ·skip
     rintro ⟨gb479, gb480⟩ w184 ⟨hS_, h0_, h1_, h2_, h3_, h4_, h5_, h6_, h7_, h8_, h9_, h10_, h11_, h12_, h13_, h14_, h15_, h16_, h17_, h18_, h19_, h20_, h21_, h22_, h23_, h24_, h25_, h26_, h27_, h28_, h29_, h30_, h31_, h32_, h33_⟩
     have BK479 : Aside0 (w184.heap[gb479]? = some (.cells #[.int .i64 0, .int .i64 0, .string (⟨#[]⟩ : ByteArray)] 23 (0, 0))) := ⟨h5_⟩
     have BK480 : Aside0 (w184.heap[gb480]? = some (.cells #[.int .i64 0, .int .i64 0, .string (⟨#[]⟩ : ByteArray)] 23 (0, 0))) := ⟨h6_⟩
     have GW479 : Aside0 (w.heap.size ≤ gb479) := ⟨h7_⟩
     have GE479 : Aside0 (w.heap.size ≤ gb479) := ⟨h8_⟩
     have NB373_479 : Aside0 (gb373 ≠ gb479) := ⟨h9_⟩
     have NB479_373 : Aside0 (gb479 ≠ gb373) := ⟨h10_⟩
     have NB374_479 : Aside0 (gb374 ≠ gb479) := ⟨h11_⟩
     have NB479_374 : Aside0 (gb479 ≠ gb374) := ⟨h12_⟩
     have NB375_479 : Aside0 (gb375 ≠ gb479) := ⟨h13_⟩
     have NB479_375 : Aside0 (gb479 ≠ gb375) := ⟨h14_⟩
     have NB470_479 : Aside0 (gb470 ≠ gb479) := ⟨h15_⟩
     have NB479_470 : Aside0 (gb479 ≠ gb470) := ⟨h16_⟩
     have NB471_479 : Aside0 (gb471 ≠ gb479) := ⟨h17_⟩
     have NB479_471 : Aside0 (gb479 ≠ gb471) := ⟨h18_⟩
     have NB480_479 : Aside0 (gb480 ≠ gb479) := ⟨h19_⟩
     have NB479_480 : Aside0 (gb479 ≠ gb480) := ⟨h20_⟩
     have GW480 : Aside0 (w.heap.size ≤ gb480) := ⟨h21_⟩
     have GE480 : Aside0 (w.heap.size ≤ gb480) := ⟨h22_⟩
     have NB373_480 : Aside0 (gb373 ≠ gb480) := ⟨h23_⟩
     have NB480_373 : Aside0 (gb480 ≠ gb373) := ⟨h24_⟩
     have NB374_480 : Aside0 (gb374 ≠ gb480) := ⟨h25_⟩
     have NB480_374 : Aside0 (gb480 ≠ gb374) := ⟨h26_⟩
     have NB375_480 : Aside0 (gb375 ≠ gb480) := ⟨h27_⟩
     have NB480_375 : Aside0 (gb480 ≠ gb375) := ⟨h28_⟩
     have NB470_480 : Aside0 (gb470 ≠ gb480) := ⟨h29_⟩
     have NB480_470 : Aside0 (gb480 ≠ gb470) := ⟨h30_⟩
     have NB471_480 : Aside0 (gb471 ≠ gb480) := ⟨h31_⟩
     have NB480_471 : Aside0 (gb480 ≠ gb471) := ⟨h32_⟩
     replace BK373 : Aside0 (w184.heap[gb373]? = some (.cells #[.int .i64 a0_0, .int .i64 a0_1, .string a0_2] 23 (0, 0))) := ⟨h0_⟩
     replace BK374 : Aside0 (w184.heap[gb374]? = some (.cells #[.int .i64 a1_0, .int .i64 a1_1, .string a1_2] 23 (0, 0))) := ⟨h1_⟩
     replace BK375 : Aside0 (w184.heap[gb375]? = some (.cells #[.int .i64 a2_0, .int .i64 a2_1, .string a2_2] 23 (0, 0))) := ⟨h2_⟩
     replace BK470 : Aside0 (w184.heap[gb470]? = some (.cells #[.int .i64 x471000_118, .int .i64 x471001_118, .string x471002_118] 23 (0, 0))) := ⟨h3_⟩
     replace BK471 : Aside0 (w184.heap[gb471]? = some (.cells #[.int .i64 x472000_144, .int .i64 x472001_144, .string x472002_144] 23 (0, 0))) := ⟨h4_⟩
     replace HB : Aside0 (Below w.heap.size w w184) := ⟨h33_⟩
     clear h0_ h1_ h2_ h3_ h4_ h5_ h6_ h7_ h8_ h9_ h10_ h11_ h12_ h13_ h14_ h15_ h16_ h17_ h18_ h19_ h20_ h21_ h22_ h23_ h24_ h25_ h26_ h27_ h28_ h29_ h30_ h31_ h32_ h33_
     have hHeld : w184.cell? ⟨gb373, 0, none⟩ = some (.int .i64 a0_0) ∧ w184.cell? ⟨gb373, 1, none⟩ = some (.int .i64 a0_1) ∧ w184.cell? ⟨gb373, 2, none⟩ = some (.string a0_2) ∧ w184.cell? ⟨gb374, 0, none⟩ = some (.int .i64 a1_0) ∧ w184.cell? ⟨gb374, 1, none⟩ = some (.int .i64 a1_1) ∧ w184.cell? ⟨gb374, 2, none⟩ = some (.string a1_2) := hS_
     refine norm_ (a' := ?_) ?_ ?_
     rotate_left
     ·simp only [putAll, Act.put, List.setIfInBounds_toArray, List.set_cons_zero, List.set_cons_succ]
      rfl
     refine one_ (i := 5) (N := some 150) #[true, true, true, true, true, true, true, true, false, false] rfl rfl (one_of HT_.out (by kernel_rfl)) (by decide) (fun K hK => ?_)
     refine goes_ Tryd.func17 (by kernel_rfl) rfl #[.agg #[.int .i64 a0_0, .int .i64 a0_1, .string a0_2], .agg #[.int .i64 a1_0, .int .i64 a1_1, .string a1_2]] (by rfl) rfl rfl (by (try simp only [List.map_toArray, List.map_cons, List.map_nil]); first | done | rfl | (simp only [List.length_drop, List.length_take]; rfl)) ?_
     with_reducible refine (alumlaw19_or.calls kj144 a0_0 a0_1 a0_2 a1_0 a1_1 a1_2 t476 t477 t478 _ A170.out).mono ?_
     rintro e w185 ⟨rfl, hb⟩
     refine ⟨_, rfl, ?_⟩
     replace BK373 := blkB BK373 hb
     replace BK374 := blkB BK374 hb
     replace BK375 := blkB BK375 hb
     replace BK470 := blkB BK470 hb
     replace BK471 := blkB BK471 hb
     replace BK479 := blkB BK479 hb
     replace BK480 := blkB BK480 hb
     replace HB := stepB HB hb
     (try clear hb)
     (try clear hb2)
     (try clear hk)
     (try clear hi)
     refine hK.out _ _ ⟨bc BK373 0, bc BK373 1, bc BK373 2, bc BK374 0, bc BK374 1, bc BK374 2⟩ (fun hHeld => ?_)
     clear hK K
     refine normA 150 ?_
     exact norm_ (by first | (simp only [putAll, Act.put, List.setIfInBounds_toArray, List.set_cons_zero, List.set_cons_succ]; done) | (simp only [putAll, Act.put, List.setIfInBounds_toArray, List.set_cons_zero, List.set_cons_succ]; rfl)) (hJ2_5_6_7 (gb479, gb480) _ ⟨hHeld, (by (with_reducible repeat (first | refine blk_drewN ?_ _ | refine blk_drew ?_ | refine blk_alloc ?_ _)); exact BK373.out), (by (with_reducible repeat (first | refine blk_drewN ?_ _ | refine blk_drew ?_ | refine blk_alloc ?_ _)); exact BK374.out), (by (with_reducible repeat (first | refine blk_drewN ?_ _ | refine blk_drew ?_ | refine blk_alloc ?_ _)); exact BK375.out), (by (with_reducible repeat (first | refine blk_drewN ?_ _ | refine blk_drew ?_ | refine blk_alloc ?_ _)); exact BK470.out), (by (with_reducible repeat (first | refine blk_drewN ?_ _ | refine blk_drew ?_ | refine blk_alloc ?_ _)); exact BK471.out), (by (with_reducible repeat (first | refine blk_drewN ?_ _ | refine blk_drew ?_ | refine blk_alloc ?_ _)); exact BK479.out), (by (with_reducible repeat (first | refine blk_drewN ?_ _ | refine blk_drew ?_ | refine blk_alloc ?_ _)); exact BK480.out), GW479.out, GE479.out, NB373_479.out, NB479_373.out, NB374_479.out, NB479_374.out, NB375_479.out, NB479_375.out, NB470_479.out, NB479_470.out, NB471_479.out, NB479_471.out, NB480_479.out, NB479_480.out, GW480.out, GE480.out, NB373_480.out, NB480_373.out, NB374_480.out, NB480_374.out, NB375_480.out, NB480_375.out, NB470_480.out, NB480_470.out, NB471_480.out, NB480_471.out, (by repeat (first | (with_reducible first | exact HB.out | apply below_alloc | apply pw_below_drewN | apply below_drew1 | refine below_set ?_ GE373.out | refine below_set ?_ GE374.out | refine below_set ?_ GE375.out | refine below_set ?_ GE470.out | refine below_set ?_ GE471.out | refine below_set ?_ GE479.out | refine below_set ?_ GE480.out) | exact HB.out))⟩)
   ·skip
    rintro gb480 w184 ⟨hS_, h0_, h1_, h2_, h3_, h4_, h5_, h6_, h7_, h8_, h9_, h10_, h11_, h12_, h13_, h14_, h15_, h16_, h17_, h18_⟩
    have BK480 : Aside0 (w184.heap[gb480]? = some (.cells #[.int .i64 0, .int .i64 0, .string (⟨#[]⟩ : ByteArray)] 23 (0, 0))) := ⟨h5_⟩
    have GW480 : Aside0 (w.heap.size ≤ gb480) := ⟨h6_⟩
    have GE480 : Aside0 (w.heap.size ≤ gb480) := ⟨h7_⟩
    have NB373_480 : Aside0 (gb373 ≠ gb480) := ⟨h8_⟩
    have NB480_373 : Aside0 (gb480 ≠ gb373) := ⟨h9_⟩
    have NB374_480 : Aside0 (gb374 ≠ gb480) := ⟨h10_⟩
    have NB480_374 : Aside0 (gb480 ≠ gb374) := ⟨h11_⟩
    have NB375_480 : Aside0 (gb375 ≠ gb480) := ⟨h12_⟩
    have NB480_375 : Aside0 (gb480 ≠ gb375) := ⟨h13_⟩
    have NB470_480 : Aside0 (gb470 ≠ gb480) := ⟨h14_⟩
    have NB480_470 : Aside0 (gb480 ≠ gb470) := ⟨h15_⟩
    have NB471_480 : Aside0 (gb471 ≠ gb480) := ⟨h16_⟩
    have NB480_471 : Aside0 (gb480 ≠ gb471) := ⟨h17_⟩
    replace BK373 : Aside0 (w184.heap[gb373]? = some (.cells #[.int .i64 a0_0, .int .i64 a0_1, .string a0_2] 23 (0, 0))) := ⟨h0_⟩
    replace BK374 : Aside0 (w184.heap[gb374]? = some (.cells #[.int .i64 a1_0, .int .i64 a1_1, .string a1_2] 23 (0, 0))) := ⟨h1_⟩
    replace BK375 : Aside0 (w184.heap[gb375]? = some (.cells #[.int .i64 a2_0, .int .i64 a2_1, .string a2_2] 23 (0, 0))) := ⟨h2_⟩
    replace BK470 : Aside0 (w184.heap[gb470]? = some (.cells #[.int .i64 x471000_118, .int .i64 x471001_118, .string x471002_118] 23 (0, 0))) := ⟨h3_⟩
    replace BK471 : Aside0 (w184.heap[gb471]? = some (.cells #[.int .i64 x472000_144, .int .i64 x472001_144, .string x472002_144] 23 (0, 0))) := ⟨h4_⟩
    replace HB : Aside0 (Below w.heap.size w w184) := ⟨h18_⟩
    clear h0_ h1_ h2_ h3_ h4_ h5_ h6_ h7_ h8_ h9_ h10_ h11_ h12_ h13_ h14_ h15_ h16_ h17_ h18_
    have hHeld : w184.cell? ⟨gb373, 0, none⟩ = some (.int .i64 a0_0) ∧ w184.cell? ⟨gb373, 1, none⟩ = some (.int .i64 a0_1) ∧ w184.cell? ⟨gb373, 2, none⟩ = some (.string a0_2) ∧ w184.cell? ⟨gb374, 0, none⟩ = some (.int .i64 a1_0) ∧ w184.cell? ⟨gb374, 1, none⟩ = some (.int .i64 a1_1) ∧ w184.cell? ⟨gb374, 2, none⟩ = some (.string a1_2) := hS_
    refine norm_ (a' := ?_) ?_ ?_
    rotate_left
    ·simp only [putAll, Act.put, List.setIfInBounds_toArray, List.set_cons_zero, List.set_cons_succ]
     rfl
    refine one_ (i := 6) (N := some 12) #[true, true, true, true, true, true, true, true, false, false] rfl rfl (one_of HT_.out (by kernel_rfl)) (by decide) (fun K hK => ?_)
    refine box_step ?hg (N := 12) ?hd (cs := #[.int .i64 0, .int .i64 0, .string (⟨#[]⟩ : ByteArray)]) (t := 23) ?hr ?_; (case hd => rfl); (case hg => rfl); (case hr => first | (go_simp; done) | (go_simp; rfl))
    intro gb479 hg w185 hbox hb
    have BK479 := Aside0.mk (hbox)
    have GW479 := (sizeB HB hg : Aside0 (w.heap.size ≤ gb479))
    have GE479 := (sizeB HB hg : Aside0 (w.heap.size ≤ gb479))
    have NB373_479 := neB BK373 hg
    have NB479_373 := neC BK373 hg
    have NB374_479 := neB BK374 hg
    have NB479_374 := neC BK374 hg
    have NB375_479 := neB BK375 hg
    have NB479_375 := neC BK375 hg
    have NB470_479 := neB BK470 hg
    have NB479_470 := neC BK470 hg
    have NB471_479 := neB BK471 hg
    have NB479_471 := neC BK471 hg
    have NB480_479 := neB BK480 hg
    have NB479_480 := neC BK480 hg
    replace BK373 := blkB BK373 hb
    replace BK374 := blkB BK374 hb
    replace BK375 := blkB BK375 hb
    replace BK470 := blkB BK470 hb
    replace BK471 := blkB BK471 hb
    replace BK480 := blkB BK480 hb
    replace HB := stepB HB hb
    clear hb hbox hg
    refine hK.out _ _ ⟨bc BK373 0, bc BK373 1, bc BK373 2, bc BK374 0, bc BK374 1, bc BK374 2⟩ (fun hHeld => ?_)
    clear hK K
    refine normA 12 ?_
    exact norm_ (by first | (simp only [putAll, Act.put, List.setIfInBounds_toArray, List.set_cons_zero, List.set_cons_succ]; done) | (simp only [putAll, Act.put, List.setIfInBounds_toArray, List.set_cons_zero, List.set_cons_succ]; rfl)) (hJ2_5_6_7 (gb479, gb480) _ ⟨hHeld, (by (with_reducible repeat (first | refine blk_drewN ?_ _ | refine blk_drew ?_ | refine blk_alloc ?_ _)); exact BK373.out), (by (with_reducible repeat (first | refine blk_drewN ?_ _ | refine blk_drew ?_ | refine blk_alloc ?_ _)); exact BK374.out), (by (with_reducible repeat (first | refine blk_drewN ?_ _ | refine blk_drew ?_ | refine blk_alloc ?_ _)); exact BK375.out), (by (with_reducible repeat (first | refine blk_drewN ?_ _ | refine blk_drew ?_ | refine blk_alloc ?_ _)); exact BK470.out), (by (with_reducible repeat (first | refine blk_drewN ?_ _ | refine blk_drew ?_ | refine blk_alloc ?_ _)); exact BK471.out), (by (with_reducible repeat (first | refine blk_drewN ?_ _ | refine blk_drew ?_ | refine blk_alloc ?_ _)); exact BK479.out), (by (with_reducible repeat (first | refine blk_drewN ?_ _ | refine blk_drew ?_ | refine blk_alloc ?_ _)); exact BK480.out), GW479.out, GE479.out, NB373_479.out, NB479_373.out, NB374_479.out, NB479_374.out, NB375_479.out, NB479_375.out, NB470_479.out, NB479_470.out, NB471_479.out, NB479_471.out, NB480_479.out, NB479_480.out, GW480.out, GE480.out, NB373_480.out, NB480_373.out, NB374_480.out, NB480_374.out, NB375_480.out, NB480_375.out, NB470_480.out, NB480_470.out, NB471_480.out, NB480_471.out, (by repeat (first | (with_reducible first | exact HB.out | apply below_alloc | apply pw_below_drewN | apply below_drew1 | refine below_set ?_ GE373.out | refine below_set ?_ GE374.out | refine below_set ?_ GE375.out | refine below_set ?_ GE470.out | refine below_set ?_ GE471.out | refine below_set ?_ GE480.out | refine below_set ?_ GE479.out) | exact HB.out))⟩)
  ·skip
   rintro gb479 w184 ⟨hS_, h0_, h1_, h2_, h3_, h4_, h5_, h6_, h7_, h8_, h9_, h10_, h11_, h12_, h13_, h14_, h15_, h16_, h17_, h18_⟩
   have BK479 : Aside0 (w184.heap[gb479]? = some (.cells #[.int .i64 0, .int .i64 0, .string (⟨#[]⟩ : ByteArray)] 23 (0, 0))) := ⟨h5_⟩
   have GW479 : Aside0 (w.heap.size ≤ gb479) := ⟨h6_⟩
   have GE479 : Aside0 (w.heap.size ≤ gb479) := ⟨h7_⟩
   have NB373_479 : Aside0 (gb373 ≠ gb479) := ⟨h8_⟩
   have NB479_373 : Aside0 (gb479 ≠ gb373) := ⟨h9_⟩
   have NB374_479 : Aside0 (gb374 ≠ gb479) := ⟨h10_⟩
   have NB479_374 : Aside0 (gb479 ≠ gb374) := ⟨h11_⟩
   have NB375_479 : Aside0 (gb375 ≠ gb479) := ⟨h12_⟩
   have NB479_375 : Aside0 (gb479 ≠ gb375) := ⟨h13_⟩
   have NB470_479 : Aside0 (gb470 ≠ gb479) := ⟨h14_⟩
   have NB479_470 : Aside0 (gb479 ≠ gb470) := ⟨h15_⟩
   have NB471_479 : Aside0 (gb471 ≠ gb479) := ⟨h16_⟩
   have NB479_471 : Aside0 (gb479 ≠ gb471) := ⟨h17_⟩
   replace BK373 : Aside0 (w184.heap[gb373]? = some (.cells #[.int .i64 a0_0, .int .i64 a0_1, .string a0_2] 23 (0, 0))) := ⟨h0_⟩
   replace BK374 : Aside0 (w184.heap[gb374]? = some (.cells #[.int .i64 a1_0, .int .i64 a1_1, .string a1_2] 23 (0, 0))) := ⟨h1_⟩
   replace BK375 : Aside0 (w184.heap[gb375]? = some (.cells #[.int .i64 a2_0, .int .i64 a2_1, .string a2_2] 23 (0, 0))) := ⟨h2_⟩
   replace BK470 : Aside0 (w184.heap[gb470]? = some (.cells #[.int .i64 x471000_118, .int .i64 x471001_118, .string x471002_118] 23 (0, 0))) := ⟨h3_⟩
   replace BK471 : Aside0 (w184.heap[gb471]? = some (.cells #[.int .i64 x472000_144, .int .i64 x472001_144, .string x472002_144] 23 (0, 0))) := ⟨h4_⟩
   replace HB : Aside0 (Below w.heap.size w w184) := ⟨h18_⟩
   clear h0_ h1_ h2_ h3_ h4_ h5_ h6_ h7_ h8_ h9_ h10_ h11_ h12_ h13_ h14_ h15_ h16_ h17_ h18_
   have hHeld : w184.cell? ⟨gb373, 0, none⟩ = some (.int .i64 a0_0) ∧ w184.cell? ⟨gb373, 1, none⟩ = some (.int .i64 a0_1) ∧ w184.cell? ⟨gb373, 2, none⟩ = some (.string a0_2) ∧ w184.cell? ⟨gb374, 0, none⟩ = some (.int .i64 a1_0) ∧ w184.cell? ⟨gb374, 1, none⟩ = some (.int .i64 a1_1) ∧ w184.cell? ⟨gb374, 2, none⟩ = some (.string a1_2) := hS_
   refine norm_ (a' := ?_) ?_ ?_
   rotate_left
   ·simp only [putAll, Act.put, List.setIfInBounds_toArray, List.set_cons_zero, List.set_cons_succ]
    rfl
   refine one_ (i := 7) (N := some 13) #[true, true, true, true, true, true, true, true, false, false] rfl rfl (one_of HT_.out (by kernel_rfl)) (by decide) (fun K hK => ?_)
   refine box_step ?hg (N := 13) ?hd (cs := #[.int .i64 0, .int .i64 0, .string (⟨#[]⟩ : ByteArray)]) (t := 23) ?hr ?_; (case hd => rfl); (case hg => rfl); (case hr => first | (go_simp; done) | (go_simp; rfl))
   intro gb480 hg w185 hbox hb
   have BK480 := Aside0.mk (hbox)
   have GW480 := (sizeB HB hg : Aside0 (w.heap.size ≤ gb480))
   have GE480 := (sizeB HB hg : Aside0 (w.heap.size ≤ gb480))
   have NB373_480 := neB BK373 hg
   have NB480_373 := neC BK373 hg
   have NB374_480 := neB BK374 hg
   have NB480_374 := neC BK374 hg
   have NB375_480 := neB BK375 hg
   have NB480_375 := neC BK375 hg
   have NB470_480 := neB BK470 hg
   have NB480_470 := neC BK470 hg
   have NB471_480 := neB BK471 hg
   have NB480_471 := neC BK471 hg
   have NB479_480 := neB BK479 hg
   have NB480_479 := neC BK479 hg
   replace BK373 := blkB BK373 hb
   replace BK374 := blkB BK374 hb
   replace BK375 := blkB BK375 hb
   replace BK470 := blkB BK470 hb
   replace BK471 := blkB BK471 hb
   replace BK479 := blkB BK479 hb
   replace HB := stepB HB hb
   clear hb hbox hg
   refine hK.out _ _ ⟨bc BK373 0, bc BK373 1, bc BK373 2, bc BK374 0, bc BK374 1, bc BK374 2⟩ (fun hHeld => ?_)
   clear hK K
   refine normA 13 ?_
   exact norm_ (by first | (simp only [putAll, Act.put, List.setIfInBounds_toArray, List.set_cons_zero, List.set_cons_succ]; done) | (simp only [putAll, Act.put, List.setIfInBounds_toArray, List.set_cons_zero, List.set_cons_succ]; rfl)) (hJ2_5_6_7 (gb479, gb480) _ ⟨hHeld, (by (with_reducible repeat (first | refine blk_drewN ?_ _ | refine blk_drew ?_ | refine blk_alloc ?_ _)); exact BK373.out), (by (with_reducible repeat (first | refine blk_drewN ?_ _ | refine blk_drew ?_ | refine blk_alloc ?_ _)); exact BK374.out), (by (with_reducible repeat (first | refine blk_drewN ?_ _ | refine blk_drew ?_ | refine blk_alloc ?_ _)); exact BK375.out), (by (with_reducible repeat (first | refine blk_drewN ?_ _ | refine blk_drew ?_ | refine blk_alloc ?_ _)); exact BK470.out), (by (with_reducible repeat (first | refine blk_drewN ?_ _ | refine blk_drew ?_ | refine blk_alloc ?_ _)); exact BK471.out), (by (with_reducible repeat (first | refine blk_drewN ?_ _ | refine blk_drew ?_ | refine blk_alloc ?_ _)); exact BK479.out), (by (with_reducible repeat (first | refine blk_drewN ?_ _ | refine blk_drew ?_ | refine blk_alloc ?_ _)); exact BK480.out), GW479.out, GE479.out, NB373_479.out, NB479_373.out, NB374_479.out, NB479_374.out, NB375_479.out, NB479_375.out, NB470_479.out, NB479_470.out, NB471_479.out, NB479_471.out, NB480_479.out, NB479_480.out, GW480.out, GE480.out, NB373_480.out, NB480_373.out, NB374_480.out, NB480_374.out, NB375_480.out, NB480_375.out, NB470_480.out, NB480_470.out, NB471_480.out, NB480_471.out, (by repeat (first | (with_reducible first | exact HB.out | apply below_alloc | apply pw_below_drewN | apply below_drew1 | refine below_set ?_ GE373.out | refine below_set ?_ GE374.out | refine below_set ?_ GE375.out | refine below_set ?_ GE470.out | refine below_set ?_ GE471.out | refine below_set ?_ GE479.out | refine below_set ?_ GE480.out) | exact HB.out))⟩)
 rintro ⟨gb479, gb480⟩ w185 ⟨hS_, h0_, h1_, h2_, h3_, h4_, h5_, h6_, h7_, h8_, h9_, h10_, h11_, h12_, h13_, h14_, h15_, h16_, h17_, h18_, h19_, h20_, h21_, h22_, h23_, h24_, h25_, h26_, h27_, h28_, h29_, h30_, h31_, h32_, h33_⟩
 have BK479 : Aside0 (w185.heap[gb479]? = some (.cells #[.int .i64 0, .int .i64 0, .string (⟨#[]⟩ : ByteArray)] 23 (0, 0))) := ⟨h5_⟩
 have BK480 : Aside0 (w185.heap[gb480]? = some (.cells #[.int .i64 0, .int .i64 0, .string (⟨#[]⟩ : ByteArray)] 23 (0, 0))) := ⟨h6_⟩
 have GW479 : Aside0 (w.heap.size ≤ gb479) := ⟨h7_⟩
 have GE479 : Aside0 (w.heap.size ≤ gb479) := ⟨h8_⟩
 have NB373_479 : Aside0 (gb373 ≠ gb479) := ⟨h9_⟩
 have NB479_373 : Aside0 (gb479 ≠ gb373) := ⟨h10_⟩
 have NB374_479 : Aside0 (gb374 ≠ gb479) := ⟨h11_⟩
 have NB479_374 : Aside0 (gb479 ≠ gb374) := ⟨h12_⟩
 have NB375_479 : Aside0 (gb375 ≠ gb479) := ⟨h13_⟩
 have NB479_375 : Aside0 (gb479 ≠ gb375) := ⟨h14_⟩
 have NB470_479 : Aside0 (gb470 ≠ gb479) := ⟨h15_⟩
 have NB479_470 : Aside0 (gb479 ≠ gb470) := ⟨h16_⟩
 have NB471_479 : Aside0 (gb471 ≠ gb479) := ⟨h17_⟩
 have NB479_471 : Aside0 (gb479 ≠ gb471) := ⟨h18_⟩
 have NB480_479 : Aside0 (gb480 ≠ gb479) := ⟨h19_⟩
 have NB479_480 : Aside0 (gb479 ≠ gb480) := ⟨h20_⟩
 have GW480 : Aside0 (w.heap.size ≤ gb480) := ⟨h21_⟩
 have GE480 : Aside0 (w.heap.size ≤ gb480) := ⟨h22_⟩
 have NB373_480 : Aside0 (gb373 ≠ gb480) := ⟨h23_⟩
 have NB480_373 : Aside0 (gb480 ≠ gb373) := ⟨h24_⟩
 have NB374_480 : Aside0 (gb374 ≠ gb480) := ⟨h25_⟩
 have NB480_374 : Aside0 (gb480 ≠ gb374) := ⟨h26_⟩
 have NB375_480 : Aside0 (gb375 ≠ gb480) := ⟨h27_⟩
 have NB480_375 : Aside0 (gb480 ≠ gb375) := ⟨h28_⟩
 have NB470_480 : Aside0 (gb470 ≠ gb480) := ⟨h29_⟩
 have NB480_470 : Aside0 (gb480 ≠ gb470) := ⟨h30_⟩
 have NB471_480 : Aside0 (gb471 ≠ gb480) := ⟨h31_⟩
 have NB480_471 : Aside0 (gb480 ≠ gb471) := ⟨h32_⟩
 replace BK373 : Aside0 (w185.heap[gb373]? = some (.cells #[.int .i64 a0_0, .int .i64 a0_1, .string a0_2] 23 (0, 0))) := ⟨h0_⟩
 replace BK374 : Aside0 (w185.heap[gb374]? = some (.cells #[.int .i64 a1_0, .int .i64 a1_1, .string a1_2] 23 (0, 0))) := ⟨h1_⟩
 replace BK375 : Aside0 (w185.heap[gb375]? = some (.cells #[.int .i64 a2_0, .int .i64 a2_1, .string a2_2] 23 (0, 0))) := ⟨h2_⟩
 replace BK470 : Aside0 (w185.heap[gb470]? = some (.cells #[.int .i64 x471000_118, .int .i64 x471001_118, .string x471002_118] 23 (0, 0))) := ⟨h3_⟩
 replace BK471 : Aside0 (w185.heap[gb471]? = some (.cells #[.int .i64 x472000_144, .int .i64 x472001_144, .string x472002_144] 23 (0, 0))) := ⟨h4_⟩
 replace HB : Aside0 (Below w.heap.size w w185) := ⟨h33_⟩
 clear h0_ h1_ h2_ h3_ h4_ h5_ h6_ h7_ h8_ h9_ h10_ h11_ h12_ h13_ h14_ h15_ h16_ h17_ h18_ h19_ h20_ h21_ h22_ h23_ h24_ h25_ h26_ h27_ h28_ h29_ h30_ h31_ h32_ h33_
 have hHeld : w185.cell? ⟨gb373, 0, none⟩ = some (.int .i64 a0_0) ∧ w185.cell? ⟨gb373, 1, none⟩ = some (.int .i64 a0_1) ∧ w185.cell? ⟨gb373, 2, none⟩ = some (.string a0_2) ∧ w185.cell? ⟨gb374, 0, none⟩ = some (.int .i64 a1_0) ∧ w185.cell? ⟨gb374, 1, none⟩ = some (.int .i64 a1_1) ∧ w185.cell? ⟨gb374, 2, none⟩ = some (.string a1_2) := hS_
 refine norm_ (a' := ?_) ?_ ?_
 rotate_left
 ·simp only [putAll, Act.put, List.setIfInBounds_toArray, List.set_cons_zero, List.set_cons_succ]
  rfl
 refine one_ (i := 8) (N := none) #[true, true, true, true, true, true, true, true, true, false] rfl rfl (one_of HT_.out (by kernel_rfl)) (by decide) (fun K hK => ?_)
 have hs186 : w185.cell? ⟨gb479, 0, none⟩ = some (.int .i64 0) := bc BK479 0
 have hfs186 := blk_frozen BK479.out 0
 have hns186_0 := NB373_479.out
 have hns186_1 := NB374_479.out
 have hns186_2 := NB375_479.out
 have hns186_3 := NB470_479.out
 have hns186_4 := NB471_479.out
 have hns186_6 := NB480_479.out
 have hms186_0 := NB479_373.out
 have hms186_1 := NB479_374.out
 have hms186_2 := NB479_375.out
 have hms186_3 := NB479_470.out
 have hms186_4 := NB479_471.out
 have hms186_6 := NB479_480.out
 have hs187 : w185.cell? ⟨gb479, 1, none⟩ = some (.int .i64 0) := bc BK479 1
 have hfs187 := blk_frozen BK479.out 1
 have hns187_0 := NB373_479.out
 have hns187_1 := NB374_479.out
 have hns187_2 := NB375_479.out
 have hns187_3 := NB470_479.out
 have hns187_4 := NB471_479.out
 have hns187_6 := NB480_479.out
 have hms187_0 := NB479_373.out
 have hms187_1 := NB479_374.out
 have hms187_2 := NB479_375.out
 have hms187_3 := NB479_470.out
 have hms187_4 := NB479_471.out
 have hms187_6 := NB479_480.out
 have hs188 : w185.cell? ⟨gb479, 2, none⟩ = some (.string (⟨#[]⟩ : ByteArray)) := bc BK479 2
 have hfs188 := blk_frozen BK479.out 2
 have hns188_0 := NB373_479.out
 have hns188_1 := NB374_479.out
 have hns188_2 := NB375_479.out
 have hns188_3 := NB470_479.out
 have hns188_4 := NB471_479.out
 have hns188_6 := NB480_479.out
 have hms188_0 := NB479_373.out
 have hms188_1 := NB479_374.out
 have hms188_2 := NB479_375.out
 have hms188_3 := NB479_470.out
 have hms188_4 := NB479_471.out
 have hms188_6 := NB479_480.out
 refine skip_ (w1 := ?_) (by rfl) rfl ?_ ?_
 rotate_left
 ·go_simp
  rfl
 refine hK.out _ _ ⟨((cell_far (p := ⟨gb479, _, none⟩) NB373_479.out _).trans (((cell_far (p := ⟨gb479, _, none⟩) NB373_479.out _).trans (((cell_far (p := ⟨gb479, _, none⟩) NB373_479.out _).trans (hHeld.1)))))), ((cell_far (p := ⟨gb479, _, none⟩) NB373_479.out _).trans (((cell_far (p := ⟨gb479, _, none⟩) NB373_479.out _).trans (((cell_far (p := ⟨gb479, _, none⟩) NB373_479.out _).trans (hHeld.2.1)))))), ((cell_far (p := ⟨gb479, _, none⟩) NB373_479.out _).trans (((cell_far (p := ⟨gb479, _, none⟩) NB373_479.out _).trans (((cell_far (p := ⟨gb479, _, none⟩) NB373_479.out _).trans (hHeld.2.2.1)))))), ((cell_far (p := ⟨gb479, _, none⟩) NB374_479.out _).trans (((cell_far (p := ⟨gb479, _, none⟩) NB374_479.out _).trans (((cell_far (p := ⟨gb479, _, none⟩) NB374_479.out _).trans (hHeld.2.2.2.1)))))), ((cell_far (p := ⟨gb479, _, none⟩) NB374_479.out _).trans (((cell_far (p := ⟨gb479, _, none⟩) NB374_479.out _).trans (((cell_far (p := ⟨gb479, _, none⟩) NB374_479.out _).trans (hHeld.2.2.2.2.1)))))), ((cell_far (p := ⟨gb479, _, none⟩) NB374_479.out _).trans (((cell_far (p := ⟨gb479, _, none⟩) NB374_479.out _).trans (((cell_far (p := ⟨gb479, _, none⟩) NB374_479.out _).trans (hHeld.2.2.2.2.2))))))⟩ (fun hHeld => ?_)
 clear hK K
 refine one_ (i := 9) (N := none) #[true, true, true, true, true, true, true, true, true, true] rfl rfl (one_of HT_.out (by kernel_rfl)) (by decide) (fun K hK => ?_)
 have hs189 : w185.cell? ⟨gb480, 0, none⟩ = some (.int .i64 0) := bc BK480 0
 have hfs189 := blk_frozen BK480.out 0
 have hns189_0 := NB373_480.out
 have hns189_1 := NB374_480.out
 have hns189_2 := NB375_480.out
 have hns189_3 := NB470_480.out
 have hns189_4 := NB471_480.out
 have hns189_5 := NB479_480.out
 have hms189_0 := NB480_373.out
 have hms189_1 := NB480_374.out
 have hms189_2 := NB480_375.out
 have hms189_3 := NB480_470.out
 have hms189_4 := NB480_471.out
 have hms189_5 := NB480_479.out
 have hs190 : w185.cell? ⟨gb480, 1, none⟩ = some (.int .i64 0) := bc BK480 1
 have hfs190 := blk_frozen BK480.out 1
 have hns190_0 := NB373_480.out
 have hns190_1 := NB374_480.out
 have hns190_2 := NB375_480.out
 have hns190_3 := NB470_480.out
 have hns190_4 := NB471_480.out
 have hns190_5 := NB479_480.out
 have hms190_0 := NB480_373.out
 have hms190_1 := NB480_374.out
 have hms190_2 := NB480_375.out
 have hms190_3 := NB480_470.out
 have hms190_4 := NB480_471.out
 have hms190_5 := NB480_479.out
 have hs191 : w185.cell? ⟨gb480, 2, none⟩ = some (.string (⟨#[]⟩ : ByteArray)) := bc BK480 2
 have hfs191 := blk_frozen BK480.out 2
 have hns191_0 := NB373_480.out
 have hns191_1 := NB374_480.out
 have hns191_2 := NB375_480.out
 have hns191_3 := NB470_480.out
 have hns191_4 := NB471_480.out
 have hns191_5 := NB479_480.out
 have hms191_0 := NB480_373.out
 have hms191_1 := NB480_374.out
 have hms191_2 := NB480_375.out
 have hms191_3 := NB480_470.out
 have hms191_4 := NB480_471.out
 have hms191_5 := NB480_479.out
 refine skip_ (w1 := ?_) (by rfl) rfl ?_ ?_
 rotate_left
 ·go_simp
  rfl
 refine hK.out _ _ ⟨((cell_far (p := ⟨gb480, _, none⟩) NB373_480.out _).trans (((cell_far (p := ⟨gb480, _, none⟩) NB373_480.out _).trans (((cell_far (p := ⟨gb480, _, none⟩) NB373_480.out _).trans (hHeld.1)))))), ((cell_far (p := ⟨gb480, _, none⟩) NB373_480.out _).trans (((cell_far (p := ⟨gb480, _, none⟩) NB373_480.out _).trans (((cell_far (p := ⟨gb480, _, none⟩) NB373_480.out _).trans (hHeld.2.1)))))), ((cell_far (p := ⟨gb480, _, none⟩) NB373_480.out _).trans (((cell_far (p := ⟨gb480, _, none⟩) NB373_480.out _).trans (((cell_far (p := ⟨gb480, _, none⟩) NB373_480.out _).trans (hHeld.2.2.1)))))), ((cell_far (p := ⟨gb480, _, none⟩) NB374_480.out _).trans (((cell_far (p := ⟨gb480, _, none⟩) NB374_480.out _).trans (((cell_far (p := ⟨gb480, _, none⟩) NB374_480.out _).trans (hHeld.2.2.2.1)))))), ((cell_far (p := ⟨gb480, _, none⟩) NB374_480.out _).trans (((cell_far (p := ⟨gb480, _, none⟩) NB374_480.out _).trans (((cell_far (p := ⟨gb480, _, none⟩) NB374_480.out _).trans (hHeld.2.2.2.2.1)))))), ((cell_far (p := ⟨gb480, _, none⟩) NB374_480.out _).trans (((cell_far (p := ⟨gb480, _, none⟩) NB374_480.out _).trans (((cell_far (p := ⟨gb480, _, none⟩) NB374_480.out _).trans (hHeld.2.2.2.2.2))))))⟩ (fun hHeld => ?_)
 clear hK K
 refine done_ (done_of HT_.out (by kernel_rfl)) ?_
 have n0_ : Aside0 (((((((w185.setCell ⟨gb479, 0, none⟩ (.int .i64 t473)).setCell ⟨gb479, 1, none⟩ (.int .i64 t474)).setCell ⟨gb479, 2, none⟩ (.string t475)).setCell ⟨gb480, 0, none⟩ (.int .i64 t476)).setCell ⟨gb480, 1, none⟩ (.int .i64 t477)).setCell ⟨gb480, 2, none⟩ (.string t478)).heap[gb373]? = some (.cells #[.int .i64 a0_0, .int .i64 a0_1, .string a0_2] 23 (0, 0))) := ⟨by (with_reducible repeat (first | refine blk_drewN ?_ _ | refine blk_drew ?_ | refine blk_alloc ?_ _)); refine blk_far ?_ NB373_480.out _; (with_reducible repeat (first | refine blk_drewN ?_ _ | refine blk_drew ?_ | refine blk_alloc ?_ _)); refine blk_far ?_ NB373_480.out _; (with_reducible repeat (first | refine blk_drewN ?_ _ | refine blk_drew ?_ | refine blk_alloc ?_ _)); refine blk_far ?_ NB373_480.out _; (with_reducible repeat (first | refine blk_drewN ?_ _ | refine blk_drew ?_ | refine blk_alloc ?_ _)); refine blk_far ?_ NB373_479.out _; (with_reducible repeat (first | refine blk_drewN ?_ _ | refine blk_drew ?_ | refine blk_alloc ?_ _)); refine blk_far ?_ NB373_479.out _; (with_reducible repeat (first | refine blk_drewN ?_ _ | refine blk_drew ?_ | refine blk_alloc ?_ _)); refine blk_far ?_ NB373_479.out _; (with_reducible repeat (first | refine blk_drewN ?_ _ | refine blk_drew ?_ | refine blk_alloc ?_ _)); exact BK373.out⟩
 have n1_ : Aside0 (((((((w185.setCell ⟨gb479, 0, none⟩ (.int .i64 t473)).setCell ⟨gb479, 1, none⟩ (.int .i64 t474)).setCell ⟨gb479, 2, none⟩ (.string t475)).setCell ⟨gb480, 0, none⟩ (.int .i64 t476)).setCell ⟨gb480, 1, none⟩ (.int .i64 t477)).setCell ⟨gb480, 2, none⟩ (.string t478)).heap[gb374]? = some (.cells #[.int .i64 a1_0, .int .i64 a1_1, .string a1_2] 23 (0, 0))) := ⟨by (with_reducible repeat (first | refine blk_drewN ?_ _ | refine blk_drew ?_ | refine blk_alloc ?_ _)); refine blk_far ?_ NB374_480.out _; (with_reducible repeat (first | refine blk_drewN ?_ _ | refine blk_drew ?_ | refine blk_alloc ?_ _)); refine blk_far ?_ NB374_480.out _; (with_reducible repeat (first | refine blk_drewN ?_ _ | refine blk_drew ?_ | refine blk_alloc ?_ _)); refine blk_far ?_ NB374_480.out _; (with_reducible repeat (first | refine blk_drewN ?_ _ | refine blk_drew ?_ | refine blk_alloc ?_ _)); refine blk_far ?_ NB374_479.out _; (with_reducible repeat (first | refine blk_drewN ?_ _ | refine blk_drew ?_ | refine blk_alloc ?_ _)); refine blk_far ?_ NB374_479.out _; (with_reducible repeat (first | refine blk_drewN ?_ _ | refine blk_drew ?_ | refine blk_alloc ?_ _)); refine blk_far ?_ NB374_479.out _; (with_reducible repeat (first | refine blk_drewN ?_ _ | refine blk_drew ?_ | refine blk_alloc ?_ _)); exact BK374.out⟩
 have n2_ : Aside0 (((((((w185.setCell ⟨gb479, 0, none⟩ (.int .i64 t473)).setCell ⟨gb479, 1, none⟩ (.int .i64 t474)).setCell ⟨gb479, 2, none⟩ (.string t475)).setCell ⟨gb480, 0, none⟩ (.int .i64 t476)).setCell ⟨gb480, 1, none⟩ (.int .i64 t477)).setCell ⟨gb480, 2, none⟩ (.string t478)).heap[gb375]? = some (.cells #[.int .i64 a2_0, .int .i64 a2_1, .string a2_2] 23 (0, 0))) := ⟨by (with_reducible repeat (first | refine blk_drewN ?_ _ | refine blk_drew ?_ | refine blk_alloc ?_ _)); refine blk_far ?_ NB375_480.out _; (with_reducible repeat (first | refine blk_drewN ?_ _ | refine blk_drew ?_ | refine blk_alloc ?_ _)); refine blk_far ?_ NB375_480.out _; (with_reducible repeat (first | refine blk_drewN ?_ _ | refine blk_drew ?_ | refine blk_alloc ?_ _)); refine blk_far ?_ NB375_480.out _; (with_reducible repeat (first | refine blk_drewN ?_ _ | refine blk_drew ?_ | refine blk_alloc ?_ _)); refine blk_far ?_ NB375_479.out _; (with_reducible repeat (first | refine blk_drewN ?_ _ | refine blk_drew ?_ | refine blk_alloc ?_ _)); refine blk_far ?_ NB375_479.out _; (with_reducible repeat (first | refine blk_drewN ?_ _ | refine blk_drew ?_ | refine blk_alloc ?_ _)); refine blk_far ?_ NB375_479.out _; (with_reducible repeat (first | refine blk_drewN ?_ _ | refine blk_drew ?_ | refine blk_alloc ?_ _)); exact BK375.out⟩
 have n3_ : Aside0 (((((((w185.setCell ⟨gb479, 0, none⟩ (.int .i64 t473)).setCell ⟨gb479, 1, none⟩ (.int .i64 t474)).setCell ⟨gb479, 2, none⟩ (.string t475)).setCell ⟨gb480, 0, none⟩ (.int .i64 t476)).setCell ⟨gb480, 1, none⟩ (.int .i64 t477)).setCell ⟨gb480, 2, none⟩ (.string t478)).heap[gb470]? = some (.cells #[.int .i64 x471000_118, .int .i64 x471001_118, .string x471002_118] 23 (0, 0))) := ⟨by (with_reducible repeat (first | refine blk_drewN ?_ _ | refine blk_drew ?_ | refine blk_alloc ?_ _)); refine blk_far ?_ NB470_480.out _; (with_reducible repeat (first | refine blk_drewN ?_ _ | refine blk_drew ?_ | refine blk_alloc ?_ _)); refine blk_far ?_ NB470_480.out _; (with_reducible repeat (first | refine blk_drewN ?_ _ | refine blk_drew ?_ | refine blk_alloc ?_ _)); refine blk_far ?_ NB470_480.out _; (with_reducible repeat (first | refine blk_drewN ?_ _ | refine blk_drew ?_ | refine blk_alloc ?_ _)); refine blk_far ?_ NB470_479.out _; (with_reducible repeat (first | refine blk_drewN ?_ _ | refine blk_drew ?_ | refine blk_alloc ?_ _)); refine blk_far ?_ NB470_479.out _; (with_reducible repeat (first | refine blk_drewN ?_ _ | refine blk_drew ?_ | refine blk_alloc ?_ _)); refine blk_far ?_ NB470_479.out _; (with_reducible repeat (first | refine blk_drewN ?_ _ | refine blk_drew ?_ | refine blk_alloc ?_ _)); exact BK470.out⟩
 have n4_ : Aside0 (((((((w185.setCell ⟨gb479, 0, none⟩ (.int .i64 t473)).setCell ⟨gb479, 1, none⟩ (.int .i64 t474)).setCell ⟨gb479, 2, none⟩ (.string t475)).setCell ⟨gb480, 0, none⟩ (.int .i64 t476)).setCell ⟨gb480, 1, none⟩ (.int .i64 t477)).setCell ⟨gb480, 2, none⟩ (.string t478)).heap[gb471]? = some (.cells #[.int .i64 x472000_144, .int .i64 x472001_144, .string x472002_144] 23 (0, 0))) := ⟨by (with_reducible repeat (first | refine blk_drewN ?_ _ | refine blk_drew ?_ | refine blk_alloc ?_ _)); refine blk_far ?_ NB471_480.out _; (with_reducible repeat (first | refine blk_drewN ?_ _ | refine blk_drew ?_ | refine blk_alloc ?_ _)); refine blk_far ?_ NB471_480.out _; (with_reducible repeat (first | refine blk_drewN ?_ _ | refine blk_drew ?_ | refine blk_alloc ?_ _)); refine blk_far ?_ NB471_480.out _; (with_reducible repeat (first | refine blk_drewN ?_ _ | refine blk_drew ?_ | refine blk_alloc ?_ _)); refine blk_far ?_ NB471_479.out _; (with_reducible repeat (first | refine blk_drewN ?_ _ | refine blk_drew ?_ | refine blk_alloc ?_ _)); refine blk_far ?_ NB471_479.out _; (with_reducible repeat (first | refine blk_drewN ?_ _ | refine blk_drew ?_ | refine blk_alloc ?_ _)); refine blk_far ?_ NB471_479.out _; (with_reducible repeat (first | refine blk_drewN ?_ _ | refine blk_drew ?_ | refine blk_alloc ?_ _)); exact BK471.out⟩
 have n5_ : Aside0 (((((((w185.setCell ⟨gb479, 0, none⟩ (.int .i64 t473)).setCell ⟨gb479, 1, none⟩ (.int .i64 t474)).setCell ⟨gb479, 2, none⟩ (.string t475)).setCell ⟨gb480, 0, none⟩ (.int .i64 t476)).setCell ⟨gb480, 1, none⟩ (.int .i64 t477)).setCell ⟨gb480, 2, none⟩ (.string t478)).heap[gb479]? = some (.cells #[.int .i64 t473, .int .i64 t474, .string t475] 23 (0, 0))) := ⟨by (with_reducible repeat (first | refine blk_drewN ?_ _ | refine blk_drew ?_ | refine blk_alloc ?_ _)); refine blk_far ?_ NB479_480.out _; (with_reducible repeat (first | refine blk_drewN ?_ _ | refine blk_drew ?_ | refine blk_alloc ?_ _)); refine blk_far ?_ NB479_480.out _; (with_reducible repeat (first | refine blk_drewN ?_ _ | refine blk_drew ?_ | refine blk_alloc ?_ _)); refine blk_far ?_ NB479_480.out _; (with_reducible repeat (first | refine blk_drewN ?_ _ | refine blk_drew ?_ | refine blk_alloc ?_ _)); refine blk_put (cs := #[.int .i64 t473, .int .i64 t474, .string (⟨#[]⟩ : ByteArray)]) ?_ 2 _ rfl; (with_reducible repeat (first | refine blk_drewN ?_ _ | refine blk_drew ?_ | refine blk_alloc ?_ _)); refine blk_put (cs := #[.int .i64 t473, .int .i64 0, .string (⟨#[]⟩ : ByteArray)]) ?_ 1 _ rfl; (with_reducible repeat (first | refine blk_drewN ?_ _ | refine blk_drew ?_ | refine blk_alloc ?_ _)); refine blk_put (cs := #[.int .i64 0, .int .i64 0, .string (⟨#[]⟩ : ByteArray)]) ?_ 0 _ rfl; (with_reducible repeat (first | refine blk_drewN ?_ _ | refine blk_drew ?_ | refine blk_alloc ?_ _)); exact BK479.out⟩
 have n6_ : Aside0 (((((((w185.setCell ⟨gb479, 0, none⟩ (.int .i64 t473)).setCell ⟨gb479, 1, none⟩ (.int .i64 t474)).setCell ⟨gb479, 2, none⟩ (.string t475)).setCell ⟨gb480, 0, none⟩ (.int .i64 t476)).setCell ⟨gb480, 1, none⟩ (.int .i64 t477)).setCell ⟨gb480, 2, none⟩ (.string t478)).heap[gb480]? = some (.cells #[.int .i64 t476, .int .i64 t477, .string t478] 23 (0, 0))) := ⟨by (with_reducible repeat (first | refine blk_drewN ?_ _ | refine blk_drew ?_ | refine blk_alloc ?_ _)); refine blk_put (cs := #[.int .i64 t476, .int .i64 t477, .string (⟨#[]⟩ : ByteArray)]) ?_ 2 _ rfl; (with_reducible repeat (first | refine blk_drewN ?_ _ | refine blk_drew ?_ | refine blk_alloc ?_ _)); refine blk_put (cs := #[.int .i64 t476, .int .i64 0, .string (⟨#[]⟩ : ByteArray)]) ?_ 1 _ rfl; (with_reducible repeat (first | refine blk_drewN ?_ _ | refine blk_drew ?_ | refine blk_alloc ?_ _)); refine blk_put (cs := #[.int .i64 0, .int .i64 0, .string (⟨#[]⟩ : ByteArray)]) ?_ 0 _ rfl; (with_reducible repeat (first | refine blk_drewN ?_ _ | refine blk_drew ?_ | refine blk_alloc ?_ _)); refine blk_far ?_ NB480_479.out _; (with_reducible repeat (first | refine blk_drewN ?_ _ | refine blk_drew ?_ | refine blk_alloc ?_ _)); refine blk_far ?_ NB480_479.out _; (with_reducible repeat (first | refine blk_drewN ?_ _ | refine blk_drew ?_ | refine blk_alloc ?_ _)); refine blk_far ?_ NB480_479.out _; (with_reducible repeat (first | refine blk_drewN ?_ _ | refine blk_drew ?_ | refine blk_alloc ?_ _)); exact BK480.out⟩
 have n7_ : Aside0 (Below w.heap.size w ((((((w185.setCell ⟨gb479, 0, none⟩ (.int .i64 t473)).setCell ⟨gb479, 1, none⟩ (.int .i64 t474)).setCell ⟨gb479, 2, none⟩ (.string t475)).setCell ⟨gb480, 0, none⟩ (.int .i64 t476)).setCell ⟨gb480, 1, none⟩ (.int .i64 t477)).setCell ⟨gb480, 2, none⟩ (.string t478))) := ⟨by repeat (first | (with_reducible first | exact HB.out | apply below_alloc | apply pw_below_drewN | apply below_drew1 | refine below_set ?_ GE373.out | refine below_set ?_ GE374.out | refine below_set ?_ GE375.out | refine below_set ?_ GE470.out | refine below_set ?_ GE471.out | refine below_set ?_ GE479.out | refine below_set ?_ GE480.out) | exact HB.out)⟩
 (try clear BK373)
 (try clear BK374)
 (try clear BK375)
 (try clear BK470)
 (try clear BK471)
 (try clear BK479)
 (try clear BK480)
 (try clear HB)
 generalize ((((((w185.setCell ⟨gb479, 0, none⟩ (.int .i64 t473)).setCell ⟨gb479, 1, none⟩ (.int .i64 t474)).setCell ⟨gb479, 2, none⟩ (.string t475)).setCell ⟨gb480, 0, none⟩ (.int .i64 t476)).setCell ⟨gb480, 1, none⟩ (.int .i64 t477)).setCell ⟨gb480, 2, none⟩ (.string t478)) = w192 at n0_ n1_ n2_ n3_ n4_ n5_ n6_ n7_ ⊢
 have BK373 := n0_
 have BK374 := n1_
 have BK375 := n2_
 have BK470 := n3_
 have BK471 := n4_
 have BK479 := n5_
 have BK480 := n6_
 have HB := n7_
 clear n0_ n1_ n2_ n3_ n4_ n5_ n6_ n7_
 exact hK_ gb479 gb480 w192 BK373 BK374 BK375 BK470 BK471 BK479 BK480 HB GW479 GE479 GW480 GE480 NB373_479 NB373_480 NB374_479 NB374_480 NB375_479 NB375_480 NB470_479 NB470_480 NB471_479 NB471_480 NB479_373 NB480_373 NB479_374 NB480_374 NB479_375 NB480_375 NB479_470 NB480_470 NB479_471 NB480_471 NB479_480 NB480_479
end Go.Proofs.YtmhnfdgegejlkaaDoor.P
end
