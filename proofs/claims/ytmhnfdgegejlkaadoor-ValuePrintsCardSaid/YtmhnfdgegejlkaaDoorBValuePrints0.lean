/- Part 0 of the proof of ValuePrints: what the functions that it reaches answer. -/
import Derived.Test.YtmhnfdgegejlkaaDoorProg
import Derived.WalkKit
import Derived.Test.YtmhnfdgegejlkaaDoorWWordsq
import Derived.Test.YtmhnfdgegejlkaaDoorWLastq
import Derived.Below
import Derived.Deep.Draws
import Derived.Deep.AppendLies
import Derived.Maps.AppendAt
import Derived.OwnWalk
import Derived.Laws.BytesArg
import Derived.Laws.MakeOwn
import Derived.Laws.OwnMore
import Derived.Deep.OwnRows
import Derived.Tactics
import Derived.Lib.ConvBytes
import Derived.Laws.Slices
import Derived.KernelRfl
import Derived.RowKit3
import Derived.Deep.LoopGhost
import Derived.Deep.QuietTactic
import Derived.BigQuiet
import Derived.WideLaws
import Derived.Deep.DeepCutAuto
import Derived.Deep.CutBlock
import Derived.Deep.RegionHeld3
import Derived.Laws.Rows
import Derived.Lib.AppendStr
import Derived.ArgAppend
import Derived.Laws.IdiomCopy
import Derived.OrdersHeld
import Derived.Laws.BitsLemmas
import Derived.RowKit
import Derived.Test.YtmhnfdgegejlkaaDoorWTabq
import Derived.Test.YtmhnfdgegejlkaaDoorWApartq
import Derived.Test.YtmhnfdgegejlkaaDoorWFootq
import Derived.Test.YtmhnfdgegejlkaaDoorWKeptq
import Derived.Test.YtmhnfdgegejlkaaDoorWShareq
import Derived.Test.YtmhnfdgegejlkaaDoorWNq
import Derived.Test.YtmhnfdgegejlkaaDoorWEqStructq
import Derived.Test.YtmhnfdgegejlkaaDoorWRepsOneq
import Derived.Test.YtmhnfdgegejlkaaDoorWGuardq
import Derived.Test.YtmhnfdgegejlkaaDoorWMoreq
import Derived.Shelf.Strings.Builder1
import Derived.Shelf.Strings.Builder2
import Derived.Shelf.Strings.OnBuilder
import Derived.Shelf.Small.Utf8
import Derived.Shelf.Small.Strs
import Derived.Shelf.Strconv.Atoi
import Derived.Shelf.Strconv.Itoa0
import Derived.Shelf.Strconv.Itoa1
import Derived.Shelf.LaysM
import Derived.Shelf.Strconv.Itoa2
import Derived.Shelf.Strconv.Itoa3
import Derived.Shelf.Strconv.AtoiErrFast
import Derived.Shelf.Strconv.ParseIntEmpty
import Derived.Shelf.Strconv.AtoiFail
import Derived.Shelf.Strconv.Clone
import Derived.Shelf.Strconv.SyntaxError
import Derived.Shelf.LaysC
import Derived.Shelf.Strconv.ToError
import Derived.Shelf.Strconv.Lower
import Derived.Shelf.Strconv.ParseUint10
import Derived.Shelf.Strconv.ParseUint10Empty
import Derived.Shelf.Strconv.ParseUint10Any
import Derived.Shelf.Strconv.ParseInt10
import Derived.Shelf.Strconv.AtoiLong
import Derived.Shelf.Strconv.AtoiInnerAll
import Derived.Shelf.Strconv.RangeError
import Derived.Shelf.Strconv.ToErrorRange
import Derived.Shelf.Strconv.AtoiAll
import Derived.Shelf.Strconv.ErrVarAll
import Derived.Ground.MpProg
import Derived.Shelf.Pu.ParseUintPublic10
import Derived.Shelf.Pu.ErrVarParseUint
import Derived.Shelf.Unicode.Latin
import Derived.Shelf.Unicode.DecodeSlow
import Derived.Shelf.Unicode.CaseLookup
import Derived.Shelf.Unicode.CaseConvert
import Derived.Shelf.Unicode.CaseTo
import Derived.Shelf.Unicode.CaseLaid
import Derived.Lib.AppendIntMem
import Derived.Lib.LaidTab
import Derived.LaidSub
import Derived.LaidLaws
import Derived.Stop.LaidErr
import Derived.Lib.Strings
import Derived.Lib.Walk
import Derived.Lib.AtoiAllMem
import Derived.Lib.Hide
import Derived.Laws.Strings3
import Derived.Laws.Closers25
import Derived.Laws.Closers25b
import Derived.BigCall
import Derived.BigGuard
import Derived.Lib.OthersKept
import Derived.IntWalk
import Derived.Lib.Slices
import Derived.Lib.Bytealg
import Derived.Lib.SliceRun
section
namespace Go.Proofs.YtmhnfdgegejlkaaDoor.P
set_option linter.unusedSimpArgs false
set_option linter.unusedVariables false
open Go.RowKit Go.Proofs.YtmhnfdgegejlkaaDoorW.PrintWords Go.Proofs.YtmhnfdgegejlkaaDoorW.PrintLast
theorem goesV_ {P : Program} {ops : Array Oper} {Q : Exit → Act → World → Prop} {rest : List Oper} {oi : Oper} {a : Act} {w : World} (N : Option Tmp) (hd : oi.dst = N) (hg : oi.guard = none) {f : FuncId} {fn : Func} {c : Operand} {oas : Array Operand} {ts : Array TypeId} (hf : P.funcs[f]? = some fn) (hname : (fn.name == "runtime.NumGoroutine") = false) (hb : fn.body.isSome = true) (args : Array Value)
    (hop : oi.op = .call { callee := .value c, args := oas, argTypes := ts }) (hc : a.eval c = .func (.func f) #[] #[]) (hargs : oas.map a.eval = args)
    (h : Calls P f args w fun e w' => ∃ v, e = .returned v ∧ wpList P ops Q rest (a.put N v) w') : wpList P ops Q (oi :: rest) a w := by
  refine wpList_plain hg fun K hK => ?_
  have he := enters_ hf hname hb args w
  have hrun : (execOp a.eval oi).run P w = .ok (.enter f args) w := by
    unfold execOp
    simp [hop, resolve, Deferred.ofValue, invoke, hc, hargs, he]
  unfold Oper.wp
  rw [hrun, Oper.upon_enter]
  refine h.mono fun e w'' hh => ?_
  obtain ⟨v, rfl, hk⟩ := hh
  subst hd
  exact hK _ _ hk
theorem cell?_setCell_map (w : World) (a : Addr) (v : Value) : (w.setCell a v).cell? a = (w.cell? a).map fun _ => v := by
  unfold World.cell? World.setCell
  simp only [Array.getElem?_modify, if_true]
  cases h : w.heap[a.block]? with
  | none => rfl
  | some o =>
    cases o with
    | cells c e fr =>
      cases hs : a.spot with
      | some s => simp [hs]
      | none => simp only [Option.map_some, Option.isSome_none, Bool.false_eq_true, if_false, Array.getElem?_setIfInBounds_self]; by_cases hl : a.off < c.size <;> simp [hl]
    | _ => rfl
theorem bytesLess_total : ∀ a b : List UInt8, (!(Op.bytesLess a b || a == b)) = Op.bytesLess b a
  | [], [] => by simp [Op.bytesLess]
  | [], _ :: _ => by simp [Op.bytesLess]
  | _ :: _, [] => by simp [Op.bytesLess]
  | x :: a, y :: b => by
    have ih := bytesLess_total a b
    unfold Op.bytesLess
    by_cases h1 : x < y
    · have h2 : ¬ y < x := UInt8.lt_asymm h1
      have h3 : x ≠ y := by rintro rfl; exact h2 h1
      have h4 : y ≠ x := fun h => h3 h.symm
      simp [h1, h2, h3, h4]
    · by_cases h2 : y < x
      · have h3 : x ≠ y := by rintro rfl; exact h1 h2
        simp [h1, h2, h3]
      · have h3 : x = y := UInt8.le_antisymm (UInt8.not_lt.1 h2) (UInt8.not_lt.1 h1)
        subst h3
        simpa [h1] using ih
@[go_sem] theorem binOp_gtr_str (t : TypeId) (a b : ByteArray) : binOp .gtr t (.string a) (.string b) = pure (.bool (Op.bytesLess b.toList a.toList)) := by
  rw [← bytesLess_total]
  simp [binOp, Op.stringOp]
end Go.Proofs.YtmhnfdgegejlkaaDoor.P
end

section
namespace Go.Proofs.YtmhnfdgegejlkaaDoor.P
open Go.RowKit Go.Proofs.YtmhnfdgegejlkaaDoorW.PrintWords Go.Proofs.YtmhnfdgegejlkaaDoorW.PrintLast Go.Proofs.YtmhnfdgegejlkaaDoorW.PrintMore
attribute [local go_sem] max2_int min2_int max_two min_two max_three min_three max_four min_four
set_option linter.unusedVariables false
set_option linter.unusedSimpArgs false
def errW : Option Int → Value
  | none => .nilIface
  | some c => .iface 0 (.int .i64 c)
theorem errW_none : errW none = .nilIface := rfl
theorem errW_some (c : Int) : errW (some c) = .iface 0 (.int .i64 c) := rfl
theorem info3 : (Tryd.prog.info? 3).map (fun i => (i.zero, i.size, i.bytes)) = some (some (.int .i64 0), 1, 8) := by kernel_rfl
theorem info5 : (Tryd.prog.info? 5).map (fun i => (i.zero, i.size, i.bytes)) = some (some (.int .u8 0), 1, 1) := by kernel_rfl
structure S23 where
  f0 : Int
  f1 : Int
  f2 : ByteArray
def z23 : S23 := ⟨(0 : Int), (0 : Int), (⟨#[]⟩ : ByteArray)⟩
def k23 : Kd S23 := Kd.iso (Kd.pair (Kd.int .i64) (Kd.pair (Kd.int .i64) Kd.string)) (fun x : S23 => (x.f0, x.f1, x.f2))
theorem k23_open {w : World} {x : S23} {cs : List Value} (h : k23.K w x cs) : cs = [.int .i64 x.f0, .int .i64 x.f1, .string x.f2] := by
  obtain ⟨_, _, rfl, rfl, ⟨_, _, rfl, rfl, rfl⟩⟩ := h
  exact rfl
theorem k23_mkM (w : World) (base : Nat) (ok : Nat → Prop) (x : S23)  : k23.M w base ok x [.int .i64 x.f0, .int .i64 x.f1, .string x.f2] := ⟨[.int .i64 x.f0], [.int .i64 x.f1, .string x.f2], rfl, rfl, ⟨[.int .i64 x.f1], [.string x.f2], rfl, rfl, rfl⟩⟩
def rd_T23 (xs : List S23) (i : Int) : S23 := xs.getD i.toNat z23
theorem at_T23 {w : World} {A : Option Addr} {n : Nat} {xs : List S23} (h : Kd.C k23 w A n xs) (i : Int) (h0 : 0 ≤ i) (h1 : i < n) : ∃ ad , A = some ad ∧ w.cell? (ad.add (i.toNat * 3)) = some (.int .i64 (rd_T23 xs i).f0) ∧ w.cell? ⟨(ad.add (i.toNat * 3)).block, (ad.add (i.toNat * 3)).off + 1, none⟩ = some (.int .i64 (rd_T23 xs i).f1) ∧ w.cell? ⟨(ad.add (i.toNat * 3)).block, (ad.add (i.toNat * 3)).off + 2, none⟩ = some (.string (rd_T23 xs i).f2) := by
  obtain ⟨ad, c, e, _, hK, hc0⟩ := Kd.C_get h z23 i h0 h1
  have hc : ∀ j u, c[j]? = some u → w.cell? (ad.add (i.toNat * 3 + j)) = some u := hc0
  obtain rfl := k23_open hK
  exact ⟨ad, e, hc 0 _ rfl, by rw [← add_field _ _ 1 (by omega)]; exact hc 1 _ rfl, by rw [← add_field _ _ 2 (by omega)]; exact hc 2 _ rfl⟩
end Go.Proofs.YtmhnfdgegejlkaaDoor.P
end

section
namespace Go.Proofs.YtmhnfdgegejlkaaDoor.P
open Go Go.RowKit Go.Proofs.YtmhnfdgegejlkaaDoorW.PrintWords Go.Proofs.YtmhnfdgegejlkaaDoorW.PrintLast
theorem blkB {w0 w1 w' : World} {g : Nat} {o : Obj} (B : Aside0 (w0.heap[g]? = some o)) (hb : Below w1.heap.size w1 w') (h : w0.heap[g]? = some o → w1.heap[g]? = some o := by intro h; (with_reducible repeat (first | refine blk_drewN ?_ _ | refine blk_drew ?_ | refine blk_alloc ?_ _)); exact h) : Aside0 (w'.heap[g]? = some o) := ⟨blk_below (h B.out) hb⟩
theorem stepB {w w0 w1 w' : World} (HB : Aside0 (Below w.heap.size w w0)) (hb : Below w1.heap.size w1 w') (h : Below w.heap.size w w0 → Below w.heap.size w w1 := by intro h; repeat (first | (with_reducible first | exact h | apply below_alloc | apply pw_below_drewN | apply below_drew1 | (refine below_set ?_ (Aside0.out ?_); rotate_left; assumption)) | exact h)) : Aside0 (Below w.heap.size w w') := ⟨below_step (h HB.out) hb⟩
theorem sizeB {w w0 w1 : World} {g : Nat} (HB : Aside0 (Below w.heap.size w w0)) (hg : g = w1.heap.size) (h : Below w.heap.size w w0 → Below w.heap.size w w1 := by intro h; repeat (first | (with_reducible first | exact h | apply below_alloc | apply pw_below_drewN | apply below_drew1 | (refine below_set ?_ (Aside0.out ?_); rotate_left; assumption)) | exact h)) : Aside0 (w.heap.size ≤ g) := ⟨by rw [hg]; exact below_size (h HB.out)⟩
theorem neB {w0 w1 : World} {g g' : Nat} {o : Obj} (B : Aside0 (w0.heap[g]? = some o)) (hg : g' = w1.heap.size) (h : w0.heap[g]? = some o → w1.heap[g]? = some o := by intro h; (with_reducible repeat (first | refine blk_drewN ?_ _ | refine blk_drew ?_ | refine blk_alloc ?_ _)); exact h) : Aside0 (g ≠ g') := ⟨by rw [hg]; exact Nat.ne_of_lt (blk_lt (h B.out))⟩
theorem neC {w0 w1 : World} {g g' : Nat} {o : Obj} (B : Aside0 (w0.heap[g]? = some o)) (hg : g' = w1.heap.size) (h : w0.heap[g]? = some o → w1.heap[g]? = some o := by intro h; (with_reducible repeat (first | refine blk_drewN ?_ _ | refine blk_drew ?_ | refine blk_alloc ?_ _)); exact h) : Aside0 (g' ≠ g) := ⟨by rw [hg]; exact Nat.ne_of_gt (blk_lt (h B.out))⟩
section
variable {P : Program} {md : Region.Mode} {ops : Array Oper} {Q : Exit → Act → World → Prop} {S : World → Prop} {ds : List Nat}
theorem pureA {oi : Oper} {v : Value} {fuel : Nat} {l : Array Bool} {a a' : Act} {w : World} {T : Bool × List (List Nat × List Nat)} (i : Nat) (N : Tmp) (l' : Array Bool) (HT : Aside0 (rtab md ops = T)) (h : wpAnyLast P md ops Q S ds fuel l' a' w)
    (hi : ops[i]? = some oi := by rfl) (hN : oi.dst = some N := by rfl) (hc : anyT T l.toList l'.toList i = true := by kernel_rfl) (hQ : ∀ c b w, Q (.panic c) (b.put oi.dst v) w → Q (.panic c) b w := by exact fun _ _ _ h => h)
    (hy : Yields P ops oi v a := by exact Or.inl ⟨by rfl, by (intro w'; go_simp; with_reducible rfl)⟩) (ha : a.put (some N) v = a' := by (simp only [Act.put, List.setIfInBounds_toArray, List.set_cons_zero, List.set_cons_succ, i64_w, i32_w]; rfl)) : wpAnyLast P md ops Q S ds (fuel + 1) l a w :=
  pure_ l' hi hN (any_of HT.out hc) hQ hy ha h
theorem takeA {oi : Oper} {v : Value} {fuel : Nat} {l : Array Bool} {a a' : Act} {w : World} {T : Bool × List (List Nat × List Nat)} {B : List Nat} (i : Nat) (N : Tmp) (l' : Array Bool) (HT : Aside0 (rtab md ops = T)) (HW : Aside0 (waitsOk T.2 B = true)) (hS : S w) (h : wpAnyLast P md ops Q S ds fuel l' a' w)
    (hi : ops[i]? = some oi := by rfl) (hN : oi.dst = some N := by rfl) (hc : takeW T B ds l.toList l'.toList i = true := by kernel_rfl) (hQ : ∀ c b w, Q (.panic c) (b.put oi.dst v) w → Q (.panic c) b w := by exact fun _ _ _ h => h)
    (hy : YieldsIf P ops S oi v a := by exact Or.inl ⟨by rfl, by (intro w' hs; (repeat (obtain ⟨_, hs⟩ := hs)); go_simp; with_reducible rfl)⟩) (ha : a.put (some N) v = a' := by (simp only [Act.put, List.setIfInBounds_toArray, List.set_cons_zero, List.set_cons_succ, i64_w, i32_w]; rfl)) : wpAnyLast P md ops Q S ds (fuel + 1) l a w :=
  take_ l' hi hN (take_ofW HT.out HW.out hc) hQ hy hS ha h
theorem normA {fuel : Nat} {l : Array Bool} {a a' : Act} {v : Value} {w : World} (N : Tmp) (h : wpAnyLast P md ops Q S ds fuel l a' w) (ha : Act.put a (some N) v = a' := by (simp only [Act.put, List.setIfInBounds_toArray, List.set_cons_zero, List.set_cons_succ, i64_w, i32_w]; rfl)) : wpAnyLast P md ops Q S ds fuel l (Act.put a (some N) v) w := by
  subst ha
  exact h
end
theorem bc {w : World} {g t : Nat} {cs : Array Value} {v : Value} (B : Aside0 (w.heap[g]? = some (.cells cs t (0, 0)))) (i : Nat) (h : cs[i]? = some v := by rfl) : w.cell? ⟨g, i, none⟩ = some v := (blk_cell B.out i).trans h
theorem blkA {w0 w1 : World} {g : Nat} {o o' : Obj} (B : Aside0 (w0.heap[g]? = some o)) (h : w0.heap[g]? = some o → w1.heap[g]? = some o' := by intro h; (with_reducible repeat (first | exact h | refine blk_drewN ?_ _ | refine blk_drew ?_ | refine blk_alloc ?_ _ | (refine blk_far ?_ (Aside0.out ?_) _; rotate_left; assumption) | apply blk_put)); all_goals rfl) : Aside0 (w1.heap[g]? = some o') := ⟨h B.out⟩
theorem blkC {w0 w1 w' : World} {g t : Nat} {o : Obj} {cs : Array Value} (B : Aside0 (w0.heap[g]? = some o)) (hb : Below w1.heap.size w1 w') (h : w0.heap[g]? = some o → w1.heap[g]? = some (.cells cs t (0, 0)) := by intro h; (with_reducible repeat (first | exact h | refine blk_drewN ?_ _ | refine blk_drew ?_ | refine blk_alloc ?_ _ | (refine blk_far ?_ (Aside0.out ?_) _; rotate_left; assumption) | apply blk_put)); all_goals rfl) : Aside0 (w'.heap[g]? = some (.cells cs t (0, 0))) := ⟨blk_below (h B.out) hb⟩
theorem belA {w w0 w1 : World} (HB : Aside0 (Below w.heap.size w w0)) (h : Below w.heap.size w w0 → Below w.heap.size w w1 := by intro h; repeat (first | (with_reducible first | exact h | apply below_alloc | apply pw_below_drewN | apply below_drew1 | (refine below_set ?_ (Aside0.out ?_); rotate_left; assumption)) | exact h)) : Aside0 (Below w.heap.size w w1) := ⟨h HB.out⟩
end Go.Proofs.YtmhnfdgegejlkaaDoor.P
end

section
namespace Go.Proofs.YtmhnfdgegejlkaaDoor.P
open Go.RowKit Go.Proofs.YtmhnfdgegejlkaaDoorW.PrintWords Go.Proofs.YtmhnfdgegejlkaaDoorW.PrintLast Go.Proofs.YtmhnfdgegejlkaaDoorW.PrintMore
attribute [local go_sem] max2_int min2_int max_two min_two max_three min_three max_four min_four
set_option linter.unusedVariables false
set_option linter.unusedSimpArgs false
theorem eqA23 (d : Nat) (w : World) (x0 y0 : Int) (x1 y1 : Int) (x2 y2 : ByteArray) :
    (Op.equalIn (d + 2) 23 (.agg #[.int .i64 x0, .int .i64 x1, .string x2]) (.agg #[.int .i64 y0, .int .i64 y1, .string y2])).run Tryd.prog w = .ok (x0 == y0 && (x1 == y1 && (x2.toList == y2.toList))) w := by
  refine eqA_of Tryd.underlying23 (by kernel_rfl) ?_
  refine eqf_cons (by rfl) (by go_simp; rfl) (by go_simp; rfl) (by go_simp) ?_
  refine eqf_cons (by rfl) (by go_simp; rfl) (by go_simp; rfl) (by go_simp) ?_
  exact eqf_last (by rfl) (by go_simp; rfl) (by go_simp; rfl) (by go_simp)
end Go.Proofs.YtmhnfdgegejlkaaDoor.P
end

section
namespace Go.Proofs
open Go.Shelf
def Tryd.laysM171_ren : Go.Shelf.Ren := ⟨fun | 171 => 53 | 243 => 73 | 246 => 83 | 283 => 96 | 284 => 97 | 285 => 98 | 286 => 99 | 129 => 112 | 317 => 111 | 318 => 113 | 319 => 114 | 320 => 115 | 337 => 121 | 338 => 122 | n => n, fun | 3 => 3 | 9 => 9 | 2 => 2 | 4 => 4 | 171 => 104 | 0 => 0 | 53 => 82 | 37 => 63 | 5 => 5 | 173 => 107 | 212 => 122 | 51 => 123 | 20 => 20 | 213 => 124 | 46 => 65 | 232 => 144 | 233 => 145 | n => n, fun | 17 => 3 | 18 => 7 | 19 => 8 | n => n⟩
theorem Tryd.laysM171 : Go.Proofs.LaysM.n171 Tryd.prog Tryd.laysM171_ren := {
  mixed := by kernel_rfl
  f129 := Tryd.func112.trans (congrArg some (by kernel_rfl))
  f171 := Tryd.func53.trans (congrArg some (by kernel_rfl))
  f243 := Tryd.func73.trans (congrArg some (by kernel_rfl))
  f246 := Tryd.func83.trans (congrArg some (by kernel_rfl))
  f283 := Tryd.func96.trans (congrArg some (by kernel_rfl))
  f284 := Tryd.func97.trans (congrArg some (by kernel_rfl))
  f285 := Tryd.func98.trans (congrArg some (by kernel_rfl))
  f286 := Tryd.func99.trans (congrArg some (by kernel_rfl))
  f317 := Tryd.func111.trans (congrArg some (by kernel_rfl))
  f318 := Tryd.func113.trans (congrArg some (by kernel_rfl))
  f319 := Tryd.func114.trans (congrArg some (by kernel_rfl))
  f320 := Tryd.func115.trans (congrArg some (by kernel_rfl))
  f337 := Tryd.func121.trans (congrArg some (by kernel_rfl))
  f338 := Tryd.func122.trans (congrArg some (by kernel_rfl))
  t0 := Tryd.underlying0
  a0 := Tryd.isAgg0
  z0 := Tryd.sizeOf0
  v0 := Tryd.zeroValue0
  t2 := Tryd.underlying2
  a2 := Tryd.isAgg2
  z2 := Tryd.sizeOf2
  v2 := Tryd.zeroValue2
  t3 := Tryd.underlying3
  a3 := Tryd.isAgg3
  z3 := Tryd.sizeOf3
  v3 := Tryd.zeroValue3
  t4 := Tryd.underlying4
  a4 := Tryd.isAgg4
  z4 := Tryd.sizeOf4
  v4 := Tryd.zeroValue4
  t5 := Tryd.underlying5
  a5 := Tryd.isAgg5
  z5 := Tryd.sizeOf5
  v5 := Tryd.zeroValue5
  t9 := Tryd.underlying9
  a9 := Tryd.isAgg9
  z9 := Tryd.sizeOf9
  v9 := Tryd.zeroValue9
  t20 := Tryd.underlying20
  a20 := Tryd.isAgg20
  z20 := Tryd.sizeOf20
  v20 := Tryd.zeroValue20
  t37 := Tryd.underlying63
  a37 := Tryd.isAgg63
  z37 := Tryd.sizeOf63
  v37 := Tryd.zeroValue63
  t46 := Tryd.underlying65
  a46 := Tryd.isAgg65
  z46 := Tryd.sizeOf65
  v46 := Tryd.zeroValue65
  t51 := Tryd.underlying123
  a51 := Tryd.isAgg123
  z51 := Tryd.sizeOf123
  v51 := Tryd.zeroValue123
  t53 := Tryd.underlying82
  a53 := Tryd.isAgg82
  z53 := Tryd.sizeOf82
  v53 := Tryd.zeroValue82
  t171 := Tryd.underlying104
  a171 := Tryd.isAgg104
  z171 := Tryd.sizeOf104
  v171 := Tryd.zeroValue104
  t173 := Tryd.underlying107
  a173 := Tryd.isAgg107
  z173 := Tryd.sizeOf107
  v173 := Tryd.zeroValue107
  t212 := Tryd.underlying122
  a212 := Tryd.isAgg122
  z212 := Tryd.sizeOf122
  v212 := Tryd.zeroValue122
  t213 := Tryd.underlying124
  a213 := Tryd.isAgg124
  z213 := Tryd.sizeOf124
  t232 := Tryd.underlying144
  a232 := Tryd.isAgg144
  z232 := Tryd.sizeOf144
  v232 := Tryd.zeroValue144
  t233 := Tryd.underlying145
  a233 := Tryd.isAgg145
  z233 := Tryd.sizeOf145
  v233 := Tryd.zeroValue145
  g17 := by kernel_rfl
  g18 := by kernel_rfl
  g19 := by kernel_rfl
  i0 := by kernel_rfl
  i2 := by kernel_rfl
  i3 := by kernel_rfl
  i4 := by kernel_rfl
  i5 := by kernel_rfl
  i9 := by kernel_rfl
  i20 := by kernel_rfl
  i37 := by kernel_rfl
  i46 := by kernel_rfl
  i51 := by kernel_rfl
  i53 := by kernel_rfl
  i171 := by kernel_rfl
  i173 := by kernel_rfl
  i212 := by kernel_rfl
  i232 := by kernel_rfl
  i233 := by kernel_rfl
  m17 := by kernel_rfl
  m18 := by kernel_rfl
  m19 := by kernel_rfl }
open Go.RowKit Go.Sort Go.Lib in
theorem Tryd.strconv_Itoa (n : Int) (h0 : -9223372036854775808 ≤ n) (h1 : n ≤ 9223372036854775807) (w : World) (htab : Lib.TabIs Tryd.prog w "internal/strconv.uint64pow10" .u64 Lib.pow10Tab) :
    Calls Tryd.prog 53 #[.int .i64 n] w fun e w' => e = .returned (.string ⟨(Lib.itoa n).toArray⟩) ∧ ∃ k os, w' = grow (w.drewN k) os := Any.strconv_Itoa Tryd.laysM171 n h0 h1 w htab
end Go.Proofs
end

section
namespace Go.Proofs.YtmhnfdgegejlkaaDoor.P
open Go Go.RowKit Go.Proofs.YtmhnfdgegejlkaaDoorW.PrintWords Go.Proofs.YtmhnfdgegejlkaaDoorW.PrintLast
def TabW (w : World) : Prop := Lib.TabIs Tryd.prog w "internal/strconv.uint64pow10" .u64 Lib.pow10Tab ∧ (∃ tp p, w.var? Tryd.prog "strconv.ErrSyntax" = some #[.iface tp p]) ∧ (∃ tp p, w.var? Tryd.prog "strconv.ErrRange" = some #[.iface tp p])
theorem tab_at : Tryd.prog.globalNamed "internal/strconv.uint64pow10" = some 3 := by kernel_rfl
theorem syn_at : Tryd.prog.globalNamed "strconv.ErrSyntax" = some 1 := by kernel_rfl
theorem ran_at : Tryd.prog.globalNamed "strconv.ErrRange" = some 2 := by kernel_rfl
theorem var_below {w w' : World} {n : String} {g : Nat} {cs : Array Value} (hg : Tryd.prog.globalNamed n = some g) (h : w.var? Tryd.prog n = some cs) (hb : Below w.heap.size w w') : w'.var? Tryd.prog n = some cs := by
  unfold World.var? at h ⊢
  rw [hg] at h ⊢
  simp only [Option.bind_some] at h ⊢
  have hlt : g < w.heap.size := by
    rcases Nat.lt_or_ge g w.heap.size with h' | h'
    · exact h'
    · rw [Array.getElem?_eq_none h'] at h; cases h
  rw [hb.block _ hlt]
  exact h
theorem tab_below {w w' : World} (h : TabW w) (hb : Below w.heap.size w w') : TabW w' := by
  obtain ⟨h1, ⟨tp, p, h2⟩, ⟨tq, q, h3⟩⟩ := h
  refine ⟨?_, ⟨tp, p, var_below syn_at h2 hb⟩, ⟨tq, q, var_below ran_at h3 hb⟩⟩
  unfold Lib.TabIs World.var? at h1 ⊢
  rw [tab_at] at h1 ⊢
  simp only [Option.bind_some] at h1 ⊢
  have hlt : 3 < w.heap.size := by
    rcases Nat.lt_or_ge 3 w.heap.size with h' | h'
    · exact h'
    · rw [Array.getElem?_eq_none h'] at h1; cases h1
  rw [hb.block _ hlt]
  exact h1
theorem starES : "*" ++ "errors.errorString" = "*errors.errorString" := by decide
theorem rowES (u : TypeId) (h : Tryd.prog.typeName? 3 u = some "*errors.errorString") : u = 133 :=
  typeName_ptr_named (nm := "errors.errorString") (by rw [starES]; kernel_rfl) (by kernel_rfl) (by decide) u (by rw [starES]; exact h)
theorem sent_of {W : World} {l : List (String × DataW Unit)} {n : String} {g : Nat} {text : List UInt8} (hl : (l.filter fun x => x.1 == n) = [(n, .iface "*errors.errorString" (.ptr (.agg [.lit (.string text)])))])
    (hs : ([((n : String), (.iface "*errors.errorString" (.ptr (.agg [.lit (.string text)])) : DataW Unit))].filter fun x => x.2.handleName?.isNone) = [(n, .iface "*errors.errorString" (.ptr (.agg [.lit (.string text)])))])
    (hg : Tryd.prog.globalNamed n = some g) (ht : (Tryd.prog.globals[g]?).map (·.type) = some 74) (h : laidMetH Tryd.prog l W) : ∃ tp p, W.var? Tryd.prog n = some #[.iface tp p] := by
  have h1 := laidMetH.filter (fun x => x.1 == n) h
  rw [hl] at h1
  have h2 := (laidMetH_iff.1 h1).1
  rw [hs] at h2
  obtain ⟨a0, s0, hv0, -, -, -⟩ := laid_sentinel h2 hg ht Tryd.underlying74 rowES Tryd.underlying133 Tryd.underlying135 rfl rfl Tryd.underlying9 (by kernel_rfl) (by kernel_rfl)
  exact ⟨_, _, hv0⟩
theorem tabW_of {W : World} {l : List (String × DataW Unit)} (hl : (l.filter fun x => x.1 == "internal/strconv.uint64pow10") = [("internal/strconv.uint64pow10", Lib.tabData .u64 Lib.pow10Tab)])
    (hs : (l.filter fun x => x.1 == "strconv.ErrSyntax") = [("strconv.ErrSyntax", .iface "*errors.errorString" (.ptr (.agg [.lit (.string [105, 110, 118, 97, 108, 105, 100, 32, 115, 121, 110, 116, 97, 120])])))])
    (hr : (l.filter fun x => x.1 == "strconv.ErrRange") = [("strconv.ErrRange", .iface "*errors.errorString" (.ptr (.agg [.lit (.string [118, 97, 108, 117, 101, 32, 111, 117, 116, 32, 111, 102, 32, 114, 97, 110, 103, 101])])))])
    (h : laidMetH Tryd.prog l W) : TabW W := by
  refine ⟨?_, sent_of hs (by kernel_rfl) syn_at (by kernel_rfl) h, sent_of hr (by kernel_rfl) ran_at (by kernel_rfl) h⟩
  have h1 := laidMetH.filter (fun x => x.1 == "internal/strconv.uint64pow10") h
  rw [hl] at h1
  have h2 := (laidMetH_iff.1 h1).1
  rw [show ([(("internal/strconv.uint64pow10" : String), (Lib.tabData .u64 Lib.pow10Tab : DataW Unit))].filter fun x => x.2.handleName?.isNone) = [("internal/strconv.uint64pow10", Lib.tabData .u64 Lib.pow10Tab)] from by kernel_rfl] at h2
  exact Lib.tabIs_of_head (g := 3) (t := 122) (e := 82) (n := 20) tab_at (by kernel_rfl) Tryd.underlying122 Tryd.underlying82 (by kernel_rfl) (by kernel_rfl) h2
def strconv_ItoaT.f (a0 : Int) : Option ByteArray := if -9223372036854775808 ≤ a0 ∧ a0 ≤ 9223372036854775807 then some ⟨(Lib.itoa a0).toArray⟩ else none
theorem strconv_ItoaT.calls (a0 : Int) (r : ByteArray) (w : World) (htab : TabW w) (h : strconv_ItoaT.f a0 = some r) :
    Calls Tryd.prog 53 #[.int .i64 a0] w fun e w' => e = .returned (.string r) ∧ Below w.heap.size w w' := by
  unfold strconv_ItoaT.f at h
  by_cases hr : -9223372036854775808 ≤ a0 ∧ a0 ≤ 9223372036854775807
  · rw [if_pos hr] at h
    obtain rfl := Option.some.inj h
    refine (Tryd.strconv_Itoa a0 hr.1 hr.2 w htab.1).mono fun e w' hh => ?_
    obtain ⟨rfl, k, os, rfl⟩ := hh
    exact ⟨rfl, Lib.below_grow _ _ (Nat.le_refl _) _ _⟩
  · rw [if_neg hr] at h; cases h
end Go.Proofs.YtmhnfdgegejlkaaDoor.P
end

section
namespace Go.Proofs.YtmhnfdgegejlkaaDoor.P
open Go Go.RowKit Go.Proofs.YtmhnfdgegejlkaaDoorW.PrintWords Go.Proofs.YtmhnfdgegejlkaaDoorW.PrintLast
def hexd (c : Nat) : Option Nat := if 48 ≤ c ∧ c ≤ 57 then some (c - 48) else if 97 ≤ c ∧ c ≤ 102 then some (c - 87) else if 65 ≤ c ∧ c ≤ 70 then some (c - 55) else none
def phex : Nat → List UInt8 → Option Nat
  | acc, [] => some acc
  | acc, c :: r => match hexd c.toNat with
    | none => none
    | some d => phex (acc * 16 + d) r
theorem lower_any (c : Int) (w : World) : Calls Tryd.prog 100 #[.int .u8 c] w fun e w' => e = .returned (.int .u8 (bits .or .u8 c 32)) ∧ w' = w := by
  go_enter Tryd.func100, Tryd.ntmps100
  go_wp2
  go_ret
  exact ⟨rfl, rfl⟩
theorem lowv : ∀ c : Nat, c < 256 → (bits .or .u8 (c : Int) 32 = (if 32 ≤ c % 64 then c else c + 32 : Nat)) := by decide +kernel
def hexTup : Option Nat → Value
  | some n => .tuple #[.int .u64 n, .nilIface]
  | none => .tuple #[.int .u64 0, .iface 98 (.int .i64 2)]
set_option maxHeartbeats 8000000 in
set_option maxRecDepth 100000 in
theorem inner_ParseUint16 (t : ByteArray) (h2 : t.size = 2) (w : World) :
    Calls Tryd.prog 84 #[.string t, .int .i64 16, .int .i64 8] w fun e w' => e = .returned (hexTup (phex 0 t.data.toList)) ∧ w' = Lib.bytesWorld w 5 t := by
  have hemp : t.toList.isEmpty = false := by
    rw [← decide_eq_emptyBytes]
    exact decide_eq_false (fun h => by rw [h] at h2; cases h2)
  have hcv := Lib.run_convert_string_bytes (P := Tryd.prog) w 9 63 5 t (u := .string) Tryd.underlying9 Tryd.underlying63 Tryd.underlying5
  have hB : ∀ j, j < t.size → (Lib.bytesWorld w 5 t).cell? ⟨w.heap.size, j, none⟩ = some (.int .u8 (t.data.toList.getD j 0).toNat) := fun j hj => Lib.bytesWorld_cell w 5 t j hj
  obtain ⟨W1, hW1⟩ : ∃ W1, W1 = Lib.bytesWorld w 5 t := ⟨_, rfl⟩
  rw [← hW1] at hcv hB ⊢
  clear hW1
  obtain ⟨bs, hL⟩ : ∃ bs, bs = t.data.toList := ⟨_, rfl⟩
  have hLn : bs.length = t.size := by rw [hL, Lib.size_eq]
  rw [← hL] at hB ⊢
  clear hL
  have hmv : IntKind.u64.wrap (IntKind.u64.wrap 256 - 1) = 255 := by
    rw [IntKind.wrap_u64, IntKind.wrap_u64]
    decide
  have hsz := Lib.hid h2
  have hmax : t.size ≤ 2 := by omega
  clear h2
  go_enter Tryd.func84, Tryd.ntmps84
  go_wp2
  go_loop [12, 13, 101] (fun vu vn vi => ∃ (k acc : Nat) (a : Int), vu = .bool false ∧ vn = .int .u64 a ∧ vi = .int .i64 k ∧ k ≤ t.size ∧ Hid (a = (acc : Int) ∧ acc < 256 ∧ (k ≤ 1 → acc < 16) ∧ (k = 0 → acc = 0) ∧ phex 0 bs = phex acc (bs.drop k)))
    (fun _ _ vi => t.size - (intOf vi).toNat)
  case atStart => exact ⟨0, 0, 0, rfl, rfl, rfl, by omega, rfl, by omega, by omega, by omega, rfl⟩
  case round =>
    obtain ⟨k, acc, a, rfl, rfl, rfl, hk, hh⟩ := hrel
    obtain ⟨haa, hacc, hacc2, hacc0, hdec⟩ := hh.out
    clear hh
    by_cases hkn : k < t.size
    · have ha : acc < 16 := hacc2 (by omega)
      have ha0 : 0 ≤ a := by omega
      have ha1 : a < 16 := by omega
      have hc := hB k hkn
      have hdrop : bs.drop k = bs[k]'(by omega) :: bs.drop (k + 1) := List.drop_eq_getElem_cons (by omega)
      have hget : bs.getD k 0 = bs[k]'(by omega) := by simp [List.getD, List.getElem?_eq_getElem (show k < bs.length by omega)]
      rw [hdrop] at hdec
      rw [hget] at hc
      generalize bs[k]'(by omega) = c at hc hdec
      have hc256 : c.toNat < 256 := c.toNat_lt
      clear hB hdrop hget hacc2
      have hlow := lowv c.toNat hc256
      by_cases hdig : 48 ≤ c.toNat ∧ c.toNat ≤ 57
      · obtain ⟨hd0, hd1⟩ := hdig
        have hF : phex acc (c :: bs.drop (k + 1)) = phex (acc * 16 + (c.toNat - 48)) (bs.drop (k + 1)) := by simp [phex, hexd, hd0, hd1]
        have HN : Hid (a * 16 + ((c.toNat : Int) - 48) = ((acc * 16 + (c.toNat - 48) : Nat) : Int) ∧ acc * 16 + (c.toNat - 48) < 256 ∧ (k + 1 ≤ 1 → acc * 16 + (c.toNat - 48) < 16) ∧ (k + 1 = 0 → acc * 16 + (c.toNat - 48) = 0) ∧ phex 0 bs = phex (acc * 16 + (c.toNat - 48)) (bs.drop (k + 1))) := Lib.hid ⟨by omega, by omega, fun hk0 => by have := hacc0 (by omega); omega, by omega, hdec.trans hF⟩
        clear hF hdec hlow hacc ha hacc0 haa
        go_wp2
        refine ⟨⟨k + 1, acc * 16 + (c.toNat - 48), a * 16 + ((c.toNat : Int) - 48), rfl, (by first | rfl | (congr 1; omega)), (by first | rfl | (congr 1; omega)), by omega, HN⟩, by simp [intOf]; omega⟩
      · have hnd : (c.toNat : Int) < 48 ∨ 57 < (c.toNat : Int) := by omega
        by_cases hlo : 97 ≤ c.toNat ∧ c.toNat ≤ 102
        · obtain ⟨hd0, hd1⟩ := hlo
          have hF : phex acc (c :: bs.drop (k + 1)) = phex (acc * 16 + (c.toNat - 87)) (bs.drop (k + 1)) := by simp [phex, hexd, hd0, hd1, hdig]
          have HN : Hid (a * 16 + ((c.toNat : Int) - 97 + 10) = ((acc * 16 + (c.toNat - 87) : Nat) : Int) ∧ acc * 16 + (c.toNat - 87) < 256 ∧ (k + 1 ≤ 1 → acc * 16 + (c.toNat - 87) < 16) ∧ (k + 1 = 0 → acc * 16 + (c.toNat - 87) = 0) ∧ phex 0 bs = phex (acc * 16 + (c.toNat - 87)) (bs.drop (k + 1))) := Lib.hid ⟨by omega, by omega, fun hk0 => by have := hacc0 (by omega); omega, by omega, hdec.trans hF⟩
          have hl2 : bits .or .u8 (c.toNat : Int) 32 = (c.toNat : Int) := by rw [hlow, if_pos (by omega)]
          clear hF hdec hlow hacc ha hacc0 haa hdig hnd
          go_wp2_with (go_at_call 100; refine (lower_any _ _).mono ?_; rintro e w' ⟨rfl, rfl⟩; try rw [hl2])
          refine ⟨⟨k + 1, acc * 16 + (c.toNat - 87), a * 16 + ((c.toNat : Int) - 97 + 10), rfl, (by first | rfl | (congr 1; omega)), (by first | rfl | (congr 1; omega)), by omega, HN⟩, by simp [intOf]; omega⟩
        · by_cases hup : 65 ≤ c.toNat ∧ c.toNat ≤ 70
          · obtain ⟨hd0, hd1⟩ := hup
            have hF : phex acc (c :: bs.drop (k + 1)) = phex (acc * 16 + (c.toNat - 55)) (bs.drop (k + 1)) := by simp [phex, hexd, hd0, hd1, hdig, hlo]
            have HN : Hid (a * 16 + ((c.toNat : Int) + 32 - 97 + 10) = ((acc * 16 + (c.toNat - 55) : Nat) : Int) ∧ acc * 16 + (c.toNat - 55) < 256 ∧ (k + 1 ≤ 1 → acc * 16 + (c.toNat - 55) < 16) ∧ (k + 1 = 0 → acc * 16 + (c.toNat - 55) = 0) ∧ phex 0 bs = phex (acc * 16 + (c.toNat - 55)) (bs.drop (k + 1))) := Lib.hid ⟨by omega, by omega, fun hk0 => by have := hacc0 (by omega); omega, by omega, hdec.trans hF⟩
            have hl2 : bits .or .u8 (c.toNat : Int) 32 = (c.toNat : Int) + 32 := by rw [hlow, if_neg (by omega)]; omega
            have hnd : 57 < (c.toNat : Int) := by omega
            clear hF hdec hlow hacc ha hacc0 haa hdig hlo
            go_wp2_with (go_at_call 100; refine (lower_any _ _).mono ?_; rintro e w' ⟨rfl, rfl⟩; try rw [hl2])
            refine ⟨⟨k + 1, acc * 16 + (c.toNat - 55), a * 16 + ((c.toNat : Int) + 32 - 97 + 10), rfl, (by first | rfl | (congr 1; omega)), (by first | rfl | (congr 1; omega)), by omega, HN⟩, by simp [intOf]; omega⟩
          · have hF : phex acc (c :: bs.drop (k + 1)) = none := by simp [phex, hexd, hdig, hlo, hup]
            rw [hF] at hdec
            obtain ⟨v, hv, hv0, hv1, hv2⟩ : ∃ v : Int, bits .or .u8 (c.toNat : Int) 32 = v ∧ 0 ≤ v ∧ v ≤ 255 ∧ (v < 97 ∨ 103 ≤ v) := by
              refine ⟨_, rfl, ?_⟩
              rw [hlow]
              split <;> omega
            have hne95 : bits .or .u8 95 32 = (127 : Int) := by decide
            clear hF hlow hacc ha hacc0 haa hdig hlo hup
            have HV := Lib.hid hv
            clear hv
            rcases hv2 with hv2 | hv2
            · go_wp2_with (go_at_call 100; refine (lower_any _ _).mono ?_; rintro e w' ⟨rfl, rfl⟩; first | rw [HV.out] | rw [hne95] | skip)
              all_goals go_ret2
              all_goals first | exact ⟨rfl, rfl⟩ | exact ⟨by rw [hdec]; rfl, rfl⟩
            · by_cases hv3 : v ≤ 122
              · go_wp2_with (go_at_call 100; refine (lower_any _ _).mono ?_; rintro e w' ⟨rfl, rfl⟩; first | rw [HV.out] | rw [hne95] | skip)
                all_goals go_ret2
                all_goals first | exact ⟨rfl, rfl⟩ | exact ⟨by rw [hdec]; rfl, rfl⟩
              · go_wp2_with (go_at_call 100; refine (lower_any _ _).mono ?_; rintro e w' ⟨rfl, rfl⟩; first | rw [HV.out] | rw [hne95] | skip)
                all_goals go_ret2
                all_goals first | exact ⟨rfl, rfl⟩ | exact ⟨by rw [hdec]; rfl, rfl⟩
    ·
      have hkk : k = t.size := by omega
      subst hkk
      have hF : phex acc (bs.drop t.size) = some acc := by rw [List.drop_eq_nil_of_le (by omega)]; rfl
      rw [hF] at hdec
      subst haa
      clear hF hacc hacc2 hacc0
      go_wp2
      go_ret2
      exact ⟨rfl, rfl⟩
end Go.Proofs.YtmhnfdgegejlkaaDoor.P
end

section
namespace Go.Proofs
open Go.Shelf
def Tryd.lays159_ren : Go.Shelf.Ren := ⟨fun | 159 => 77 | 165 => 85 | 166 => 86 | 167 => 87 | 169 => 88 | 230 => 89 | 204 => 90 | 240 => 102 | 241 => 103 | 197 => 104 | 118 => 105 | 168 => 106 | 270 => 107 | 262 => 108 | 276 => 116 | 277 => 117 | 260 => 118 | 242 => 119 | 313 => 120 | 278 => 123 | 274 => 124 | 275 => 125 | n => n, fun | 9 => 9 | 4 => 4 | 3 => 3 | 5 => 5 | 72 => 92 | 0 => 0 | 76 => 75 | 75 => 74 | 107 => 97 | 70 => 90 | 20 => 20 | 37 => 63 | 127 => 110 | 21 => 21 | 105 => 111 | 164 => 126 | 162 => 132 | 203 => 130 | 119 => 137 | 46 => 65 | 139 => 140 | 138 => 139 | 51 => 123 | 160 => 141 | 208 => 149 | 206 => 147 | 80 => 95 | n => n, fun | 13 => 4 | 3 => 5 | 4 => 6 | n => n⟩
theorem Tryd.lays159 : Go.Proofs.Lays.n159 Tryd.prog Tryd.lays159_ren := {
  mixed := by kernel_rfl
  f118 := Tryd.func105.trans (congrArg some (by kernel_rfl))
  f159 := Tryd.func77.trans (congrArg some (by kernel_rfl))
  f165 := Tryd.func85.trans (congrArg some (by kernel_rfl))
  f166 := Tryd.func86.trans (congrArg some (by kernel_rfl))
  f167 := Tryd.func87.trans (congrArg some (by kernel_rfl))
  f168 := Tryd.func106.trans (congrArg some (by kernel_rfl))
  f169 := Tryd.func88.trans (congrArg some (by kernel_rfl))
  f197 := Tryd.func104.trans (congrArg some (by kernel_rfl))
  f204 := Tryd.func90.trans (congrArg some (by kernel_rfl))
  f230 := Tryd.func89.trans (congrArg some (by kernel_rfl))
  f240 := Tryd.func102.trans (congrArg some (by kernel_rfl))
  f241 := Tryd.func103.trans (congrArg some (by kernel_rfl))
  f242 := Tryd.func119.trans (congrArg some (by kernel_rfl))
  f260 := Tryd.func118.trans (congrArg some (by kernel_rfl))
  f262 := Tryd.func108.trans (congrArg some (by kernel_rfl))
  f270 := Tryd.func107.trans (congrArg some (by kernel_rfl))
  f274 := Tryd.func124.trans (congrArg some (by kernel_rfl))
  f275 := Tryd.func125.trans (congrArg some (by kernel_rfl))
  f276 := Tryd.func116.trans (congrArg some (by kernel_rfl))
  f277 := Tryd.func117.trans (congrArg some (by kernel_rfl))
  f278 := Tryd.func123.trans (congrArg some (by kernel_rfl))
  f313 := Tryd.func120.trans (congrArg some (by kernel_rfl))
  t0 := Tryd.underlying0
  a0 := Tryd.isAgg0
  z0 := Tryd.sizeOf0
  v0 := Tryd.zeroValue0
  t3 := Tryd.underlying3
  a3 := Tryd.isAgg3
  z3 := Tryd.sizeOf3
  v3 := Tryd.zeroValue3
  t4 := Tryd.underlying4
  a4 := Tryd.isAgg4
  z4 := Tryd.sizeOf4
  v4 := Tryd.zeroValue4
  t5 := Tryd.underlying5
  a5 := Tryd.isAgg5
  z5 := Tryd.sizeOf5
  v5 := Tryd.zeroValue5
  t9 := Tryd.underlying9
  a9 := Tryd.isAgg9
  z9 := Tryd.sizeOf9
  v9 := Tryd.zeroValue9
  t20 := Tryd.underlying20
  a20 := Tryd.isAgg20
  z20 := Tryd.sizeOf20
  v20 := Tryd.zeroValue20
  t21 := Tryd.underlying21
  a21 := Tryd.isAgg21
  z21 := Tryd.sizeOf21
  v21 := Tryd.zeroValue21
  t37 := Tryd.underlying63
  a37 := Tryd.isAgg63
  z37 := Tryd.sizeOf63
  v37 := Tryd.zeroValue63
  t46 := Tryd.underlying65
  a46 := Tryd.isAgg65
  z46 := Tryd.sizeOf65
  v46 := Tryd.zeroValue65
  t51 := Tryd.underlying123
  a51 := Tryd.isAgg123
  z51 := Tryd.sizeOf123
  v51 := Tryd.zeroValue123
  t70 := Tryd.underlying90
  a70 := Tryd.isAgg90
  z70 := Tryd.sizeOf90
  v70 := Tryd.zeroValue90
  t72 := Tryd.underlying92
  a72 := Tryd.isAgg92
  z72 := Tryd.sizeOf92
  v72 := Tryd.zeroValue92
  t75 := Tryd.underlying74
  a75 := Tryd.isAgg74
  z75 := Tryd.sizeOf74
  v75 := Tryd.zeroValue74
  t76 := Tryd.underlying75
  a76 := Tryd.isAgg75
  z76 := Tryd.sizeOf75
  v76 := Tryd.zeroValue75
  t105 := Tryd.underlying111
  a105 := Tryd.isAgg111
  z105 := Tryd.sizeOf111
  v105 := Tryd.zeroValue111
  t107 := Tryd.underlying97
  a107 := Tryd.isAgg97
  z107 := Tryd.sizeOf97
  v107 := Tryd.zeroValue97
  t119 := Tryd.underlying137
  a119 := Tryd.isAgg137
  z119 := Tryd.sizeOf137
  t127 := Tryd.underlying110
  a127 := Tryd.isAgg110
  z127 := Tryd.sizeOf110
  v127 := Tryd.zeroValue110
  t138 := Tryd.underlying139
  a138 := Tryd.isAgg139
  z138 := Tryd.sizeOf139
  v138 := Tryd.zeroValue139
  t139 := Tryd.underlying140
  a139 := Tryd.isAgg140
  z139 := Tryd.sizeOf140
  v139 := Tryd.zeroValue140
  t160 := Tryd.underlying141
  a160 := Tryd.isAgg141
  z160 := Tryd.sizeOf141
  v160 := Tryd.zeroValue141
  t162 := Tryd.underlying132
  a162 := Tryd.isAgg132
  z162 := Tryd.sizeOf132
  v162 := Tryd.zeroValue132
  t164 := Tryd.underlying126
  a164 := Tryd.isAgg126
  z164 := Tryd.sizeOf126
  v164 := Tryd.zeroValue126
  t203 := Tryd.underlying130
  a203 := Tryd.isAgg130
  z203 := Tryd.sizeOf130
  v203 := Tryd.zeroValue130
  t206 := Tryd.underlying147
  a206 := Tryd.isAgg147
  z206 := Tryd.sizeOf147
  v206 := Tryd.zeroValue147
  t208 := Tryd.underlying149
  a208 := Tryd.isAgg149
  z208 := Tryd.sizeOf149
  v208 := Tryd.zeroValue149
  g3 := by kernel_rfl
  g4 := by kernel_rfl
  g13 := by kernel_rfl }
theorem Tryd.Builder_Extra_159 : Builder.Extra Tryd.prog Tryd.lays159_ren := {
  sizeBuilder := by kernel_rfl
  liesBuilder := by kernel_rfl
  t5 := Tryd.underlying5
  a5 := Tryd.isAgg5
  z5 := Tryd.sizeOf5
  v5 := Tryd.zeroValue5
  infoByte := by kernel_rfl
  cellsByte := by kernel_rfl
  sizeByte := by kernel_rfl
  neB5 := by decide }
open Go.RowKit in
theorem Tryd.strings_ToLower_ascii (s : ByteArray) (w : World) (hs : s.size ≤ 140737488355328) (hascii : ∀ (j : Nat) (b : UInt8), s.data.toList[j]? = some b → b.toNat < 128) :
    Calls Tryd.prog 77 #[.string s] w fun e w' => e = .returned (.string ⟨(Lib.toLowerA s.data.toList).toArray⟩) ∧ Below w.heap.size w w' := Any.strings_ToLower_ascii Tryd.lays159 Tryd.Builder_Extra_159 s w hs hascii
def Tryd.laysC245_ren : Go.Shelf.Ren := ⟨fun | 245 => 79 | 279 => 92 | 280 => 93 | 281 => 94 | 282 => 95 | 316 => 109 | 171 => 53 | 205 => 110 | 243 => 73 | 246 => 83 | 283 => 96 | 284 => 97 | 285 => 98 | 286 => 99 | 129 => 112 | 317 => 111 | 318 => 113 | 319 => 114 | 320 => 115 | 337 => 121 | 338 => 122 | n => n, fun | 9 => 9 | 3 => 3 | 75 => 74 | 167 => 98 | 4 => 4 | 168 => 101 | 210 => 118 | 37 => 63 | 0 => 0 | 127 => 110 | 145 => 135 | 143 => 133 | 2 => 2 | 171 => 104 | 53 => 82 | 5 => 5 | 173 => 107 | 212 => 122 | 51 => 123 | 20 => 20 | 213 => 124 | 46 => 65 | 232 => 144 | 233 => 145 | 80 => 95 | n => n, fun | 15 => 1 | 16 => 2 | 17 => 3 | 18 => 7 | 19 => 8 | n => n⟩
theorem Tryd.laysC245 : Go.Proofs.LaysC.n245 Tryd.prog Tryd.laysC245_ren := {
  mixed := by kernel_rfl
  f129 := Tryd.func112.trans (congrArg some (by kernel_rfl))
  f171 := Tryd.func53.trans (congrArg some (by kernel_rfl))
  f205 := Tryd.func110.trans (congrArg some (by kernel_rfl))
  f243 := Tryd.func73.trans (congrArg some (by kernel_rfl))
  f245 := Tryd.func79.trans (congrArg some (by kernel_rfl))
  f246 := Tryd.func83.trans (congrArg some (by kernel_rfl))
  f279 := Tryd.func92.trans (congrArg some (by kernel_rfl))
  f280 := Tryd.func93.trans (congrArg some (by kernel_rfl))
  f281 := Tryd.func94.trans (congrArg some (by kernel_rfl))
  f282 := Tryd.func95.trans (congrArg some (by kernel_rfl))
  f283 := Tryd.func96.trans (congrArg some (by kernel_rfl))
  f284 := Tryd.func97.trans (congrArg some (by kernel_rfl))
  f285 := Tryd.func98.trans (congrArg some (by kernel_rfl))
  f286 := Tryd.func99.trans (congrArg some (by kernel_rfl))
  f316 := Tryd.func109.trans (congrArg some (by kernel_rfl))
  f317 := Tryd.func111.trans (congrArg some (by kernel_rfl))
  f318 := Tryd.func113.trans (congrArg some (by kernel_rfl))
  f319 := Tryd.func114.trans (congrArg some (by kernel_rfl))
  f320 := Tryd.func115.trans (congrArg some (by kernel_rfl))
  f337 := Tryd.func121.trans (congrArg some (by kernel_rfl))
  f338 := Tryd.func122.trans (congrArg some (by kernel_rfl))
  t0 := Tryd.underlying0
  a0 := Tryd.isAgg0
  z0 := Tryd.sizeOf0
  v0 := Tryd.zeroValue0
  t2 := Tryd.underlying2
  a2 := Tryd.isAgg2
  z2 := Tryd.sizeOf2
  v2 := Tryd.zeroValue2
  t3 := Tryd.underlying3
  a3 := Tryd.isAgg3
  z3 := Tryd.sizeOf3
  v3 := Tryd.zeroValue3
  t4 := Tryd.underlying4
  a4 := Tryd.isAgg4
  z4 := Tryd.sizeOf4
  v4 := Tryd.zeroValue4
  t5 := Tryd.underlying5
  a5 := Tryd.isAgg5
  z5 := Tryd.sizeOf5
  v5 := Tryd.zeroValue5
  t9 := Tryd.underlying9
  a9 := Tryd.isAgg9
  z9 := Tryd.sizeOf9
  v9 := Tryd.zeroValue9
  t20 := Tryd.underlying20
  a20 := Tryd.isAgg20
  z20 := Tryd.sizeOf20
  v20 := Tryd.zeroValue20
  t37 := Tryd.underlying63
  a37 := Tryd.isAgg63
  z37 := Tryd.sizeOf63
  v37 := Tryd.zeroValue63
  t46 := Tryd.underlying65
  a46 := Tryd.isAgg65
  z46 := Tryd.sizeOf65
  v46 := Tryd.zeroValue65
  t51 := Tryd.underlying123
  a51 := Tryd.isAgg123
  z51 := Tryd.sizeOf123
  v51 := Tryd.zeroValue123
  t53 := Tryd.underlying82
  a53 := Tryd.isAgg82
  z53 := Tryd.sizeOf82
  v53 := Tryd.zeroValue82
  t75 := Tryd.underlying74
  a75 := Tryd.isAgg74
  z75 := Tryd.sizeOf74
  v75 := Tryd.zeroValue74
  t127 := Tryd.underlying110
  a127 := Tryd.isAgg110
  z127 := Tryd.sizeOf110
  v127 := Tryd.zeroValue110
  t143 := Tryd.underlying133
  a143 := Tryd.isAgg133
  z143 := Tryd.sizeOf133
  v143 := Tryd.zeroValue133
  t145 := Tryd.underlying135
  a145 := Tryd.isAgg135
  z145 := Tryd.sizeOf135
  v145 := Tryd.zeroValue135
  t167 := Tryd.underlying98
  a167 := Tryd.isAgg98
  z167 := Tryd.sizeOf98
  v167 := Tryd.zeroValue98
  t168 := Tryd.underlying101
  a168 := Tryd.isAgg101
  z168 := Tryd.sizeOf101
  v168 := Tryd.zeroValue101
  t171 := Tryd.underlying104
  a171 := Tryd.isAgg104
  z171 := Tryd.sizeOf104
  v171 := Tryd.zeroValue104
  t173 := Tryd.underlying107
  a173 := Tryd.isAgg107
  z173 := Tryd.sizeOf107
  v173 := Tryd.zeroValue107
  t210 := Tryd.underlying118
  a210 := Tryd.isAgg118
  z210 := Tryd.sizeOf118
  v210 := Tryd.zeroValue118
  t212 := Tryd.underlying122
  a212 := Tryd.isAgg122
  z212 := Tryd.sizeOf122
  v212 := Tryd.zeroValue122
  t213 := Tryd.underlying124
  a213 := Tryd.isAgg124
  z213 := Tryd.sizeOf124
  t232 := Tryd.underlying144
  a232 := Tryd.isAgg144
  z232 := Tryd.sizeOf144
  v232 := Tryd.zeroValue144
  t233 := Tryd.underlying145
  a233 := Tryd.isAgg145
  z233 := Tryd.sizeOf145
  v233 := Tryd.zeroValue145
  g15 := by kernel_rfl
  g16 := by kernel_rfl
  g17 := by kernel_rfl
  g18 := by kernel_rfl
  g19 := by kernel_rfl
  t80 := Tryd.underlying95
  a80 := Tryd.isAgg95
  z80 := Tryd.sizeOf95
  v80 := Tryd.zeroValue95
  i0 := by kernel_rfl
  i2 := by kernel_rfl
  i3 := by kernel_rfl
  i4 := by kernel_rfl
  i5 := by kernel_rfl
  i9 := by kernel_rfl
  i20 := by kernel_rfl
  i37 := by kernel_rfl
  i46 := by kernel_rfl
  i51 := by kernel_rfl
  i53 := by kernel_rfl
  i75 := by kernel_rfl
  i80 := by kernel_rfl
  i127 := by kernel_rfl
  i143 := by kernel_rfl
  i145 := by kernel_rfl
  i167 := by kernel_rfl
  i168 := by kernel_rfl
  i171 := by kernel_rfl
  i173 := by kernel_rfl
  i210 := by kernel_rfl
  i212 := by kernel_rfl
  i232 := by kernel_rfl
  i233 := by kernel_rfl
  m15 := by kernel_rfl
  m16 := by kernel_rfl
  m17 := by kernel_rfl
  m18 := by kernel_rfl
  m19 := by kernel_rfl
  c0 := by kernel_rfl
  c2 := by kernel_rfl
  c3 := by kernel_rfl
  c4 := by kernel_rfl
  c5 := by kernel_rfl
  c9 := by kernel_rfl
  c20 := by kernel_rfl
  c37 := by kernel_rfl
  c46 := by kernel_rfl
  c51 := by kernel_rfl
  c53 := by kernel_rfl
  c75 := by kernel_rfl
  c80 := by kernel_rfl
  c127 := by kernel_rfl
  c143 := by kernel_rfl
  c145 := by kernel_rfl
  c167 := by kernel_rfl
  c168 := by kernel_rfl
  c171 := by kernel_rfl
  c173 := by kernel_rfl
  c210 := by kernel_rfl
  c212 := by kernel_rfl
  c213 := by kernel_rfl
  c232 := by kernel_rfl
  c233 := by kernel_rfl }
open Go.RowKit in
theorem Tryd.strconv_toError_syntax (fn s : ByteArray) (base bits : Int) (ev : Value) (w : World) (hlim : s.size ≤ 281474976710656) (hv : w.cell? ⟨1, 0, none⟩ = some ev) (hev : ev = .nilIface ∨ ∃ te pe, ev = .iface te pe) :
    Calls Tryd.prog 79 #[.string fn, .string s, .int .i64 base, .int .i64 bits, .iface 98 (.int .i64 2)] w fun e w' => ∃ N, e = .returned (.iface 101 (.pointer (some ⟨N, 0, none⟩))) ∧ w.heap.size ≤ N ∧ w'.heap[N]? = some (.cells #[.string fn, .string s, ev] 118 (0, 0)) ∧ Below w.heap.size w w' := Any.strconv_toError_syntax Tryd.laysC245 fn s base bits ev w hlim hv hev
def Tryd.laysC172_ren : Go.Shelf.Ren := ⟨fun | 172 => 65 | 244 => 78 | 245 => 79 | 247 => 91 | 279 => 92 | 280 => 93 | 281 => 94 | 282 => 95 | 287 => 84 | 316 => 109 | 171 => 53 | 205 => 110 | 321 => 100 | 322 => 101 | 243 => 73 | 246 => 83 | 283 => 96 | 284 => 97 | 285 => 98 | 286 => 99 | 129 => 112 | 317 => 111 | 318 => 113 | 319 => 114 | 320 => 115 | 337 => 121 | 338 => 122 | n => n, fun | 9 => 9 | 3 => 3 | 75 => 74 | 76 => 75 | 4 => 4 | 5 => 5 | 167 => 98 | 37 => 63 | 0 => 0 | 85 => 99 | 2 => 2 | 168 => 101 | 53 => 82 | 175 => 83 | 46 => 65 | 210 => 118 | 127 => 110 | 145 => 135 | 143 => 133 | 21 => 21 | 171 => 104 | 173 => 107 | 212 => 122 | 51 => 123 | 20 => 20 | 213 => 124 | 232 => 144 | 233 => 145 | 80 => 95 | n => n, fun | 15 => 1 | 16 => 2 | 17 => 3 | 18 => 7 | 19 => 8 | n => n⟩
theorem Tryd.laysC172 : Go.Proofs.LaysC.n172 Tryd.prog Tryd.laysC172_ren := {
  mixed := by kernel_rfl
  f129 := Tryd.func112.trans (congrArg some (by kernel_rfl))
  f171 := Tryd.func53.trans (congrArg some (by kernel_rfl))
  f172 := Tryd.func65.trans (congrArg some (by kernel_rfl))
  f205 := Tryd.func110.trans (congrArg some (by kernel_rfl))
  f243 := Tryd.func73.trans (congrArg some (by kernel_rfl))
  f244 := Tryd.func78.trans (congrArg some (by kernel_rfl))
  f245 := Tryd.func79.trans (congrArg some (by kernel_rfl))
  f246 := Tryd.func83.trans (congrArg some (by kernel_rfl))
  f247 := Tryd.func91.trans (congrArg some (by kernel_rfl))
  f279 := Tryd.func92.trans (congrArg some (by kernel_rfl))
  f280 := Tryd.func93.trans (congrArg some (by kernel_rfl))
  f281 := Tryd.func94.trans (congrArg some (by kernel_rfl))
  f282 := Tryd.func95.trans (congrArg some (by kernel_rfl))
  f283 := Tryd.func96.trans (congrArg some (by kernel_rfl))
  f284 := Tryd.func97.trans (congrArg some (by kernel_rfl))
  f285 := Tryd.func98.trans (congrArg some (by kernel_rfl))
  f286 := Tryd.func99.trans (congrArg some (by kernel_rfl))
  f287 := Tryd.func84.trans (congrArg some (by kernel_rfl))
  f316 := Tryd.func109.trans (congrArg some (by kernel_rfl))
  f317 := Tryd.func111.trans (congrArg some (by kernel_rfl))
  f318 := Tryd.func113.trans (congrArg some (by kernel_rfl))
  f319 := Tryd.func114.trans (congrArg some (by kernel_rfl))
  f320 := Tryd.func115.trans (congrArg some (by kernel_rfl))
  f321 := Tryd.func100.trans (congrArg some (by kernel_rfl))
  f322 := Tryd.func101.trans (congrArg some (by kernel_rfl))
  f337 := Tryd.func121.trans (congrArg some (by kernel_rfl))
  f338 := Tryd.func122.trans (congrArg some (by kernel_rfl))
  t0 := Tryd.underlying0
  a0 := Tryd.isAgg0
  z0 := Tryd.sizeOf0
  v0 := Tryd.zeroValue0
  t2 := Tryd.underlying2
  a2 := Tryd.isAgg2
  z2 := Tryd.sizeOf2
  v2 := Tryd.zeroValue2
  t3 := Tryd.underlying3
  a3 := Tryd.isAgg3
  z3 := Tryd.sizeOf3
  v3 := Tryd.zeroValue3
  t4 := Tryd.underlying4
  a4 := Tryd.isAgg4
  z4 := Tryd.sizeOf4
  v4 := Tryd.zeroValue4
  t5 := Tryd.underlying5
  a5 := Tryd.isAgg5
  z5 := Tryd.sizeOf5
  v5 := Tryd.zeroValue5
  t9 := Tryd.underlying9
  a9 := Tryd.isAgg9
  z9 := Tryd.sizeOf9
  v9 := Tryd.zeroValue9
  t20 := Tryd.underlying20
  a20 := Tryd.isAgg20
  z20 := Tryd.sizeOf20
  v20 := Tryd.zeroValue20
  t21 := Tryd.underlying21
  a21 := Tryd.isAgg21
  z21 := Tryd.sizeOf21
  v21 := Tryd.zeroValue21
  t37 := Tryd.underlying63
  a37 := Tryd.isAgg63
  z37 := Tryd.sizeOf63
  v37 := Tryd.zeroValue63
  t46 := Tryd.underlying65
  a46 := Tryd.isAgg65
  z46 := Tryd.sizeOf65
  v46 := Tryd.zeroValue65
  t51 := Tryd.underlying123
  a51 := Tryd.isAgg123
  z51 := Tryd.sizeOf123
  v51 := Tryd.zeroValue123
  t53 := Tryd.underlying82
  a53 := Tryd.isAgg82
  z53 := Tryd.sizeOf82
  v53 := Tryd.zeroValue82
  t75 := Tryd.underlying74
  a75 := Tryd.isAgg74
  z75 := Tryd.sizeOf74
  v75 := Tryd.zeroValue74
  t76 := Tryd.underlying75
  a76 := Tryd.isAgg75
  z76 := Tryd.sizeOf75
  v76 := Tryd.zeroValue75
  t85 := Tryd.underlying99
  a85 := Tryd.isAgg99
  z85 := Tryd.sizeOf99
  v85 := Tryd.zeroValue99
  t127 := Tryd.underlying110
  a127 := Tryd.isAgg110
  z127 := Tryd.sizeOf110
  v127 := Tryd.zeroValue110
  t143 := Tryd.underlying133
  a143 := Tryd.isAgg133
  z143 := Tryd.sizeOf133
  v143 := Tryd.zeroValue133
  t145 := Tryd.underlying135
  a145 := Tryd.isAgg135
  z145 := Tryd.sizeOf135
  v145 := Tryd.zeroValue135
  t167 := Tryd.underlying98
  a167 := Tryd.isAgg98
  z167 := Tryd.sizeOf98
  v167 := Tryd.zeroValue98
  t168 := Tryd.underlying101
  a168 := Tryd.isAgg101
  z168 := Tryd.sizeOf101
  v168 := Tryd.zeroValue101
  t171 := Tryd.underlying104
  a171 := Tryd.isAgg104
  z171 := Tryd.sizeOf104
  v171 := Tryd.zeroValue104
  t173 := Tryd.underlying107
  a173 := Tryd.isAgg107
  z173 := Tryd.sizeOf107
  v173 := Tryd.zeroValue107
  t175 := Tryd.underlying83
  a175 := Tryd.isAgg83
  z175 := Tryd.sizeOf83
  v175 := Tryd.zeroValue83
  t210 := Tryd.underlying118
  a210 := Tryd.isAgg118
  z210 := Tryd.sizeOf118
  v210 := Tryd.zeroValue118
  t212 := Tryd.underlying122
  a212 := Tryd.isAgg122
  z212 := Tryd.sizeOf122
  v212 := Tryd.zeroValue122
  t213 := Tryd.underlying124
  a213 := Tryd.isAgg124
  z213 := Tryd.sizeOf124
  t232 := Tryd.underlying144
  a232 := Tryd.isAgg144
  z232 := Tryd.sizeOf144
  v232 := Tryd.zeroValue144
  t233 := Tryd.underlying145
  a233 := Tryd.isAgg145
  z233 := Tryd.sizeOf145
  v233 := Tryd.zeroValue145
  g15 := by kernel_rfl
  g16 := by kernel_rfl
  g17 := by kernel_rfl
  g18 := by kernel_rfl
  g19 := by kernel_rfl
  t80 := Tryd.underlying95
  a80 := Tryd.isAgg95
  z80 := Tryd.sizeOf95
  v80 := Tryd.zeroValue95
  i0 := by kernel_rfl
  i2 := by kernel_rfl
  i3 := by kernel_rfl
  i4 := by kernel_rfl
  i5 := by kernel_rfl
  i9 := by kernel_rfl
  i20 := by kernel_rfl
  i21 := by kernel_rfl
  i37 := by kernel_rfl
  i46 := by kernel_rfl
  i51 := by kernel_rfl
  i53 := by kernel_rfl
  i75 := by kernel_rfl
  i76 := by kernel_rfl
  i80 := by kernel_rfl
  i85 := by kernel_rfl
  i127 := by kernel_rfl
  i143 := by kernel_rfl
  i145 := by kernel_rfl
  i167 := by kernel_rfl
  i168 := by kernel_rfl
  i171 := by kernel_rfl
  i173 := by kernel_rfl
  i175 := by kernel_rfl
  i210 := by kernel_rfl
  i212 := by kernel_rfl
  i232 := by kernel_rfl
  i233 := by kernel_rfl
  m15 := by kernel_rfl
  m16 := by kernel_rfl
  m17 := by kernel_rfl
  m18 := by kernel_rfl
  m19 := by kernel_rfl
  c0 := by kernel_rfl
  c2 := by kernel_rfl
  c3 := by kernel_rfl
  c4 := by kernel_rfl
  c5 := by kernel_rfl
  c9 := by kernel_rfl
  c20 := by kernel_rfl
  c21 := by kernel_rfl
  c37 := by kernel_rfl
  c46 := by kernel_rfl
  c51 := by kernel_rfl
  c53 := by kernel_rfl
  c75 := by kernel_rfl
  c76 := by kernel_rfl
  c80 := by kernel_rfl
  c85 := by kernel_rfl
  c127 := by kernel_rfl
  c143 := by kernel_rfl
  c145 := by kernel_rfl
  c167 := by kernel_rfl
  c168 := by kernel_rfl
  c171 := by kernel_rfl
  c173 := by kernel_rfl
  c175 := by kernel_rfl
  c210 := by kernel_rfl
  c212 := by kernel_rfl
  c213 := by kernel_rfl
  c232 := by kernel_rfl
  c233 := by kernel_rfl }
open Go.RowKit in
theorem Tryd.strconv_Atoi_ok (s : ByteArray) (hmax : s.size ≤ 9223372036854775806) (v : Int) (h : Lib.atoiAll s.data.toList = .ok v) (w : World) :
    Calls Tryd.prog 65 #[.string s] w fun e w' => e = .returned (.tuple #[.int .i64 v, .nilIface]) ∧ (w' = w ∨ ∃ t, w' = Lib.bytesWorld w 5 t) := Any.strconv_Atoi_ok Tryd.laysC172 s hmax v h w
open Go.RowKit in
theorem Tryd.strconv_Atoi_syntax_var (s : ByteArray) (hlim : s.size ≤ 281474976710656) (h : Lib.atoiAll s.data.toList = Lib.NumEnd.syntax) (tp : TypeId) (p : Value) (w : World) (hvar : w.var? Tryd.prog "strconv.ErrSyntax" = some #[.iface tp p]) :
    Calls Tryd.prog 65 #[.string s] w fun e w' => ∃ N, e = .returned (.tuple #[.int .i64 0, .iface 101 (.pointer (some ⟨N, 0, none⟩))]) ∧ w.heap.size ≤ N ∧ w'.heap[N]? = some (.cells #[.string ⟨#[65, 116, 111, 105]⟩, .string s, .iface tp p] 118 (0, 0)) ∧ Below w.heap.size w w' := Any.strconv_Atoi_syntax_var Tryd.laysC172 s hlim h tp p w hvar
open Go.RowKit in
theorem Tryd.strconv_Atoi_range_var (s : ByteArray) (hlim : s.size ≤ 281474976710656) (h : Lib.atoiAll s.data.toList = .range) (tp : TypeId) (p : Value) (w : World) (hvar : w.var? Tryd.prog "strconv.ErrRange" = some #[.iface tp p]) :
    Calls Tryd.prog 65 #[.string s] w fun e w' => ∃ N, e = .returned (.tuple #[.int .i64 (Lib.atoiSat s.data.toList), .iface 101 (.pointer (some ⟨N, 0, none⟩))]) ∧ w.heap.size ≤ N ∧ w'.heap[N]? = some (.cells #[.string ⟨#[65, 116, 111, 105]⟩, .string s, .iface tp p] 118 (0, 0)) ∧ Below w.heap.size w w' := Any.strconv_Atoi_range_var Tryd.laysC172 s hlim h tp p w hvar
end Go.Proofs
end

section
namespace Go.Proofs.YtmhnfdgegejlkaaDoor.P
open Go.RowKit Go.Proofs.YtmhnfdgegejlkaaDoorW.PrintWords Go.Proofs.YtmhnfdgegejlkaaDoorW.PrintLast Go.Proofs.YtmhnfdgegejlkaaDoorW.PrintMore
attribute [local go_sem] max2_int min2_int max_two min_two max_three min_three max_four min_four
set_option linter.unusedVariables false
set_option linter.unusedSimpArgs false
def value_plain.f (a0 : Int) : Option (Bool) := if a0 ≥ 32 then (if a0 ≤ 126 then (if a0 = 39 then (some false) else (some (a0 != 92))) else (some false)) else (some false)
set_option maxHeartbeats 8000000 in
set_option maxRecDepth 100000 in
theorem value_plain.calls (a0 : Int) (r : Bool) (w : World) (h : value_plain.f a0 = some r) :
  Calls Tryd.prog 55 #[.int .u8 a0] w fun e w' => e = .returned (.bool r) ∧ Drawn0 w w' := by
 have H : (if a0 ≥ 32 then (if a0 ≤ 126 then (if a0 = 39 then (some false) else (some (a0 != 92))) else (some false)) else (some false)) = some r := h
 clear h
 by_cases c2 : a0 ≥ 32
 ·rw [if_pos c2] at H
  have c2b0 : decide (32 ≤ a0) = true := decide_eq_true c2
  clear c2
  by_cases c3 : a0 ≤ 126
  ·rw [if_pos c3] at H
   have c3b0 : decide (a0 ≤ 126) = true := decide_eq_true c3
   clear c3
   by_cases c4 : a0 = 39
   ·rw [if_pos c4] at H
    have c4b0 : (a0 == 39) = true := beq_iff_eq.mpr c4
    have c4b1 : (a0 != 39) = false := bne_eq_false_iff_eq.mpr c4
    clear c4
    obtain rfl := Option.some.inj H
    go_enter Tryd.func55, Tryd.ntmps55
    go_wp2
    go_ret
    exact ⟨by first | rfl | (simp; done) | (simp [*]; done), by repeat (first | exact Drawn0.refl _ | apply Drawn0.step)⟩
   ·rw [if_neg c4] at H
    have c4b0 : (a0 == 39) = false := beq_eq_false_iff_ne.mpr c4
    have c4b1 : (a0 != 39) = true := bne_iff_ne.mpr c4
    obtain rfl := Option.some.inj H
    go_enter Tryd.func55, Tryd.ntmps55
    go_wp2
    go_ret
    exact ⟨by first | rfl | (simp; done) | (simp [*]; done), by repeat (first | exact Drawn0.refl _ | apply Drawn0.step)⟩
  ·rw [if_neg c3] at H
   have c3b0 : decide (a0 ≤ 126) = false := decide_eq_false c3
   clear c3
   obtain rfl := Option.some.inj H
   go_enter Tryd.func55, Tryd.ntmps55
   go_wp2
   go_ret
   exact ⟨by first | rfl | (simp; done) | (simp [*]; done), by repeat (first | exact Drawn0.refl _ | apply Drawn0.step)⟩
 ·rw [if_neg c2] at H
  have c2b0 : decide (32 ≤ a0) = false := decide_eq_false c2
  clear c2
  obtain rfl := Option.some.inj H
  go_enter Tryd.func55, Tryd.ntmps55
  go_wp2
  go_ret
  exact ⟨by first | rfl | (simp; done) | (simp [*]; done), by repeat (first | exact Drawn0.refl _ | apply Drawn0.step)⟩
end Go.Proofs.YtmhnfdgegejlkaaDoor.P
end

section
namespace Go.Proofs.YtmhnfdgegejlkaaDoor.P
open Go Go.RowKit Go.Proofs.YtmhnfdgegejlkaaDoorW.PrintWords Go.Proofs.YtmhnfdgegejlkaaDoorW.PrintLast Go.Proofs.YtmhnfdgegejlkaaDoorW.PrintMore
set_option linter.unusedVariables false
set_option linter.unusedSimpArgs false
theorem pub_ok (t : ByteArray) (h2 : t.size = 2) (n : Nat) (h : phex 0 t.data.toList = some n) (w : World) :
    Calls Tryd.prog 76 #[.string t, .int .i64 16, .int .i64 8] w fun e w' => e = .returned (.tuple #[.int .u64 n, .nilIface]) ∧ Below w.heap.size w w' := by
  have hI := inner_ParseUint16 t h2 w
  rw [h] at hI
  have hI' : Calls Tryd.prog 84 #[.string t, .int .i64 16, .int .i64 8] w fun e w' => e = .returned (.tuple #[.int .u64 n, .nilIface]) ∧ w' = Lib.bytesWorld w 5 t := hI
  have hb : Below w.heap.size w (Lib.bytesWorld w 5 t) := bytes_below (Below.refl _ _) (Nat.le_refl _) 5 t
  generalize Lib.bytesWorld w 5 t = W1 at hI' hb
  clear hI h
  go_enter Tryd.func76, Tryd.ntmps76
  go_wp2_with (go_at_call 84; refine hI'.mono ?_; rintro e W2 ⟨rfl, rfl⟩)
  go_ret2
  exact ⟨rfl, hb⟩
theorem pub_err (t : ByteArray) (h2 : t.size = 2) (h : phex 0 t.data.toList = none) (w : World) (htab : TabW w) :
    Calls Tryd.prog 76 #[.string t, .int .i64 16, .int .i64 8] w fun e w' => ∃ N, e = .returned (.tuple #[.int .u64 0, .iface 101 (.pointer (some ⟨N, 0, none⟩))]) ∧ Below w.heap.size w w' := by
  have hI := inner_ParseUint16 t h2 w
  rw [h] at hI
  have hI' : Calls Tryd.prog 84 #[.string t, .int .i64 16, .int .i64 8] w fun e w' => e = .returned (.tuple #[.int .u64 0, .iface 98 (.int .i64 2)]) ∧ w' = Lib.bytesWorld w 5 t := hI
  have hb : Below w.heap.size w (Lib.bytesWorld w 5 t) := bytes_below (Below.refl _ _) (Nat.le_refl _) 5 t
  have htab1 := tab_below htab hb
  generalize Lib.bytesWorld w 5 t = W1 at hI' hb htab1
  obtain ⟨_, ⟨tp, p, hv⟩, _⟩ := htab1
  have hT := fun (b c : Int) => Tryd.strconv_toError_syntax ⟨#[80, 97, 114, 115, 101, 85, 105, 110, 116]⟩ t b c (.iface tp p) W1 (by omega) (by have h0 := World.var?_cell syn_at hv 0; simpa using h0) (Or.inr ⟨tp, p, rfl⟩)
  clear hI h hv htab
  go_enter Tryd.func76, Tryd.ntmps76
  go_wp2_with (first | (go_at_call 84; refine hI'.mono ?_; rintro e W2 ⟨rfl, rfl⟩) | (go_at_call 79; refine (hT _ _).mono ?_; rintro e W3 ⟨N, rfl, h1, h2, h3⟩))
  go_ret2
  exact ⟨N, rfl, below_then hb hb.size h3⟩
def plainB (c : Int) : Bool := decide (32 ≤ c) && (decide (c ≤ 126) && (c != 39 && c != 92))
theorem plain_any (c : Int) (w : World) : Calls Tryd.prog 55 #[.int .u8 c] w fun e w' => e = .returned (.bool (plainB c)) ∧ Drawn0 w w' := by
  refine (value_plain.calls c (plainB c) w ?_)
  unfold value_plain.f plainB
  by_cases h1 : c ≥ 32
  · by_cases h2 : c ≤ 126
    · by_cases h3 : c = 39
      · simp [h1, h2, h3]
      · simp [h1, h2, h3]
    · simp [h1, h2]
  · simp [h1]
theorem plain_quiet {c : Int} {b : Bool} {w : World} {n : Nat} (h : plainB c = b) : Calls Tryd.prog 55 #[.int .u8 c] (w.drewN n) fun e w'' => e = .returned (.bool b) ∧ ∃ m, w'' = w.drewN m :=
  Calls.quiet_of ((plain_any c (w.drewN n)).mono fun e w' ⟨he, hd⟩ => ⟨by rw [he, h], hd.out⟩)
def qd : List UInt8 → Option (List Int)
  | [] => some []
  | c :: r =>
    if c = 92 then
      match r with
      | a :: b :: r' =>
        match phex 0 [a, b] with
        | some v => if plainB v then none else if Lib.toLowerA [a, b] = [a, b] then (qd r').map (fun l => (v : Int) :: l) else none
        | none => none
      | _ => none
    else if plainB (c.toNat : Int) then (qd r).map (fun l => (c.toNat : Int) :: l) else none
def quotedP (s : ByteArray) : Option ByteArray :=
  if s.size < 2 then none else if bt s 0 ≠ 39 then none else if bt s (s.size - 1) ≠ 39 then none else (qd (s.extract 1 (s.size - 1)).data.toList).map strOfNums
def QInv (s : ByteArray) (pos sk : Nat) (xs : List Int) : Prop :=
  sk ≤ 2 ∧ pos + sk ≤ s.size ∧ xs.length ≤ pos + sk ∧ (∀ j, pos ≤ j → j < pos + sk → ∀ h : j < s.size, (s[j]'h).toNat < 128) ∧ qd s.data.toList = (qd (s.data.toList.drop (pos + sk))).map fun l => xs ++ l
theorem qd_plain {c : UInt8} {r : List UInt8} (h : ¬ c = 92) (hp : plainB (c.toNat : Int) = true) : qd (c :: r) = (qd r).map fun l => (c.toNat : Int) :: l := by
  conv => lhs; unfold qd
  rw [if_neg h, if_pos hp]
theorem qd_esc {a b : UInt8} {r : List UInt8} : qd (92 :: a :: b :: r) = match phex 0 [a, b] with
    | some v => if plainB v then none else if Lib.toLowerA [a, b] = [a, b] then (qd r).map (fun l => (v : Int) :: l) else none
    | none => none := by
  conv => lhs; unfold qd
  rw [if_pos rfl]
theorem hexd_lt {c d : Nat} (h : hexd c = some d) : c < 128 ∧ d < 16 := by
  unfold hexd at h
  split at h
  · injection h with h; omega
  · split at h
    · injection h with h; omega
    · split at h
      · injection h with h; omega
      · cases h
theorem phex_ascii {a b : UInt8} {v : Nat} (h : phex 0 [a, b] = some v) : a.toNat < 128 ∧ b.toNat < 128 ∧ v < 256 := by
  unfold phex at h
  cases ha : hexd a.toNat with
  | none => rw [ha] at h; cases h
  | some d =>
    rw [ha] at h
    simp only [] at h
    unfold phex at h
    cases hb : hexd b.toNat with
    | none => rw [hb] at h; cases h
    | some e =>
      rw [hb] at h
      simp only [phex] at h
      injection h with h
      have := hexd_lt ha
      have := hexd_lt hb
      omega
theorem next_step {w wr : World} {s : ByteArray} {pos : Nat} {v : Value} {xs : List Int} (hit : wr.heap[w.heap.size]? = some (.stringIter s pos)) (hR : Kd.R (Kd.int .u8) 5 wr w.heap.size (fun k => k ≠ w.heap.size) v xs) (hB : Below w.heap.size w wr) (hp : pos < s.size) :
    ∃ w1, (∀ ty, (Instr.next (.pointer (some ⟨w.heap.size, 0, none⟩)) true ty).run Tryd.prog wr = .ok (.tuple #[.bool true, .int .i64 pos, .int .i32 (Utf8.decode s pos).1]) w1) ∧ Aside0 (Kd.R (Kd.int .u8) 5 w1 w.heap.size (fun k => k ≠ w.heap.size) v xs) ∧
      Aside0 (w1.heap[w.heap.size]? = some (.stringIter s (pos + (Utf8.decode s pos).2))) ∧ Aside0 (Below w.heap.size w w1) :=
  ⟨_, fun ty => Lib.run_next_any_at wr w.heap.size s pos ty hit hp, ⟨Kd.R_move hR fun k hk => Lib.iterAt_other wr _ k s _ hk⟩, ⟨Lib.iterAt_heap wr _ s pos _ hit⟩, ⟨Lib.below_iterAt hB (Nat.le_refl _) s _⟩⟩
theorem drop_cons (s : ByteArray) (j : Nat) (h : j < s.size) : s.data.toList.drop j = (s[j]'h) :: s.data.toList.drop (j + 1) := by
  rw [List.drop_eq_getElem_cons (by rw [Array.length_toList]; exact h)]
  rfl
set_option maxHeartbeats 2000000 in
set_option maxRecDepth 100000 in
theorem value_quoted_calls (s : ByteArray) (hs : s.size ≤ 140737488351232) (w : World) (htab : TabW w) :
    Calls Tryd.prog 64 #[.string s] w fun e w' => e = .returned (.tuple #[.string ((quotedP s).getD ⟨#[]⟩), .bool (quotedP s).isSome]) ∧ Below w.heap.size w w' := by
  have HT := Aside0.mk htab
  clear htab
  by_cases h2 : s.size < 2
  · have hq : quotedP s = none := by unfold quotedP; rw [if_pos h2]
    rw [hq]
    go_enter Tryd.func64, Tryd.ntmps64
    go_wp2
    go_ret2
    exact ⟨rfl, Below.refl _ _⟩
  · have h2' : ¬ (s.size : Int) < 2 := by omega
    have hp0 : 0 < s.size := by omega
    have hp1 : s.size - 1 < s.size := by omega
    have b0 : ((s[0]'hp0).toNat : Int) = bt s 0 := bt_at s 0 hp0
    have b1 : ((s[s.size - 1]'hp1).toNat : Int) = bt s (s.size - 1) := by
      have e : (((s.size : Int) - 1).toNat) = s.size - 1 := by omega
      have := bt_at s ((s.size : Int) - 1) (by omega)
      rw [← this]
      simp only [e]
    by_cases h0 : bt s 0 = 39
    · rw [h0] at b0
      by_cases h1 : bt s (s.size - 1) = 39
      · rw [h1] at b1
        have hqq : quotedP s = (qd (s.extract 1 (s.size - 1)).data.toList).map strOfNums := by unfold quotedP; rw [if_neg h2, if_neg (by simpa using h0), if_neg (by simpa using h1)]
        rw [hqq]
        clear hqq
        have hsl : ∀ W, (Instr.slice 9 (.string s) (some (.int .i64 1)) (some (.int .i64 ((s.size : Int) - 1))) none).run Tryd.prog W = .ok (.string (s.extract 1 (s.size - 1))) W := by
          intro W
          have e : ((s.size : Int) - 1).toNat = s.size - 1 := by omega
          rw [run_slice_string W 9 s .i64 .i64 1 _ Tryd.underlying9 (by omega) (by omega) (by omega), e]
          rfl
        have hsz1 : (s.extract 1 (s.size - 1)).size = s.size - 2 := by rw [ByteArray.size_extract]; omega
        generalize s.extract 1 (s.size - 1) = s1 at hsl hsz1 ⊢
        have hs1 : s1.size ≤ 140737488351232 := by omega
        have HQ0 : Hid (QInv s1 0 0 []) := Lib.hid ⟨by omega, by omega, by simp, fun j h1 h2 => by omega, by simp⟩
        clear hsz1
        go_enter Tryd.func64, Tryd.ntmps64
        go_wp2
        go_loopw [4, 5] (fun v4 v5 wr => ∃ (pos sk : Nat) (xs : List Int), v5 = .int .i64 sk ∧ Aside0 (Kd.R (Kd.int .u8) 5 wr w.heap.size (fun k => k ≠ w.heap.size) v4 xs) ∧ Aside0 (wr.heap[w.heap.size]? = some (.stringIter s1 pos)) ∧ Aside0 (Below w.heap.size w wr) ∧ Hid (QInv s1 pos sk xs)) (fun _ _ wr => s1.size - wr.iterPos w.heap.size)
        case atStart => exact ⟨0, 0, [], rfl, ⟨Kd.R_nil _ _ _ _ _⟩, ⟨World.iter_heap w s1 0⟩, ⟨below_alloc (Below.refl _ _) _⟩, HQ0⟩
        case round =>
          obtain ⟨pos, sk, xs, rfl, HO, HI, HB, HQ⟩ := hrel
          obtain ⟨q1, q2, q3, q4, q5⟩ := HQ.out
          clear HQ
          by_cases hp : pos < s1.size
          · obtain ⟨w1, hnx, HO1, HI1, HB1⟩ := next_step HI.out HO.out HB.out hp
            have hit0 := HI
            clear HO HI HB
            by_cases hsk : 0 < sk
            · have ha := q4 pos (Nat.le_refl _) (by omega) hp
              rw [decode_ascii s1 pos hp ha] at hnx HI1
              have HN : Hid (QInv s1 (pos + 1) (sk - 1) xs) := Lib.hid ⟨by omega, by omega, by omega, fun j h1 h2 h => q4 j (by omega) (by omega) h, by rw [q5, show pos + 1 + (sk - 1) = pos + sk from by omega]⟩
              have hsk' : (0 : Int) < (sk : Int) := by omega
              have hsk2 : (sk : Int) ≤ 2 := by omega
              have HI0 := hit0
              clear q4 q5 q3 hit0
              go_wp2
              refine ⟨⟨pos + 1, sk - 1, xs, by first | rfl | (congr 1; omega), HO1, HI1, HB1, HN⟩, ?_⟩
              simp only [World.iterPos, HI1.out, HI0.out]
              omega
            · obtain rfl : sk = 0 := by omega
              have hq5 := q5
              rw [Nat.add_zero, drop_cons s1 pos hp] at hq5
              clear q1 q4 hsk
              by_cases hhi : 128 ≤ (s1[pos]'hp).toNat
              ·
                obtain ⟨hd, _⟩ := decode_high s1 pos hp hhi
                have hnone : qd s1.data.toList = none := by
                  rw [hq5]
                  have e1 : ¬ s1[pos]'hp = 92 := fun h => by rw [h] at hhi; revert hhi; decide
                  have e2 : plainB ((s1[pos]'hp).toNat : Int) = false := by
                    unfold plainB
                    rw [show decide (((s1[pos]'hp).toNat : Int) ≤ 126) = false from decide_eq_false (by omega)]
                    simp
                  unfold qd
                  rw [if_neg e1, e2]
                  rfl
                have HN := Lib.hid hnone
                clear hnone
                generalize (Utf8.decode s1 pos).1 = rn at hnx hd
                have hd' : (128 : Int) ≤ (rn : Int) := by omega
                clear hq5 q5 q3 hhi hit0
                go_wp2
                go_ret2
                exact ⟨by rw [HN.out]; rfl, HB1.out⟩
              · have ha : (s1[pos]'hp).toNat < 128 := by omega
                rw [decode_ascii s1 pos hp ha] at hnx HI1
                generalize hc : s1[pos]'hp = c at *
                by_cases h92 : c = 92
                · subst h92
                  have hc92 : (((92 : UInt8).toNat : Nat) : Int) = 92 := rfl
                  rw [hc92] at hnx
                  by_cases hlen : pos + 2 < s1.size
                  · have hdr : s1.data.toList.drop (pos + 1) = (s1[pos + 1]'(by omega)) :: (s1[pos + 2]'hlen) :: s1.data.toList.drop (pos + 1 + 2) := by
                      rw [drop_cons s1 (pos + 1) (by omega), drop_cons s1 (pos + 1 + 1) (by omega)]
                    have hxl : (s1.extract (pos + 1) (pos + 3)).data.toList = [s1[pos + 1]'(by omega), s1[pos + 2]'hlen] := by
                      rw [show (s1.extract (pos + 1) (pos + 3)).data.toList = (s1.data.toList.drop (pos + 1)).take 2 from by simp [ByteArray.data_extract], hdr]
                      rfl
                    have hxs : (s1.extract (pos + 1) (pos + 3)).size = 2 := by rw [ByteArray.size_extract]; omega
                    have hxsl : ∀ W, (Instr.slice 9 (.string s1) (some (.int .i64 ((pos : Int) + 1))) (some (.int .i64 ((pos : Int) + 3))) none).run Tryd.prog W = .ok (.string (s1.extract (pos + 1) (pos + 3))) W := by
                      intro W
                      rw [run_slice_string W 9 s1 .i64 .i64 _ _ Tryd.underlying9 (by omega) (by omega) (by omega), show ((pos : Int) + 1).toNat = pos + 1 from by omega, show ((pos : Int) + 3).toNat = pos + 3 from by omega]
                    generalize s1.extract (pos + 1) (pos + 3) = x at hxl hxs hxsl
                    rw [hdr] at hq5
                    have hasc : ∀ v, phex 0 [s1[pos + 1]'(by omega), s1[pos + 2]'hlen] = some v → (s1[pos + 1]'(by omega)).toNat < 128 ∧ (s1[pos + 2]'hlen).toNat < 128 ∧ v < 256 := fun v hv => phex_ascii hv
                    generalize hga : s1[pos + 1]'(by omega) = ca at hq5 hxl hasc
                    generalize hgb : s1[pos + 2]'hlen = cb at hq5 hxl hasc
                    have hlen' : (pos : Int) + 2 < (s1.size : Int) := by omega
                    cases hph : phex 0 [ca, cb] with
                    | none =>
                      have hnone : qd s1.data.toList = none := by
                        rw [hq5, qd_esc, hph]
                        rfl
                      have HN := Lib.hid hnone
                      have HP := fun W hW => pub_err x hxs (by rw [hxl]; exact hph) W hW
                      have HTw := tab_below HT.out HB1.out
                      clear hnone hq5 q5 q3 hhi hph hdr hxl hasc hxs hga hgb
                      have HX := Lib.hid HTw
                      clear HTw
                      go_wp2_with (go_at_call 76; refine (HP _ HX.out).mono ?_; rintro e w2 ⟨N, rfl, hb2⟩)
                      go_quiet (fail)
                      go_wp2
                      go_ret2
                      exact ⟨by rw [HN.out]; rfl, pw_below_drewN (below_then HB1.out HB1.out.size hb2) _⟩
                    | some v =>
                      obtain ⟨hA1, hA2, hv⟩ := hasc v hph
                      have HP := fun W => pub_ok x hxs v (by rw [hxl]; exact hph) W
                      obtain ⟨vi, hvi⟩ : ∃ vi : Int, vi = (v : Int) := ⟨_, rfl⟩
                      rw [← hvi] at HP
                      have hv0 : (0 : Int) ≤ vi := by omega
                      have hv1 : vi < 256 := by omega
                      have hwv : IntKind.u8.wrap vi = vi := by rw [IntKind.wrap_u8]; omega
                      by_cases hpv : plainB vi = true
                      · have hnone : qd s1.data.toList = none := by
                          rw [hq5, qd_esc, hph]; simp only []; rw [← hvi, if_pos hpv]; rfl
                        have HN := Lib.hid hnone
                        have HPV : plainB (IntKind.u8.wrap vi) = true := by rw [hwv, hpv]
                        clear hnone hq5 q5 q3 hhi hph hdr hxl hasc hxs hga hgb hwv hvi
                        go_wp2_with (go_at_call 76; refine (HP _).mono ?_; rintro e w2 ⟨rfl, hb2⟩)
                        go_quiet ((go_at_call 55; first | (with_reducible exact plain_quiet HPV) | (with_reducible exact plain_quiet hpv)))
                        go_wp2
                        go_ret2
                        exact ⟨by rw [HN.out]; rfl, pw_below_drewN (below_then HB1.out HB1.out.size hb2) _⟩
                      · have hpv' : plainB vi = false := by simpa using hpv
                        have HW := Lib.hid hwv
                        have hlw := fun W => Tryd.strings_ToLower_ascii x W (by omega) (fun j b hb => by
                          rw [hxl] at hb
                          match j, hb with
                          | 0, hb => simp at hb; rw [← hb]; exact hA1
                          | 1, hb => simp at hb; rw [← hb]; exact hA2
                          | j + 2, hb => simp at hb)
                        rw [hxl] at hlw
                        by_cases hlo : Lib.toLowerA [ca, cb] = [ca, cb]
                        · rw [hlo, ← hxl] at hlw
                          have hqd : qd s1.data.toList = (qd (s1.data.toList.drop (pos + 3))).map fun l => (xs ++ [vi]) ++ l := by
                            rw [hq5, qd_esc, hph]
                            simp only []
                            rw [← hvi, if_neg hpv, if_pos hlo]
                            cases qd (s1.data.toList.drop (pos + 3)) <;> simp
                          have HN : Hid (QInv s1 (pos + 1) 2 (xs ++ [vi])) := Lib.hid ⟨by omega, by omega, by simp; omega, fun j h1 h2 h => by
                            rcases (by omega : j = pos + 1 ∨ j = pos + 2) with rfl | rfl
                            · rw [hga]; exact hA1
                            · rw [hgb]; exact hA2, hqd⟩
                          have Hlen : Hid (xs.length ≤ 140737488351232) := Lib.hid (by omega)
                          clear hqd hq5 q5 q3 hhi hph hdr hasc hga hgb hwv hvi hlo hpv hxl
                          go_wp2_with (go_at_call 76; refine (HP _).mono ?_; rintro e w2 ⟨rfl, hb2⟩)
                          have hs1' : IntKind.i64.wrap ((pos : Int) + 1) = (pos : Int) + 1 := IntWalk.i64_in _ (by omega)
                          have hs3' : IntKind.i64.wrap ((pos : Int) + 3) = (pos : Int) + 3 := IntWalk.i64_in _ (by omega)
                          go_region_held3 (fun w' => Below w2.heap.size w2 w') (first | ((repeat (first | assumption | exact Below.refl _ _ | refine pw_below_drewN ?_ _ | refine below_drew1 ?_)); done) | (exact below_step (by assumption) (by assumption))) (first | (go_at_call 55; refine (plain_any _ _).mono ?_; rintro e w' ⟨rfl, ⟨nd, rfl⟩⟩; rw [HW.out, hpv']) | (go_at_call 77; refine (hlw _).mono ?_; rintro e w' ⟨rfl, hb⟩))
                          have HX : Aside0 (Below w2.heap.size w2 _) := ⟨by assumption⟩
                          have HI3 := Aside0.mk (blk_below (blk_below HI1.out hb2) HX.out)
                          have HO3 := Aside0.mk (Kd.R_below (Kd.R_below HO1.out hb2) HX.out)
                          have HB3 := Aside0.mk (below_step (below_step HB1.out hb2) HX.out)
                          clear hs1' hs3' HI1 HO1 HB1
                          go_wp2_with (first
                            | ((with_reducible refine gate_builtin (b := .append) (xs := #[.tmp 88, .tmp 91]) rfl ?_); at_builtin
                               refine Kd.R_append (Kd.int .u8) (w0 := w) w.heap.size rfl (.tmp 88) (.tmp 91) 63 5 (.int .u8 0) 1 rfl Tryd.underlying63 info5 rfl (by decide) (by omega) u4 xs vi [.int .u8 vi] (fun k => k ≠ w.heap.size) (fun _ => False) rfl rfl ?aP (fun _ hk => hk.elim) ?aF ?aO ?aB ?aS ?aL ?_
                               (case aP => exact rfl)
                               (case aF => exact fun k hk => by have := blk_lt HI3.out; (try simp at hk); omega)
                               (case aO => exact HO3.out)
                               (case aB => exact HB3.out)
                               (case aS => exact HB3.out.size)
                               (case aL => have := Hlen.out; omega)
                               intro v1 w4 ho hb hg hat
                               have HO2 := Aside0.mk ho
                               have HB2 := Aside0.mk hb
                               have HI2 : Aside0 (w4.heap[w.heap.size]? = some (.stringIter s1 (pos + 1))) := ⟨blk_grown HI3.out hg (fun h => (HO3.out.1 _ h.symm) rfl)⟩
                               clear ho hb hg hat))
                          refine ⟨⟨pos + 1, 2, xs ++ [vi], rfl, HO2, HI2, HB2, HN⟩, ?_⟩
                          simp only [World.iterPos, HI2.out, hit0.out]
                          omega
                        · have hnone : qd s1.data.toList = none := by
                            rw [hq5, qd_esc, hph]
                            simp only []
                            rw [← hvi, if_neg hpv, if_neg hlo]
                            rfl
                          have HN := Lib.hid hnone
                          have hne : (⟨(Lib.toLowerA [ca, cb]).toArray⟩ : ByteArray).toList ≠ x.toList := by
                            intro h
                            rw [Lib.toList_data, Lib.toList_data, hxl] at h
                            exact hlo (by simpa using h)
                          generalize (⟨(Lib.toLowerA [ca, cb]).toArray⟩ : ByteArray) = lx at hlw hne
                          have hne1 : (lx.toList == x.toList) = false := by simpa using hne
                          have hne2 : (lx.toList != x.toList) = true := by simpa using hne
                          clear hnone hq5 q5 q3 hhi hph hdr hasc hga hgb hwv hvi hlo hpv hxl hne
                          go_wp2_with (go_at_call 76; refine (HP _).mono ?_; rintro e w2 ⟨rfl, hb2⟩)
                          have hs1' : IntKind.i64.wrap ((pos : Int) + 1) = (pos : Int) + 1 := IntWalk.i64_in _ (by omega)
                          have hs3' : IntKind.i64.wrap ((pos : Int) + 3) = (pos : Int) + 3 := IntWalk.i64_in _ (by omega)
                          go_region_held3 (fun w' => Below w2.heap.size w2 w') (first | ((repeat (first | assumption | exact Below.refl _ _ | refine pw_below_drewN ?_ _ | refine below_drew1 ?_)); done) | (exact below_step (by assumption) (by assumption))) (first | (go_at_call 55; refine (plain_any _ _).mono ?_; rintro e w' ⟨rfl, ⟨nd, rfl⟩⟩; rw [HW.out, hpv']) | (go_at_call 77; refine (hlw _).mono ?_; rintro e w' ⟨rfl, hb⟩))
                          have HX : Aside0 (Below w2.heap.size w2 _) := ⟨by assumption⟩
                          go_wp2
                          go_ret2
                          exact ⟨by rw [HN.out]; rfl, below_step (below_step HB1.out hb2) HX.out⟩
                  · have hnone : qd s1.data.toList = none := by
                      rw [hq5]
                      have : (s1.data.toList.drop (pos + 1)).length ≤ 1 := by rw [List.length_drop, Array.length_toList]; show s1.size - _ ≤ _; omega
                      generalize s1.data.toList.drop (pos + 1) = r at this
                      match r, this with
                      | [], _ => rfl
                      | [_], _ => rfl
                      | _ :: _ :: _, h => simp at h
                    have HN := Lib.hid hnone
                    have hlen' : (s1.size : Int) ≤ (pos : Int) + 2 := by omega
                    clear hnone hq5 q5 q3 hhi
                    go_wp2
                    go_ret2
                    exact ⟨by rw [HN.out]; rfl, HB1.out⟩
                · have h92' : ((c.toNat : Int) == 92) = false := by
                    have : c.toNat ≠ 92 := fun h => h92 (UInt8.toNat_inj.1 (by rw [h]; rfl))
                    simp; omega
                  have hc0 : (0 : Int) ≤ (c.toNat : Int) := by omega
                  have hc1 : (c.toNat : Int) < 128 := by omega
                  by_cases hpl : plainB (c.toNat : Int) = true
                  · have hqd : qd s1.data.toList = (qd (s1.data.toList.drop (pos + 1))).map fun l => (xs ++ [(c.toNat : Int)]) ++ l := by
                      rw [hq5, qd_plain h92 hpl]
                      cases qd (s1.data.toList.drop (pos + 1)) <;> simp
                    have HN : Hid (QInv s1 (pos + 1) 0 (xs ++ [(c.toNat : Int)])) := Lib.hid ⟨by omega, by omega, by simp; omega, fun j h1 h2 => by omega, hqd⟩
                    have hle : (c.toNat : Int) ≤ 126 := by unfold plainB at hpl; simp at hpl; omega
                    have hlen : xs.length ≤ 140737488351232 := by omega
                    have Hlen := Lib.hid hlen
                    have Hok := Lib.hid (Kd.R_slice HO1.out)
                    clear hqd hq5 q5 q3 hhi h92 hlen
                    go_wp2_with (first
                      | (go_at_call 55; refine (plain_any _ _).mono ?_; rintro e w' ⟨rfl, ⟨nd, rfl⟩⟩; try rw [hpl])
                      | ((with_reducible refine gate_builtin (b := .append) (xs := #[.tmp 37, .tmp 40]) rfl ?_); at_builtin
                         refine Kd.R_append (Kd.int .u8) (w0 := w) w.heap.size rfl (.tmp 37) (.tmp 40) 63 5 (.int .u8 0) 1 rfl Tryd.underlying63 info5 rfl (by decide) (by omega) u4 xs (c.toNat : Int) [.int .u8 (c.toNat : Int)] (fun k => k ≠ w.heap.size) (fun _ => False) rfl rfl ?aP (fun _ hk => hk.elim) ?aF ?aO ?aB ?aS ?aL ?_
                         (case aP => exact rfl)
                         (case aF => exact fun k hk => by have := blk_lt HI1.out; simp at hk; omega)
                         (case aO => exact Kd.R_drewN HO1.out _)
                         (case aB => exact pw_below_drewN HB1.out _)
                         (case aS => exact HB1.out.size)
                         (case aL => have := Hlen.out; omega)
                         intro v1 w2 ho hb hg hat
                         have HO2 := Aside0.mk ho
                         have HB2 := Aside0.mk hb
                         have HI2 : Aside0 (w2.heap[w.heap.size]? = some (.stringIter s1 (pos + 1))) := ⟨blk_grown (blk_drewN HI1.out _) hg (fun h => (HO1.out.1 _ h.symm) rfl)⟩
                         clear ho hb hg hat))
                    refine ⟨⟨pos + 1, 0, xs ++ [(c.toNat : Int)], rfl, HO2, HI2, HB2, HN⟩, ?_⟩
                    simp only [World.iterPos, HI2.out, hit0.out]
                    omega
                  · have hnone : qd s1.data.toList = none := by
                      rw [hq5]
                      unfold qd
                      rw [if_neg h92, if_neg hpl]
                      rfl
                    have HN := Lib.hid hnone
                    have hpl' : plainB (c.toNat : Int) = false := by simpa using hpl
                    clear hnone hpl hq5 q5 q3 hhi h92
                    go_wp2_with (go_at_call 55; refine (plain_any _ _).mono ?_; rintro e w' ⟨rfl, ⟨nd, rfl⟩⟩; try rw [hpl'])
                    all_goals go_ret2
                    all_goals exact ⟨by rw [HN.out]; rfl, by first | exact HB1.out | exact pw_below_drewN HB1.out _⟩
          · have hnx : ∀ ty, (Instr.next (.pointer (some ⟨w.heap.size, 0, none⟩)) true ty).run Tryd.prog wr = _ := fun ty => Lib.run_next_end_at wr w.heap.size s1 pos ty HI.out hp
            obtain rfl : sk = 0 := by omega
            have hfin : qd s1.data.toList = some xs := by rw [q5, List.drop_eq_nil_of_le (by rw [Array.length_toList]; show s1.size ≤ _; omega)]; simp [qd]
            have HN := Lib.hid hfin
            clear q4 q5 hfin
            have hcv := own_string (P := Tryd.prog) (src := 63) (dst := 9) Tryd.underlying63 Tryd.underlying5 Tryd.underlying9 (Kd.own_of_R (enc := Value.int .u8) HO.out)
            go_wp2
            go_ret2
            exact ⟨by rw [HN.out]; rfl, HB.out⟩
      · have hq : quotedP s = none := by unfold quotedP; rw [if_neg h2, if_neg (by simpa using h0), if_pos h1]
        rw [hq]
        rw [← b1] at h1
        have hb1 : (((s[s.size - 1]'hp1).toNat : Int) != 39) = true := by simpa using h1
        clear h1 b1
        go_enter Tryd.func64, Tryd.ntmps64
        go_wp2
        go_ret2
        exact ⟨rfl, Below.refl _ _⟩
    · have hq : quotedP s = none := by unfold quotedP; rw [if_neg h2, if_pos h0]
      rw [hq]
      rw [← b0] at h0
      have hb0 : (((s[0]'hp0).toNat : Int) != 39) = true := by simpa using h0
      clear h0 b0
      go_enter Tryd.func64, Tryd.ntmps64
      go_wp2
      go_ret2
      exact ⟨rfl, Below.refl _ _⟩
end Go.Proofs.YtmhnfdgegejlkaaDoor.P
end

section
namespace Go.Proofs.YtmhnfdgegejlkaaDoor.P
open Go.RowKit Go.Proofs.YtmhnfdgegejlkaaDoorW.PrintWords Go.Proofs.YtmhnfdgegejlkaaDoorW.PrintLast Go.Proofs.YtmhnfdgegejlkaaDoorW.PrintMore
attribute [local go_sem] max2_int min2_int max_two min_two max_three min_three max_four min_four
set_option linter.unusedVariables false
set_option linter.unusedSimpArgs false
attribute [local go_sem high] eqA23
def value_Right.f (a0_0 : Int) (a0_1 : Int) (a0_2 : ByteArray) : Option (Bool) := if a0_0 = 0 then (some (a0_0 == 0 && (a0_1 == 0 && (a0_2.toList == ([] : List UInt8))))) else (if a0_0 = 1 then (if a0_1 ≥ (-549755813888) then (if a0_1 ≤ 549755813887 then (some (a0_2.toList == ([] : List UInt8))) else (some false)) else (some false)) else (if a0_0 = 2 then (if a0_1 = 0 then (some (decide ((a0_2.size : Int) ≤ 40))) else (some false)) else (if a0_0 = 3 then (if (Go.bits .andNot .i64 a0_1 1) = 0 then (some (a0_2.toList == ([] : List UInt8))) else (some false)) else (some false))))
set_option maxHeartbeats 8000000 in
set_option maxRecDepth 100000 in
theorem value_Right.calls (a0_0 : Int) (a0_1 : Int) (a0_2 : ByteArray) (r : Bool) (w : World) (h : value_Right.f a0_0 a0_1 a0_2 = some r) :
  Calls Tryd.prog 19 #[.agg #[.int .i64 a0_0, .int .i64 a0_1, .string a0_2]] w fun e w' => e = .returned (.bool r) ∧ Below w.heap.size w w' := by
 have hu23 := Tryd.underlying23
 have HB := Aside0.mk (Below.refl w.heap.size w)
 have H : (if a0_0 = 0 then (some (a0_0 == 0 && (a0_1 == 0 && (a0_2.toList == ([] : List UInt8))))) else (if a0_0 = 1 then (if a0_1 ≥ (-549755813888) then (if a0_1 ≤ 549755813887 then (some (a0_2.toList == ([] : List UInt8))) else (some false)) else (some false)) else (if a0_0 = 2 then (if a0_1 = 0 then (some (decide ((a0_2.size : Int) ≤ 40))) else (some false)) else (if a0_0 = 3 then (if (Go.bits .andNot .i64 a0_1 1) = 0 then (some (a0_2.toList == ([] : List UInt8))) else (some false)) else (some false))))) = some r := h
 clear h
 by_cases c2 : a0_0 = 0
 ·rw [if_pos c2] at H
  have c2b0 : (a0_0 == 0) = true := beq_iff_eq.mpr c2
  have c2b1 : (a0_0 != 0) = false := bne_eq_false_iff_eq.mpr c2
  clear c2
  obtain rfl := Option.some.inj H
  go_enter Tryd.func19, Tryd.ntmps19
  go_wp2_with (first | ((with_reducible refine gate_dst (N := 1) rfl ?_); (try (refine gate_guard (by rfl) ?_; dsimp only)); refine box_event ?hg (N := 1) ?hd (cs := #[.int .i64 a0_0, .int .i64 a0_1, .string a0_2]) (t := 23) ?hr ?_; (case hd => rfl); (case hg => rfl); (case hr => first | (go_simp; done) | (go_simp; rfl)); intro gb238 hg w3 hbox hb; have BK238 := Aside0.mk (hbox); have GW238 := (sizeB HB hg : Aside0 (w.heap.size ≤ gb238)); have GE238 := (sizeB HB hg : Aside0 (w.heap.size ≤ gb238)); replace HB := stepB HB hb; clear hb hbox hg; have hcz4_0 : w3.cell? ⟨gb238, 0, none⟩ = some (.int .i64 a0_0) := bc BK238 0; have hcz4_1 : w3.cell? ⟨gb238, 1, none⟩ = some (.int .i64 a0_1) := bc BK238 1; have hcz4_2 : w3.cell? ⟨gb238, 2, none⟩ = some (.string a0_2) := bc BK238 2; have hfz4_0 := blk_frozen BK238.out 0; have hfz4_1 := blk_frozen BK238.out 1; have hfz4_2 := blk_frozen BK238.out 2))
  go_ret
  exact ⟨by first | rfl | (simp [errW_none, errW_some] <;> rfl) | (simp [*, errW_none, errW_some] <;> rfl), by repeat (first | (with_reducible first | exact HB.out | apply below_alloc | apply pw_below_drewN | apply below_drew1 | refine below_set ?_ GE238.out) | exact HB.out)⟩
 ·rw [if_neg c2] at H
  have c2b0 : (a0_0 == 0) = false := beq_eq_false_iff_ne.mpr c2
  have c2b1 : (a0_0 != 0) = true := bne_iff_ne.mpr c2
  by_cases c5 : a0_0 = 1
  ·rw [if_pos c5] at H
   have c5b0 : (a0_0 == 1) = true := beq_iff_eq.mpr c5
   have c5b1 : (a0_0 != 1) = false := bne_eq_false_iff_eq.mpr c5
   clear c5
   by_cases c6 : a0_1 ≥ (-549755813888)
   ·rw [if_pos c6] at H
    have c6b0 : decide ((-549755813888) ≤ a0_1) = true := decide_eq_true c6
    clear c6
    by_cases c7 : a0_1 ≤ 549755813887
    ·rw [if_pos c7] at H
     have c7b0 : decide (a0_1 ≤ 549755813887) = true := decide_eq_true c7
     clear c7
     obtain rfl := Option.some.inj H
     go_enter Tryd.func19, Tryd.ntmps19
     go_wp2_with (first | ((with_reducible refine gate_dst (N := 1) rfl ?_); (try (refine gate_guard (by rfl) ?_; dsimp only)); refine box_event ?hg (N := 1) ?hd (cs := #[.int .i64 a0_0, .int .i64 a0_1, .string a0_2]) (t := 23) ?hr ?_; (case hd => rfl); (case hg => rfl); (case hr => first | (go_simp; done) | (go_simp; rfl)); intro gb238 hg w8 hbox hb; have BK238 := Aside0.mk (hbox); have GW238 := (sizeB HB hg : Aside0 (w.heap.size ≤ gb238)); have GE238 := (sizeB HB hg : Aside0 (w.heap.size ≤ gb238)); replace HB := stepB HB hb; clear hb hbox hg; have hcz9_0 : w8.cell? ⟨gb238, 0, none⟩ = some (.int .i64 a0_0) := bc BK238 0; have hcz9_1 : w8.cell? ⟨gb238, 1, none⟩ = some (.int .i64 a0_1) := bc BK238 1; have hcz9_2 : w8.cell? ⟨gb238, 2, none⟩ = some (.string a0_2) := bc BK238 2; have hfz9_0 := blk_frozen BK238.out 0; have hfz9_1 := blk_frozen BK238.out 1; have hfz9_2 := blk_frozen BK238.out 2))
     go_ret
     exact ⟨by first | rfl | (simp [errW_none, errW_some] <;> rfl) | (simp [*, errW_none, errW_some] <;> rfl), by repeat (first | (with_reducible first | exact HB.out | apply below_alloc | apply pw_below_drewN | apply below_drew1 | refine below_set ?_ GE238.out) | exact HB.out)⟩
    ·rw [if_neg c7] at H
     have c7b0 : decide (a0_1 ≤ 549755813887) = false := decide_eq_false c7
     clear c7
     obtain rfl := Option.some.inj H
     go_enter Tryd.func19, Tryd.ntmps19
     go_wp2_with (first | ((with_reducible refine gate_dst (N := 1) rfl ?_); (try (refine gate_guard (by rfl) ?_; dsimp only)); refine box_event ?hg (N := 1) ?hd (cs := #[.int .i64 a0_0, .int .i64 a0_1, .string a0_2]) (t := 23) ?hr ?_; (case hd => rfl); (case hg => rfl); (case hr => first | (go_simp; done) | (go_simp; rfl)); intro gb238 hg w10 hbox hb; have BK238 := Aside0.mk (hbox); have GW238 := (sizeB HB hg : Aside0 (w.heap.size ≤ gb238)); have GE238 := (sizeB HB hg : Aside0 (w.heap.size ≤ gb238)); replace HB := stepB HB hb; clear hb hbox hg; have hcz11_0 : w10.cell? ⟨gb238, 0, none⟩ = some (.int .i64 a0_0) := bc BK238 0; have hcz11_1 : w10.cell? ⟨gb238, 1, none⟩ = some (.int .i64 a0_1) := bc BK238 1; have hcz11_2 : w10.cell? ⟨gb238, 2, none⟩ = some (.string a0_2) := bc BK238 2; have hfz11_0 := blk_frozen BK238.out 0; have hfz11_1 := blk_frozen BK238.out 1; have hfz11_2 := blk_frozen BK238.out 2))
     go_ret
     exact ⟨by first | rfl | (simp [errW_none, errW_some] <;> rfl) | (simp [*, errW_none, errW_some] <;> rfl), by repeat (first | (with_reducible first | exact HB.out | apply below_alloc | apply pw_below_drewN | apply below_drew1 | refine below_set ?_ GE238.out) | exact HB.out)⟩
   ·rw [if_neg c6] at H
    have c6b0 : decide ((-549755813888) ≤ a0_1) = false := decide_eq_false c6
    clear c6
    obtain rfl := Option.some.inj H
    go_enter Tryd.func19, Tryd.ntmps19
    go_wp2_with (first | ((with_reducible refine gate_dst (N := 1) rfl ?_); (try (refine gate_guard (by rfl) ?_; dsimp only)); refine box_event ?hg (N := 1) ?hd (cs := #[.int .i64 a0_0, .int .i64 a0_1, .string a0_2]) (t := 23) ?hr ?_; (case hd => rfl); (case hg => rfl); (case hr => first | (go_simp; done) | (go_simp; rfl)); intro gb238 hg w12 hbox hb; have BK238 := Aside0.mk (hbox); have GW238 := (sizeB HB hg : Aside0 (w.heap.size ≤ gb238)); have GE238 := (sizeB HB hg : Aside0 (w.heap.size ≤ gb238)); replace HB := stepB HB hb; clear hb hbox hg; have hcz13_0 : w12.cell? ⟨gb238, 0, none⟩ = some (.int .i64 a0_0) := bc BK238 0; have hcz13_1 : w12.cell? ⟨gb238, 1, none⟩ = some (.int .i64 a0_1) := bc BK238 1; have hcz13_2 : w12.cell? ⟨gb238, 2, none⟩ = some (.string a0_2) := bc BK238 2; have hfz13_0 := blk_frozen BK238.out 0; have hfz13_1 := blk_frozen BK238.out 1; have hfz13_2 := blk_frozen BK238.out 2))
    go_ret
    exact ⟨by first | rfl | (simp [errW_none, errW_some] <;> rfl) | (simp [*, errW_none, errW_some] <;> rfl), by repeat (first | (with_reducible first | exact HB.out | apply below_alloc | apply pw_below_drewN | apply below_drew1 | refine below_set ?_ GE238.out) | exact HB.out)⟩
  ·rw [if_neg c5] at H
   have c5b0 : (a0_0 == 1) = false := beq_eq_false_iff_ne.mpr c5
   have c5b1 : (a0_0 != 1) = true := bne_iff_ne.mpr c5
   by_cases c14 : a0_0 = 2
   ·rw [if_pos c14] at H
    have c14b0 : (a0_0 == 2) = true := beq_iff_eq.mpr c14
    have c14b1 : (a0_0 != 2) = false := bne_eq_false_iff_eq.mpr c14
    clear c14
    by_cases c15 : a0_1 = 0
    ·rw [if_pos c15] at H
     have c15b0 : (a0_1 == 0) = true := beq_iff_eq.mpr c15
     have c15b1 : (a0_1 != 0) = false := bne_eq_false_iff_eq.mpr c15
     clear c15
     obtain rfl := Option.some.inj H
     go_enter Tryd.func19, Tryd.ntmps19
     go_wp2_with (first | ((with_reducible refine gate_dst (N := 1) rfl ?_); (try (refine gate_guard (by rfl) ?_; dsimp only)); refine box_event ?hg (N := 1) ?hd (cs := #[.int .i64 a0_0, .int .i64 a0_1, .string a0_2]) (t := 23) ?hr ?_; (case hd => rfl); (case hg => rfl); (case hr => first | (go_simp; done) | (go_simp; rfl)); intro gb238 hg w16 hbox hb; have BK238 := Aside0.mk (hbox); have GW238 := (sizeB HB hg : Aside0 (w.heap.size ≤ gb238)); have GE238 := (sizeB HB hg : Aside0 (w.heap.size ≤ gb238)); replace HB := stepB HB hb; clear hb hbox hg; have hcz17_0 : w16.cell? ⟨gb238, 0, none⟩ = some (.int .i64 a0_0) := bc BK238 0; have hcz17_1 : w16.cell? ⟨gb238, 1, none⟩ = some (.int .i64 a0_1) := bc BK238 1; have hcz17_2 : w16.cell? ⟨gb238, 2, none⟩ = some (.string a0_2) := bc BK238 2; have hfz17_0 := blk_frozen BK238.out 0; have hfz17_1 := blk_frozen BK238.out 1; have hfz17_2 := blk_frozen BK238.out 2))
     go_ret
     exact ⟨by first | rfl | (simp [errW_none, errW_some] <;> rfl) | (simp [*, errW_none, errW_some] <;> rfl), by repeat (first | (with_reducible first | exact HB.out | apply below_alloc | apply pw_below_drewN | apply below_drew1 | refine below_set ?_ GE238.out) | exact HB.out)⟩
    ·rw [if_neg c15] at H
     have c15b0 : (a0_1 == 0) = false := beq_eq_false_iff_ne.mpr c15
     have c15b1 : (a0_1 != 0) = true := bne_iff_ne.mpr c15
     obtain rfl := Option.some.inj H
     go_enter Tryd.func19, Tryd.ntmps19
     go_wp2_with (first | ((with_reducible refine gate_dst (N := 1) rfl ?_); (try (refine gate_guard (by rfl) ?_; dsimp only)); refine box_event ?hg (N := 1) ?hd (cs := #[.int .i64 a0_0, .int .i64 a0_1, .string a0_2]) (t := 23) ?hr ?_; (case hd => rfl); (case hg => rfl); (case hr => first | (go_simp; done) | (go_simp; rfl)); intro gb238 hg w18 hbox hb; have BK238 := Aside0.mk (hbox); have GW238 := (sizeB HB hg : Aside0 (w.heap.size ≤ gb238)); have GE238 := (sizeB HB hg : Aside0 (w.heap.size ≤ gb238)); replace HB := stepB HB hb; clear hb hbox hg; have hcz19_0 : w18.cell? ⟨gb238, 0, none⟩ = some (.int .i64 a0_0) := bc BK238 0; have hcz19_1 : w18.cell? ⟨gb238, 1, none⟩ = some (.int .i64 a0_1) := bc BK238 1; have hcz19_2 : w18.cell? ⟨gb238, 2, none⟩ = some (.string a0_2) := bc BK238 2; have hfz19_0 := blk_frozen BK238.out 0; have hfz19_1 := blk_frozen BK238.out 1; have hfz19_2 := blk_frozen BK238.out 2))
     go_ret
     exact ⟨by first | rfl | (simp [errW_none, errW_some] <;> rfl) | (simp [*, errW_none, errW_some] <;> rfl), by repeat (first | (with_reducible first | exact HB.out | apply below_alloc | apply pw_below_drewN | apply below_drew1 | refine below_set ?_ GE238.out) | exact HB.out)⟩
   ·rw [if_neg c14] at H
    have c14b0 : (a0_0 == 2) = false := beq_eq_false_iff_ne.mpr c14
    have c14b1 : (a0_0 != 2) = true := bne_iff_ne.mpr c14
    by_cases c20 : a0_0 = 3
    ·rw [if_pos c20] at H
     have c20b0 : (a0_0 == 3) = true := beq_iff_eq.mpr c20
     have c20b1 : (a0_0 != 3) = false := bne_eq_false_iff_eq.mpr c20
     clear c20
     by_cases c21 : (Go.bits .andNot .i64 a0_1 1) = 0
     ·rw [if_pos c21] at H
      have c21b0 : ((Go.bits .andNot .i64 a0_1 1) == 0) = true := beq_iff_eq.mpr c21
      have c21b1 : ((Go.bits .andNot .i64 a0_1 1) != 0) = false := bne_eq_false_iff_eq.mpr c21
      clear c21
      obtain rfl := Option.some.inj H
      go_enter Tryd.func19, Tryd.ntmps19
      go_wp2_with (first | ((with_reducible refine gate_dst (N := 1) rfl ?_); (try (refine gate_guard (by rfl) ?_; dsimp only)); refine box_event ?hg (N := 1) ?hd (cs := #[.int .i64 a0_0, .int .i64 a0_1, .string a0_2]) (t := 23) ?hr ?_; (case hd => rfl); (case hg => rfl); (case hr => first | (go_simp; done) | (go_simp; rfl)); intro gb238 hg w22 hbox hb; have BK238 := Aside0.mk (hbox); have GW238 := (sizeB HB hg : Aside0 (w.heap.size ≤ gb238)); have GE238 := (sizeB HB hg : Aside0 (w.heap.size ≤ gb238)); replace HB := stepB HB hb; clear hb hbox hg; have hcz23_0 : w22.cell? ⟨gb238, 0, none⟩ = some (.int .i64 a0_0) := bc BK238 0; have hcz23_1 : w22.cell? ⟨gb238, 1, none⟩ = some (.int .i64 a0_1) := bc BK238 1; have hcz23_2 : w22.cell? ⟨gb238, 2, none⟩ = some (.string a0_2) := bc BK238 2; have hfz23_0 := blk_frozen BK238.out 0; have hfz23_1 := blk_frozen BK238.out 1; have hfz23_2 := blk_frozen BK238.out 2))
      go_ret
      exact ⟨by first | rfl | (simp [errW_none, errW_some] <;> rfl) | (simp [*, errW_none, errW_some] <;> rfl), by repeat (first | (with_reducible first | exact HB.out | apply below_alloc | apply pw_below_drewN | apply below_drew1 | refine below_set ?_ GE238.out) | exact HB.out)⟩
     ·rw [if_neg c21] at H
      have c21b0 : ((Go.bits .andNot .i64 a0_1 1) == 0) = false := beq_eq_false_iff_ne.mpr c21
      have c21b1 : ((Go.bits .andNot .i64 a0_1 1) != 0) = true := bne_iff_ne.mpr c21
      obtain rfl := Option.some.inj H
      go_enter Tryd.func19, Tryd.ntmps19
      go_wp2_with (first | ((with_reducible refine gate_dst (N := 1) rfl ?_); (try (refine gate_guard (by rfl) ?_; dsimp only)); refine box_event ?hg (N := 1) ?hd (cs := #[.int .i64 a0_0, .int .i64 a0_1, .string a0_2]) (t := 23) ?hr ?_; (case hd => rfl); (case hg => rfl); (case hr => first | (go_simp; done) | (go_simp; rfl)); intro gb238 hg w24 hbox hb; have BK238 := Aside0.mk (hbox); have GW238 := (sizeB HB hg : Aside0 (w.heap.size ≤ gb238)); have GE238 := (sizeB HB hg : Aside0 (w.heap.size ≤ gb238)); replace HB := stepB HB hb; clear hb hbox hg; have hcz25_0 : w24.cell? ⟨gb238, 0, none⟩ = some (.int .i64 a0_0) := bc BK238 0; have hcz25_1 : w24.cell? ⟨gb238, 1, none⟩ = some (.int .i64 a0_1) := bc BK238 1; have hcz25_2 : w24.cell? ⟨gb238, 2, none⟩ = some (.string a0_2) := bc BK238 2; have hfz25_0 := blk_frozen BK238.out 0; have hfz25_1 := blk_frozen BK238.out 1; have hfz25_2 := blk_frozen BK238.out 2))
      go_ret
      exact ⟨by first | rfl | (simp [errW_none, errW_some] <;> rfl) | (simp [*, errW_none, errW_some] <;> rfl), by repeat (first | (with_reducible first | exact HB.out | apply below_alloc | apply pw_below_drewN | apply below_drew1 | refine below_set ?_ GE238.out) | exact HB.out)⟩
    ·rw [if_neg c20] at H
     have c20b0 : (a0_0 == 3) = false := beq_eq_false_iff_ne.mpr c20
     have c20b1 : (a0_0 != 3) = true := bne_iff_ne.mpr c20
     obtain rfl := Option.some.inj H
     go_enter Tryd.func19, Tryd.ntmps19
     go_wp2_with (first | ((with_reducible refine gate_dst (N := 1) rfl ?_); (try (refine gate_guard (by rfl) ?_; dsimp only)); refine box_event ?hg (N := 1) ?hd (cs := #[.int .i64 a0_0, .int .i64 a0_1, .string a0_2]) (t := 23) ?hr ?_; (case hd => rfl); (case hg => rfl); (case hr => first | (go_simp; done) | (go_simp; rfl)); intro gb238 hg w26 hbox hb; have BK238 := Aside0.mk (hbox); have GW238 := (sizeB HB hg : Aside0 (w.heap.size ≤ gb238)); have GE238 := (sizeB HB hg : Aside0 (w.heap.size ≤ gb238)); replace HB := stepB HB hb; clear hb hbox hg; have hcz27_0 : w26.cell? ⟨gb238, 0, none⟩ = some (.int .i64 a0_0) := bc BK238 0; have hcz27_1 : w26.cell? ⟨gb238, 1, none⟩ = some (.int .i64 a0_1) := bc BK238 1; have hcz27_2 : w26.cell? ⟨gb238, 2, none⟩ = some (.string a0_2) := bc BK238 2; have hfz27_0 := blk_frozen BK238.out 0; have hfz27_1 := blk_frozen BK238.out 1; have hfz27_2 := blk_frozen BK238.out 2))
     go_ret
     exact ⟨by first | rfl | (simp [errW_none, errW_some] <;> rfl) | (simp [*, errW_none, errW_some] <;> rfl), by repeat (first | (with_reducible first | exact HB.out | apply below_alloc | apply pw_below_drewN | apply below_drew1 | refine below_set ?_ GE238.out) | exact HB.out)⟩
end Go.Proofs.YtmhnfdgegejlkaaDoor.P
end

section
namespace Go.Proofs.YtmhnfdgegejlkaaDoor.P
open Go.RowKit Go.Proofs.YtmhnfdgegejlkaaDoorW.PrintWords Go.Proofs.YtmhnfdgegejlkaaDoorW.PrintLast Go.Proofs.YtmhnfdgegejlkaaDoorW.PrintMore
attribute [local go_sem] max2_int min2_int max_two min_two max_three min_three max_four min_four
set_option linter.unusedVariables false
set_option linter.unusedSimpArgs false
attribute [local go_sem high] cell?_setCell_map
def value_truth.f (a0 : Bool) : Option (Int × Int × ByteArray) := if a0 = true then (some (3, 1, (⟨#[]⟩ : ByteArray))) else (some (3, 0, (⟨#[]⟩ : ByteArray)))
set_option maxHeartbeats 8000000 in
set_option maxRecDepth 100000 in
theorem value_truth.calls (a0 : Bool) (r1 : Int) (r2 : Int) (r3 : ByteArray) (w : World) (h : value_truth.f a0 = some (r1, r2, r3)) :
  Calls Tryd.prog 46 #[.bool a0] w fun e w' => e = .returned (.agg #[.int .i64 r1, .int .i64 r2, .string r3]) ∧ Below w.heap.size w w' := by
 have hu23 := Tryd.underlying23
 have HB := Aside0.mk (Below.refl w.heap.size w)
 have H : (if a0 = true then (some (3, 1, (⟨#[]⟩ : ByteArray))) else (some (3, 0, (⟨#[]⟩ : ByteArray)))) = some (r1, r2, r3) := h
 clear h
 by_cases c2 : a0 = true
 ·subst c2
  have H1 : (some (3, 1, (⟨#[]⟩ : ByteArray))) = some (r1, r2, r3) := by rw [if_pos rfl] at H; exact H
  clear H
  have H := H1
  clear H1
  simp only [Option.some.injEq, Prod.mk.injEq] at H
  obtain ⟨rfl, rfl, rfl⟩ := H
  go_enter Tryd.func46, Tryd.ntmps46
  go_wp2_with (first | ((with_reducible refine gate_dst (N := 2) rfl ?_); refine box_event ?hg (N := 2) ?hd (cs := #[.int .i64 0, .int .i64 0, .string (⟨#[]⟩ : ByteArray)]) (t := 23) ?hr ?_; (case hd => rfl); (case hg => rfl); (case hr => first | (go_simp; done) | (go_simp; rfl)); intro gb115 hg w3 hbox hb; have BK115 := Aside0.mk (hbox); have GW115 := (sizeB HB hg : Aside0 (w.heap.size ≤ gb115)); have GE115 := (sizeB HB hg : Aside0 (w.heap.size ≤ gb115)); replace HB := stepB HB hb; clear hb hbox hg) | ((with_reducible refine gate_dst (N := 3) rfl ?_); refine box_event ?hg (N := 3) ?hd (cs := #[.int .i64 0, .int .i64 0, .string (⟨#[]⟩ : ByteArray)]) (t := 23) ?hr ?_; (case hd => rfl); (case hg => rfl); (case hr => first | (go_simp; done) | (go_simp; rfl)); intro gb116 hg w4 hbox hb; have BK116 := Aside0.mk (hbox); have GW116 := (sizeB HB hg : Aside0 (w.heap.size ≤ gb116)); have GE116 := (sizeB HB hg : Aside0 (w.heap.size ≤ gb116)); have NB115_116 := neB BK115 hg; have NB116_115 := neC BK115 hg; replace BK115 := blkB BK115 hb; replace HB := stepB HB hb; clear hb hbox hg; have hnb5 := NB116_115.out; have hnc5 := NB115_116.out; have hcz6_0 : w4.cell? ⟨gb116, 0, none⟩ = some (.int .i64 0) := bc BK116 0; have hcz6_1 : w4.cell? ⟨gb116, 1, none⟩ = some (.int .i64 0) := bc BK116 1; have hcz6_2 : w4.cell? ⟨gb116, 2, none⟩ = some (.string (⟨#[]⟩ : ByteArray)) := bc BK116 2; have hfz6_0 := blk_frozen BK116.out 0; have hfz6_1 := blk_frozen BK116.out 1; have hfz6_2 := blk_frozen BK116.out 2; have hcz7_0 : w4.cell? ⟨gb115, 0, none⟩ = some (.int .i64 0) := bc BK115 0; have hcz7_1 : w4.cell? ⟨gb115, 1, none⟩ = some (.int .i64 0) := bc BK115 1; have hcz7_2 : w4.cell? ⟨gb115, 2, none⟩ = some (.string (⟨#[]⟩ : ByteArray)) := bc BK115 2; have hfz7_0 := blk_frozen BK115.out 0; have hfz7_1 := blk_frozen BK115.out 1; have hfz7_2 := blk_frozen BK115.out 2))
  refine bodyPost_ret (results_cell_row rfl _ _ gb115 23 #[.int .i64 3, .int .i64 1, .string (⟨#[]⟩ : ByteArray)] (0, 0) _ rfl (by (with_reducible repeat (first | refine blk_drewN ?_ _ | refine blk_drew ?_ | refine blk_alloc ?_ _)); refine blk_put (cs := #[.int .i64 3, .int .i64 1, .string (⟨#[]⟩ : ByteArray)]) ?_ 2 _ rfl; (with_reducible repeat (first | refine blk_drewN ?_ _ | refine blk_drew ?_ | refine blk_alloc ?_ _)); refine blk_put (cs := #[.int .i64 3, .int .i64 0, .string (⟨#[]⟩ : ByteArray)]) ?_ 1 _ rfl; (with_reducible repeat (first | refine blk_drewN ?_ _ | refine blk_drew ?_ | refine blk_alloc ?_ _)); refine blk_put (cs := #[.int .i64 0, .int .i64 0, .string (⟨#[]⟩ : ByteArray)]) ?_ 0 _ rfl; (with_reducible repeat (first | refine blk_drewN ?_ _ | refine blk_drew ?_ | refine blk_alloc ?_ _)); refine blk_far ?_ NB115_116.out _; (with_reducible repeat (first | refine blk_drewN ?_ _ | refine blk_drew ?_ | refine blk_alloc ?_ _)); refine blk_far ?_ NB115_116.out _; (with_reducible repeat (first | refine blk_drewN ?_ _ | refine blk_drew ?_ | refine blk_alloc ?_ _)); refine blk_far ?_ NB115_116.out _; (with_reducible repeat (first | refine blk_drewN ?_ _ | refine blk_drew ?_ | refine blk_alloc ?_ _)); refine blk_far ?_ NB115_116.out _; (with_reducible repeat (first | refine blk_drewN ?_ _ | refine blk_drew ?_ | refine blk_alloc ?_ _)); exact BK115.out) Tryd.underlying23 rfl (by kernel_rfl)) rfl ?_
  exact ⟨by first | rfl | (simp [errW_none, errW_some] <;> rfl) | (simp [*, errW_none, errW_some] <;> rfl), by repeat (first | (with_reducible first | exact HB.out | apply below_alloc | apply pw_below_drewN | apply below_drew1 | refine below_set ?_ GE115.out | refine below_set ?_ GE116.out) | exact HB.out)⟩
 ·replace c2 := Bool.eq_false_iff.mpr c2
  subst c2
  have H1 : (some (3, 0, (⟨#[]⟩ : ByteArray))) = some (r1, r2, r3) := by rw [if_neg (show ¬ (false = true) by decide)] at H; exact H
  clear H
  have H := H1
  clear H1
  simp only [Option.some.injEq, Prod.mk.injEq] at H
  obtain ⟨rfl, rfl, rfl⟩ := H
  go_enter Tryd.func46, Tryd.ntmps46
  go_wp2_with (first | ((with_reducible refine gate_dst (N := 2) rfl ?_); refine box_event ?hg (N := 2) ?hd (cs := #[.int .i64 0, .int .i64 0, .string (⟨#[]⟩ : ByteArray)]) (t := 23) ?hr ?_; (case hd => rfl); (case hg => rfl); (case hr => first | (go_simp; done) | (go_simp; rfl)); intro gb115 hg w8 hbox hb; have BK115 := Aside0.mk (hbox); have GW115 := (sizeB HB hg : Aside0 (w.heap.size ≤ gb115)); have GE115 := (sizeB HB hg : Aside0 (w.heap.size ≤ gb115)); replace HB := stepB HB hb; clear hb hbox hg) | ((with_reducible refine gate_dst (N := 3) rfl ?_); refine box_event ?hg (N := 3) ?hd (cs := #[.int .i64 0, .int .i64 0, .string (⟨#[]⟩ : ByteArray)]) (t := 23) ?hr ?_; (case hd => rfl); (case hg => rfl); (case hr => first | (go_simp; done) | (go_simp; rfl)); intro gb116 hg w9 hbox hb; have BK116 := Aside0.mk (hbox); have GW116 := (sizeB HB hg : Aside0 (w.heap.size ≤ gb116)); have GE116 := (sizeB HB hg : Aside0 (w.heap.size ≤ gb116)); have NB115_116 := neB BK115 hg; have NB116_115 := neC BK115 hg; replace BK115 := blkB BK115 hb; replace HB := stepB HB hb; clear hb hbox hg; have hnb10 := NB116_115.out; have hnc10 := NB115_116.out; have hcz11_0 : w9.cell? ⟨gb116, 0, none⟩ = some (.int .i64 0) := bc BK116 0; have hcz11_1 : w9.cell? ⟨gb116, 1, none⟩ = some (.int .i64 0) := bc BK116 1; have hcz11_2 : w9.cell? ⟨gb116, 2, none⟩ = some (.string (⟨#[]⟩ : ByteArray)) := bc BK116 2; have hfz11_0 := blk_frozen BK116.out 0; have hfz11_1 := blk_frozen BK116.out 1; have hfz11_2 := blk_frozen BK116.out 2; have hcz12_0 : w9.cell? ⟨gb115, 0, none⟩ = some (.int .i64 0) := bc BK115 0; have hcz12_1 : w9.cell? ⟨gb115, 1, none⟩ = some (.int .i64 0) := bc BK115 1; have hcz12_2 : w9.cell? ⟨gb115, 2, none⟩ = some (.string (⟨#[]⟩ : ByteArray)) := bc BK115 2; have hfz12_0 := blk_frozen BK115.out 0; have hfz12_1 := blk_frozen BK115.out 1; have hfz12_2 := blk_frozen BK115.out 2))
  refine bodyPost_ret (results_cell_row rfl _ _ gb115 23 #[.int .i64 3, .int .i64 0, .string (⟨#[]⟩ : ByteArray)] (0, 0) _ rfl (by (with_reducible repeat (first | refine blk_drewN ?_ _ | refine blk_drew ?_ | refine blk_alloc ?_ _)); refine blk_put (cs := #[.int .i64 3, .int .i64 0, .string (⟨#[]⟩ : ByteArray)]) ?_ 2 _ rfl; (with_reducible repeat (first | refine blk_drewN ?_ _ | refine blk_drew ?_ | refine blk_alloc ?_ _)); refine blk_put (cs := #[.int .i64 3, .int .i64 0, .string (⟨#[]⟩ : ByteArray)]) ?_ 1 _ rfl; (with_reducible repeat (first | refine blk_drewN ?_ _ | refine blk_drew ?_ | refine blk_alloc ?_ _)); refine blk_put (cs := #[.int .i64 0, .int .i64 0, .string (⟨#[]⟩ : ByteArray)]) ?_ 0 _ rfl; (with_reducible repeat (first | refine blk_drewN ?_ _ | refine blk_drew ?_ | refine blk_alloc ?_ _)); refine blk_far ?_ NB115_116.out _; (with_reducible repeat (first | refine blk_drewN ?_ _ | refine blk_drew ?_ | refine blk_alloc ?_ _)); refine blk_far ?_ NB115_116.out _; (with_reducible repeat (first | refine blk_drewN ?_ _ | refine blk_drew ?_ | refine blk_alloc ?_ _)); refine blk_far ?_ NB115_116.out _; (with_reducible repeat (first | refine blk_drewN ?_ _ | refine blk_drew ?_ | refine blk_alloc ?_ _)); exact BK115.out) Tryd.underlying23 rfl (by kernel_rfl)) rfl ?_
  exact ⟨by first | rfl | (simp [errW_none, errW_some] <;> rfl) | (simp [*, errW_none, errW_some] <;> rfl), by repeat (first | (with_reducible first | exact HB.out | apply below_alloc | apply pw_below_drewN | apply below_drew1 | refine below_set ?_ GE115.out | refine below_set ?_ GE116.out) | exact HB.out)⟩
end Go.Proofs.YtmhnfdgegejlkaaDoor.P
end

section
namespace Go.Proofs.YtmhnfdgegejlkaaDoor.P
open Go Go.RowKit Go.Proofs.YtmhnfdgegejlkaaDoorW.PrintWords Go.Proofs.YtmhnfdgegejlkaaDoorW.PrintLast Go.Proofs.YtmhnfdgegejlkaaDoorW.PrintMore
set_option linter.unusedVariables false
set_option linter.unusedSimpArgs false
def rightI (n : Int) : Bool := decide (-549755813888 ≤ n) && decide (n ≤ 549755813887)
def rightT (t : ByteArray) : Bool := decide ((t.size : Int) ≤ 40)
def parseP (s : ByteArray) : Option (Int × Int × ByteArray) :=
  if s.toList = [110, 117, 108, 108] then some (0, 0, ⟨#[]⟩)
  else if s.toList = [116, 114, 117, 101] then some (3, 1, ⟨#[]⟩)
  else if s.toList = [102, 97, 108, 115, 101] then some (3, 0, ⟨#[]⟩)
  else match quotedP s with
    | some t => if rightT t then some (2, 0, t) else none
    | none => match Lib.atoiAll s.data.toList with
      | .ok n => if Lib.itoa n = s.data.toList then if rightI n then some (1, n, ⟨#[]⟩) else none else none
      | _ => none
def value_ParseT.f (s : ByteArray) : Option (Int × Int × ByteArray × Bool) :=
  if s.size ≤ 140737488351232 then some (match parseP s with
    | some v => (v.1, v.2.1, v.2.2, true)
    | none => (0, 0, ⟨#[]⟩, false)) else none
theorem atoi_cases (l : List UInt8) : (∃ n, Lib.atoiAll l = .ok n) ∨ Lib.atoiAll l = Lib.NumEnd.syntax ∨ Lib.atoiAll l = .range := by
  cases Lib.atoiAll l <;> simp
theorem Right_I (n : Int) : value_Right.f 1 n ⟨#[]⟩ = some (rightI n) := by
  unfold value_Right.f rightI
  by_cases h1 : n ≥ -549755813888
  · by_cases h2 : n ≤ 549755813887
    · simp only [if_pos h1, if_pos h2]; simp; omega
    · simp only [if_pos h1, if_neg h2]; simp; omega
  · simp only [if_neg h1]; simp; omega
theorem Right_T (t : ByteArray) : value_Right.f 2 0 t = some (rightT t) := by
  unfold value_Right.f rightT
  simp
set_option maxHeartbeats 2000000 in
set_option maxRecDepth 100000 in
theorem value_ParseT.calls (a0 : ByteArray) (r1 : Int) (r2 : Int) (r3 : ByteArray) (r4 : Bool) (w : World) (htab : TabW w) (h : value_ParseT.f a0 = some (r1, r2, r3, r4)) :
    Calls Tryd.prog 40 #[.string a0] w fun e w' => e = .returned (.tuple #[.agg #[.int .i64 r1, .int .i64 r2, .string r3], .bool r4]) ∧ Below w.heap.size w w' := by
  have hs : a0.size ≤ 140737488351232 := by
    unfold value_ParseT.f at h
    split at h
    · assumption
    · cases h
  unfold value_ParseT.f at h
  rw [if_pos hs] at h
  replace h := Option.some.inj h
  have HT := Aside0.mk htab
  have HB := Aside0.mk (Below.refl w.heap.size w)
  clear htab
  by_cases e1 : a0.toList = [110, 117, 108, 108]
  · have hp : parseP a0 = some (0, 0, ⟨#[]⟩) := by unfold parseP; rw [if_pos e1]
    rw [hp] at h
    obtain ⟨rfl, rfl, rfl, rfl⟩ : 0 = r1 ∧ 0 = r2 ∧ ⟨#[]⟩ = r3 ∧ true = r4 := by simpa using h
    have b1 : (a0.toList == ([110, 117, 108, 108] : List UInt8)) = true := by simpa using e1
    clear hp h e1
    go_enter Tryd.func40, Tryd.ntmps40
    go_wp2_with (first
      | ((with_reducible refine gate_dst (N := 2) rfl ?_); refine box_event ?hg (N := 2) ?hd (cs := #[.int .i64 0, .int .i64 0, .string (⟨#[]⟩ : ByteArray)]) (t := 23) ?hr ?_; (case hd => rfl); (case hg => rfl); (case hr => first | (go_simp; done) | (go_simp; rfl)); intro g2 hg w2 hbox hb; have BK2 := Aside0.mk hbox; have GE2 := (sizeB HB hg : Aside0 (w.heap.size ≤ g2)); replace HB := stepB HB hb; clear hb hbox hg)
      | ((with_reducible refine gate_dst (N := 4) rfl ?_); refine box_event ?hg (N := 4) ?hd (cs := #[.int .i64 0, .int .i64 0, .string (⟨#[]⟩ : ByteArray)]) (t := 23) ?hr ?_; (case hd => rfl); (case hg => rfl); (case hr => first | (go_simp; done) | (go_simp; rfl)); intro g4 hg w4 hbox hb; have BK4 := Aside0.mk hbox; have GE4 := (sizeB HB hg : Aside0 (w.heap.size ≤ g4)); have NE := neB BK2 hg; have EN := neC BK2 hg; replace BK2 := blkB BK2 hb; replace HB := stepB HB hb; clear hb hbox hg; have ne' := NE.out; have en' := EN.out; have c0 := bc BK4 0; have c1 := bc BK4 1; have c2 := bc BK4 2; have f0 := blk_frozen BK2.out 0; have f1 := blk_frozen BK2.out 1; have f2 := blk_frozen BK2.out 2; have d0 := bc BK2 0; have d1 := bc BK2 1; have d2 := bc BK2 2; have k0 := blk_frozen BK4.out 0; have k1 := blk_frozen BK4.out 1; have k2 := blk_frozen BK4.out 2))
    refine bodyPost_ret (results_ct rfl _ _ g2 23 #[.int .i64 0, .int .i64 0, .string (⟨#[]⟩ : ByteArray)] (0, 0) _ rfl (blkA BK2).out Tryd.underlying23 rfl (by kernel_rfl)) rfl ?_
    exact ⟨rfl, (belA HB).out⟩
  · by_cases e2 : a0.toList = [116, 114, 117, 101]
    · have hp : parseP a0 = some (3, 1, ⟨#[]⟩) := by unfold parseP; rw [if_neg e1, if_pos e2]
      rw [hp] at h
      obtain ⟨rfl, rfl, rfl, rfl⟩ : 3 = r1 ∧ 1 = r2 ∧ (⟨#[]⟩ : ByteArray) = r3 ∧ true = r4 := by simpa using h
      have b1 : (a0.toList == ([110, 117, 108, 108] : List UInt8)) = false := by simpa using e1
      have b2 : (a0.toList == ([116, 114, 117, 101] : List UInt8)) = true := by simpa using e2
      clear hp h e1 e2
      go_enter Tryd.func40, Tryd.ntmps40
      go_wp2_with (first
        | ((with_reducible refine gate_dst (N := 2) rfl ?_); refine box_event ?hg (N := 2) ?hd (cs := #[.int .i64 0, .int .i64 0, .string (⟨#[]⟩ : ByteArray)]) (t := 23) ?hr ?_; (case hd => rfl); (case hg => rfl); (case hr => first | (go_simp; done) | (go_simp; rfl)); intro g2 hg w2 hbox hb; have BK2 := Aside0.mk hbox; have GE2 := (sizeB HB hg : Aside0 (w.heap.size ≤ g2)); replace HB := stepB HB hb; clear hb hbox hg)
        | ((with_reducible refine gate_dst (N := 4) rfl ?_); refine box_event ?hg (N := 4) ?hd (cs := #[.int .i64 0, .int .i64 0, .string (⟨#[]⟩ : ByteArray)]) (t := 23) ?hr ?_; (case hd => rfl); (case hg => rfl); (case hr => first | (go_simp; done) | (go_simp; rfl)); intro g4 hg w4 hbox hb; have BK4 := Aside0.mk hbox; have GE4 := (sizeB HB hg : Aside0 (w.heap.size ≤ g4)); have NE := neB BK2 hg; have EN := neC BK2 hg; replace BK2 := blkB BK2 hb; replace HB := stepB HB hb; clear hb hbox hg; have ne' := NE.out; have en' := EN.out; have c0 := bc BK4 0; have c1 := bc BK4 1; have c2 := bc BK4 2; have f0 := blk_frozen BK2.out 0; have f1 := blk_frozen BK2.out 1; have f2 := blk_frozen BK2.out 2; have d0 := bc BK2 0; have d1 := bc BK2 1; have d2 := bc BK2 2; have k0 := blk_frozen BK4.out 0; have k1 := blk_frozen BK4.out 1; have k2 := blk_frozen BK4.out 2)
        | (go_at_call 46; refine (value_truth.calls true 3 1 ⟨#[]⟩ _ rfl).mono ?_; rintro e w5 ⟨rfl, hb⟩; replace BK2 := blkB BK2 hb; replace BK4 := blkB BK4 hb; replace HB := stepB HB hb; clear c0 c1 c2 f0 f1 f2 d0 d1 d2 k0 k1 k2; clear hb; have c0 := bc BK4 0; have c1 := bc BK4 1; have c2 := bc BK4 2; have f0 := blk_frozen BK2.out 0; have f1 := blk_frozen BK2.out 1; have f2 := blk_frozen BK2.out 2; have d0 := bc BK2 0; have d1 := bc BK2 1; have d2 := bc BK2 2; have k0 := blk_frozen BK4.out 0; have k1 := blk_frozen BK4.out 1; have k2 := blk_frozen BK4.out 2))
      refine bodyPost_ret (results_ct rfl _ _ g2 23 #[.int .i64 3, .int .i64 1, .string (⟨#[]⟩ : ByteArray)] (0, 0) _ rfl (blkA BK2).out Tryd.underlying23 rfl (by kernel_rfl)) rfl ?_
      exact ⟨rfl, (belA HB).out⟩
    · by_cases e3 : a0.toList = [102, 97, 108, 115, 101]
      · have hp : parseP a0 = some (3, 0, ⟨#[]⟩) := by unfold parseP; rw [if_neg e1, if_neg e2, if_pos e3]
        rw [hp] at h
        obtain ⟨rfl, rfl, rfl, rfl⟩ : 3 = r1 ∧ 0 = r2 ∧ (⟨#[]⟩ : ByteArray) = r3 ∧ true = r4 := by simpa using h
        have b1 : (a0.toList == ([110, 117, 108, 108] : List UInt8)) = false := by simpa using e1
        have b2 : (a0.toList == ([116, 114, 117, 101] : List UInt8)) = false := by simpa using e2
        have b3 : (a0.toList == ([102, 97, 108, 115, 101] : List UInt8)) = true := by simpa using e3
        clear hp h e1 e2 e3
        go_enter Tryd.func40, Tryd.ntmps40
        go_wp2_with (first
          | ((with_reducible refine gate_dst (N := 2) rfl ?_); refine box_event ?hg (N := 2) ?hd (cs := #[.int .i64 0, .int .i64 0, .string (⟨#[]⟩ : ByteArray)]) (t := 23) ?hr ?_; (case hd => rfl); (case hg => rfl); (case hr => first | (go_simp; done) | (go_simp; rfl)); intro g2 hg w2 hbox hb; have BK2 := Aside0.mk hbox; have GE2 := (sizeB HB hg : Aside0 (w.heap.size ≤ g2)); replace HB := stepB HB hb; clear hb hbox hg)
          | ((with_reducible refine gate_dst (N := 4) rfl ?_); refine box_event ?hg (N := 4) ?hd (cs := #[.int .i64 0, .int .i64 0, .string (⟨#[]⟩ : ByteArray)]) (t := 23) ?hr ?_; (case hd => rfl); (case hg => rfl); (case hr => first | (go_simp; done) | (go_simp; rfl)); intro g4 hg w4 hbox hb; have BK4 := Aside0.mk hbox; have GE4 := (sizeB HB hg : Aside0 (w.heap.size ≤ g4)); have NE := neB BK2 hg; have EN := neC BK2 hg; replace BK2 := blkB BK2 hb; replace HB := stepB HB hb; clear hb hbox hg; have ne' := NE.out; have en' := EN.out; have c0 := bc BK4 0; have c1 := bc BK4 1; have c2 := bc BK4 2; have f0 := blk_frozen BK2.out 0; have f1 := blk_frozen BK2.out 1; have f2 := blk_frozen BK2.out 2; have d0 := bc BK2 0; have d1 := bc BK2 1; have d2 := bc BK2 2; have k0 := blk_frozen BK4.out 0; have k1 := blk_frozen BK4.out 1; have k2 := blk_frozen BK4.out 2)
          | (go_at_call 46; refine (value_truth.calls false 3 0 ⟨#[]⟩ _ rfl).mono ?_; rintro e w5 ⟨rfl, hb⟩; replace BK2 := blkB BK2 hb; replace BK4 := blkB BK4 hb; replace HB := stepB HB hb; clear c0 c1 c2 f0 f1 f2 d0 d1 d2 k0 k1 k2; clear hb; have c0 := bc BK4 0; have c1 := bc BK4 1; have c2 := bc BK4 2; have f0 := blk_frozen BK2.out 0; have f1 := blk_frozen BK2.out 1; have f2 := blk_frozen BK2.out 2; have d0 := bc BK2 0; have d1 := bc BK2 1; have d2 := bc BK2 2; have k0 := blk_frozen BK4.out 0; have k1 := blk_frozen BK4.out 1; have k2 := blk_frozen BK4.out 2))
        refine bodyPost_ret (results_ct rfl _ _ g2 23 #[.int .i64 3, .int .i64 0, .string (⟨#[]⟩ : ByteArray)] (0, 0) _ rfl (blkA BK2).out Tryd.underlying23 rfl (by kernel_rfl)) rfl ?_
        exact ⟨rfl, (belA HB).out⟩
      · have hQ := fun W hW => value_quoted_calls a0 hs W hW
        have b1 : (a0.toList == ([110, 117, 108, 108] : List UInt8)) = false := by simpa using e1
        have b2 : (a0.toList == ([116, 114, 117, 101] : List UInt8)) = false := by simpa using e2
        have b3 : (a0.toList == ([102, 97, 108, 115, 101] : List UInt8)) = false := by simpa using e3
        cases hq : quotedP a0 with
        | some t =>
          rw [hq] at hQ
          have hQ' : ∀ W, TabW W → Calls Tryd.prog 64 #[.string a0] W fun e w' => e = .returned (.tuple #[.string t, .bool true]) ∧ Below W.heap.size W w' := hQ
          clear hQ
          cases hr : rightT t with
          | true =>
            have hp : parseP a0 = some (2, 0, t) := by unfold parseP; rw [if_neg e1, if_neg e2, if_neg e3, hq]; simp [hr]
            rw [hp] at h
            obtain ⟨rfl, rfl, rfl, rfl⟩ : 2 = r1 ∧ 0 = r2 ∧ t = r3 ∧ true = r4 := by simpa using h
            have hR := fun W => value_Right.calls 2 0 t true W (by rw [Right_T, hr])
            clear hp h e1 e2 e3 hq hr
            go_enter Tryd.func40, Tryd.ntmps40
            go_wp2_with (first
              | ((with_reducible refine gate_dst (N := 2) rfl ?_); refine box_event ?hg (N := 2) ?hd (cs := #[.int .i64 0, .int .i64 0, .string (⟨#[]⟩ : ByteArray)]) (t := 23) ?hr ?_; (case hd => rfl); (case hg => rfl); (case hr => first | (go_simp; done) | (go_simp; rfl)); intro g2 hg w2 hbox hb; have BK2 := Aside0.mk hbox; have GE2 := (sizeB HB hg : Aside0 (w.heap.size ≤ g2)); replace HB := stepB HB hb; clear hb hbox hg)
              | ((with_reducible refine gate_dst (N := 4) rfl ?_); refine box_event ?hg (N := 4) ?hd (cs := #[.int .i64 0, .int .i64 0, .string (⟨#[]⟩ : ByteArray)]) (t := 23) ?hr ?_; (case hd => rfl); (case hg => rfl); (case hr => first | (go_simp; done) | (go_simp; rfl)); intro g4 hg w4 hbox hb; have BK4 := Aside0.mk hbox; have GE4 := (sizeB HB hg : Aside0 (w.heap.size ≤ g4)); have NE := neB BK2 hg; have EN := neC BK2 hg; replace BK2 := blkB BK2 hb; replace HB := stepB HB hb; clear hb hbox hg; have ne' := NE.out; have en' := EN.out; have c0 := bc BK4 0; have c1 := bc BK4 1; have c2 := bc BK4 2; have f0 := blk_frozen BK2.out 0; have f1 := blk_frozen BK2.out 1; have f2 := blk_frozen BK2.out 2; have d0 := bc BK2 0; have d1 := bc BK2 1; have d2 := bc BK2 2; have k0 := blk_frozen BK4.out 0; have k1 := blk_frozen BK4.out 1; have k2 := blk_frozen BK4.out 2)
              | (go_at_call 64; refine (hQ' _ (tab_below HT.out HB.out)).mono ?_; rintro e w5 ⟨rfl, hb⟩; replace BK2 := blkB BK2 hb; replace BK4 := blkB BK4 hb; replace HB := stepB HB hb; clear c0 c1 c2 f0 f1 f2 d0 d1 d2 k0 k1 k2; clear hb; have c0 := bc BK4 0; have c1 := bc BK4 1; have c2 := bc BK4 2; have f0 := blk_frozen BK2.out 0; have f1 := blk_frozen BK2.out 1; have f2 := blk_frozen BK2.out 2; have d0 := bc BK2 0; have d1 := bc BK2 1; have d2 := bc BK2 2; have k0 := blk_frozen BK4.out 0; have k1 := blk_frozen BK4.out 1; have k2 := blk_frozen BK4.out 2)
              | (go_at_call 19; refine (hR _).mono ?_; rintro e w6 ⟨rfl, hb⟩; replace BK2 : Aside0 (w6.heap[g2]? = some (.cells #[.int .i64 0, .int .i64 0, .string (⟨#[]⟩ : ByteArray)] 23 (0, 0))) := blkC BK2 hb; replace BK4 : Aside0 (w6.heap[g4]? = some (.cells #[.int .i64 2, .int .i64 0, .string t] 23 (0, 0))) := blkC BK4 hb; replace HB := stepB HB hb; clear c0 c1 c2 f0 f1 f2 d0 d1 d2 k0 k1 k2; clear hb; have c0 := bc BK4 0; have c1 := bc BK4 1; have c2 := bc BK4 2; have f0 := blk_frozen BK2.out 0; have f1 := blk_frozen BK2.out 1; have f2 := blk_frozen BK2.out 2; have d0 := bc BK2 0; have d1 := bc BK2 1; have d2 := bc BK2 2; have k0 := blk_frozen BK4.out 0; have k1 := blk_frozen BK4.out 1; have k2 := blk_frozen BK4.out 2))
            refine bodyPost_ret (results_ct rfl _ _ g2 23 #[.int .i64 2, .int .i64 0, .string t] (0, 0) _ rfl (blkA BK2).out Tryd.underlying23 rfl (by kernel_rfl)) rfl ?_
            exact ⟨rfl, (belA HB).out⟩
          | false =>
            have hp : parseP a0 = none := by unfold parseP; rw [if_neg e1, if_neg e2, if_neg e3, hq]; simp [hr]
            rw [hp] at h
            obtain ⟨rfl, rfl, rfl, rfl⟩ : 0 = r1 ∧ 0 = r2 ∧ (⟨#[]⟩ : ByteArray) = r3 ∧ false = r4 := by simpa using h
            have hR := fun W => value_Right.calls 2 0 t false W (by rw [Right_T, hr])
            clear hp h e1 e2 e3 hq hr
            go_enter Tryd.func40, Tryd.ntmps40
            go_wp2_with (first
              | ((with_reducible refine gate_dst (N := 2) rfl ?_); refine box_event ?hg (N := 2) ?hd (cs := #[.int .i64 0, .int .i64 0, .string (⟨#[]⟩ : ByteArray)]) (t := 23) ?hr ?_; (case hd => rfl); (case hg => rfl); (case hr => first | (go_simp; done) | (go_simp; rfl)); intro g2 hg w2 hbox hb; have BK2 := Aside0.mk hbox; have GE2 := (sizeB HB hg : Aside0 (w.heap.size ≤ g2)); replace HB := stepB HB hb; clear hb hbox hg)
              | ((with_reducible refine gate_dst (N := 4) rfl ?_); refine box_event ?hg (N := 4) ?hd (cs := #[.int .i64 0, .int .i64 0, .string (⟨#[]⟩ : ByteArray)]) (t := 23) ?hr ?_; (case hd => rfl); (case hg => rfl); (case hr => first | (go_simp; done) | (go_simp; rfl)); intro g4 hg w4 hbox hb; have BK4 := Aside0.mk hbox; have GE4 := (sizeB HB hg : Aside0 (w.heap.size ≤ g4)); have NE := neB BK2 hg; have EN := neC BK2 hg; replace BK2 := blkB BK2 hb; replace HB := stepB HB hb; clear hb hbox hg; have ne' := NE.out; have en' := EN.out; have c0 := bc BK4 0; have c1 := bc BK4 1; have c2 := bc BK4 2; have f0 := blk_frozen BK2.out 0; have f1 := blk_frozen BK2.out 1; have f2 := blk_frozen BK2.out 2; have d0 := bc BK2 0; have d1 := bc BK2 1; have d2 := bc BK2 2; have k0 := blk_frozen BK4.out 0; have k1 := blk_frozen BK4.out 1; have k2 := blk_frozen BK4.out 2)
              | (go_at_call 64; refine (hQ' _ (tab_below HT.out HB.out)).mono ?_; rintro e w5 ⟨rfl, hb⟩; replace BK2 := blkB BK2 hb; replace BK4 := blkB BK4 hb; replace HB := stepB HB hb; clear c0 c1 c2 f0 f1 f2 d0 d1 d2 k0 k1 k2; clear hb; have c0 := bc BK4 0; have c1 := bc BK4 1; have c2 := bc BK4 2; have f0 := blk_frozen BK2.out 0; have f1 := blk_frozen BK2.out 1; have f2 := blk_frozen BK2.out 2; have d0 := bc BK2 0; have d1 := bc BK2 1; have d2 := bc BK2 2; have k0 := blk_frozen BK4.out 0; have k1 := blk_frozen BK4.out 1; have k2 := blk_frozen BK4.out 2)
              | (go_at_call 19; refine (hR _).mono ?_; rintro e w6 ⟨rfl, hb⟩; replace BK2 : Aside0 (w6.heap[g2]? = some (.cells #[.int .i64 0, .int .i64 0, .string (⟨#[]⟩ : ByteArray)] 23 (0, 0))) := blkC BK2 hb; replace BK4 : Aside0 (w6.heap[g4]? = some (.cells #[.int .i64 2, .int .i64 0, .string t] 23 (0, 0))) := blkC BK4 hb; replace HB := stepB HB hb; clear c0 c1 c2 f0 f1 f2 d0 d1 d2 k0 k1 k2; clear hb; have c0 := bc BK4 0; have c1 := bc BK4 1; have c2 := bc BK4 2; have f0 := blk_frozen BK2.out 0; have f1 := blk_frozen BK2.out 1; have f2 := blk_frozen BK2.out 2; have d0 := bc BK2 0; have d1 := bc BK2 1; have d2 := bc BK2 2; have k0 := blk_frozen BK4.out 0; have k1 := blk_frozen BK4.out 1; have k2 := blk_frozen BK4.out 2))
            refine bodyPost_ret (results_ct rfl _ _ g2 23 #[.int .i64 0, .int .i64 0, .string (⟨#[]⟩ : ByteArray)] (0, 0) _ rfl (blkA BK2).out Tryd.underlying23 rfl (by kernel_rfl)) rfl ?_
            exact ⟨rfl, (belA HB).out⟩
        | none =>
          rw [hq] at hQ
          have hQ' : ∀ W, TabW W → Calls Tryd.prog 64 #[.string a0] W fun e w' => e = .returned (.tuple #[.string ⟨#[]⟩, .bool false]) ∧ Below W.heap.size W w' := hQ
          clear hQ
          rcases atoi_cases a0.data.toList with ⟨n, ha⟩ | ha | ha
          ·
            have hA : ∀ W, Calls Tryd.prog 65 #[.string a0] W fun e w' => e = .returned (.tuple #[.int .i64 n, .nilIface]) ∧ Below W.heap.size W w' := fun W => (Tryd.strconv_Atoi_ok a0 (by omega) n ha W).mono fun e w' hh => by
              obtain ⟨he, hw | ⟨t, hw⟩⟩ := hh
              · subst hw; exact ⟨he, Below.refl _ _⟩
              · subst hw; exact ⟨he, bytes_below (Below.refl _ _) (Nat.le_refl _) 5 t⟩
            have hbd := Lib.atoiAll_bounds ha
            have hI : ∀ W, TabW W → Calls Tryd.prog 53 #[.int .i64 n] W fun e w' => e = .returned (.string ⟨(Lib.itoa n).toArray⟩) ∧ Below W.heap.size W w' := fun W hW => strconv_ItoaT.calls n ⟨(Lib.itoa n).toArray⟩ W hW (by unfold strconv_ItoaT.f; rw [if_pos (by omega)])
            have hdat : (⟨(Lib.itoa n).toArray⟩ : ByteArray).toList = Lib.itoa n := by rw [Lib.toList_data]
            have hda : a0.toList = a0.data.toList := Lib.toList_data a0
            clear hbd
            by_cases hi : Lib.itoa n = a0.data.toList
            · have hx : ((⟨(Lib.itoa n).toArray⟩ : ByteArray).toList == a0.toList) = true := by rw [hdat, hda, hi]; simp
              have hx2 : ((⟨(Lib.itoa n).toArray⟩ : ByteArray).toList != a0.toList) = false := by rw [hdat, hda, hi]; simp
              generalize (⟨(Lib.itoa n).toArray⟩ : ByteArray) = t at hI hdat hx hx2
              cases hr : rightI n with
              | true =>
                have hp : parseP a0 = some (1, n, ⟨#[]⟩) := by unfold parseP; rw [if_neg e1, if_neg e2, if_neg e3, hq]; simp [ha, hi, hr]
                rw [hp] at h
                obtain ⟨rfl, rfl, rfl, rfl⟩ : 1 = r1 ∧ n = r2 ∧ (⟨#[]⟩ : ByteArray) = r3 ∧ true = r4 := by simpa using h
                have hR := fun W => value_Right.calls 1 n ⟨#[]⟩ true W (by rw [Right_I, hr])
                clear hp h e1 e2 e3 hq hr hdat hda hi ha
                go_enter Tryd.func40, Tryd.ntmps40
                go_wp2_with (first
                  | ((with_reducible refine gate_dst (N := 2) rfl ?_); refine box_event ?hg (N := 2) ?hd (cs := #[.int .i64 0, .int .i64 0, .string (⟨#[]⟩ : ByteArray)]) (t := 23) ?hr ?_; (case hd => rfl); (case hg => rfl); (case hr => first | (go_simp; done) | (go_simp; rfl)); intro g2 hg w2 hbox hb; have BK2 := Aside0.mk hbox; have GE2 := (sizeB HB hg : Aside0 (w.heap.size ≤ g2)); replace HB := stepB HB hb; clear hb hbox hg)
                  | ((with_reducible refine gate_dst (N := 4) rfl ?_); refine box_event ?hg (N := 4) ?hd (cs := #[.int .i64 0, .int .i64 0, .string (⟨#[]⟩ : ByteArray)]) (t := 23) ?hr ?_; (case hd => rfl); (case hg => rfl); (case hr => first | (go_simp; done) | (go_simp; rfl)); intro g4 hg w4 hbox hb; have BK4 := Aside0.mk hbox; have GE4 := (sizeB HB hg : Aside0 (w.heap.size ≤ g4)); have NE := neB BK2 hg; have EN := neC BK2 hg; replace BK2 := blkB BK2 hb; replace HB := stepB HB hb; clear hb hbox hg; have ne' := NE.out; have en' := EN.out; have c0 := bc BK4 0; have c1 := bc BK4 1; have c2 := bc BK4 2; have f0 := blk_frozen BK2.out 0; have f1 := blk_frozen BK2.out 1; have f2 := blk_frozen BK2.out 2; have d0 := bc BK2 0; have d1 := bc BK2 1; have d2 := bc BK2 2; have k0 := blk_frozen BK4.out 0; have k1 := blk_frozen BK4.out 1; have k2 := blk_frozen BK4.out 2)
                  | (go_at_call 64; refine (hQ' _ (tab_below HT.out HB.out)).mono ?_; rintro e w5 ⟨rfl, hb⟩; replace BK2 := blkB BK2 hb; replace BK4 := blkB BK4 hb; replace HB := stepB HB hb; clear c0 c1 c2 f0 f1 f2 d0 d1 d2 k0 k1 k2; clear hb; have c0 := bc BK4 0; have c1 := bc BK4 1; have c2 := bc BK4 2; have f0 := blk_frozen BK2.out 0; have f1 := blk_frozen BK2.out 1; have f2 := blk_frozen BK2.out 2; have d0 := bc BK2 0; have d1 := bc BK2 1; have d2 := bc BK2 2; have k0 := blk_frozen BK4.out 0; have k1 := blk_frozen BK4.out 1; have k2 := blk_frozen BK4.out 2)
                  | (go_at_call 65; refine (hA _).mono ?_; rintro e w5 ⟨rfl, hb⟩; replace BK2 := blkB BK2 hb; replace BK4 := blkB BK4 hb; replace HB := stepB HB hb; clear c0 c1 c2 f0 f1 f2 d0 d1 d2 k0 k1 k2; clear hb; have c0 := bc BK4 0; have c1 := bc BK4 1; have c2 := bc BK4 2; have f0 := blk_frozen BK2.out 0; have f1 := blk_frozen BK2.out 1; have f2 := blk_frozen BK2.out 2; have d0 := bc BK2 0; have d1 := bc BK2 1; have d2 := bc BK2 2; have k0 := blk_frozen BK4.out 0; have k1 := blk_frozen BK4.out 1; have k2 := blk_frozen BK4.out 2)
                  | (go_at_call 53; refine (hI _ (tab_below HT.out HB.out)).mono ?_; rintro e w5 ⟨rfl, hb⟩; replace BK2 := blkB BK2 hb; replace BK4 := blkB BK4 hb; replace HB := stepB HB hb; clear c0 c1 c2 f0 f1 f2 d0 d1 d2 k0 k1 k2; clear hb; have c0 := bc BK4 0; have c1 := bc BK4 1; have c2 := bc BK4 2; have f0 := blk_frozen BK2.out 0; have f1 := blk_frozen BK2.out 1; have f2 := blk_frozen BK2.out 2; have d0 := bc BK2 0; have d1 := bc BK2 1; have d2 := bc BK2 2; have k0 := blk_frozen BK4.out 0; have k1 := blk_frozen BK4.out 1; have k2 := blk_frozen BK4.out 2)
                  | (go_at_call 19; refine (hR _).mono ?_; rintro e w6 ⟨rfl, hb⟩; replace BK2 : Aside0 (w6.heap[g2]? = some (.cells #[.int .i64 0, .int .i64 0, .string (⟨#[]⟩ : ByteArray)] 23 (0, 0))) := blkC BK2 hb; replace BK4 : Aside0 (w6.heap[g4]? = some (.cells #[.int .i64 1, .int .i64 n, .string (⟨#[]⟩ : ByteArray)] 23 (0, 0))) := blkC BK4 hb; replace HB := stepB HB hb; clear c0 c1 c2 f0 f1 f2 d0 d1 d2 k0 k1 k2; clear hb; have c0 := bc BK4 0; have c1 := bc BK4 1; have c2 := bc BK4 2; have f0 := blk_frozen BK2.out 0; have f1 := blk_frozen BK2.out 1; have f2 := blk_frozen BK2.out 2; have d0 := bc BK2 0; have d1 := bc BK2 1; have d2 := bc BK2 2; have k0 := blk_frozen BK4.out 0; have k1 := blk_frozen BK4.out 1; have k2 := blk_frozen BK4.out 2))
                refine bodyPost_ret (results_ct rfl _ _ g2 23 #[.int .i64 1, .int .i64 n, .string (⟨#[]⟩ : ByteArray)] (0, 0) _ rfl (blkA BK2).out Tryd.underlying23 rfl (by kernel_rfl)) rfl ?_
                exact ⟨rfl, (belA HB).out⟩
              | false =>
                have hp : parseP a0 = none := by unfold parseP; rw [if_neg e1, if_neg e2, if_neg e3, hq]; simp [ha, hi, hr]
                rw [hp] at h
                obtain ⟨rfl, rfl, rfl, rfl⟩ : 0 = r1 ∧ 0 = r2 ∧ (⟨#[]⟩ : ByteArray) = r3 ∧ false = r4 := by simpa using h
                have hR := fun W => value_Right.calls 1 n ⟨#[]⟩ false W (by rw [Right_I, hr])
                clear hp h e1 e2 e3 hq hr hdat hda hi ha
                go_enter Tryd.func40, Tryd.ntmps40
                go_wp2_with (first
                  | ((with_reducible refine gate_dst (N := 2) rfl ?_); refine box_event ?hg (N := 2) ?hd (cs := #[.int .i64 0, .int .i64 0, .string (⟨#[]⟩ : ByteArray)]) (t := 23) ?hr ?_; (case hd => rfl); (case hg => rfl); (case hr => first | (go_simp; done) | (go_simp; rfl)); intro g2 hg w2 hbox hb; have BK2 := Aside0.mk hbox; have GE2 := (sizeB HB hg : Aside0 (w.heap.size ≤ g2)); replace HB := stepB HB hb; clear hb hbox hg)
                  | ((with_reducible refine gate_dst (N := 4) rfl ?_); refine box_event ?hg (N := 4) ?hd (cs := #[.int .i64 0, .int .i64 0, .string (⟨#[]⟩ : ByteArray)]) (t := 23) ?hr ?_; (case hd => rfl); (case hg => rfl); (case hr => first | (go_simp; done) | (go_simp; rfl)); intro g4 hg w4 hbox hb; have BK4 := Aside0.mk hbox; have GE4 := (sizeB HB hg : Aside0 (w.heap.size ≤ g4)); have NE := neB BK2 hg; have EN := neC BK2 hg; replace BK2 := blkB BK2 hb; replace HB := stepB HB hb; clear hb hbox hg; have ne' := NE.out; have en' := EN.out; have c0 := bc BK4 0; have c1 := bc BK4 1; have c2 := bc BK4 2; have f0 := blk_frozen BK2.out 0; have f1 := blk_frozen BK2.out 1; have f2 := blk_frozen BK2.out 2; have d0 := bc BK2 0; have d1 := bc BK2 1; have d2 := bc BK2 2; have k0 := blk_frozen BK4.out 0; have k1 := blk_frozen BK4.out 1; have k2 := blk_frozen BK4.out 2)
                  | (go_at_call 64; refine (hQ' _ (tab_below HT.out HB.out)).mono ?_; rintro e w5 ⟨rfl, hb⟩; replace BK2 := blkB BK2 hb; replace BK4 := blkB BK4 hb; replace HB := stepB HB hb; clear c0 c1 c2 f0 f1 f2 d0 d1 d2 k0 k1 k2; clear hb; have c0 := bc BK4 0; have c1 := bc BK4 1; have c2 := bc BK4 2; have f0 := blk_frozen BK2.out 0; have f1 := blk_frozen BK2.out 1; have f2 := blk_frozen BK2.out 2; have d0 := bc BK2 0; have d1 := bc BK2 1; have d2 := bc BK2 2; have k0 := blk_frozen BK4.out 0; have k1 := blk_frozen BK4.out 1; have k2 := blk_frozen BK4.out 2)
                  | (go_at_call 65; refine (hA _).mono ?_; rintro e w5 ⟨rfl, hb⟩; replace BK2 := blkB BK2 hb; replace BK4 := blkB BK4 hb; replace HB := stepB HB hb; clear c0 c1 c2 f0 f1 f2 d0 d1 d2 k0 k1 k2; clear hb; have c0 := bc BK4 0; have c1 := bc BK4 1; have c2 := bc BK4 2; have f0 := blk_frozen BK2.out 0; have f1 := blk_frozen BK2.out 1; have f2 := blk_frozen BK2.out 2; have d0 := bc BK2 0; have d1 := bc BK2 1; have d2 := bc BK2 2; have k0 := blk_frozen BK4.out 0; have k1 := blk_frozen BK4.out 1; have k2 := blk_frozen BK4.out 2)
                  | (go_at_call 53; refine (hI _ (tab_below HT.out HB.out)).mono ?_; rintro e w5 ⟨rfl, hb⟩; replace BK2 := blkB BK2 hb; replace BK4 := blkB BK4 hb; replace HB := stepB HB hb; clear c0 c1 c2 f0 f1 f2 d0 d1 d2 k0 k1 k2; clear hb; have c0 := bc BK4 0; have c1 := bc BK4 1; have c2 := bc BK4 2; have f0 := blk_frozen BK2.out 0; have f1 := blk_frozen BK2.out 1; have f2 := blk_frozen BK2.out 2; have d0 := bc BK2 0; have d1 := bc BK2 1; have d2 := bc BK2 2; have k0 := blk_frozen BK4.out 0; have k1 := blk_frozen BK4.out 1; have k2 := blk_frozen BK4.out 2)
                  | (go_at_call 19; refine (hR _).mono ?_; rintro e w6 ⟨rfl, hb⟩; replace BK2 : Aside0 (w6.heap[g2]? = some (.cells #[.int .i64 0, .int .i64 0, .string (⟨#[]⟩ : ByteArray)] 23 (0, 0))) := blkC BK2 hb; replace BK4 : Aside0 (w6.heap[g4]? = some (.cells #[.int .i64 1, .int .i64 n, .string (⟨#[]⟩ : ByteArray)] 23 (0, 0))) := blkC BK4 hb; replace HB := stepB HB hb; clear c0 c1 c2 f0 f1 f2 d0 d1 d2 k0 k1 k2; clear hb; have c0 := bc BK4 0; have c1 := bc BK4 1; have c2 := bc BK4 2; have f0 := blk_frozen BK2.out 0; have f1 := blk_frozen BK2.out 1; have f2 := blk_frozen BK2.out 2; have d0 := bc BK2 0; have d1 := bc BK2 1; have d2 := bc BK2 2; have k0 := blk_frozen BK4.out 0; have k1 := blk_frozen BK4.out 1; have k2 := blk_frozen BK4.out 2))
                refine bodyPost_ret (results_ct rfl _ _ g2 23 #[.int .i64 0, .int .i64 0, .string (⟨#[]⟩ : ByteArray)] (0, 0) _ rfl (blkA BK2).out Tryd.underlying23 rfl (by kernel_rfl)) rfl ?_
                exact ⟨rfl, (belA HB).out⟩
            · have hx : ((⟨(Lib.itoa n).toArray⟩ : ByteArray).toList == a0.toList) = false := by rw [hdat, hda]; simpa using hi
              have hx2 : ((⟨(Lib.itoa n).toArray⟩ : ByteArray).toList != a0.toList) = true := by rw [hdat, hda]; simpa using hi
              generalize (⟨(Lib.itoa n).toArray⟩ : ByteArray) = t at hI hdat hx hx2
              have hp : parseP a0 = none := by unfold parseP; rw [if_neg e1, if_neg e2, if_neg e3, hq]; simp [ha, hi]
              rw [hp] at h
              obtain ⟨rfl, rfl, rfl, rfl⟩ : 0 = r1 ∧ 0 = r2 ∧ (⟨#[]⟩ : ByteArray) = r3 ∧ false = r4 := by simpa using h
              clear hp h e1 e2 e3 hq hdat hda hi ha
              go_enter Tryd.func40, Tryd.ntmps40
              go_wp2_with (first
                | ((with_reducible refine gate_dst (N := 2) rfl ?_); refine box_event ?hg (N := 2) ?hd (cs := #[.int .i64 0, .int .i64 0, .string (⟨#[]⟩ : ByteArray)]) (t := 23) ?hr ?_; (case hd => rfl); (case hg => rfl); (case hr => first | (go_simp; done) | (go_simp; rfl)); intro g2 hg w2 hbox hb; have BK2 := Aside0.mk hbox; have GE2 := (sizeB HB hg : Aside0 (w.heap.size ≤ g2)); replace HB := stepB HB hb; clear hb hbox hg)
                | ((with_reducible refine gate_dst (N := 4) rfl ?_); refine box_event ?hg (N := 4) ?hd (cs := #[.int .i64 0, .int .i64 0, .string (⟨#[]⟩ : ByteArray)]) (t := 23) ?hr ?_; (case hd => rfl); (case hg => rfl); (case hr => first | (go_simp; done) | (go_simp; rfl)); intro g4 hg w4 hbox hb; have BK4 := Aside0.mk hbox; have GE4 := (sizeB HB hg : Aside0 (w.heap.size ≤ g4)); have NE := neB BK2 hg; have EN := neC BK2 hg; replace BK2 := blkB BK2 hb; replace HB := stepB HB hb; clear hb hbox hg; have ne' := NE.out; have en' := EN.out; have c0 := bc BK4 0; have c1 := bc BK4 1; have c2 := bc BK4 2; have f0 := blk_frozen BK2.out 0; have f1 := blk_frozen BK2.out 1; have f2 := blk_frozen BK2.out 2; have d0 := bc BK2 0; have d1 := bc BK2 1; have d2 := bc BK2 2; have k0 := blk_frozen BK4.out 0; have k1 := blk_frozen BK4.out 1; have k2 := blk_frozen BK4.out 2)
                | (go_at_call 64; refine (hQ' _ (tab_below HT.out HB.out)).mono ?_; rintro e w5 ⟨rfl, hb⟩; replace BK2 := blkB BK2 hb; replace BK4 := blkB BK4 hb; replace HB := stepB HB hb; clear c0 c1 c2 f0 f1 f2 d0 d1 d2 k0 k1 k2; clear hb; have c0 := bc BK4 0; have c1 := bc BK4 1; have c2 := bc BK4 2; have f0 := blk_frozen BK2.out 0; have f1 := blk_frozen BK2.out 1; have f2 := blk_frozen BK2.out 2; have d0 := bc BK2 0; have d1 := bc BK2 1; have d2 := bc BK2 2; have k0 := blk_frozen BK4.out 0; have k1 := blk_frozen BK4.out 1; have k2 := blk_frozen BK4.out 2)
                | (go_at_call 65; refine (hA _).mono ?_; rintro e w5 ⟨rfl, hb⟩; replace BK2 := blkB BK2 hb; replace BK4 := blkB BK4 hb; replace HB := stepB HB hb; clear c0 c1 c2 f0 f1 f2 d0 d1 d2 k0 k1 k2; clear hb; have c0 := bc BK4 0; have c1 := bc BK4 1; have c2 := bc BK4 2; have f0 := blk_frozen BK2.out 0; have f1 := blk_frozen BK2.out 1; have f2 := blk_frozen BK2.out 2; have d0 := bc BK2 0; have d1 := bc BK2 1; have d2 := bc BK2 2; have k0 := blk_frozen BK4.out 0; have k1 := blk_frozen BK4.out 1; have k2 := blk_frozen BK4.out 2)
                | (go_at_call 53; refine (hI _ (tab_below HT.out HB.out)).mono ?_; rintro e w5 ⟨rfl, hb⟩; replace BK2 := blkB BK2 hb; replace BK4 := blkB BK4 hb; replace HB := stepB HB hb; clear c0 c1 c2 f0 f1 f2 d0 d1 d2 k0 k1 k2; clear hb; have c0 := bc BK4 0; have c1 := bc BK4 1; have c2 := bc BK4 2; have f0 := blk_frozen BK2.out 0; have f1 := blk_frozen BK2.out 1; have f2 := blk_frozen BK2.out 2; have d0 := bc BK2 0; have d1 := bc BK2 1; have d2 := bc BK2 2; have k0 := blk_frozen BK4.out 0; have k1 := blk_frozen BK4.out 1; have k2 := blk_frozen BK4.out 2))
              refine bodyPost_ret (results_ct rfl _ _ g2 23 #[.int .i64 0, .int .i64 0, .string (⟨#[]⟩ : ByteArray)] (0, 0) _ rfl (blkA BK2).out Tryd.underlying23 rfl (by kernel_rfl)) rfl ?_
              exact ⟨rfl, (belA HB).out⟩
          ·
            have hA : ∀ W, TabW W → Calls Tryd.prog 65 #[.string a0] W fun e w' => ∃ N, e = .returned (.tuple #[.int .i64 0, .iface 101 (.pointer (some ⟨N, 0, none⟩))]) ∧ Below W.heap.size W w' := fun W hW => by
              obtain ⟨_, ⟨tp, p, hv⟩, _⟩ := hW
              exact (Tryd.strconv_Atoi_syntax_var a0 (by omega) ha tp p W hv).mono fun e w' ⟨N, he, _, _, hb⟩ => ⟨N, he, hb⟩
            have hp : parseP a0 = none := by unfold parseP; rw [if_neg e1, if_neg e2, if_neg e3, hq]; simp [ha]
            rw [hp] at h
            obtain ⟨rfl, rfl, rfl, rfl⟩ : 0 = r1 ∧ 0 = r2 ∧ (⟨#[]⟩ : ByteArray) = r3 ∧ false = r4 := by simpa using h
            clear hp h e1 e2 e3 hq ha
            go_enter Tryd.func40, Tryd.ntmps40
            go_wp2_with (first
              | ((with_reducible refine gate_dst (N := 2) rfl ?_); refine box_event ?hg (N := 2) ?hd (cs := #[.int .i64 0, .int .i64 0, .string (⟨#[]⟩ : ByteArray)]) (t := 23) ?hr ?_; (case hd => rfl); (case hg => rfl); (case hr => first | (go_simp; done) | (go_simp; rfl)); intro g2 hg w2 hbox hb; have BK2 := Aside0.mk hbox; have GE2 := (sizeB HB hg : Aside0 (w.heap.size ≤ g2)); replace HB := stepB HB hb; clear hb hbox hg)
              | ((with_reducible refine gate_dst (N := 4) rfl ?_); refine box_event ?hg (N := 4) ?hd (cs := #[.int .i64 0, .int .i64 0, .string (⟨#[]⟩ : ByteArray)]) (t := 23) ?hr ?_; (case hd => rfl); (case hg => rfl); (case hr => first | (go_simp; done) | (go_simp; rfl)); intro g4 hg w4 hbox hb; have BK4 := Aside0.mk hbox; have GE4 := (sizeB HB hg : Aside0 (w.heap.size ≤ g4)); have NE := neB BK2 hg; have EN := neC BK2 hg; replace BK2 := blkB BK2 hb; replace HB := stepB HB hb; clear hb hbox hg; have ne' := NE.out; have en' := EN.out; have c0 := bc BK4 0; have c1 := bc BK4 1; have c2 := bc BK4 2; have f0 := blk_frozen BK2.out 0; have f1 := blk_frozen BK2.out 1; have f2 := blk_frozen BK2.out 2; have d0 := bc BK2 0; have d1 := bc BK2 1; have d2 := bc BK2 2; have k0 := blk_frozen BK4.out 0; have k1 := blk_frozen BK4.out 1; have k2 := blk_frozen BK4.out 2)
              | (go_at_call 64; refine (hQ' _ (tab_below HT.out HB.out)).mono ?_; rintro e w5 ⟨rfl, hb⟩; replace BK2 := blkB BK2 hb; replace BK4 := blkB BK4 hb; replace HB := stepB HB hb; clear c0 c1 c2 f0 f1 f2 d0 d1 d2 k0 k1 k2; clear hb; have c0 := bc BK4 0; have c1 := bc BK4 1; have c2 := bc BK4 2; have f0 := blk_frozen BK2.out 0; have f1 := blk_frozen BK2.out 1; have f2 := blk_frozen BK2.out 2; have d0 := bc BK2 0; have d1 := bc BK2 1; have d2 := bc BK2 2; have k0 := blk_frozen BK4.out 0; have k1 := blk_frozen BK4.out 1; have k2 := blk_frozen BK4.out 2)
              | (go_at_call 65; refine (hA _ (tab_below HT.out HB.out)).mono ?_; rintro e w5 ⟨N, rfl, hb⟩; replace BK2 := blkB BK2 hb; replace BK4 := blkB BK4 hb; replace HB := stepB HB hb; clear c0 c1 c2 f0 f1 f2 d0 d1 d2 k0 k1 k2; clear hb; have c0 := bc BK4 0; have c1 := bc BK4 1; have c2 := bc BK4 2; have f0 := blk_frozen BK2.out 0; have f1 := blk_frozen BK2.out 1; have f2 := blk_frozen BK2.out 2; have d0 := bc BK2 0; have d1 := bc BK2 1; have d2 := bc BK2 2; have k0 := blk_frozen BK4.out 0; have k1 := blk_frozen BK4.out 1; have k2 := blk_frozen BK4.out 2))
            refine bodyPost_ret (results_ct rfl _ _ g2 23 #[.int .i64 0, .int .i64 0, .string (⟨#[]⟩ : ByteArray)] (0, 0) _ rfl (blkA BK2).out Tryd.underlying23 rfl (by kernel_rfl)) rfl ?_
            exact ⟨rfl, (belA HB).out⟩
          ·
            have hA : ∀ W, TabW W → Calls Tryd.prog 65 #[.string a0] W fun e w' => ∃ N, e = .returned (.tuple #[.int .i64 (Lib.atoiSat a0.data.toList), .iface 101 (.pointer (some ⟨N, 0, none⟩))]) ∧ Below W.heap.size W w' := fun W hW => by
              obtain ⟨_, _, ⟨tp, p, hv⟩⟩ := hW
              exact (Tryd.strconv_Atoi_range_var a0 (by omega) ha tp p W hv).mono fun e w' ⟨N, he, _, _, hb⟩ => ⟨N, he, hb⟩
            have hp : parseP a0 = none := by unfold parseP; rw [if_neg e1, if_neg e2, if_neg e3, hq]; simp [ha]
            rw [hp] at h
            obtain ⟨rfl, rfl, rfl, rfl⟩ : 0 = r1 ∧ 0 = r2 ∧ (⟨#[]⟩ : ByteArray) = r3 ∧ false = r4 := by simpa using h
            clear hp h e1 e2 e3 hq ha
            go_enter Tryd.func40, Tryd.ntmps40
            go_wp2_with (first
              | ((with_reducible refine gate_dst (N := 2) rfl ?_); refine box_event ?hg (N := 2) ?hd (cs := #[.int .i64 0, .int .i64 0, .string (⟨#[]⟩ : ByteArray)]) (t := 23) ?hr ?_; (case hd => rfl); (case hg => rfl); (case hr => first | (go_simp; done) | (go_simp; rfl)); intro g2 hg w2 hbox hb; have BK2 := Aside0.mk hbox; have GE2 := (sizeB HB hg : Aside0 (w.heap.size ≤ g2)); replace HB := stepB HB hb; clear hb hbox hg)
              | ((with_reducible refine gate_dst (N := 4) rfl ?_); refine box_event ?hg (N := 4) ?hd (cs := #[.int .i64 0, .int .i64 0, .string (⟨#[]⟩ : ByteArray)]) (t := 23) ?hr ?_; (case hd => rfl); (case hg => rfl); (case hr => first | (go_simp; done) | (go_simp; rfl)); intro g4 hg w4 hbox hb; have BK4 := Aside0.mk hbox; have GE4 := (sizeB HB hg : Aside0 (w.heap.size ≤ g4)); have NE := neB BK2 hg; have EN := neC BK2 hg; replace BK2 := blkB BK2 hb; replace HB := stepB HB hb; clear hb hbox hg; have ne' := NE.out; have en' := EN.out; have c0 := bc BK4 0; have c1 := bc BK4 1; have c2 := bc BK4 2; have f0 := blk_frozen BK2.out 0; have f1 := blk_frozen BK2.out 1; have f2 := blk_frozen BK2.out 2; have d0 := bc BK2 0; have d1 := bc BK2 1; have d2 := bc BK2 2; have k0 := blk_frozen BK4.out 0; have k1 := blk_frozen BK4.out 1; have k2 := blk_frozen BK4.out 2)
              | (go_at_call 64; refine (hQ' _ (tab_below HT.out HB.out)).mono ?_; rintro e w5 ⟨rfl, hb⟩; replace BK2 := blkB BK2 hb; replace BK4 := blkB BK4 hb; replace HB := stepB HB hb; clear c0 c1 c2 f0 f1 f2 d0 d1 d2 k0 k1 k2; clear hb; have c0 := bc BK4 0; have c1 := bc BK4 1; have c2 := bc BK4 2; have f0 := blk_frozen BK2.out 0; have f1 := blk_frozen BK2.out 1; have f2 := blk_frozen BK2.out 2; have d0 := bc BK2 0; have d1 := bc BK2 1; have d2 := bc BK2 2; have k0 := blk_frozen BK4.out 0; have k1 := blk_frozen BK4.out 1; have k2 := blk_frozen BK4.out 2)
              | (go_at_call 65; refine (hA _ (tab_below HT.out HB.out)).mono ?_; rintro e w5 ⟨N, rfl, hb⟩; replace BK2 := blkB BK2 hb; replace BK4 := blkB BK4 hb; replace HB := stepB HB hb; clear c0 c1 c2 f0 f1 f2 d0 d1 d2 k0 k1 k2; clear hb; have c0 := bc BK4 0; have c1 := bc BK4 1; have c2 := bc BK4 2; have f0 := blk_frozen BK2.out 0; have f1 := blk_frozen BK2.out 1; have f2 := blk_frozen BK2.out 2; have d0 := bc BK2 0; have d1 := bc BK2 1; have d2 := bc BK2 2; have k0 := blk_frozen BK4.out 0; have k1 := blk_frozen BK4.out 1; have k2 := blk_frozen BK4.out 2))
            refine bodyPost_ret (results_ct rfl _ _ g2 23 #[.int .i64 0, .int .i64 0, .string (⟨#[]⟩ : ByteArray)] (0, 0) _ rfl (blkA BK2).out Tryd.underlying23 rfl (by kernel_rfl)) rfl ?_
            exact ⟨rfl, (belA HB).out⟩
end Go.Proofs.YtmhnfdgegejlkaaDoor.P
end

section
namespace Go.Proofs.YtmhnfdgegejlkaaDoor.P
open Go.RowKit Go.Proofs.YtmhnfdgegejlkaaDoorW.PrintWords Go.Proofs.YtmhnfdgegejlkaaDoorW.PrintLast Go.Proofs.YtmhnfdgegejlkaaDoorW.PrintMore
attribute [local go_sem] max2_int min2_int max_two min_two max_three min_three max_four min_four
set_option linter.unusedVariables false
set_option linter.unusedSimpArgs false
def alumlaw19_num.f (a0 : Int) : Option (Int × Int × ByteArray) := some (1, a0, (⟨#[]⟩ : ByteArray))
set_option maxHeartbeats 8000000 in
set_option maxRecDepth 100000 in
theorem alumlaw19_num.calls (a0 : Int) (r1 : Int) (r2 : Int) (r3 : ByteArray) (w : World) (h : alumlaw19_num.f a0 = some (r1, r2, r3)) :
  Calls Tryd.prog 42 #[.int .i64 a0] w fun e w' => e = .returned (.agg #[.int .i64 r1, .int .i64 r2, .string r3]) ∧ Below w.heap.size w w' := by
 have hu23 := Tryd.underlying23
 have HB := Aside0.mk (Below.refl w.heap.size w)
 have H : (some (1, a0, (⟨#[]⟩ : ByteArray))) = some (r1, r2, r3) := h
 clear h
 simp only [Option.some.injEq, Prod.mk.injEq] at H
 obtain ⟨rfl, rfl, rfl⟩ := H
 go_enter Tryd.func42, Tryd.ntmps42
 go_wp2_with (first | ((with_reducible refine gate_dst (N := 2) rfl ?_); refine box_event ?hg (N := 2) ?hd (cs := #[.int .i64 0, .int .i64 0, .string (⟨#[]⟩ : ByteArray)]) (t := 23) ?hr ?_; (case hd => rfl); (case hg => rfl); (case hr => first | (go_simp; done) | (go_simp; rfl)); intro gb102 hg w2 hbox hb; have BK102 := Aside0.mk (hbox); have GW102 := (sizeB HB hg : Aside0 (w.heap.size ≤ gb102)); have GE102 := (sizeB HB hg : Aside0 (w.heap.size ≤ gb102)); replace HB := stepB HB hb; clear hb hbox hg; have hcz3_0 : w2.cell? ⟨gb102, 0, none⟩ = some (.int .i64 0) := bc BK102 0; have hcz3_1 : w2.cell? ⟨gb102, 1, none⟩ = some (.int .i64 0) := bc BK102 1; have hcz3_2 : w2.cell? ⟨gb102, 2, none⟩ = some (.string (⟨#[]⟩ : ByteArray)) := bc BK102 2; have hfz3_0 := blk_frozen BK102.out 0; have hfz3_1 := blk_frozen BK102.out 1; have hfz3_2 := blk_frozen BK102.out 2))
 refine bodyPost_ret (results_cell_row rfl _ _ gb102 23 #[.int .i64 1, .int .i64 a0, .string (⟨#[]⟩ : ByteArray)] (0, 0) _ rfl (by (with_reducible repeat (first | refine blk_drewN ?_ _ | refine blk_drew ?_ | refine blk_alloc ?_ _)); refine blk_put (cs := #[.int .i64 1, .int .i64 a0, .string (⟨#[]⟩ : ByteArray)]) ?_ 2 _ rfl; (with_reducible repeat (first | refine blk_drewN ?_ _ | refine blk_drew ?_ | refine blk_alloc ?_ _)); refine blk_put (cs := #[.int .i64 1, .int .i64 0, .string (⟨#[]⟩ : ByteArray)]) ?_ 1 _ rfl; (with_reducible repeat (first | refine blk_drewN ?_ _ | refine blk_drew ?_ | refine blk_alloc ?_ _)); refine blk_put (cs := #[.int .i64 0, .int .i64 0, .string (⟨#[]⟩ : ByteArray)]) ?_ 0 _ rfl; (with_reducible repeat (first | refine blk_drewN ?_ _ | refine blk_drew ?_ | refine blk_alloc ?_ _)); exact BK102.out) Tryd.underlying23 rfl (by kernel_rfl)) rfl ?_
 exact ⟨by first | rfl | (simp [errW_none, errW_some] <;> rfl) | (simp [*, errW_none, errW_some] <;> rfl), by repeat (first | (with_reducible first | exact HB.out | apply below_alloc | apply pw_below_drewN | apply below_drew1 | refine below_set ?_ GE102.out) | exact HB.out)⟩
end Go.Proofs.YtmhnfdgegejlkaaDoor.P
end

section
namespace Go.Proofs.YtmhnfdgegejlkaaDoor.P
open Go.RowKit Go.Proofs.YtmhnfdgegejlkaaDoorW.PrintWords Go.Proofs.YtmhnfdgegejlkaaDoorW.PrintLast Go.Proofs.YtmhnfdgegejlkaaDoorW.PrintMore
attribute [local go_sem] max2_int min2_int max_two min_two max_three min_three max_four min_four
set_option linter.unusedVariables false
set_option linter.unusedSimpArgs false
def alumref19_Bool.f (a0 : Bool) : Option (Int × Int × ByteArray) := if a0 = true then (some (3, 1, (⟨#[]⟩ : ByteArray))) else (some (3, 0, (⟨#[]⟩ : ByteArray)))
set_option maxHeartbeats 8000000 in
set_option maxRecDepth 100000 in
theorem alumref19_Bool.calls (a0 : Bool) (r1 : Int) (r2 : Int) (r3 : ByteArray) (w : World) (h : alumref19_Bool.f a0 = some (r1, r2, r3)) :
  Calls Tryd.prog 15 #[.bool a0] w fun e w' => e = .returned (.agg #[.int .i64 r1, .int .i64 r2, .string r3]) ∧ Below w.heap.size w w' := by
 have hu23 := Tryd.underlying23
 have HB := Aside0.mk (Below.refl w.heap.size w)
 have H : (if a0 = true then (some (3, 1, (⟨#[]⟩ : ByteArray))) else (some (3, 0, (⟨#[]⟩ : ByteArray)))) = some (r1, r2, r3) := h
 clear h
 by_cases c2 : a0 = true
 ·subst c2
  have H1 : (some (3, 1, (⟨#[]⟩ : ByteArray))) = some (r1, r2, r3) := by rw [if_pos rfl] at H; exact H
  clear H
  have H := H1
  clear H1
  simp only [Option.some.injEq, Prod.mk.injEq] at H
  obtain ⟨rfl, rfl, rfl⟩ := H
  go_enter Tryd.func15, Tryd.ntmps15
  go_wp2_with (first | ((with_reducible refine gate_dst (N := 2) rfl ?_); refine box_event ?hg (N := 2) ?hd (cs := #[.int .i64 0, .int .i64 0, .string (⟨#[]⟩ : ByteArray)]) (t := 23) ?hr ?_; (case hd => rfl); (case hg => rfl); (case hr => first | (go_simp; done) | (go_simp; rfl)); intro gb139 hg w3 hbox hb; have BK139 := Aside0.mk (hbox); have GW139 := (sizeB HB hg : Aside0 (w.heap.size ≤ gb139)); have GE139 := (sizeB HB hg : Aside0 (w.heap.size ≤ gb139)); replace HB := stepB HB hb; clear hb hbox hg; have hcz4_0 : w3.cell? ⟨gb139, 0, none⟩ = some (.int .i64 0) := bc BK139 0; have hcz4_1 : w3.cell? ⟨gb139, 1, none⟩ = some (.int .i64 0) := bc BK139 1; have hcz4_2 : w3.cell? ⟨gb139, 2, none⟩ = some (.string (⟨#[]⟩ : ByteArray)) := bc BK139 2; have hfz4_0 := blk_frozen BK139.out 0; have hfz4_1 := blk_frozen BK139.out 1; have hfz4_2 := blk_frozen BK139.out 2))
  refine bodyPost_ret (results_cell_row rfl _ _ gb139 23 #[.int .i64 3, .int .i64 1, .string (⟨#[]⟩ : ByteArray)] (0, 0) _ rfl (by (with_reducible repeat (first | refine blk_drewN ?_ _ | refine blk_drew ?_ | refine blk_alloc ?_ _)); refine blk_put (cs := #[.int .i64 3, .int .i64 1, .string (⟨#[]⟩ : ByteArray)]) ?_ 2 _ rfl; (with_reducible repeat (first | refine blk_drewN ?_ _ | refine blk_drew ?_ | refine blk_alloc ?_ _)); refine blk_put (cs := #[.int .i64 3, .int .i64 0, .string (⟨#[]⟩ : ByteArray)]) ?_ 1 _ rfl; (with_reducible repeat (first | refine blk_drewN ?_ _ | refine blk_drew ?_ | refine blk_alloc ?_ _)); refine blk_put (cs := #[.int .i64 0, .int .i64 0, .string (⟨#[]⟩ : ByteArray)]) ?_ 0 _ rfl; (with_reducible repeat (first | refine blk_drewN ?_ _ | refine blk_drew ?_ | refine blk_alloc ?_ _)); exact BK139.out) Tryd.underlying23 rfl (by kernel_rfl)) rfl ?_
  exact ⟨by first | rfl | (simp [errW_none, errW_some] <;> rfl) | (simp [*, errW_none, errW_some] <;> rfl), by repeat (first | (with_reducible first | exact HB.out | apply below_alloc | apply pw_below_drewN | apply below_drew1 | refine below_set ?_ GE139.out) | exact HB.out)⟩
 ·replace c2 := Bool.eq_false_iff.mpr c2
  subst c2
  have H1 : (some (3, 0, (⟨#[]⟩ : ByteArray))) = some (r1, r2, r3) := by rw [if_neg (show ¬ (false = true) by decide)] at H; exact H
  clear H
  have H := H1
  clear H1
  simp only [Option.some.injEq, Prod.mk.injEq] at H
  obtain ⟨rfl, rfl, rfl⟩ := H
  go_enter Tryd.func15, Tryd.ntmps15
  go_wp2_with (first | ((with_reducible refine gate_dst (N := 2) rfl ?_); refine box_event ?hg (N := 2) ?hd (cs := #[.int .i64 0, .int .i64 0, .string (⟨#[]⟩ : ByteArray)]) (t := 23) ?hr ?_; (case hd => rfl); (case hg => rfl); (case hr => first | (go_simp; done) | (go_simp; rfl)); intro gb139 hg w5 hbox hb; have BK139 := Aside0.mk (hbox); have GW139 := (sizeB HB hg : Aside0 (w.heap.size ≤ gb139)); have GE139 := (sizeB HB hg : Aside0 (w.heap.size ≤ gb139)); replace HB := stepB HB hb; clear hb hbox hg; have hcz6_0 : w5.cell? ⟨gb139, 0, none⟩ = some (.int .i64 0) := bc BK139 0; have hcz6_1 : w5.cell? ⟨gb139, 1, none⟩ = some (.int .i64 0) := bc BK139 1; have hcz6_2 : w5.cell? ⟨gb139, 2, none⟩ = some (.string (⟨#[]⟩ : ByteArray)) := bc BK139 2; have hfz6_0 := blk_frozen BK139.out 0; have hfz6_1 := blk_frozen BK139.out 1; have hfz6_2 := blk_frozen BK139.out 2))
  refine bodyPost_ret (results_cell_row rfl _ _ gb139 23 #[.int .i64 3, .int .i64 0, .string (⟨#[]⟩ : ByteArray)] (0, 0) _ rfl (by (with_reducible repeat (first | refine blk_drewN ?_ _ | refine blk_drew ?_ | refine blk_alloc ?_ _)); refine blk_put (cs := #[.int .i64 3, .int .i64 0, .string (⟨#[]⟩ : ByteArray)]) ?_ 2 _ rfl; (with_reducible repeat (first | refine blk_drewN ?_ _ | refine blk_drew ?_ | refine blk_alloc ?_ _)); refine blk_put (cs := #[.int .i64 3, .int .i64 0, .string (⟨#[]⟩ : ByteArray)]) ?_ 1 _ rfl; (with_reducible repeat (first | refine blk_drewN ?_ _ | refine blk_drew ?_ | refine blk_alloc ?_ _)); refine blk_put (cs := #[.int .i64 0, .int .i64 0, .string (⟨#[]⟩ : ByteArray)]) ?_ 0 _ rfl; (with_reducible repeat (first | refine blk_drewN ?_ _ | refine blk_drew ?_ | refine blk_alloc ?_ _)); exact BK139.out) Tryd.underlying23 rfl (by kernel_rfl)) rfl ?_
  exact ⟨by first | rfl | (simp [errW_none, errW_some] <;> rfl) | (simp [*, errW_none, errW_some] <;> rfl), by repeat (first | (with_reducible first | exact HB.out | apply below_alloc | apply pw_below_drewN | apply below_drew1 | refine below_set ?_ GE139.out) | exact HB.out)⟩
end Go.Proofs.YtmhnfdgegejlkaaDoor.P
end

section
namespace Go.Proofs.YtmhnfdgegejlkaaDoor.P
open Go.RowKit Go.Proofs.YtmhnfdgegejlkaaDoorW.PrintWords Go.Proofs.YtmhnfdgegejlkaaDoorW.PrintLast Go.Proofs.YtmhnfdgegejlkaaDoorW.PrintMore
attribute [local go_sem] max2_int min2_int max_two min_two max_three min_three max_four min_four
set_option linter.unusedVariables false
set_option linter.unusedSimpArgs false
def alumref19_SameInts.l0 : Nat → List Int → List Int → Int → Option (Bool)
 | 0, _, _, _ => none
 | k + 1, x0, x1, x5 => if x5 < (x0.length : Int) then (if 0 ≤ x5 then (if x5 < (x1.length : Int) then (if (rd x0 x5) = (rd x1 x5) then (alumref19_SameInts.l0 k x0 x1 (wrap64 (x5 + 1))) else (some false)) else (none)) else (none)) else (some true)
def alumref19_SameInts.f (k : Nat) (l0 : List Int) (l1 : List Int) : Option (Bool) := if (l0.length : Int) = (l1.length : Int) then (alumref19_SameInts.l0 k l0 l1 0) else (some false)
theorem alumref19_SameInts.mono_l : ∀ k, (∀ y0 y1 y2, LeO (alumref19_SameInts.l0 k y0 y1 y2) (alumref19_SameInts.l0 (k + 1) y0 y1 y2))
 | 0 => fun _ _ _ r h => by simp [alumref19_SameInts.l0] at h
 | k + 1 => by
  have ih0 := alumref19_SameInts.mono_l k
  ·intro y0 y1 y2
   unfold alumref19_SameInts.l0
   repeat' first
   | (with_reducible exact ih0 _ _ _)
   | (with_reducible exact LeO.refl _)
   | (with_reducible exact LeO.none _)
   | (with_reducible refine LeO.ite ?_ ?_)
   | (with_reducible refine LeO.bind ?_ (fun _ => ?_))
   | exact ih0 _ _ _
   | exact LeO.none _
   | refine LeO.ite ?_ ?_
   | refine LeO.bind ?_ (fun _ => ?_)
theorem alumref19_SameInts.mono : ∀ a0 a1 k, LeO (alumref19_SameInts.f k a0 a1) (alumref19_SameInts.f (k + 1) a0 a1) := by
 intro a0 a1 k
 have ih0 := alumref19_SameInts.mono_l k
 unfold alumref19_SameInts.f
 repeat' first
   | (with_reducible exact ih0 _ _ _)
   | (with_reducible exact LeO.refl _)
   | (with_reducible exact LeO.none _)
   | (with_reducible refine LeO.ite ?_ ?_)
   | (with_reducible refine LeO.bind ?_ (fun _ => ?_))
   | exact ih0 _ _ _
   | exact LeO.none _
   | refine LeO.ite ?_ ?_
   | refine LeO.bind ?_ (fun _ => ?_)
set_option maxHeartbeats 8000000 in
set_option maxRecDepth 100000 in
theorem alumref19_SameInts.calls (k : Nat) (A0 : Option Addr) (c0 : Nat) (l0 : List Int) (A1 : Option Addr) (c1 : Nat) (l1 : List Int) (r : Bool) (w : World) (hr0 : Kd.C (Kd.int .i64) w A0 l0.length l0) (hc0 : l0.length ≤ c0) (hr1 : Kd.C (Kd.int .i64) w A1 l1.length l1) (hc1 : l1.length ≤ c1) (h : alumref19_SameInts.f k l0 l1 = some r) :
  Calls Tryd.prog 34 #[.slice A0 l0.length c0, .slice A1 l1.length c1] w fun e w' => e = .returned (.bool r) ∧ Drawn0 w w' := by
 have HR0 := Aside0.mk hr0
 have HC0 := Aside0.mk hc0
 clear hr0 hc0
 have HR1 := Aside0.mk hr1
 have HC1 := Aside0.mk hc1
 clear hr1 hc1
 have H : (if (l0.length : Int) = (l1.length : Int) then (alumref19_SameInts.l0 k l0 l1 0) else (some false)) = some r := h
 clear h
 by_cases c3 : (l0.length : Int) = (l1.length : Int)
 ·rw [if_pos c3] at H
  have c3b0 : ((l0.length : Int) == (l1.length : Int)) = true := beq_iff_eq.mpr c3
  have c3b1 : ((l0.length : Int) != (l1.length : Int)) = false := bne_eq_false_iff_eq.mpr c3
  have c3b2 : (l0.length == l1.length) = true := by first | simpa using c3 | (simp at c3 ⊢; omega)
  clear c3
  have H' := Aside0.mk H
  clear H
  go_enter Tryd.func34, Tryd.ntmps34
  go_wp2
  repeat (go_quiet (fail); try go_wp2)
  go_loopg [5] k (fun kq v5 w' => ∃ (x5_1 : Int), v5 = .int .i64 x5_1 ∧ Aside0 (alumref19_SameInts.l0 kq l0 l1 x5_1 = some r) ∧ Aside0 (kq ≤ k) ∧ Drawn0 w w')
  case atStart => exact ⟨(0), (by first | rfl | (simp; done) | (simp [*]; done)), H', ⟨Nat.le_refl _⟩, by repeat (first | exact Drawn0.refl _ | apply Drawn0.step)⟩
  case round =>
   clear H'
   try clear c1
   try clear p2
   try clear c3
   try clear c3b0
   try clear c3b1
   try clear c3b2
   obtain ⟨x5_1, rfl, HA, HK1, ⟨m1, rfl⟩⟩ := hrel
   cases gk with
   | zero => exact absurd HA.out (by simp [alumref19_SameInts.l0])
   | succ k1 =>
    have H := HA.out
    clear HA
    simp only [alumref19_SameInts.l0] at H
    by_cases c4 : x5_1 < (l0.length : Int)
    ·rw [if_pos c4] at H
     have c4b0 : decide (x5_1 < (l0.length : Int)) = true := decide_eq_true c4
     clear c4
     by_cases c5 : 0 ≤ x5_1
     ·rw [if_pos c5] at H
      have c5b0 : decide (0 ≤ x5_1) = true := decide_eq_true c5
      clear c5
      by_cases c6 : x5_1 < (l1.length : Int)
      ·rw [if_pos c6] at H
       have c6b0 : decide (x5_1 < (l1.length : Int)) = true := decide_eq_true c6
       clear c6
       by_cases c7 : (rd l0 x5_1) = (rd l1 x5_1)
       ·rw [if_pos c7] at H
        have c7b0 : ((rd l0 x5_1) == (rd l1 x5_1)) = true := beq_iff_eq.mpr c7
        have c7b1 : ((rd l0 x5_1) != (rd l1 x5_1)) = false := bne_eq_false_iff_eq.mpr c7
        clear c7
        have H' := Aside0.mk H
        clear H
        have p216 : 0 ≤ (x5_1 : Int) := of_decide_eq_true (by first | (with_reducible assumption) | assumption)
        have q216 : x5_1 < (l0.length : Int) := of_decide_eq_true (by first | (with_reducible assumption) | assumption)
        obtain ⟨ad216, e216, hx216_0⟩ := Kd.at_int HR0.out x5_1 p216 q216
        cases e216
        replace p216 := eq_true p216
        replace q216 := eq_true q216
        have p217 : 0 ≤ (x5_1 : Int) := of_decide_eq_true (by first | (with_reducible assumption) | assumption)
        have q217 : x5_1 < (l1.length : Int) := of_decide_eq_true (by first | (with_reducible assumption) | assumption)
        obtain ⟨ad217, e217, hx217_0⟩ := Kd.at_int HR1.out x5_1 p217 q217
        cases e217
        replace p217 := eq_true p217
        replace q217 := eq_true q217
        go_wp2
        repeat (go_quiet (fail); try go_wp2)
        go_roundg k1
        case measure => have := HK1.out; omega
        case rel => exact ⟨(wrap64 (x5_1 + 1)), (by first | rfl | (simp; done) | (simp [*]; done)), H', ⟨by have := HK1.out; omega⟩, by repeat (first | exact Drawn0.refl _ | apply Drawn0.step)⟩
       ·rw [if_neg c7] at H
        have c7b0 : ((rd l0 x5_1) == (rd l1 x5_1)) = false := beq_eq_false_iff_ne.mpr c7
        have c7b1 : ((rd l0 x5_1) != (rd l1 x5_1)) = true := bne_iff_ne.mpr c7
        obtain rfl := Option.some.inj H
        have p216 : 0 ≤ (x5_1 : Int) := of_decide_eq_true (by first | (with_reducible assumption) | assumption)
        have q216 : x5_1 < (l0.length : Int) := of_decide_eq_true (by first | (with_reducible assumption) | assumption)
        obtain ⟨ad216, e216, hx216_0⟩ := Kd.at_int HR0.out x5_1 p216 q216
        cases e216
        replace p216 := eq_true p216
        replace q216 := eq_true q216
        have p217 : 0 ≤ (x5_1 : Int) := of_decide_eq_true (by first | (with_reducible assumption) | assumption)
        have q217 : x5_1 < (l1.length : Int) := of_decide_eq_true (by first | (with_reducible assumption) | assumption)
        obtain ⟨ad217, e217, hx217_0⟩ := Kd.at_int HR1.out x5_1 p217 q217
        cases e217
        replace p217 := eq_true p217
        replace q217 := eq_true q217
        go_wp2
        repeat (go_quiet (fail); try go_wp2)
        go_ret
        exact ⟨by first | rfl | (simp; done) | (simp [*]; done), by repeat (first | exact Drawn0.refl _ | apply Drawn0.step)⟩
      ·rw [if_neg c6] at H
       exact absurd H (by simp)
     ·rw [if_neg c5] at H
      exact absurd H (by simp)
    ·rw [if_neg c4] at H
     have c4b0 : decide (x5_1 < (l0.length : Int)) = false := decide_eq_false c4
     clear c4
     obtain rfl := Option.some.inj H
     go_wp2
     repeat (go_quiet (fail); try go_wp2)
     go_ret
     exact ⟨by first | rfl | (simp; done) | (simp [*]; done), by repeat (first | exact Drawn0.refl _ | apply Drawn0.step)⟩
 ·rw [if_neg c3] at H
  have c3b0 : ((l0.length : Int) == (l1.length : Int)) = false := beq_eq_false_iff_ne.mpr c3
  have c3b1 : ((l0.length : Int) != (l1.length : Int)) = true := bne_iff_ne.mpr c3
  have c3b2 : (l0.length == l1.length) = false := by first | simpa using c3 | (simp at c3 ⊢; omega)
  obtain rfl := Option.some.inj H
  go_enter Tryd.func34, Tryd.ntmps34
  go_wp2
  repeat (go_quiet (fail); try go_wp2)
  go_ret
  exact ⟨by first | rfl | (simp; done) | (simp [*]; done), by repeat (first | exact Drawn0.refl _ | apply Drawn0.step)⟩
end Go.Proofs.YtmhnfdgegejlkaaDoor.P
end

section
namespace Go.Proofs.YtmhnfdgegejlkaaDoor.P
open Go.RowKit Go.Proofs.YtmhnfdgegejlkaaDoorW.PrintWords Go.Proofs.YtmhnfdgegejlkaaDoorW.PrintLast Go.Proofs.YtmhnfdgegejlkaaDoorW.PrintMore
attribute [local go_sem] max2_int min2_int max_two min_two max_three min_three max_four min_four
set_option linter.unusedVariables false
set_option linter.unusedSimpArgs false
attribute [local go_sem high] eqA23
def slices_Index_LValue_Value.l0 : Nat → List (S23) → Int → Int → Int → Int → ByteArray → Option (Int)
 | 0, _, _, _, _, _, _ => none
 | k + 1, x0, x7, x8, x146000, x146001, x146002 => if x8 < x7 then (if 0 ≤ x8 then (if x8 < (x0.length : Int) then (if (x146000 == ((rd_T23 x0 x8).f0) && (x146001 == ((rd_T23 x0 x8).f1) && (x146002.toList == (((rd_T23 x0 x8).f2).toList)))) = true then (some x8) else (slices_Index_LValue_Value.l0 k x0 x7 (wrap64 (x8 + 1)) x146000 x146001 x146002)) else (none)) else (none)) else (some (-1))
def slices_Index_LValue_Value.f (k : Nat) (l0 : List (S23)) (a1_0 : Int) (a1_1 : Int) (a1_2 : ByteArray) : Option (Int) := slices_Index_LValue_Value.l0 k l0 (l0.length : Int) 0 a1_0 a1_1 a1_2
theorem slices_Index_LValue_Value.mono_l : ∀ k, (∀ y0 y1 y2 y3 y4 y5, LeO (slices_Index_LValue_Value.l0 k y0 y1 y2 y3 y4 y5) (slices_Index_LValue_Value.l0 (k + 1) y0 y1 y2 y3 y4 y5))
 | 0 => fun _ _ _ _ _ _ r h => by simp [slices_Index_LValue_Value.l0] at h
 | k + 1 => by
  have ih0 := slices_Index_LValue_Value.mono_l k
  ·intro y0 y1 y2 y3 y4 y5
   unfold slices_Index_LValue_Value.l0
   repeat' first
   | (with_reducible exact ih0 _ _ _ _ _ _)
   | (with_reducible exact LeO.refl _)
   | (with_reducible exact LeO.none _)
   | (with_reducible refine LeO.ite ?_ ?_)
   | (with_reducible refine LeO.bind ?_ (fun _ => ?_))
   | exact ih0 _ _ _ _ _ _
   | exact LeO.none _
   | refine LeO.ite ?_ ?_
   | refine LeO.bind ?_ (fun _ => ?_)
theorem slices_Index_LValue_Value.mono : ∀ a0 a1 a2 a3 k, LeO (slices_Index_LValue_Value.f k a0 a1 a2 a3) (slices_Index_LValue_Value.f (k + 1) a0 a1 a2 a3) := by
 intro a0 a1 a2 a3 k
 have ih0 := slices_Index_LValue_Value.mono_l k
 unfold slices_Index_LValue_Value.f
 repeat' first
   | (with_reducible exact ih0 _ _ _ _ _ _)
   | (with_reducible exact LeO.refl _)
   | (with_reducible exact LeO.none _)
   | (with_reducible refine LeO.ite ?_ ?_)
   | (with_reducible refine LeO.bind ?_ (fun _ => ?_))
   | exact ih0 _ _ _ _ _ _
   | exact LeO.none _
   | refine LeO.ite ?_ ?_
   | refine LeO.bind ?_ (fun _ => ?_)
set_option maxHeartbeats 8000000 in
set_option maxRecDepth 100000 in
theorem slices_Index_LValue_Value.calls (k : Nat) (A0 : Option Addr) (c0 : Nat) (l0 : List (S23)) (a1_0 : Int) (a1_1 : Int) (a1_2 : ByteArray) (r : Int) (w : World) (hr0 : Kd.C k23 w A0 l0.length l0) (hc0 : l0.length ≤ c0) (h : slices_Index_LValue_Value.f k l0 a1_0 a1_1 a1_2 = some r) :
  Calls Tryd.prog 81 #[.slice A0 l0.length c0, .agg #[.int .i64 a1_0, .int .i64 a1_1, .string a1_2]] w fun e w' => e = .returned (.int .i64 r) ∧ Below w.heap.size w w' := by
 have hu23 := Tryd.underlying23
 have HR0 := Aside0.mk hr0
 have HC0 := Aside0.mk hc0
 clear hr0 hc0
 have HB := Aside0.mk (Below.refl w.heap.size w)
 have H : (slices_Index_LValue_Value.l0 k l0 (l0.length : Int) 0 a1_0 a1_1 a1_2) = some r := h
 clear h
 have H' := Aside0.mk H
 clear H
 go_enter Tryd.func81, Tryd.ntmps81
 go_wp2_with (first | ((with_reducible refine gate_dst (N := 3) rfl ?_); refine box_event ?hg (N := 3) ?hd (cs := #[.int .i64 a1_0, .int .i64 a1_1, .string a1_2]) (t := 23) ?hr ?_; (case hd => rfl); (case hg => rfl); (case hr => first | (go_simp; done) | (go_simp; rfl)); intro gb145 hg w3 hbox hb; have BK145 := Aside0.mk (hbox); have GW145 := (sizeB HB hg : Aside0 (w.heap.size ≤ gb145)); have GE145 := (sizeB HB hg : Aside0 (w.heap.size ≤ gb145)); replace HB := stepB HB hb; clear hb hbox hg))
 repeat (go_quiet (first | ((with_reducible refine gate_dst (N := 3) rfl ?_); refine box_event ?hg (N := 3) ?hd (cs := #[.int .i64 a1_0, .int .i64 a1_1, .string a1_2]) (t := 23) ?hr ?_; (case hd => rfl); (case hg => rfl); (case hr => first | (go_simp; done) | (go_simp; rfl)); intro gb145 hg w3 hbox hb; have BK145 := Aside0.mk (hbox); have GW145 := (sizeB HB hg : Aside0 (w.heap.size ≤ gb145)); have GE145 := (sizeB HB hg : Aside0 (w.heap.size ≤ gb145)); replace HB := stepB HB hb; clear hb hbox hg)); try go_wp2_with (first | ((with_reducible refine gate_dst (N := 3) rfl ?_); refine box_event ?hg (N := 3) ?hd (cs := #[.int .i64 a1_0, .int .i64 a1_1, .string a1_2]) (t := 23) ?hr ?_; (case hd => rfl); (case hg => rfl); (case hr => first | (go_simp; done) | (go_simp; rfl)); intro gb145 hg w3 hbox hb; have BK145 := Aside0.mk (hbox); have GW145 := (sizeB HB hg : Aside0 (w.heap.size ≤ gb145)); have GE145 := (sizeB HB hg : Aside0 (w.heap.size ≤ gb145)); replace HB := stepB HB hb; clear hb hbox hg)))
 go_loopg [8] k (fun kq v8 w' => ∃ (x8_1 : Int), v8 = .int .i64 x8_1 ∧ Aside0 (slices_Index_LValue_Value.l0 kq l0 (l0.length : Int) x8_1 a1_0 a1_1 a1_2 = some r) ∧ Aside0 (kq ≤ k) ∧ Aside0 (w'.heap[gb145]? = some (.cells #[.int .i64 a1_0, .int .i64 a1_1, .string a1_2] 23 (0, 0))) ∧ Aside0 (Below w.heap.size w w'))
 case atStart => exact ⟨(0), (by first | rfl | (simp; done) | (simp [*]; done)), H', ⟨Nat.le_refl _⟩, ⟨by (with_reducible repeat (first | refine blk_drewN ?_ _ | refine blk_drew ?_ | refine blk_alloc ?_ _)); exact BK145.out⟩, ⟨by repeat (first | (with_reducible first | exact HB.out | apply below_alloc | apply pw_below_drewN | apply below_drew1 | refine below_set ?_ GE145.out) | exact HB.out)⟩⟩
 case round =>
  clear H'
  try clear p2
  obtain ⟨x8_1, rfl, HA, HK1, BK145, HB⟩ := hrel
  cases gk with
  | zero => exact absurd HA.out (by simp [slices_Index_LValue_Value.l0])
  | succ k1 =>
   have H := HA.out
   clear HA
   simp only [slices_Index_LValue_Value.l0] at H
   by_cases c4 : x8_1 < (l0.length : Int)
   ·rw [if_pos c4] at H
    have c4b0 : decide (x8_1 < (l0.length : Int)) = true := decide_eq_true c4
    clear c4
    by_cases c5 : 0 ≤ x8_1
    ·rw [if_pos c5] at H
     have c5b0 : decide (0 ≤ x8_1) = true := decide_eq_true c5
     clear c5
     by_cases c6 : x8_1 < (l0.length : Int)
     ·rw [if_pos c6] at H
      have c6b0 : decide (x8_1 < (l0.length : Int)) = true := decide_eq_true c6
      clear c6
      by_cases c7 : (a1_0 == ((rd_T23 l0 x8_1).f0) && (a1_1 == ((rd_T23 l0 x8_1).f1) && (a1_2.toList == (((rd_T23 l0 x8_1).f2).toList)))) = true
      ·rw [if_pos c7] at H
       have c7b0 : (a1_0 == ((rd_T23 l0 x8_1).f0) && (a1_1 == ((rd_T23 l0 x8_1).f1) && (a1_2.toList == (((rd_T23 l0 x8_1).f2).toList)))) = true := c7
       (try (have c7b1 : decide (a1_0 = ((rd_T23 l0 x8_1).f0) && (a1_1 == ((rd_T23 l0 x8_1).f1) && (a1_2.toList == (((rd_T23 l0 x8_1).f2).toList)))) = true := by simpa using c7))
       (try (have c7b2 : (a1_0 == ((rd_T23 l0 x8_1).f0) && (a1_1 == ((rd_T23 l0 x8_1).f1) && (a1_2.toList == (((rd_T23 l0 x8_1).f2).toList)))) = true := by simpa using c7))
       clear c7
       obtain rfl := Option.some.inj H
       have hcz8_0 : wr.cell? ⟨gb145, 0, none⟩ = some (.int .i64 a1_0) := bc BK145 0
       have hcz8_1 : wr.cell? ⟨gb145, 1, none⟩ = some (.int .i64 a1_1) := bc BK145 1
       have hcz8_2 : wr.cell? ⟨gb145, 2, none⟩ = some (.string a1_2) := bc BK145 2
       have hfz8_0 := blk_frozen BK145.out 0
       have hfz8_1 := blk_frozen BK145.out 1
       have hfz8_2 := blk_frozen BK145.out 2
       have p146 : 0 ≤ (x8_1 : Int) := of_decide_eq_true (by first | (with_reducible assumption) | assumption)
       have q146 : x8_1 < (l0.length : Int) := of_decide_eq_true (by first | (with_reducible assumption) | assumption)
       obtain ⟨ad146, e146, hx146_0, hx146_1, hx146_2⟩ := at_T23 HR0.out x8_1 p146 q146
       cases e146
       replace hx146_0 := (HB.out.cell (World.block_lt_of_cell? w _ hx146_0)).trans hx146_0
       replace hx146_1 := (HB.out.cell (World.block_lt_of_cell? w _ hx146_1)).trans hx146_1
       replace hx146_2 := (HB.out.cell (World.block_lt_of_cell? w _ hx146_2)).trans hx146_2
       replace p146 := eq_true p146
       replace q146 := eq_true q146
       go_wp2
       repeat (go_quiet (fail); try go_wp2)
       go_ret
       exact ⟨by first | rfl | (simp [errW_none, errW_some] <;> rfl) | (simp [*, errW_none, errW_some] <;> rfl), by repeat (first | (with_reducible first | exact HB.out | apply below_alloc | apply pw_below_drewN | apply below_drew1 | refine below_set ?_ GE145.out) | exact HB.out)⟩
      ·rw [if_neg c7] at H
       have c7b0 : (a1_0 == ((rd_T23 l0 x8_1).f0) && (a1_1 == ((rd_T23 l0 x8_1).f1) && (a1_2.toList == (((rd_T23 l0 x8_1).f2).toList)))) = false := by simpa using c7
       (try (have c7b1 : decide (a1_0 = ((rd_T23 l0 x8_1).f0) && (a1_1 == ((rd_T23 l0 x8_1).f1) && (a1_2.toList == (((rd_T23 l0 x8_1).f2).toList)))) = false := by simpa using c7))
       (try (have c7b2 : (a1_0 == ((rd_T23 l0 x8_1).f0) && (a1_1 == ((rd_T23 l0 x8_1).f1) && (a1_2.toList == (((rd_T23 l0 x8_1).f2).toList)))) = false := by simpa using c7))
       (try (have c7b3 : ¬ (a1_0 = ((rd_T23 l0 x8_1).f0) && (a1_1 == ((rd_T23 l0 x8_1).f1) && (a1_2.toList == (((rd_T23 l0 x8_1).f2).toList)))) := by simpa using c7))
       clear c7
       have H' := Aside0.mk H
       clear H
       have hcz9_0 : wr.cell? ⟨gb145, 0, none⟩ = some (.int .i64 a1_0) := bc BK145 0
       have hcz9_1 : wr.cell? ⟨gb145, 1, none⟩ = some (.int .i64 a1_1) := bc BK145 1
       have hcz9_2 : wr.cell? ⟨gb145, 2, none⟩ = some (.string a1_2) := bc BK145 2
       have hfz9_0 := blk_frozen BK145.out 0
       have hfz9_1 := blk_frozen BK145.out 1
       have hfz9_2 := blk_frozen BK145.out 2
       have p146 : 0 ≤ (x8_1 : Int) := of_decide_eq_true (by first | (with_reducible assumption) | assumption)
       have q146 : x8_1 < (l0.length : Int) := of_decide_eq_true (by first | (with_reducible assumption) | assumption)
       obtain ⟨ad146, e146, hx146_0, hx146_1, hx146_2⟩ := at_T23 HR0.out x8_1 p146 q146
       cases e146
       replace hx146_0 := (HB.out.cell (World.block_lt_of_cell? w _ hx146_0)).trans hx146_0
       replace hx146_1 := (HB.out.cell (World.block_lt_of_cell? w _ hx146_1)).trans hx146_1
       replace hx146_2 := (HB.out.cell (World.block_lt_of_cell? w _ hx146_2)).trans hx146_2
       replace p146 := eq_true p146
       replace q146 := eq_true q146
       go_wp2
       repeat (go_quiet (fail); try go_wp2)
       go_roundg k1
       case measure => have := HK1.out; omega
       case rel => exact ⟨(wrap64 (x8_1 + 1)), (by first | rfl | (simp; done) | (simp [*]; done)), H', ⟨by have := HK1.out; omega⟩, ⟨by (with_reducible repeat (first | refine blk_drewN ?_ _ | refine blk_drew ?_ | refine blk_alloc ?_ _)); exact BK145.out⟩, ⟨by repeat (first | (with_reducible first | exact HB.out | apply below_alloc | apply pw_below_drewN | apply below_drew1 | refine below_set ?_ GE145.out) | exact HB.out)⟩⟩
     ·rw [if_neg c6] at H
      exact absurd H (by simp)
    ·rw [if_neg c5] at H
     exact absurd H (by simp)
   ·rw [if_neg c4] at H
    have c4b0 : decide (x8_1 < (l0.length : Int)) = false := decide_eq_false c4
    clear c4
    obtain rfl := Option.some.inj H
    go_wp2
    repeat (go_quiet (fail); try go_wp2)
    go_ret
    exact ⟨by first | rfl | (simp [errW_none, errW_some] <;> rfl) | (simp [*, errW_none, errW_some] <;> rfl), by repeat (first | (with_reducible first | exact HB.out | apply below_alloc | apply pw_below_drewN | apply below_drew1 | refine below_set ?_ GE145.out) | exact HB.out)⟩
end Go.Proofs.YtmhnfdgegejlkaaDoor.P
end

section
namespace Go.Proofs.YtmhnfdgegejlkaaDoor.P
open Go.RowKit Go.Proofs.YtmhnfdgegejlkaaDoorW.PrintWords Go.Proofs.YtmhnfdgegejlkaaDoorW.PrintLast Go.Proofs.YtmhnfdgegejlkaaDoorW.PrintMore
attribute [local go_sem] max2_int min2_int max_two min_two max_three min_three max_four min_four
set_option linter.unusedVariables false
set_option linter.unusedSimpArgs false
def slices_Contains_LValue_Value.f (k : Nat) (l0 : List (S23)) (a1_0 : Int) (a1_1 : Int) (a1_2 : ByteArray) : Option (Bool) := (slices_Index_LValue_Value.f k l0 a1_0 a1_1 a1_2).bind fun t148 => (some (decide (t148 ≥ 0)))
theorem slices_Contains_LValue_Value.mono : ∀ a0 a1 a2 a3 k, LeO (slices_Contains_LValue_Value.f k a0 a1 a2 a3) (slices_Contains_LValue_Value.f (k + 1) a0 a1 a2 a3) := by
 intro a0 a1 a2 a3 k
 unfold slices_Contains_LValue_Value.f
 repeat' first
   | (with_reducible exact slices_Index_LValue_Value.mono _ _ _ _ _)
   | (with_reducible exact LeO.refl _)
   | (with_reducible exact LeO.none _)
   | (with_reducible refine LeO.ite ?_ ?_)
   | (with_reducible refine LeO.bind ?_ (fun _ => ?_))
   | exact slices_Index_LValue_Value.mono _ _ _ _ _
   | exact LeO.none _
   | refine LeO.ite ?_ ?_
   | refine LeO.bind ?_ (fun _ => ?_)
set_option maxHeartbeats 8000000 in
set_option maxRecDepth 100000 in
theorem slices_Contains_LValue_Value.calls (k : Nat) (A0 : Option Addr) (c0 : Nat) (l0 : List (S23)) (a1_0 : Int) (a1_1 : Int) (a1_2 : ByteArray) (r : Bool) (w : World) (hr0 : Kd.C k23 w A0 l0.length l0) (hc0 : l0.length ≤ c0) (h : slices_Contains_LValue_Value.f k l0 a1_0 a1_1 a1_2 = some r) :
  Calls Tryd.prog 70 #[.slice A0 l0.length c0, .agg #[.int .i64 a1_0, .int .i64 a1_1, .string a1_2]] w fun e w' => e = .returned (.bool r) ∧ Below w.heap.size w w' := by
 have hu23 := Tryd.underlying23
 have HR0 := Aside0.mk hr0
 have HC0 := Aside0.mk hc0
 clear hr0 hc0
 have HB := Aside0.mk (Below.refl w.heap.size w)
 have H : ((slices_Index_LValue_Value.f k l0 a1_0 a1_1 a1_2).bind fun t148 => (some (decide (t148 ≥ 0)))) = some r := h
 clear h
 replace H := Option.bind_eq_some_iff.mp H
 obtain ⟨t148, A30, H⟩ := H
 replace H : (some (decide (t148 ≥ 0))) = some r := H
 have A3 := Aside0.mk A30
 clear A30
 obtain rfl := Option.some.inj H
 go_enter Tryd.func70, Tryd.ntmps70
 go_wp2_with (first | ((with_reducible refine gate_dst (N := 3) rfl ?_); refine box_event ?hg (N := 3) ?hd (cs := #[.int .i64 a1_0, .int .i64 a1_1, .string a1_2]) (t := 23) ?hr ?_; (case hd => rfl); (case hg => rfl); (case hr => first | (go_simp; done) | (go_simp; rfl)); intro gb147 hg w4 hbox hb; have BK147 := Aside0.mk (hbox); have GW147 := (sizeB HB hg : Aside0 (w.heap.size ≤ gb147)); have GE147 := (sizeB HB hg : Aside0 (w.heap.size ≤ gb147)); replace HB := stepB HB hb; clear hb hbox hg; have hcz5_0 : w4.cell? ⟨gb147, 0, none⟩ = some (.int .i64 a1_0) := bc BK147 0; have hcz5_1 : w4.cell? ⟨gb147, 1, none⟩ = some (.int .i64 a1_1) := bc BK147 1; have hcz5_2 : w4.cell? ⟨gb147, 2, none⟩ = some (.string a1_2) := bc BK147 2; have hfz5_0 := blk_frozen BK147.out 0; have hfz5_1 := blk_frozen BK147.out 1; have hfz5_2 := blk_frozen BK147.out 2) | ((with_reducible refine gate_callee (f := 81) rfl ?_); refine goesL_ (some 7) rfl rfl Tryd.func81 (by kernel_rfl) rfl #[.slice A0 l0.length c0, .agg #[.int .i64 a1_0, .int .i64 a1_1, .string a1_2]] rfl (by (try simp only [List.map_toArray, List.map_cons, List.map_nil]); first | done | rfl | (simp only [List.length_drop, List.length_take]; rfl)) ?_; (with_reducible refine (slices_Index_LValue_Value.calls k _ _ l0 a1_0 a1_1 a1_2 t148 _ ?side1 ?side2 A3.out).mono ?_); (case side1 => repeat (first | exact (Kd.C_below HR0.out HB.out) | (with_reducible refine Kd.C_alloc ?_ _) | (with_reducible refine Kd.C_drewN ?_ _) | (with_reducible refine Kd.C_drew ?_))); (case side2 => exact HC0.out); rintro e w6 ⟨rfl, hb⟩; refine ⟨_, rfl, ?_⟩; replace BK147 := blkB BK147 hb; replace HB := stepB HB hb; (try clear hb); (try clear hb2); (try clear hk); (try clear hi)))
 go_ret
 exact ⟨by first | rfl | (simp [errW_none, errW_some] <;> rfl) | (simp [*, errW_none, errW_some] <;> rfl), by repeat (first | (with_reducible first | exact HB.out | apply below_alloc | apply pw_below_drewN | apply below_drew1 | refine below_set ?_ GE147.out) | exact HB.out)⟩
end Go.Proofs.YtmhnfdgegejlkaaDoor.P
end

section
namespace Go.Proofs.YtmhnfdgegejlkaaDoor.P
open Go.RowKit Go.Proofs.YtmhnfdgegejlkaaDoorW.PrintWords Go.Proofs.YtmhnfdgegejlkaaDoorW.PrintLast Go.Proofs.YtmhnfdgegejlkaaDoorW.PrintMore
attribute [local go_sem] max2_int min2_int max_two min_two max_three min_three max_four min_four
set_option linter.unusedVariables false
set_option linter.unusedSimpArgs false
def value_logical_1.f (a0_0 : Int) (a0_1 : Int) (a0_2 : ByteArray) : Option (Bool) := if a0_0 = 0 then (some false) else (some (a0_0 != 3))
set_option maxHeartbeats 8000000 in
set_option maxRecDepth 100000 in
theorem value_logical_1.calls (a0_0 : Int) (a0_1 : Int) (a0_2 : ByteArray) (r : Bool) (w : World) (h : value_logical_1.f a0_0 a0_1 a0_2 = some r) :
  Calls Tryd.prog 72 #[.agg #[.int .i64 a0_0, .int .i64 a0_1, .string a0_2]] w fun e w' => e = .returned (.bool r) ∧ Below w.heap.size w w' := by
 have hu23 := Tryd.underlying23
 have HB := Aside0.mk (Below.refl w.heap.size w)
 have H : (if a0_0 = 0 then (some false) else (some (a0_0 != 3))) = some r := h
 clear h
 by_cases c2 : a0_0 = 0
 ·rw [if_pos c2] at H
  have c2b0 : (a0_0 == 0) = true := beq_iff_eq.mpr c2
  have c2b1 : (a0_0 != 0) = false := bne_eq_false_iff_eq.mpr c2
  clear c2
  obtain rfl := Option.some.inj H
  go_enter Tryd.func72, Tryd.ntmps72
  go_wp2_with (first | ((with_reducible refine gate_dst (N := 1) rfl ?_); refine box_event ?hg (N := 1) ?hd (cs := #[.int .i64 a0_0, .int .i64 a0_1, .string a0_2]) (t := 23) ?hr ?_; (case hd => rfl); (case hg => rfl); (case hr => first | (go_simp; done) | (go_simp; rfl)); intro gb140 hg w3 hbox hb; have BK140 := Aside0.mk (hbox); have GW140 := (sizeB HB hg : Aside0 (w.heap.size ≤ gb140)); have GE140 := (sizeB HB hg : Aside0 (w.heap.size ≤ gb140)); replace HB := stepB HB hb; clear hb hbox hg; have hcz4_0 : w3.cell? ⟨gb140, 0, none⟩ = some (.int .i64 a0_0) := bc BK140 0; have hcz4_1 : w3.cell? ⟨gb140, 1, none⟩ = some (.int .i64 a0_1) := bc BK140 1; have hcz4_2 : w3.cell? ⟨gb140, 2, none⟩ = some (.string a0_2) := bc BK140 2; have hfz4_0 := blk_frozen BK140.out 0; have hfz4_1 := blk_frozen BK140.out 1; have hfz4_2 := blk_frozen BK140.out 2))
  go_ret
  exact ⟨by first | rfl | (simp [errW_none, errW_some] <;> rfl) | (simp [*, errW_none, errW_some] <;> rfl), by repeat (first | (with_reducible first | exact HB.out | apply below_alloc | apply pw_below_drewN | apply below_drew1 | refine below_set ?_ GE140.out) | exact HB.out)⟩
 ·rw [if_neg c2] at H
  have c2b0 : (a0_0 == 0) = false := beq_eq_false_iff_ne.mpr c2
  have c2b1 : (a0_0 != 0) = true := bne_iff_ne.mpr c2
  obtain rfl := Option.some.inj H
  go_enter Tryd.func72, Tryd.ntmps72
  go_wp2_with (first | ((with_reducible refine gate_dst (N := 1) rfl ?_); refine box_event ?hg (N := 1) ?hd (cs := #[.int .i64 a0_0, .int .i64 a0_1, .string a0_2]) (t := 23) ?hr ?_; (case hd => rfl); (case hg => rfl); (case hr => first | (go_simp; done) | (go_simp; rfl)); intro gb140 hg w5 hbox hb; have BK140 := Aside0.mk (hbox); have GW140 := (sizeB HB hg : Aside0 (w.heap.size ≤ gb140)); have GE140 := (sizeB HB hg : Aside0 (w.heap.size ≤ gb140)); replace HB := stepB HB hb; clear hb hbox hg; have hcz6_0 : w5.cell? ⟨gb140, 0, none⟩ = some (.int .i64 a0_0) := bc BK140 0; have hcz6_1 : w5.cell? ⟨gb140, 1, none⟩ = some (.int .i64 a0_1) := bc BK140 1; have hcz6_2 : w5.cell? ⟨gb140, 2, none⟩ = some (.string a0_2) := bc BK140 2; have hfz6_0 := blk_frozen BK140.out 0; have hfz6_1 := blk_frozen BK140.out 1; have hfz6_2 := blk_frozen BK140.out 2))
  go_ret
  exact ⟨by first | rfl | (simp [errW_none, errW_some] <;> rfl) | (simp [*, errW_none, errW_some] <;> rfl), by repeat (first | (with_reducible first | exact HB.out | apply below_alloc | apply pw_below_drewN | apply below_drew1 | refine below_set ?_ GE140.out) | exact HB.out)⟩
end Go.Proofs.YtmhnfdgegejlkaaDoor.P
end

section
namespace Go.Proofs.YtmhnfdgegejlkaaDoor.P
open Go.RowKit Go.Proofs.YtmhnfdgegejlkaaDoorW.PrintWords Go.Proofs.YtmhnfdgegejlkaaDoorW.PrintLast Go.Proofs.YtmhnfdgegejlkaaDoorW.PrintMore
attribute [local go_sem] max2_int min2_int max_two min_two max_three min_three max_four min_four
set_option linter.unusedVariables false
set_option linter.unusedSimpArgs false
def slices_IndexFunc_LValue_Value_value_logical_1.l0 : Nat → List (S23) → Int → Int → Option (Int)
 | 0, _, _, _ => none
 | k + 1, x0, x7, x8 => if x8 < x7 then (if 0 ≤ x8 then (if x8 < (x0.length : Int) then ((value_logical_1.f ((rd_T23 x0 x8).f0) ((rd_T23 x0 x8).f1) ((rd_T23 x0 x8).f2)).bind fun t142 => (if t142 = true then (some x8) else (slices_IndexFunc_LValue_Value_value_logical_1.l0 k x0 x7 (wrap64 (x8 + 1))))) else (none)) else (none)) else (some (-1))
def slices_IndexFunc_LValue_Value_value_logical_1.f (k : Nat) (l0 : List (S23))  : Option (Int) := slices_IndexFunc_LValue_Value_value_logical_1.l0 k l0 (l0.length : Int) 0
theorem slices_IndexFunc_LValue_Value_value_logical_1.mono_l : ∀ k, (∀ y0 y1 y2, LeO (slices_IndexFunc_LValue_Value_value_logical_1.l0 k y0 y1 y2) (slices_IndexFunc_LValue_Value_value_logical_1.l0 (k + 1) y0 y1 y2))
 | 0 => fun _ _ _ r h => by simp [slices_IndexFunc_LValue_Value_value_logical_1.l0] at h
 | k + 1 => by
  have ih0 := slices_IndexFunc_LValue_Value_value_logical_1.mono_l k
  ·intro y0 y1 y2
   unfold slices_IndexFunc_LValue_Value_value_logical_1.l0
   repeat' first
   | (with_reducible exact ih0 _ _ _)
   | (with_reducible exact LeO.refl _)
   | (with_reducible exact LeO.none _)
   | (with_reducible refine LeO.ite ?_ ?_)
   | (with_reducible refine LeO.bind ?_ (fun _ => ?_))
   | exact ih0 _ _ _
   | exact LeO.none _
   | refine LeO.ite ?_ ?_
   | refine LeO.bind ?_ (fun _ => ?_)
theorem slices_IndexFunc_LValue_Value_value_logical_1.mono : ∀ a0 k, LeO (slices_IndexFunc_LValue_Value_value_logical_1.f k a0) (slices_IndexFunc_LValue_Value_value_logical_1.f (k + 1) a0) := by
 intro a0 k
 have ih0 := slices_IndexFunc_LValue_Value_value_logical_1.mono_l k
 unfold slices_IndexFunc_LValue_Value_value_logical_1.f
 repeat' first
   | (with_reducible exact ih0 _ _ _)
   | (with_reducible exact LeO.refl _)
   | (with_reducible exact LeO.none _)
   | (with_reducible refine LeO.ite ?_ ?_)
   | (with_reducible refine LeO.bind ?_ (fun _ => ?_))
   | exact ih0 _ _ _
   | exact LeO.none _
   | refine LeO.ite ?_ ?_
   | refine LeO.bind ?_ (fun _ => ?_)
set_option maxHeartbeats 8000000 in
set_option maxRecDepth 100000 in
theorem slices_IndexFunc_LValue_Value_value_logical_1.calls (k : Nat) (A0 : Option Addr) (c0 : Nat) (l0 : List (S23))  (r : Int) (w : World) (hr0 : Kd.C k23 w A0 l0.length l0) (hc0 : l0.length ≤ c0) (h : slices_IndexFunc_LValue_Value_value_logical_1.f k l0 = some r) :
  Calls Tryd.prog 82 #[.slice A0 l0.length c0, .func (.func 72) #[] #[]] w fun e w' => e = .returned (.int .i64 r) ∧ Below w.heap.size w w' := by
 have hu23 := Tryd.underlying23
 have HR0 := Aside0.mk hr0
 have HC0 := Aside0.mk hc0
 clear hr0 hc0
 have HB := Aside0.mk (Below.refl w.heap.size w)
 have H : (slices_IndexFunc_LValue_Value_value_logical_1.l0 k l0 (l0.length : Int) 0) = some r := h
 clear h
 have H' := Aside0.mk H
 clear H
 go_enter Tryd.func82, Tryd.ntmps82
 go_wp2
 go_loopg [8] k (fun kq v8 w' => ∃ (x8_1 : Int), v8 = .int .i64 x8_1 ∧ Aside0 (slices_IndexFunc_LValue_Value_value_logical_1.l0 kq l0 (l0.length : Int) x8_1 = some r) ∧ Aside0 (kq ≤ k) ∧ Aside0 (Below w.heap.size w w'))
 case atStart => exact ⟨(0), (by first | rfl | (simp; done) | (simp [*]; done)), H', ⟨Nat.le_refl _⟩, ⟨by repeat (first | (with_reducible first | exact HB.out | apply below_alloc | apply pw_below_drewN | apply below_drew1) | exact HB.out)⟩⟩
 case round =>
  clear H'
  try clear p2
  obtain ⟨x8_1, rfl, HA, HK1, HB⟩ := hrel
  cases gk with
  | zero => exact absurd HA.out (by simp [slices_IndexFunc_LValue_Value_value_logical_1.l0])
  | succ k1 =>
   have H := HA.out
   clear HA
   simp only [slices_IndexFunc_LValue_Value_value_logical_1.l0] at H
   by_cases c3 : x8_1 < (l0.length : Int)
   ·rw [if_pos c3] at H
    have c3b0 : decide (x8_1 < (l0.length : Int)) = true := decide_eq_true c3
    clear c3
    by_cases c4 : 0 ≤ x8_1
    ·rw [if_pos c4] at H
     have c4b0 : decide (0 ≤ x8_1) = true := decide_eq_true c4
     clear c4
     by_cases c5 : x8_1 < (l0.length : Int)
     ·rw [if_pos c5] at H
      have c5b0 : decide (x8_1 < (l0.length : Int)) = true := decide_eq_true c5
      clear c5
      replace H := Option.bind_eq_some_iff.mp H
      obtain ⟨t142, A60, H⟩ := H
      replace H : (if t142 = true then (some x8_1) else (slices_IndexFunc_LValue_Value_value_logical_1.l0 k1 l0 (l0.length : Int) (wrap64 (x8_1 + 1)))) = some r := H
      have A6 := Aside0.mk A60
      clear A60
      by_cases c7 : t142 = true
      ·subst c7
       have H1 : (some x8_1) = some r := by rw [if_pos rfl] at H; exact H
       clear H
       have H := H1
       clear H1
       obtain rfl := Option.some.inj H
       have p141 : 0 ≤ (x8_1 : Int) := of_decide_eq_true (by first | (with_reducible assumption) | assumption)
       have q141 : x8_1 < (l0.length : Int) := of_decide_eq_true (by first | (with_reducible assumption) | assumption)
       obtain ⟨ad141, e141, hx141_0, hx141_1, hx141_2⟩ := at_T23 HR0.out x8_1 p141 q141
       cases e141
       replace hx141_0 := (HB.out.cell (World.block_lt_of_cell? w _ hx141_0)).trans hx141_0
       replace hx141_1 := (HB.out.cell (World.block_lt_of_cell? w _ hx141_1)).trans hx141_1
       replace hx141_2 := (HB.out.cell (World.block_lt_of_cell? w _ hx141_2)).trans hx141_2
       replace p141 := eq_true p141
       replace q141 := eq_true q141
       go_wp2_with (first | ((with_reducible refine gate_dst (N := 16) rfl ?_); refine goesV_ (some 16) rfl rfl Tryd.func72 (by kernel_rfl) rfl #[.agg #[.int .i64 ((rd_T23 l0 x8_1).f0), .int .i64 ((rd_T23 l0 x8_1).f1), .string ((rd_T23 l0 x8_1).f2)]] rfl rfl (by (try simp only [List.map_toArray, List.map_cons, List.map_nil]); first | done | rfl | (simp only [List.length_drop, List.length_take]; rfl)) ?_; (with_reducible refine (value_logical_1.calls ((rd_T23 l0 x8_1).f0) ((rd_T23 l0 x8_1).f1) ((rd_T23 l0 x8_1).f2) true _ A6.out).mono ?_); rintro e w8 ⟨rfl, hb⟩; refine ⟨_, rfl, ?_⟩; replace HB := stepB HB hb; (try clear hb); (try clear hb2); (try clear hk); (try clear hi)))
       go_ret
       exact ⟨by first | rfl | (simp [errW_none, errW_some] <;> rfl) | (simp [*, errW_none, errW_some] <;> rfl), by repeat (first | (with_reducible first | exact HB.out | apply below_alloc | apply pw_below_drewN | apply below_drew1) | exact HB.out)⟩
      ·replace c7 := Bool.eq_false_iff.mpr c7
       subst c7
       have H1 : (slices_IndexFunc_LValue_Value_value_logical_1.l0 k1 l0 (l0.length : Int) (wrap64 (x8_1 + 1))) = some r := by rw [if_neg (show ¬ (false = true) by decide)] at H; exact H
       clear H
       have H := H1
       clear H1
       have H' := Aside0.mk H
       clear H
       have p141 : 0 ≤ (x8_1 : Int) := of_decide_eq_true (by first | (with_reducible assumption) | assumption)
       have q141 : x8_1 < (l0.length : Int) := of_decide_eq_true (by first | (with_reducible assumption) | assumption)
       obtain ⟨ad141, e141, hx141_0, hx141_1, hx141_2⟩ := at_T23 HR0.out x8_1 p141 q141
       cases e141
       replace hx141_0 := (HB.out.cell (World.block_lt_of_cell? w _ hx141_0)).trans hx141_0
       replace hx141_1 := (HB.out.cell (World.block_lt_of_cell? w _ hx141_1)).trans hx141_1
       replace hx141_2 := (HB.out.cell (World.block_lt_of_cell? w _ hx141_2)).trans hx141_2
       replace p141 := eq_true p141
       replace q141 := eq_true q141
       go_wp2_with (first | ((with_reducible refine gate_dst (N := 16) rfl ?_); refine goesV_ (some 16) rfl rfl Tryd.func72 (by kernel_rfl) rfl #[.agg #[.int .i64 ((rd_T23 l0 x8_1).f0), .int .i64 ((rd_T23 l0 x8_1).f1), .string ((rd_T23 l0 x8_1).f2)]] rfl rfl (by (try simp only [List.map_toArray, List.map_cons, List.map_nil]); first | done | rfl | (simp only [List.length_drop, List.length_take]; rfl)) ?_; (with_reducible refine (value_logical_1.calls ((rd_T23 l0 x8_1).f0) ((rd_T23 l0 x8_1).f1) ((rd_T23 l0 x8_1).f2) false _ A6.out).mono ?_); rintro e w9 ⟨rfl, hb⟩; refine ⟨_, rfl, ?_⟩; replace HB := stepB HB hb; (try clear hb); (try clear hb2); (try clear hk); (try clear hi)))
       go_roundg k1
       case measure => have := HK1.out; omega
       case rel => exact ⟨(wrap64 (x8_1 + 1)), (by first | rfl | (simp; done) | (simp [*]; done)), H', ⟨by have := HK1.out; omega⟩, ⟨by repeat (first | (with_reducible first | exact HB.out | apply below_alloc | apply pw_below_drewN | apply below_drew1) | exact HB.out)⟩⟩
     ·rw [if_neg c5] at H
      exact absurd H (by simp)
    ·rw [if_neg c4] at H
     exact absurd H (by simp)
   ·rw [if_neg c3] at H
    have c3b0 : decide (x8_1 < (l0.length : Int)) = false := decide_eq_false c3
    clear c3
    obtain rfl := Option.some.inj H
    go_wp2
    go_ret
    exact ⟨by first | rfl | (simp [errW_none, errW_some] <;> rfl) | (simp [*, errW_none, errW_some] <;> rfl), by repeat (first | (with_reducible first | exact HB.out | apply below_alloc | apply pw_below_drewN | apply below_drew1) | exact HB.out)⟩
end Go.Proofs.YtmhnfdgegejlkaaDoor.P
end

section
namespace Go.Proofs.YtmhnfdgegejlkaaDoor.P
open Go.RowKit Go.Proofs.YtmhnfdgegejlkaaDoorW.PrintWords Go.Proofs.YtmhnfdgegejlkaaDoorW.PrintLast Go.Proofs.YtmhnfdgegejlkaaDoorW.PrintMore
attribute [local go_sem] max2_int min2_int max_two min_two max_three min_three max_four min_four
set_option linter.unusedVariables false
set_option linter.unusedSimpArgs false
def slices_ContainsFunc_LValue_Value_value_logical_1.f (k : Nat) (l0 : List (S23))  : Option (Bool) := (slices_IndexFunc_LValue_Value_value_logical_1.f k l0).bind fun t143 => (some (decide (t143 ≥ 0)))
theorem slices_ContainsFunc_LValue_Value_value_logical_1.mono : ∀ a0 k, LeO (slices_ContainsFunc_LValue_Value_value_logical_1.f k a0) (slices_ContainsFunc_LValue_Value_value_logical_1.f (k + 1) a0) := by
 intro a0 k
 unfold slices_ContainsFunc_LValue_Value_value_logical_1.f
 repeat' first
   | (with_reducible exact slices_IndexFunc_LValue_Value_value_logical_1.mono _ _)
   | (with_reducible exact LeO.refl _)
   | (with_reducible exact LeO.none _)
   | (with_reducible refine LeO.ite ?_ ?_)
   | (with_reducible refine LeO.bind ?_ (fun _ => ?_))
   | exact slices_IndexFunc_LValue_Value_value_logical_1.mono _ _
   | exact LeO.none _
   | refine LeO.ite ?_ ?_
   | refine LeO.bind ?_ (fun _ => ?_)
set_option maxHeartbeats 8000000 in
set_option maxRecDepth 100000 in
theorem slices_ContainsFunc_LValue_Value_value_logical_1.calls (k : Nat) (A0 : Option Addr) (c0 : Nat) (l0 : List (S23))  (r : Bool) (w : World) (hr0 : Kd.C k23 w A0 l0.length l0) (hc0 : l0.length ≤ c0) (h : slices_ContainsFunc_LValue_Value_value_logical_1.f k l0 = some r) :
  Calls Tryd.prog 71 #[.slice A0 l0.length c0, .func (.func 72) #[] #[]] w fun e w' => e = .returned (.bool r) ∧ Below w.heap.size w w' := by
 have HR0 := Aside0.mk hr0
 have HC0 := Aside0.mk hc0
 clear hr0 hc0
 have HB := Aside0.mk (Below.refl w.heap.size w)
 have H : ((slices_IndexFunc_LValue_Value_value_logical_1.f k l0).bind fun t143 => (some (decide (t143 ≥ 0)))) = some r := h
 clear h
 replace H := Option.bind_eq_some_iff.mp H
 obtain ⟨t143, A30, H⟩ := H
 replace H : (some (decide (t143 ≥ 0))) = some r := H
 have A3 := Aside0.mk A30
 clear A30
 obtain rfl := Option.some.inj H
 go_enter Tryd.func71, Tryd.ntmps71
 go_wp2_with (first | ((with_reducible refine gate_callee (f := 82) rfl ?_); refine goesL_ (some 7) rfl rfl Tryd.func82 (by kernel_rfl) rfl #[.slice A0 l0.length c0, .func (.func 72) #[] #[]] rfl (by (try simp only [List.map_toArray, List.map_cons, List.map_nil]); first | done | rfl | (simp only [List.length_drop, List.length_take]; rfl)) ?_; (with_reducible refine (slices_IndexFunc_LValue_Value_value_logical_1.calls k _ _ l0  t143 _ ?side1 ?side2 A3.out).mono ?_); (case side1 => repeat (first | exact HR0.out | (with_reducible refine Kd.C_alloc ?_ _) | (with_reducible refine Kd.C_drewN ?_ _) | (with_reducible refine Kd.C_drew ?_))); (case side2 => exact HC0.out); rintro e w4 ⟨rfl, hb⟩; refine ⟨_, rfl, ?_⟩; replace HB := stepB HB hb; (try clear hb); (try clear hb2); (try clear hk); (try clear hi)))
 go_ret
 exact ⟨by first | rfl | (simp [errW_none, errW_some] <;> rfl) | (simp [*, errW_none, errW_some] <;> rfl), by repeat (first | (with_reducible first | exact HB.out | apply below_alloc | apply pw_below_drewN | apply below_drew1) | exact HB.out)⟩
end Go.Proofs.YtmhnfdgegejlkaaDoor.P
end

section
namespace Go.Proofs.YtmhnfdgegejlkaaDoor.P
open Go.RowKit Go.Proofs.YtmhnfdgegejlkaaDoorW.PrintWords Go.Proofs.YtmhnfdgegejlkaaDoorW.PrintLast Go.Proofs.YtmhnfdgegejlkaaDoorW.PrintMore
attribute [local go_sem] max2_int min2_int max_two min_two max_three min_three max_four min_four
set_option linter.unusedVariables false
set_option linter.unusedSimpArgs false
def value_logical.f (k : Nat) (l0 : List (S23)) : Option (Bool) := (slices_ContainsFunc_LValue_Value_value_logical_1.f k l0).bind fun t144 => (some (!t144))
theorem value_logical.mono : ∀ a0 k, LeO (value_logical.f k a0) (value_logical.f (k + 1) a0) := by
 intro a0 k
 unfold value_logical.f
 repeat' first
   | (with_reducible exact slices_ContainsFunc_LValue_Value_value_logical_1.mono _ _)
   | (with_reducible exact LeO.refl _)
   | (with_reducible exact LeO.none _)
   | (with_reducible refine LeO.ite ?_ ?_)
   | (with_reducible refine LeO.bind ?_ (fun _ => ?_))
   | exact slices_ContainsFunc_LValue_Value_value_logical_1.mono _ _
   | exact LeO.none _
   | refine LeO.ite ?_ ?_
   | refine LeO.bind ?_ (fun _ => ?_)
set_option maxHeartbeats 8000000 in
set_option maxRecDepth 100000 in
theorem value_logical.calls (k : Nat) (A0 : Option Addr) (c0 : Nat) (l0 : List (S23)) (r : Bool) (w : World) (hr0 : Kd.C k23 w A0 l0.length l0) (hc0 : l0.length ≤ c0) (h : value_logical.f k l0 = some r) :
  Calls Tryd.prog 51 #[.slice A0 l0.length c0] w fun e w' => e = .returned (.bool r) ∧ Below w.heap.size w w' := by
 have HR0 := Aside0.mk hr0
 have HC0 := Aside0.mk hc0
 clear hr0 hc0
 have HB := Aside0.mk (Below.refl w.heap.size w)
 have H : ((slices_ContainsFunc_LValue_Value_value_logical_1.f k l0).bind fun t144 => (some (!t144))) = some r := h
 clear h
 replace H := Option.bind_eq_some_iff.mp H
 obtain ⟨t144, A20, H⟩ := H
 replace H : (some (!t144)) = some r := H
 have A2 := Aside0.mk A20
 clear A20
 obtain rfl := Option.some.inj H
 go_enter Tryd.func51, Tryd.ntmps51
 go_wp2_with (first | ((with_reducible refine gate_callee (f := 71) rfl ?_); refine goesL_ (some 4) rfl rfl Tryd.func71 (by kernel_rfl) rfl #[.slice A0 l0.length c0, .func (.func 72) #[] #[]] rfl (by (try simp only [List.map_toArray, List.map_cons, List.map_nil]); first | done | rfl | (simp only [List.length_drop, List.length_take]; rfl)) ?_; (with_reducible refine (slices_ContainsFunc_LValue_Value_value_logical_1.calls k _ _ l0  t144 _ ?side1 ?side2 A2.out).mono ?_); (case side1 => repeat (first | exact HR0.out | (with_reducible refine Kd.C_alloc ?_ _) | (with_reducible refine Kd.C_drewN ?_ _) | (with_reducible refine Kd.C_drew ?_))); (case side2 => exact HC0.out); rintro e w3 ⟨rfl, hb⟩; refine ⟨_, rfl, ?_⟩; replace HB := stepB HB hb; (try clear hb); (try clear hb2); (try clear hk); (try clear hi)))
 go_ret
 exact ⟨by first | rfl | (simp [errW_none, errW_some] <;> rfl) | (simp [*, errW_none, errW_some] <;> rfl), by repeat (first | (with_reducible first | exact HB.out | apply below_alloc | apply pw_below_drewN | apply below_drew1) | exact HB.out)⟩
end Go.Proofs.YtmhnfdgegejlkaaDoor.P
end

section
namespace Go.Proofs.YtmhnfdgegejlkaaDoor.P
open Go.RowKit Go.Proofs.YtmhnfdgegejlkaaDoorW.PrintWords Go.Proofs.YtmhnfdgegejlkaaDoorW.PrintLast Go.Proofs.YtmhnfdgegejlkaaDoorW.PrintMore
attribute [local go_sem] max2_int min2_int max_two min_two max_three min_three max_four min_four
set_option linter.unusedVariables false
set_option linter.unusedSimpArgs false
def value_decide.f (k : Nat) (a0 : Bool) (l1 : List (S23)) : Option (Int × Int × ByteArray × Int) := (value_logical.f k l1).bind fun t150 => (if t150 = true then ((value_truth.f a0).bind fun bt151 => ((slices_Contains_LValue_Value.f k l1 bt151.1 bt151.2.1 bt151.2.2).bind fun t154 => (if t154 = true then ((value_truth.f a0).bind fun bt155 => (some (bt155.1, bt155.2.1, bt155.2.2, 0))) else ((slices_Contains_LValue_Value.f k l1 0 0 (⟨#[]⟩ : ByteArray)).bind fun t158 => (if t158 = true then (some (0, 0, (⟨#[]⟩ : ByteArray), 0)) else ((value_truth.f (!a0)).bind fun bt159 => (some (bt159.1, bt159.2.1, bt159.2.2, 0)))))))) else (some (0, 0, (⟨#[]⟩ : ByteArray), 7)))
theorem value_decide.mono : ∀ a0 a1 k, LeO (value_decide.f k a0 a1) (value_decide.f (k + 1) a0 a1) := by
 intro a0 a1 k
 unfold value_decide.f
 repeat' first
   | (with_reducible exact slices_Contains_LValue_Value.mono _ _ _ _ _)
   | (with_reducible exact value_logical.mono _ _)
   | (with_reducible exact LeO.refl _)
   | (with_reducible exact LeO.none _)
   | (with_reducible refine LeO.ite ?_ ?_)
   | (with_reducible refine LeO.bind ?_ (fun _ => ?_))
   | exact slices_Contains_LValue_Value.mono _ _ _ _ _
   | exact value_logical.mono _ _
   | exact LeO.none _
   | refine LeO.ite ?_ ?_
   | refine LeO.bind ?_ (fun _ => ?_)
set_option maxHeartbeats 8000000 in
set_option maxRecDepth 100000 in
theorem value_decide.calls (k : Nat) (a0 : Bool) (A1 : Option Addr) (c1 : Nat) (l1 : List (S23)) (r1 : Int) (r2 : Int) (r3 : ByteArray) (r4 : Int) (w : World) (hr1 : Kd.C k23 w A1 l1.length l1) (hc1 : l1.length ≤ c1) (h : value_decide.f k a0 l1 = some (r1, r2, r3, r4)) :
  Calls Tryd.prog 49 #[.bool a0, .slice A1 l1.length c1] w fun e w' => e = .returned (.tuple #[.agg #[.int .i64 r1, .int .i64 r2, .string r3], .int .i64 r4]) ∧ Below w.heap.size w w' := by
 have hu23 := Tryd.underlying23
 have HR1 := Aside0.mk hr1
 have HC1 := Aside0.mk hc1
 clear hr1 hc1
 have HB := Aside0.mk (Below.refl w.heap.size w)
 have H : ((value_logical.f k l1).bind fun t150 => (if t150 = true then ((value_truth.f a0).bind fun bt151 => ((slices_Contains_LValue_Value.f k l1 bt151.1 bt151.2.1 bt151.2.2).bind fun t154 => (if t154 = true then ((value_truth.f a0).bind fun bt155 => (some (bt155.1, bt155.2.1, bt155.2.2, 0))) else ((slices_Contains_LValue_Value.f k l1 0 0 (⟨#[]⟩ : ByteArray)).bind fun t158 => (if t158 = true then (some (0, 0, (⟨#[]⟩ : ByteArray), 0)) else ((value_truth.f (!a0)).bind fun bt159 => (some (bt159.1, bt159.2.1, bt159.2.2, 0)))))))) else (some (0, 0, (⟨#[]⟩ : ByteArray), 7)))) = some (r1, r2, r3, r4) := h
 clear h
 replace H := Option.bind_eq_some_iff.mp H
 obtain ⟨t150, A30, H⟩ := H
 replace H : (if t150 = true then ((value_truth.f a0).bind fun bt151 => ((slices_Contains_LValue_Value.f k l1 bt151.1 bt151.2.1 bt151.2.2).bind fun t154 => (if t154 = true then ((value_truth.f a0).bind fun bt155 => (some (bt155.1, bt155.2.1, bt155.2.2, 0))) else ((slices_Contains_LValue_Value.f k l1 0 0 (⟨#[]⟩ : ByteArray)).bind fun t158 => (if t158 = true then (some (0, 0, (⟨#[]⟩ : ByteArray), 0)) else ((value_truth.f (!a0)).bind fun bt159 => (some (bt159.1, bt159.2.1, bt159.2.2, 0)))))))) else (some (0, 0, (⟨#[]⟩ : ByteArray), 7))) = some (r1, r2, r3, r4) := H
 have A3 := Aside0.mk A30
 clear A30
 by_cases c4 : t150 = true
 ·subst c4
  have H1 : ((value_truth.f a0).bind fun bt151 => ((slices_Contains_LValue_Value.f k l1 bt151.1 bt151.2.1 bt151.2.2).bind fun t154 => (if t154 = true then ((value_truth.f a0).bind fun bt155 => (some (bt155.1, bt155.2.1, bt155.2.2, 0))) else ((slices_Contains_LValue_Value.f k l1 0 0 (⟨#[]⟩ : ByteArray)).bind fun t158 => (if t158 = true then (some (0, 0, (⟨#[]⟩ : ByteArray), 0)) else ((value_truth.f (!a0)).bind fun bt159 => (some (bt159.1, bt159.2.1, bt159.2.2, 0)))))))) = some (r1, r2, r3, r4) := by rw [if_pos rfl] at H; exact H
  clear H
  have H := H1
  clear H1
  replace H := Option.bind_eq_some_iff.mp H
  obtain ⟨⟨t151, t152, t153⟩, A50, H⟩ := H
  replace H : ((slices_Contains_LValue_Value.f k l1 t151 t152 t153).bind fun t154 => (if t154 = true then ((value_truth.f a0).bind fun bt155 => (some (bt155.1, bt155.2.1, bt155.2.2, 0))) else ((slices_Contains_LValue_Value.f k l1 0 0 (⟨#[]⟩ : ByteArray)).bind fun t158 => (if t158 = true then (some (0, 0, (⟨#[]⟩ : ByteArray), 0)) else ((value_truth.f (!a0)).bind fun bt159 => (some (bt159.1, bt159.2.1, bt159.2.2, 0))))))) = some (r1, r2, r3, r4) := H
  have A5 := Aside0.mk A50
  clear A50
  replace H := Option.bind_eq_some_iff.mp H
  obtain ⟨t154, A60, H⟩ := H
  replace H : (if t154 = true then ((value_truth.f a0).bind fun bt155 => (some (bt155.1, bt155.2.1, bt155.2.2, 0))) else ((slices_Contains_LValue_Value.f k l1 0 0 (⟨#[]⟩ : ByteArray)).bind fun t158 => (if t158 = true then (some (0, 0, (⟨#[]⟩ : ByteArray), 0)) else ((value_truth.f (!a0)).bind fun bt159 => (some (bt159.1, bt159.2.1, bt159.2.2, 0)))))) = some (r1, r2, r3, r4) := H
  have A6 := Aside0.mk A60
  clear A60
  by_cases c7 : t154 = true
  ·subst c7
   have H1 : ((value_truth.f a0).bind fun bt155 => (some (bt155.1, bt155.2.1, bt155.2.2, 0))) = some (r1, r2, r3, r4) := by rw [if_pos rfl] at H; exact H
   clear H
   have H := H1
   clear H1
   replace H := Option.bind_eq_some_iff.mp H
   obtain ⟨⟨t155, t156, t157⟩, A80, H⟩ := H
   replace H : (some (t155, t156, t157, 0)) = some (r1, r2, r3, r4) := H
   have A8 := Aside0.mk A80
   clear A80
   simp only [Option.some.injEq, Prod.mk.injEq] at H
   obtain ⟨rfl, rfl, rfl, rfl⟩ := H
   go_enter Tryd.func49, Tryd.ntmps49
   go_wp2_with (first | ((with_reducible refine gate_dst (N := 4) rfl ?_); refine box_event ?hg (N := 4) ?hd (cs := #[.int .i64 0, .int .i64 0, .string (⟨#[]⟩ : ByteArray)]) (t := 23) ?hr ?_; (case hd => rfl); (case hg => rfl); (case hr => first | (go_simp; done) | (go_simp; rfl)); intro gb149 hg w9 hbox hb; have BK149 := Aside0.mk (hbox); have GW149 := (sizeB HB hg : Aside0 (w.heap.size ≤ gb149)); have GE149 := (sizeB HB hg : Aside0 (w.heap.size ≤ gb149)); replace HB := stepB HB hb; clear hb hbox hg) | ((with_reducible refine gate_callee (f := 51) rfl ?_); refine goesL_ (some 8) rfl rfl Tryd.func51 (by kernel_rfl) rfl #[.slice A1 l1.length c1] rfl (by (try simp only [List.map_toArray, List.map_cons, List.map_nil]); first | done | rfl | (simp only [List.length_drop, List.length_take]; rfl)) ?_; (with_reducible refine (value_logical.calls k _ _ l1 true _ ?side1 ?side2 A3.out).mono ?_); (case side1 => repeat (first | exact (Kd.C_below HR1.out HB.out) | (with_reducible refine Kd.C_alloc ?_ _) | (with_reducible refine Kd.C_drewN ?_ _) | (with_reducible refine Kd.C_drew ?_))); (case side2 => exact HC1.out); rintro e w10 ⟨rfl, hb⟩; refine ⟨_, rfl, ?_⟩; replace BK149 := blkB BK149 hb; replace HB := stepB HB hb; (try clear hb); (try clear hb2); (try clear hk); (try clear hi)) | ((with_reducible refine gate_callee (f := 46) rfl ?_); refine goesL_ (some 14) rfl rfl Tryd.func46 (by kernel_rfl) rfl #[.bool a0] rfl (by (try simp only [List.map_toArray, List.map_cons, List.map_nil]); first | done | rfl | (simp only [List.length_drop, List.length_take]; rfl)) ?_; (with_reducible refine (value_truth.calls a0 t151 t152 t153 _ A5.out).mono ?_); rintro e w11 ⟨rfl, hb⟩; refine ⟨_, rfl, ?_⟩; replace BK149 := blkB BK149 hb; replace HB := stepB HB hb; (try clear hb); (try clear hb2); (try clear hk); (try clear hi)) | ((with_reducible refine gate_callee (f := 70) rfl ?_); refine goesL_ (some 15) rfl rfl Tryd.func70 (by kernel_rfl) rfl #[.slice A1 l1.length c1, .agg #[.int .i64 t151, .int .i64 t152, .string t153]] rfl (by (try simp only [List.map_toArray, List.map_cons, List.map_nil]); first | done | rfl | (simp only [List.length_drop, List.length_take]; rfl)) ?_; (with_reducible refine (slices_Contains_LValue_Value.calls k _ _ l1 t151 t152 t153 true _ ?side1 ?side2 A6.out).mono ?_); (case side1 => repeat (first | exact (Kd.C_below HR1.out HB.out) | (with_reducible refine Kd.C_alloc ?_ _) | (with_reducible refine Kd.C_drewN ?_ _) | (with_reducible refine Kd.C_drew ?_))); (case side2 => exact HC1.out); rintro e w12 ⟨rfl, hb⟩; refine ⟨_, rfl, ?_⟩; replace BK149 := blkB BK149 hb; replace HB := stepB HB hb; (try clear hb); (try clear hb2); (try clear hk); (try clear hi)) | ((with_reducible refine gate_callee (f := 46) rfl ?_); refine goesL_ (some 17) rfl rfl Tryd.func46 (by kernel_rfl) rfl #[.bool a0] rfl (by (try simp only [List.map_toArray, List.map_cons, List.map_nil]); first | done | rfl | (simp only [List.length_drop, List.length_take]; rfl)) ?_; (with_reducible refine (value_truth.calls a0 t155 t156 t157 _ A8.out).mono ?_); rintro e w13 ⟨rfl, hb⟩; refine ⟨_, rfl, ?_⟩; replace BK149 := blkB BK149 hb; replace HB := stepB HB hb; (try clear hb); (try clear hb2); (try clear hk); (try clear hi); have hcz14_0 : w13.cell? ⟨gb149, 0, none⟩ = some (.int .i64 0) := bc BK149 0; have hcz14_1 : w13.cell? ⟨gb149, 1, none⟩ = some (.int .i64 0) := bc BK149 1; have hcz14_2 : w13.cell? ⟨gb149, 2, none⟩ = some (.string (⟨#[]⟩ : ByteArray)) := bc BK149 2; have hfz14_0 := blk_frozen BK149.out 0; have hfz14_1 := blk_frozen BK149.out 1; have hfz14_2 := blk_frozen BK149.out 2))
   refine bodyPost_ret (results_ct rfl _ _ gb149 23 #[.int .i64 t155, .int .i64 t156, .string t157] (0, 0) _ rfl (by (with_reducible repeat (first | refine blk_drewN ?_ _ | refine blk_drew ?_ | refine blk_alloc ?_ _)); refine blk_put (cs := #[.int .i64 t155, .int .i64 t156, .string (⟨#[]⟩ : ByteArray)]) ?_ 2 _ rfl; (with_reducible repeat (first | refine blk_drewN ?_ _ | refine blk_drew ?_ | refine blk_alloc ?_ _)); refine blk_put (cs := #[.int .i64 t155, .int .i64 0, .string (⟨#[]⟩ : ByteArray)]) ?_ 1 _ rfl; (with_reducible repeat (first | refine blk_drewN ?_ _ | refine blk_drew ?_ | refine blk_alloc ?_ _)); refine blk_put (cs := #[.int .i64 0, .int .i64 0, .string (⟨#[]⟩ : ByteArray)]) ?_ 0 _ rfl; (with_reducible repeat (first | refine blk_drewN ?_ _ | refine blk_drew ?_ | refine blk_alloc ?_ _)); exact BK149.out) Tryd.underlying23 rfl (by kernel_rfl)) rfl ?_
   exact ⟨by first | rfl | (simp [errW_none, errW_some] <;> rfl) | (simp [*, errW_none, errW_some] <;> rfl), by repeat (first | (with_reducible first | exact HB.out | apply below_alloc | apply pw_below_drewN | apply below_drew1 | refine below_set ?_ GE149.out) | exact HB.out)⟩
  ·replace c7 := Bool.eq_false_iff.mpr c7
   subst c7
   have H1 : ((slices_Contains_LValue_Value.f k l1 0 0 (⟨#[]⟩ : ByteArray)).bind fun t158 => (if t158 = true then (some (0, 0, (⟨#[]⟩ : ByteArray), 0)) else ((value_truth.f (!a0)).bind fun bt159 => (some (bt159.1, bt159.2.1, bt159.2.2, 0))))) = some (r1, r2, r3, r4) := by rw [if_neg (show ¬ (false = true) by decide)] at H; exact H
   clear H
   have H := H1
   clear H1
   replace H := Option.bind_eq_some_iff.mp H
   obtain ⟨t158, A150, H⟩ := H
   replace H : (if t158 = true then (some (0, 0, (⟨#[]⟩ : ByteArray), 0)) else ((value_truth.f (!a0)).bind fun bt159 => (some (bt159.1, bt159.2.1, bt159.2.2, 0)))) = some (r1, r2, r3, r4) := H
   have A15 := Aside0.mk A150
   clear A150
   by_cases c16 : t158 = true
   ·subst c16
    have H1 : (some (0, 0, (⟨#[]⟩ : ByteArray), 0)) = some (r1, r2, r3, r4) := by rw [if_pos rfl] at H; exact H
    clear H
    have H := H1
    clear H1
    simp only [Option.some.injEq, Prod.mk.injEq] at H
    obtain ⟨rfl, rfl, rfl, rfl⟩ := H
    go_enter Tryd.func49, Tryd.ntmps49
    go_wp2_with (first | ((with_reducible refine gate_dst (N := 4) rfl ?_); refine box_event ?hg (N := 4) ?hd (cs := #[.int .i64 0, .int .i64 0, .string (⟨#[]⟩ : ByteArray)]) (t := 23) ?hr ?_; (case hd => rfl); (case hg => rfl); (case hr => first | (go_simp; done) | (go_simp; rfl)); intro gb149 hg w17 hbox hb; have BK149 := Aside0.mk (hbox); have GW149 := (sizeB HB hg : Aside0 (w.heap.size ≤ gb149)); have GE149 := (sizeB HB hg : Aside0 (w.heap.size ≤ gb149)); replace HB := stepB HB hb; clear hb hbox hg) | ((with_reducible refine gate_callee (f := 51) rfl ?_); refine goesL_ (some 8) rfl rfl Tryd.func51 (by kernel_rfl) rfl #[.slice A1 l1.length c1] rfl (by (try simp only [List.map_toArray, List.map_cons, List.map_nil]); first | done | rfl | (simp only [List.length_drop, List.length_take]; rfl)) ?_; (with_reducible refine (value_logical.calls k _ _ l1 true _ ?side1 ?side2 A3.out).mono ?_); (case side1 => repeat (first | exact (Kd.C_below HR1.out HB.out) | (with_reducible refine Kd.C_alloc ?_ _) | (with_reducible refine Kd.C_drewN ?_ _) | (with_reducible refine Kd.C_drew ?_))); (case side2 => exact HC1.out); rintro e w18 ⟨rfl, hb⟩; refine ⟨_, rfl, ?_⟩; replace BK149 := blkB BK149 hb; replace HB := stepB HB hb; (try clear hb); (try clear hb2); (try clear hk); (try clear hi)) | ((with_reducible refine gate_callee (f := 46) rfl ?_); refine goesL_ (some 14) rfl rfl Tryd.func46 (by kernel_rfl) rfl #[.bool a0] rfl (by (try simp only [List.map_toArray, List.map_cons, List.map_nil]); first | done | rfl | (simp only [List.length_drop, List.length_take]; rfl)) ?_; (with_reducible refine (value_truth.calls a0 t151 t152 t153 _ A5.out).mono ?_); rintro e w19 ⟨rfl, hb⟩; refine ⟨_, rfl, ?_⟩; replace BK149 := blkB BK149 hb; replace HB := stepB HB hb; (try clear hb); (try clear hb2); (try clear hk); (try clear hi)) | ((with_reducible refine gate_callee (f := 70) rfl ?_); refine goesL_ (some 15) rfl rfl Tryd.func70 (by kernel_rfl) rfl #[.slice A1 l1.length c1, .agg #[.int .i64 t151, .int .i64 t152, .string t153]] rfl (by (try simp only [List.map_toArray, List.map_cons, List.map_nil]); first | done | rfl | (simp only [List.length_drop, List.length_take]; rfl)) ?_; (with_reducible refine (slices_Contains_LValue_Value.calls k _ _ l1 t151 t152 t153 false _ ?side1 ?side2 A6.out).mono ?_); (case side1 => repeat (first | exact (Kd.C_below HR1.out HB.out) | (with_reducible refine Kd.C_alloc ?_ _) | (with_reducible refine Kd.C_drewN ?_ _) | (with_reducible refine Kd.C_drew ?_))); (case side2 => exact HC1.out); rintro e w20 ⟨rfl, hb⟩; refine ⟨_, rfl, ?_⟩; replace BK149 := blkB BK149 hb; replace HB := stepB HB hb; (try clear hb); (try clear hb2); (try clear hk); (try clear hi)) | ((with_reducible refine gate_callee (f := 70) rfl ?_); refine goesL_ (some 21) rfl rfl Tryd.func70 (by kernel_rfl) rfl #[.slice A1 l1.length c1, .agg #[.int .i64 0, .int .i64 0, .string (⟨#[]⟩ : ByteArray)]] rfl (by (try simp only [List.map_toArray, List.map_cons, List.map_nil]); first | done | rfl | (simp only [List.length_drop, List.length_take]; rfl)) ?_; (with_reducible refine (slices_Contains_LValue_Value.calls k _ _ l1 0 0 (⟨#[]⟩ : ByteArray) true _ ?side1 ?side2 A15.out).mono ?_); (case side1 => repeat (first | exact (Kd.C_below HR1.out HB.out) | (with_reducible refine Kd.C_alloc ?_ _) | (with_reducible refine Kd.C_drewN ?_ _) | (with_reducible refine Kd.C_drew ?_))); (case side2 => exact HC1.out); rintro e w21 ⟨rfl, hb⟩; refine ⟨_, rfl, ?_⟩; replace BK149 := blkB BK149 hb; replace HB := stepB HB hb; (try clear hb); (try clear hb2); (try clear hk); (try clear hi); have hcz22_0 : w21.cell? ⟨gb149, 0, none⟩ = some (.int .i64 0) := bc BK149 0; have hcz22_1 : w21.cell? ⟨gb149, 1, none⟩ = some (.int .i64 0) := bc BK149 1; have hcz22_2 : w21.cell? ⟨gb149, 2, none⟩ = some (.string (⟨#[]⟩ : ByteArray)) := bc BK149 2; have hfz22_0 := blk_frozen BK149.out 0; have hfz22_1 := blk_frozen BK149.out 1; have hfz22_2 := blk_frozen BK149.out 2))
    refine bodyPost_ret (results_ct rfl _ _ gb149 23 #[.int .i64 0, .int .i64 0, .string (⟨#[]⟩ : ByteArray)] (0, 0) _ rfl (by (with_reducible repeat (first | refine blk_drewN ?_ _ | refine blk_drew ?_ | refine blk_alloc ?_ _)); refine blk_put (cs := #[.int .i64 0, .int .i64 0, .string (⟨#[]⟩ : ByteArray)]) ?_ 2 _ rfl; (with_reducible repeat (first | refine blk_drewN ?_ _ | refine blk_drew ?_ | refine blk_alloc ?_ _)); refine blk_put (cs := #[.int .i64 0, .int .i64 0, .string (⟨#[]⟩ : ByteArray)]) ?_ 1 _ rfl; (with_reducible repeat (first | refine blk_drewN ?_ _ | refine blk_drew ?_ | refine blk_alloc ?_ _)); refine blk_put (cs := #[.int .i64 0, .int .i64 0, .string (⟨#[]⟩ : ByteArray)]) ?_ 0 _ rfl; (with_reducible repeat (first | refine blk_drewN ?_ _ | refine blk_drew ?_ | refine blk_alloc ?_ _)); exact BK149.out) Tryd.underlying23 rfl (by kernel_rfl)) rfl ?_
    exact ⟨by first | rfl | (simp [errW_none, errW_some] <;> rfl) | (simp [*, errW_none, errW_some] <;> rfl), by repeat (first | (with_reducible first | exact HB.out | apply below_alloc | apply pw_below_drewN | apply below_drew1 | refine below_set ?_ GE149.out) | exact HB.out)⟩
   ·replace c16 := Bool.eq_false_iff.mpr c16
    subst c16
    have H1 : ((value_truth.f (!a0)).bind fun bt159 => (some (bt159.1, bt159.2.1, bt159.2.2, 0))) = some (r1, r2, r3, r4) := by rw [if_neg (show ¬ (false = true) by decide)] at H; exact H
    clear H
    have H := H1
    clear H1
    replace H := Option.bind_eq_some_iff.mp H
    obtain ⟨⟨t159, t160, t161⟩, A230, H⟩ := H
    replace H : (some (t159, t160, t161, 0)) = some (r1, r2, r3, r4) := H
    have A23 := Aside0.mk A230
    clear A230
    simp only [Option.some.injEq, Prod.mk.injEq] at H
    obtain ⟨rfl, rfl, rfl, rfl⟩ := H
    go_enter Tryd.func49, Tryd.ntmps49
    go_wp2_with (first | ((with_reducible refine gate_dst (N := 4) rfl ?_); refine box_event ?hg (N := 4) ?hd (cs := #[.int .i64 0, .int .i64 0, .string (⟨#[]⟩ : ByteArray)]) (t := 23) ?hr ?_; (case hd => rfl); (case hg => rfl); (case hr => first | (go_simp; done) | (go_simp; rfl)); intro gb149 hg w24 hbox hb; have BK149 := Aside0.mk (hbox); have GW149 := (sizeB HB hg : Aside0 (w.heap.size ≤ gb149)); have GE149 := (sizeB HB hg : Aside0 (w.heap.size ≤ gb149)); replace HB := stepB HB hb; clear hb hbox hg) | ((with_reducible refine gate_callee (f := 51) rfl ?_); refine goesL_ (some 8) rfl rfl Tryd.func51 (by kernel_rfl) rfl #[.slice A1 l1.length c1] rfl (by (try simp only [List.map_toArray, List.map_cons, List.map_nil]); first | done | rfl | (simp only [List.length_drop, List.length_take]; rfl)) ?_; (with_reducible refine (value_logical.calls k _ _ l1 true _ ?side1 ?side2 A3.out).mono ?_); (case side1 => repeat (first | exact (Kd.C_below HR1.out HB.out) | (with_reducible refine Kd.C_alloc ?_ _) | (with_reducible refine Kd.C_drewN ?_ _) | (with_reducible refine Kd.C_drew ?_))); (case side2 => exact HC1.out); rintro e w25 ⟨rfl, hb⟩; refine ⟨_, rfl, ?_⟩; replace BK149 := blkB BK149 hb; replace HB := stepB HB hb; (try clear hb); (try clear hb2); (try clear hk); (try clear hi)) | ((with_reducible refine gate_callee (f := 46) rfl ?_); refine goesL_ (some 14) rfl rfl Tryd.func46 (by kernel_rfl) rfl #[.bool a0] rfl (by (try simp only [List.map_toArray, List.map_cons, List.map_nil]); first | done | rfl | (simp only [List.length_drop, List.length_take]; rfl)) ?_; (with_reducible refine (value_truth.calls a0 t151 t152 t153 _ A5.out).mono ?_); rintro e w26 ⟨rfl, hb⟩; refine ⟨_, rfl, ?_⟩; replace BK149 := blkB BK149 hb; replace HB := stepB HB hb; (try clear hb); (try clear hb2); (try clear hk); (try clear hi)) | ((with_reducible refine gate_callee (f := 70) rfl ?_); refine goesL_ (some 15) rfl rfl Tryd.func70 (by kernel_rfl) rfl #[.slice A1 l1.length c1, .agg #[.int .i64 t151, .int .i64 t152, .string t153]] rfl (by (try simp only [List.map_toArray, List.map_cons, List.map_nil]); first | done | rfl | (simp only [List.length_drop, List.length_take]; rfl)) ?_; (with_reducible refine (slices_Contains_LValue_Value.calls k _ _ l1 t151 t152 t153 false _ ?side1 ?side2 A6.out).mono ?_); (case side1 => repeat (first | exact (Kd.C_below HR1.out HB.out) | (with_reducible refine Kd.C_alloc ?_ _) | (with_reducible refine Kd.C_drewN ?_ _) | (with_reducible refine Kd.C_drew ?_))); (case side2 => exact HC1.out); rintro e w27 ⟨rfl, hb⟩; refine ⟨_, rfl, ?_⟩; replace BK149 := blkB BK149 hb; replace HB := stepB HB hb; (try clear hb); (try clear hb2); (try clear hk); (try clear hi)) | ((with_reducible refine gate_callee (f := 70) rfl ?_); refine goesL_ (some 21) rfl rfl Tryd.func70 (by kernel_rfl) rfl #[.slice A1 l1.length c1, .agg #[.int .i64 0, .int .i64 0, .string (⟨#[]⟩ : ByteArray)]] rfl (by (try simp only [List.map_toArray, List.map_cons, List.map_nil]); first | done | rfl | (simp only [List.length_drop, List.length_take]; rfl)) ?_; (with_reducible refine (slices_Contains_LValue_Value.calls k _ _ l1 0 0 (⟨#[]⟩ : ByteArray) false _ ?side1 ?side2 A15.out).mono ?_); (case side1 => repeat (first | exact (Kd.C_below HR1.out HB.out) | (with_reducible refine Kd.C_alloc ?_ _) | (with_reducible refine Kd.C_drewN ?_ _) | (with_reducible refine Kd.C_drew ?_))); (case side2 => exact HC1.out); rintro e w28 ⟨rfl, hb⟩; refine ⟨_, rfl, ?_⟩; replace BK149 := blkB BK149 hb; replace HB := stepB HB hb; (try clear hb); (try clear hb2); (try clear hk); (try clear hi)) | ((with_reducible refine gate_callee (f := 46) rfl ?_); refine goesL_ (some 25) rfl rfl Tryd.func46 (by kernel_rfl) rfl #[.bool (!a0)] rfl (by (try simp only [List.map_toArray, List.map_cons, List.map_nil]); first | done | rfl | (simp only [List.length_drop, List.length_take]; rfl)) ?_; (with_reducible refine (value_truth.calls (!a0) t159 t160 t161 _ A23.out).mono ?_); rintro e w29 ⟨rfl, hb⟩; refine ⟨_, rfl, ?_⟩; replace BK149 := blkB BK149 hb; replace HB := stepB HB hb; (try clear hb); (try clear hb2); (try clear hk); (try clear hi); have hcz30_0 : w29.cell? ⟨gb149, 0, none⟩ = some (.int .i64 0) := bc BK149 0; have hcz30_1 : w29.cell? ⟨gb149, 1, none⟩ = some (.int .i64 0) := bc BK149 1; have hcz30_2 : w29.cell? ⟨gb149, 2, none⟩ = some (.string (⟨#[]⟩ : ByteArray)) := bc BK149 2; have hfz30_0 := blk_frozen BK149.out 0; have hfz30_1 := blk_frozen BK149.out 1; have hfz30_2 := blk_frozen BK149.out 2))
    refine bodyPost_ret (results_ct rfl _ _ gb149 23 #[.int .i64 t159, .int .i64 t160, .string t161] (0, 0) _ rfl (by (with_reducible repeat (first | refine blk_drewN ?_ _ | refine blk_drew ?_ | refine blk_alloc ?_ _)); refine blk_put (cs := #[.int .i64 t159, .int .i64 t160, .string (⟨#[]⟩ : ByteArray)]) ?_ 2 _ rfl; (with_reducible repeat (first | refine blk_drewN ?_ _ | refine blk_drew ?_ | refine blk_alloc ?_ _)); refine blk_put (cs := #[.int .i64 t159, .int .i64 0, .string (⟨#[]⟩ : ByteArray)]) ?_ 1 _ rfl; (with_reducible repeat (first | refine blk_drewN ?_ _ | refine blk_drew ?_ | refine blk_alloc ?_ _)); refine blk_put (cs := #[.int .i64 0, .int .i64 0, .string (⟨#[]⟩ : ByteArray)]) ?_ 0 _ rfl; (with_reducible repeat (first | refine blk_drewN ?_ _ | refine blk_drew ?_ | refine blk_alloc ?_ _)); exact BK149.out) Tryd.underlying23 rfl (by kernel_rfl)) rfl ?_
    exact ⟨by first | rfl | (simp [errW_none, errW_some] <;> rfl) | (simp [*, errW_none, errW_some] <;> rfl), by repeat (first | (with_reducible first | exact HB.out | apply below_alloc | apply pw_below_drewN | apply below_drew1 | refine below_set ?_ GE149.out) | exact HB.out)⟩
 ·replace c4 := Bool.eq_false_iff.mpr c4
  subst c4
  have H1 : (some (0, 0, (⟨#[]⟩ : ByteArray), 7)) = some (r1, r2, r3, r4) := by rw [if_neg (show ¬ (false = true) by decide)] at H; exact H
  clear H
  have H := H1
  clear H1
  simp only [Option.some.injEq, Prod.mk.injEq] at H
  obtain ⟨rfl, rfl, rfl, rfl⟩ := H
  go_enter Tryd.func49, Tryd.ntmps49
  go_wp2_with (first | ((with_reducible refine gate_dst (N := 4) rfl ?_); refine box_event ?hg (N := 4) ?hd (cs := #[.int .i64 0, .int .i64 0, .string (⟨#[]⟩ : ByteArray)]) (t := 23) ?hr ?_; (case hd => rfl); (case hg => rfl); (case hr => first | (go_simp; done) | (go_simp; rfl)); intro gb149 hg w31 hbox hb; have BK149 := Aside0.mk (hbox); have GW149 := (sizeB HB hg : Aside0 (w.heap.size ≤ gb149)); have GE149 := (sizeB HB hg : Aside0 (w.heap.size ≤ gb149)); replace HB := stepB HB hb; clear hb hbox hg) | ((with_reducible refine gate_callee (f := 51) rfl ?_); refine goesL_ (some 8) rfl rfl Tryd.func51 (by kernel_rfl) rfl #[.slice A1 l1.length c1] rfl (by (try simp only [List.map_toArray, List.map_cons, List.map_nil]); first | done | rfl | (simp only [List.length_drop, List.length_take]; rfl)) ?_; (with_reducible refine (value_logical.calls k _ _ l1 false _ ?side1 ?side2 A3.out).mono ?_); (case side1 => repeat (first | exact (Kd.C_below HR1.out HB.out) | (with_reducible refine Kd.C_alloc ?_ _) | (with_reducible refine Kd.C_drewN ?_ _) | (with_reducible refine Kd.C_drew ?_))); (case side2 => exact HC1.out); rintro e w32 ⟨rfl, hb⟩; refine ⟨_, rfl, ?_⟩; replace BK149 := blkB BK149 hb; replace HB := stepB HB hb; (try clear hb); (try clear hb2); (try clear hk); (try clear hi); have hcz33_0 : w32.cell? ⟨gb149, 0, none⟩ = some (.int .i64 0) := bc BK149 0; have hcz33_1 : w32.cell? ⟨gb149, 1, none⟩ = some (.int .i64 0) := bc BK149 1; have hcz33_2 : w32.cell? ⟨gb149, 2, none⟩ = some (.string (⟨#[]⟩ : ByteArray)) := bc BK149 2; have hfz33_0 := blk_frozen BK149.out 0; have hfz33_1 := blk_frozen BK149.out 1; have hfz33_2 := blk_frozen BK149.out 2))
  refine bodyPost_ret (results_ct rfl _ _ gb149 23 #[.int .i64 0, .int .i64 0, .string (⟨#[]⟩ : ByteArray)] (0, 0) _ rfl (by (with_reducible repeat (first | refine blk_drewN ?_ _ | refine blk_drew ?_ | refine blk_alloc ?_ _)); refine blk_put (cs := #[.int .i64 0, .int .i64 0, .string (⟨#[]⟩ : ByteArray)]) ?_ 2 _ rfl; (with_reducible repeat (first | refine blk_drewN ?_ _ | refine blk_drew ?_ | refine blk_alloc ?_ _)); refine blk_put (cs := #[.int .i64 0, .int .i64 0, .string (⟨#[]⟩ : ByteArray)]) ?_ 1 _ rfl; (with_reducible repeat (first | refine blk_drewN ?_ _ | refine blk_drew ?_ | refine blk_alloc ?_ _)); refine blk_put (cs := #[.int .i64 0, .int .i64 0, .string (⟨#[]⟩ : ByteArray)]) ?_ 0 _ rfl; (with_reducible repeat (first | refine blk_drewN ?_ _ | refine blk_drew ?_ | refine blk_alloc ?_ _)); exact BK149.out) Tryd.underlying23 rfl (by kernel_rfl)) rfl ?_
  exact ⟨by first | rfl | (simp [errW_none, errW_some] <;> rfl) | (simp [*, errW_none, errW_some] <;> rfl), by repeat (first | (with_reducible first | exact HB.out | apply below_alloc | apply pw_below_drewN | apply below_drew1 | refine below_set ?_ GE149.out) | exact HB.out)⟩
end Go.Proofs.YtmhnfdgegejlkaaDoor.P
end

section
namespace Go.Proofs.YtmhnfdgegejlkaaDoor.P
open Go.RowKit Go.Proofs.YtmhnfdgegejlkaaDoorW.PrintWords Go.Proofs.YtmhnfdgegejlkaaDoorW.PrintLast Go.Proofs.YtmhnfdgegejlkaaDoorW.PrintMore
attribute [local go_sem] max2_int min2_int max_two min_two max_three min_three max_four min_four
set_option linter.unusedVariables false
set_option linter.unusedSimpArgs false
def value_And.f (k : Nat) (a0_0 : Int) (a0_1 : Int) (a0_2 : ByteArray) (a1_0 : Int) (a1_1 : Int) (a1_2 : ByteArray) : Option (Int × Int × ByteArray × Int) := (value_decide.f k false (([(⟨a0_0, a0_1, a0_2⟩ : S23), (⟨a1_0, a1_1, a1_2⟩ : S23)] : List (S23)))).bind fun bt168 => (some (bt168.1, bt168.2.1, bt168.2.2.1, bt168.2.2.2))
theorem value_And.mono : ∀ a0 a1 a2 a3 a4 a5 k, LeO (value_And.f k a0 a1 a2 a3 a4 a5) (value_And.f (k + 1) a0 a1 a2 a3 a4 a5) := by
 intro a0 a1 a2 a3 a4 a5 k
 unfold value_And.f
 repeat' first
   | (with_reducible exact value_decide.mono _ _ _)
   | (with_reducible exact LeO.refl _)
   | (with_reducible exact LeO.none _)
   | (with_reducible refine LeO.ite ?_ ?_)
   | (with_reducible refine LeO.bind ?_ (fun _ => ?_))
   | exact value_decide.mono _ _ _
   | exact LeO.none _
   | refine LeO.ite ?_ ?_
   | refine LeO.bind ?_ (fun _ => ?_)
set_option maxHeartbeats 8000000 in
set_option maxRecDepth 100000 in
theorem value_And.calls (k : Nat) (a0_0 : Int) (a0_1 : Int) (a0_2 : ByteArray) (a1_0 : Int) (a1_1 : Int) (a1_2 : ByteArray) (r1 : Int) (r2 : Int) (r3 : ByteArray) (r4 : Int) (w : World) (h : value_And.f k a0_0 a0_1 a0_2 a1_0 a1_1 a1_2 = some (r1, r2, r3, r4)) :
  Calls Tryd.prog 22 #[.agg #[.int .i64 a0_0, .int .i64 a0_1, .string a0_2], .agg #[.int .i64 a1_0, .int .i64 a1_1, .string a1_2]] w fun e w' => e = .returned (.tuple #[.agg #[.int .i64 r1, .int .i64 r2, .string r3], .int .i64 r4]) ∧ Below w.heap.size w w' := by
 have hu23 := Tryd.underlying23
 have HB := Aside0.mk (Below.refl w.heap.size w)
 have H : ((value_decide.f k false (([(⟨a0_0, a0_1, a0_2⟩ : S23), (⟨a1_0, a1_1, a1_2⟩ : S23)] : List (S23)))).bind fun bt168 => (some (bt168.1, bt168.2.1, bt168.2.2.1, bt168.2.2.2))) = some (r1, r2, r3, r4) := h
 clear h
 obtain ⟨y165, hy165⟩ : ∃ y_ : List (S23), y_ = (([(⟨a0_0, a0_1, a0_2⟩ : S23), (⟨a1_0, a1_1, a1_2⟩ : S23)] : List (S23))) := ⟨_, rfl⟩
 replace H : ((value_decide.f k false y165).bind fun bt168 => (some (bt168.1, bt168.2.1, bt168.2.2.1, bt168.2.2.2))) = some (r1, r2, r3, r4) := by first | (rw [hy165]; with_reducible exact H) | (have H2_ := (Option.bind_some _ _).symm.trans H; rw [hy165]; with_reducible exact H2_) | (have H2_ := (Option.bind_some _ _).symm.trans H; with_reducible exact H2_) | with_reducible exact H | (rw [hy165]; exact H) | exact H
 have Ny165 := Aside0.mk hy165
 clear hy165
 replace H := Option.bind_eq_some_iff.mp H
 obtain ⟨⟨t168, t169, t170, t171⟩, A30, H⟩ := H
 replace H : (some (t168, t169, t170, t171)) = some (r1, r2, r3, r4) := H
 have A3 := Aside0.mk A30
 clear A30
 simp only [Option.some.injEq, Prod.mk.injEq] at H
 obtain ⟨rfl, rfl, rfl, rfl⟩ := H
 go_enter Tryd.func22, Tryd.ntmps22
 go_wp2_with (first | ((with_reducible refine gate_dst (N := 2) rfl ?_); refine box_event ?hg (N := 2) ?hd (cs := #[.int .i64 a0_0, .int .i64 a0_1, .string a0_2]) (t := 23) ?hr ?_; (case hd => rfl); (case hg => rfl); (case hr => first | (go_simp; done) | (go_simp; rfl)); intro gb162 hg w4 hbox hb; have BK162 := Aside0.mk (hbox); have GW162 := (sizeB HB hg : Aside0 (w.heap.size ≤ gb162)); have GE162 := (sizeB HB hg : Aside0 (w.heap.size ≤ gb162)); replace HB := stepB HB hb; clear hb hbox hg) | ((with_reducible refine gate_dst (N := 3) rfl ?_); refine box_event ?hg (N := 3) ?hd (cs := #[.int .i64 a1_0, .int .i64 a1_1, .string a1_2]) (t := 23) ?hr ?_; (case hd => rfl); (case hg => rfl); (case hr => first | (go_simp; done) | (go_simp; rfl)); intro gb163 hg w5 hbox hb; have BK163 := Aside0.mk (hbox); have GW163 := (sizeB HB hg : Aside0 (w.heap.size ≤ gb163)); have GE163 := (sizeB HB hg : Aside0 (w.heap.size ≤ gb163)); have NB162_163 := neB BK162 hg; have NB163_162 := neC BK162 hg; replace BK162 := blkB BK162 hb; replace HB := stepB HB hb; clear hb hbox hg) | ((with_reducible refine gate_dst (N := 4) rfl ?_); refine box_event ?hg (N := 4) ?hd (cs := #[.int .i64 0, .int .i64 0, .string (⟨#[]⟩ : ByteArray)]) (t := 23) ?hr ?_; (case hd => rfl); (case hg => rfl); (case hr => first | (go_simp; done) | (go_simp; rfl)); intro gb164 hg w6 hbox hb; have BK164 := Aside0.mk (hbox); have GW164 := (sizeB HB hg : Aside0 (w.heap.size ≤ gb164)); have GE164 := (sizeB HB hg : Aside0 (w.heap.size ≤ gb164)); have NB162_164 := neB BK162 hg; have NB164_162 := neC BK162 hg; have NB163_164 := neB BK163 hg; have NB164_163 := neC BK163 hg; replace BK162 := blkB BK162 hb; replace BK163 := blkB BK163 hb; replace HB := stepB HB hb; clear hb hbox hg; have hnb7 := NB162_163.out; have hnc7 := NB163_162.out; have hnb8 := NB162_164.out; have hnc8 := NB164_162.out; have hcz9_0 : w6.cell? ⟨gb162, 0, none⟩ = some (.int .i64 a0_0) := bc BK162 0; have hcz9_1 : w6.cell? ⟨gb162, 1, none⟩ = some (.int .i64 a0_1) := bc BK162 1; have hcz9_2 : w6.cell? ⟨gb162, 2, none⟩ = some (.string a0_2) := bc BK162 2; have hfz9_0 := blk_frozen BK162.out 0; have hfz9_1 := blk_frozen BK162.out 1; have hfz9_2 := blk_frozen BK162.out 2; have hnb10 := NB163_164.out; have hnc10 := NB164_163.out; have hcz11_0 : w6.cell? ⟨gb163, 0, none⟩ = some (.int .i64 a1_0) := bc BK163 0; have hcz11_1 : w6.cell? ⟨gb163, 1, none⟩ = some (.int .i64 a1_1) := bc BK163 1; have hcz11_2 : w6.cell? ⟨gb163, 2, none⟩ = some (.string a1_2) := bc BK163 2; have hfz11_0 := blk_frozen BK163.out 0; have hfz11_1 := blk_frozen BK163.out 1; have hfz11_2 := blk_frozen BK163.out 2) | ((with_reducible refine gate_dst (N := 8) rfl ?_); refine Kd.R_lit k23 _ 23 ?hg (N := 8) ?hd (xs := ([(⟨a0_0, a0_1, a0_2⟩ : S23), (⟨a1_0, a1_1, a1_2⟩ : S23)] : List (S23))) (inner := [.int .i64 a0_0, .int .i64 a0_1, .string a0_2, .int .i64 a1_0, .int .i64 a1_1, .string a1_2]) (ok := fun _ => True) (okp := fun _ => True) ?hr ?hp (fun _ hk => hk) trivial (Below.refl _ _) (Nat.le_refl _) (by simp) ?_; (case hd => rfl); (case hg => rfl); (case hr => first | (go_simp; done) | (go_simp; rfl)); (case hp => exact (Reps.c3 (show Kd.M k23 _ _ _ (⟨a0_0, a0_1, a0_2⟩ : S23) [.int .i64 a0_0, .int .i64 a0_1, .string a0_2] from (k23_mkM _ _ _ (⟨a0_0, a0_1, a0_2⟩ : S23) )) (Reps.c3 (show Kd.M k23 _ _ _ (⟨a1_0, a1_1, a1_2⟩ : S23) [.int .i64 a1_0, .int .i64 a1_1, .string a1_2] from (k23_mkM _ _ _ (⟨a1_0, a1_1, a1_2⟩ : S23) )) (Reps.none _ _)))); intro v166 w12 ho13 hb hg_ hnew_; clear hg_ hnew_; (first | rw [← Ny165.out] at ho13 | (simp only [Int.reduceToNat] at ho13; rw [← Ny165.out] at ho13)); have HO167 := Aside0.mk (Kd.R_lower (Kd.R_newB (Kd.R_newB (Kd.R_newB ho13 (g := gb162) (o := .cells #[.int .i64 a0_0, .int .i64 a0_1, .string a0_2] 23 (0, 0)) (by (with_reducible repeat (first | refine blk_drewN ?_ _ | refine blk_drew ?_ | refine blk_alloc ?_ _)); exact BK162.out)) (g := gb163) (o := .cells #[.int .i64 a1_0, .int .i64 a1_1, .string a1_2] 23 (0, 0)) (by (with_reducible repeat (first | refine blk_drewN ?_ _ | refine blk_drew ?_ | refine blk_alloc ?_ _)); exact BK163.out)) (g := gb164) (o := .cells #[.int .i64 0, .int .i64 0, .string (⟨#[]⟩ : ByteArray)] 23 (0, 0)) (by (with_reducible repeat (first | refine blk_drewN ?_ _ | refine blk_drew ?_ | refine blk_alloc ?_ _)); exact BK164.out)) (below_size (by repeat (first | (with_reducible first | exact HB.out | apply below_alloc | apply pw_below_drewN | apply below_drew1 | refine below_set ?_ GE162.out | refine below_set ?_ GE163.out | refine below_set ?_ GE164.out) | exact HB.out)))); replace BK162 := blkB BK162 hb; replace BK163 := blkB BK163 hb; replace BK164 := blkB BK164 hb; replace HB := stepB HB hb; clear hb ho13; obtain ⟨Ao14, co14, eo14⟩ := Kd.R_slice HO167.out; subst eo14) | ((with_reducible refine gate_callee (f := 49) rfl ?_); refine goesL_ (some 9) rfl rfl Tryd.func49 (by kernel_rfl) rfl #[.bool false, .slice Ao14 y165.length co14] rfl (by (try simp only [List.map_toArray, List.map_cons, List.map_nil]); first | done | rfl | (simp only [List.length_drop, List.length_take]; rfl)) ?_; (with_reducible refine (value_decide.calls k false _ _ y165 t168 t169 t170 t171 _ ?side1 ?side2 A3.out).mono ?_); (case side1 => repeat (first | exact (Kd.R_reads' HO167.out).2.2 | (with_reducible refine Kd.C_alloc ?_ _) | (with_reducible refine Kd.C_drewN ?_ _) | (with_reducible refine Kd.C_drew ?_))); (case side2 => exact (Kd.R_reads' HO167.out).2.1); rintro e w15 ⟨rfl, hb⟩; refine ⟨_, rfl, ?_⟩; replace HO167 := Aside0.mk (Kd.R_below (by (with_reducible repeat (first | apply Kd.R_alloc | apply Kd.R_drewN | apply Kd.R_drew)); exact HO167.out) hb); replace BK162 := blkB BK162 hb; replace BK163 := blkB BK163 hb; replace BK164 := blkB BK164 hb; replace HB := stepB HB hb; (try clear hb); (try clear hb2); (try clear hk); (try clear hi); have hcz16_0 : w15.cell? ⟨gb164, 0, none⟩ = some (.int .i64 0) := bc BK164 0; have hcz16_1 : w15.cell? ⟨gb164, 1, none⟩ = some (.int .i64 0) := bc BK164 1; have hcz16_2 : w15.cell? ⟨gb164, 2, none⟩ = some (.string (⟨#[]⟩ : ByteArray)) := bc BK164 2; have hfz16_0 := blk_frozen BK164.out 0; have hfz16_1 := blk_frozen BK164.out 1; have hfz16_2 := blk_frozen BK164.out 2))
 refine bodyPost_ret (results_ct rfl _ _ gb164 23 #[.int .i64 t168, .int .i64 t169, .string t170] (0, 0) _ rfl (by (with_reducible repeat (first | refine blk_drewN ?_ _ | refine blk_drew ?_ | refine blk_alloc ?_ _)); refine blk_put (cs := #[.int .i64 t168, .int .i64 t169, .string (⟨#[]⟩ : ByteArray)]) ?_ 2 _ rfl; (with_reducible repeat (first | refine blk_drewN ?_ _ | refine blk_drew ?_ | refine blk_alloc ?_ _)); refine blk_put (cs := #[.int .i64 t168, .int .i64 0, .string (⟨#[]⟩ : ByteArray)]) ?_ 1 _ rfl; (with_reducible repeat (first | refine blk_drewN ?_ _ | refine blk_drew ?_ | refine blk_alloc ?_ _)); refine blk_put (cs := #[.int .i64 0, .int .i64 0, .string (⟨#[]⟩ : ByteArray)]) ?_ 0 _ rfl; (with_reducible repeat (first | refine blk_drewN ?_ _ | refine blk_drew ?_ | refine blk_alloc ?_ _)); exact BK164.out) Tryd.underlying23 rfl (by kernel_rfl)) rfl ?_
 exact ⟨by first | rfl | (simp [errW_none, errW_some] <;> rfl) | (simp [*, errW_none, errW_some] <;> rfl), by repeat (first | (with_reducible first | exact HB.out | apply below_alloc | apply pw_below_drewN | apply below_drew1 | refine below_set ?_ GE162.out | refine below_set ?_ GE163.out | refine below_set ?_ GE164.out) | exact HB.out)⟩
end Go.Proofs.YtmhnfdgegejlkaaDoor.P
end

section
namespace Go.Proofs.YtmhnfdgegejlkaaDoor.P
open Go.RowKit Go.Proofs.YtmhnfdgegejlkaaDoorW.PrintWords Go.Proofs.YtmhnfdgegejlkaaDoorW.PrintLast
set_option maxHeartbeats 1000000 in
set_option maxRecDepth 100000 in
theorem bytealg_CompareString (a b : ByteArray) (w : World) :
    Calls Tryd.prog 68 #[.string a, .string b] w fun e w' => e = .returned (.int .i64 (Lib.compareBytes a.data.toList b.data.toList)) ∧ w' = w := by
  go_enter Tryd.func68, Tryd.ntmps68
  go_wp2
  rw [run_callFunc_extern Tryd.func80 (by kernel_rfl) (by kernel_rfl) (by kernel_rfl) (e := Extern.BytealgCompare.compare) (by kernel_rfl), Lib.run_compareString]
  simp only [Result.andThen]
  rw [Oper.upon_value]
  go_wp2
  go_ret
  exact ⟨rfl, rfl⟩
def strings_Compare.f (a0 : ByteArray) (a1 : ByteArray) : Option Int := some (Lib.compareBytes a0.data.toList a1.data.toList)
set_option maxHeartbeats 1000000 in
theorem strings_Compare.calls (a0 : ByteArray) (a1 : ByteArray) (r : Int) (w : World) (h : strings_Compare.f a0 a1 = some r) :
    Calls Tryd.prog 45 #[.string a0, .string a1] w fun e w' => e = .returned (.int .i64 r) ∧ Drawn0 w w' := by
  obtain rfl := Option.some.inj h
  clear h
  go_enter Tryd.func45, Tryd.ntmps45
  go_wp2_with (go_at_call 68; refine (bytealg_CompareString _ _ _).mono ?_; rintro e w' ⟨rfl, rfl⟩)
  go_ret
  exact ⟨rfl, Drawn0.refl _⟩
end Go.Proofs.YtmhnfdgegejlkaaDoor.P
end

section
namespace Go.Proofs.YtmhnfdgegejlkaaDoor.P
open Go.RowKit Go.Proofs.YtmhnfdgegejlkaaDoorW.PrintWords Go.Proofs.YtmhnfdgegejlkaaDoorW.PrintLast Go.Proofs.YtmhnfdgegejlkaaDoorW.PrintMore
attribute [local go_sem] max2_int min2_int max_two min_two max_three min_three max_four min_four
set_option linter.unusedVariables false
set_option linter.unusedSimpArgs false
def cmp_isNaN_int.f (a0 : Int) : Option (Bool) := some (a0 != a0)
set_option maxHeartbeats 8000000 in
set_option maxRecDepth 100000 in
theorem cmp_isNaN_int.calls (a0 : Int) (r : Bool) (w : World) (h : cmp_isNaN_int.f a0 = some r) :
  Calls Tryd.prog 67 #[.int .i64 a0] w fun e w' => e = .returned (.bool r) ∧ Drawn0 w w' := by
 have H : (some (a0 != a0)) = some r := h
 clear h
 obtain rfl := Option.some.inj H
 go_enter Tryd.func67, Tryd.ntmps67
 go_wp2
 go_ret
 exact ⟨by first | rfl | (simp; done) | (simp [*]; done), by repeat (first | exact Drawn0.refl _ | apply Drawn0.step)⟩
end Go.Proofs.YtmhnfdgegejlkaaDoor.P
end

section
namespace Go.Proofs.YtmhnfdgegejlkaaDoor.P
open Go.RowKit Go.Proofs.YtmhnfdgegejlkaaDoorW.PrintWords Go.Proofs.YtmhnfdgegejlkaaDoorW.PrintLast Go.Proofs.YtmhnfdgegejlkaaDoorW.PrintMore
attribute [local go_sem] max2_int min2_int max_two min_two max_three min_three max_four min_four
set_option linter.unusedVariables false
set_option linter.unusedSimpArgs false
def cmp_Compare_int.f (a0 : Int) (a1 : Int) : Option (Int) := (cmp_isNaN_int.f a0).bind fun t103 => ((cmp_isNaN_int.f a1).bind fun t104 => (if t103 = true then (if t104 = true then (some 0) else (some (-1))) else (if t104 = true then (some 1) else (if a0 < a1 then (some (-1)) else (if a0 > a1 then (some 1) else (some 0))))))
set_option maxHeartbeats 8000000 in
set_option maxRecDepth 100000 in
theorem cmp_Compare_int.calls (a0 : Int) (a1 : Int) (r : Int) (w : World) (h : cmp_Compare_int.f a0 a1 = some r) :
  Calls Tryd.prog 44 #[.int .i64 a0, .int .i64 a1] w fun e w' => e = .returned (.int .i64 r) ∧ Drawn0 w w' := by
 have H : ((cmp_isNaN_int.f a0).bind fun t103 => ((cmp_isNaN_int.f a1).bind fun t104 => (if t103 = true then (if t104 = true then (some 0) else (some (-1))) else (if t104 = true then (some 1) else (if a0 < a1 then (some (-1)) else (if a0 > a1 then (some 1) else (some 0))))))) = some r := h
 clear h
 replace H := Option.bind_eq_some_iff.mp H
 obtain ⟨t103, A30, H⟩ := H
 replace H : ((cmp_isNaN_int.f a1).bind fun t104 => (if t103 = true then (if t104 = true then (some 0) else (some (-1))) else (if t104 = true then (some 1) else (if a0 < a1 then (some (-1)) else (if a0 > a1 then (some 1) else (some 0)))))) = some r := H
 have A3 := Aside0.mk A30
 clear A30
 replace H := Option.bind_eq_some_iff.mp H
 obtain ⟨t104, A40, H⟩ := H
 replace H : (if t103 = true then (if t104 = true then (some 0) else (some (-1))) else (if t104 = true then (some 1) else (if a0 < a1 then (some (-1)) else (if a0 > a1 then (some 1) else (some 0))))) = some r := H
 have A4 := Aside0.mk A40
 clear A40
 by_cases c5 : t103 = true
 ·subst c5
  have H1 : (if t104 = true then (some 0) else (some (-1))) = some r := by rw [if_pos rfl] at H; exact H
  clear H
  have H := H1
  clear H1
  by_cases c6 : t104 = true
  ·subst c6
   have H1 : (some 0) = some r := by rw [if_pos rfl] at H; exact H
   clear H
   have H := H1
   clear H1
   obtain rfl := Option.some.inj H
   go_enter Tryd.func44, Tryd.ntmps44
   go_wp2_with (first | ((with_reducible refine gate_callee (f := 67) rfl ?_); refine goesL_ (some 8) rfl rfl Tryd.func67 (by kernel_rfl) rfl #[.int .i64 a0] rfl (by (try simp only [List.map_toArray, List.map_cons, List.map_nil]); first | done | rfl | (simp only [List.length_drop, List.length_take]; rfl)) ?_; (with_reducible refine (cmp_isNaN_int.calls a0 true _ A3.out).mono ?_); rintro e w' ⟨rfl, ⟨nd, rfl⟩⟩; refine ⟨_, rfl, ?_⟩) | ((with_reducible refine gate_callee (f := 67) rfl ?_); refine goesL_ (some 10) rfl rfl Tryd.func67 (by kernel_rfl) rfl #[.int .i64 a1] rfl (by (try simp only [List.map_toArray, List.map_cons, List.map_nil]); first | done | rfl | (simp only [List.length_drop, List.length_take]; rfl)) ?_; (with_reducible refine (cmp_isNaN_int.calls a1 true _ A4.out).mono ?_); rintro e w' ⟨rfl, ⟨nd, rfl⟩⟩; refine ⟨_, rfl, ?_⟩))
   go_ret
   exact ⟨by first | rfl | (simp; done) | (simp [*]; done), by repeat (first | exact Drawn0.refl _ | apply Drawn0.step)⟩
  ·replace c6 := Bool.eq_false_iff.mpr c6
   subst c6
   have H1 : (some (-1)) = some r := by rw [if_neg (show ¬ (false = true) by decide)] at H; exact H
   clear H
   have H := H1
   clear H1
   obtain rfl := Option.some.inj H
   go_enter Tryd.func44, Tryd.ntmps44
   go_wp2_with (first | ((with_reducible refine gate_callee (f := 67) rfl ?_); refine goesL_ (some 8) rfl rfl Tryd.func67 (by kernel_rfl) rfl #[.int .i64 a0] rfl (by (try simp only [List.map_toArray, List.map_cons, List.map_nil]); first | done | rfl | (simp only [List.length_drop, List.length_take]; rfl)) ?_; (with_reducible refine (cmp_isNaN_int.calls a0 true _ A3.out).mono ?_); rintro e w' ⟨rfl, ⟨nd, rfl⟩⟩; refine ⟨_, rfl, ?_⟩) | ((with_reducible refine gate_callee (f := 67) rfl ?_); refine goesL_ (some 10) rfl rfl Tryd.func67 (by kernel_rfl) rfl #[.int .i64 a1] rfl (by (try simp only [List.map_toArray, List.map_cons, List.map_nil]); first | done | rfl | (simp only [List.length_drop, List.length_take]; rfl)) ?_; (with_reducible refine (cmp_isNaN_int.calls a1 false _ A4.out).mono ?_); rintro e w' ⟨rfl, ⟨nd, rfl⟩⟩; refine ⟨_, rfl, ?_⟩))
   go_ret
   exact ⟨by first | rfl | (simp; done) | (simp [*]; done), by repeat (first | exact Drawn0.refl _ | apply Drawn0.step)⟩
 ·replace c5 := Bool.eq_false_iff.mpr c5
  subst c5
  have H1 : (if t104 = true then (some 1) else (if a0 < a1 then (some (-1)) else (if a0 > a1 then (some 1) else (some 0)))) = some r := by rw [if_neg (show ¬ (false = true) by decide)] at H; exact H
  clear H
  have H := H1
  clear H1
  by_cases c7 : t104 = true
  ·subst c7
   have H1 : (some 1) = some r := by rw [if_pos rfl] at H; exact H
   clear H
   have H := H1
   clear H1
   obtain rfl := Option.some.inj H
   go_enter Tryd.func44, Tryd.ntmps44
   go_wp2_with (first | ((with_reducible refine gate_callee (f := 67) rfl ?_); refine goesL_ (some 8) rfl rfl Tryd.func67 (by kernel_rfl) rfl #[.int .i64 a0] rfl (by (try simp only [List.map_toArray, List.map_cons, List.map_nil]); first | done | rfl | (simp only [List.length_drop, List.length_take]; rfl)) ?_; (with_reducible refine (cmp_isNaN_int.calls a0 false _ A3.out).mono ?_); rintro e w' ⟨rfl, ⟨nd, rfl⟩⟩; refine ⟨_, rfl, ?_⟩) | ((with_reducible refine gate_callee (f := 67) rfl ?_); refine goesL_ (some 10) rfl rfl Tryd.func67 (by kernel_rfl) rfl #[.int .i64 a1] rfl (by (try simp only [List.map_toArray, List.map_cons, List.map_nil]); first | done | rfl | (simp only [List.length_drop, List.length_take]; rfl)) ?_; (with_reducible refine (cmp_isNaN_int.calls a1 true _ A4.out).mono ?_); rintro e w' ⟨rfl, ⟨nd, rfl⟩⟩; refine ⟨_, rfl, ?_⟩))
   go_ret
   exact ⟨by first | rfl | (simp; done) | (simp [*]; done), by repeat (first | exact Drawn0.refl _ | apply Drawn0.step)⟩
  ·replace c7 := Bool.eq_false_iff.mpr c7
   subst c7
   have H1 : (if a0 < a1 then (some (-1)) else (if a0 > a1 then (some 1) else (some 0))) = some r := by rw [if_neg (show ¬ (false = true) by decide)] at H; exact H
   clear H
   have H := H1
   clear H1
   by_cases c8 : a0 < a1
   ·rw [if_pos c8] at H
    have c8b0 : decide (a0 < a1) = true := decide_eq_true c8
    clear c8
    obtain rfl := Option.some.inj H
    go_enter Tryd.func44, Tryd.ntmps44
    go_wp2_with (first | ((with_reducible refine gate_callee (f := 67) rfl ?_); refine goesL_ (some 8) rfl rfl Tryd.func67 (by kernel_rfl) rfl #[.int .i64 a0] rfl (by (try simp only [List.map_toArray, List.map_cons, List.map_nil]); first | done | rfl | (simp only [List.length_drop, List.length_take]; rfl)) ?_; (with_reducible refine (cmp_isNaN_int.calls a0 false _ A3.out).mono ?_); rintro e w' ⟨rfl, ⟨nd, rfl⟩⟩; refine ⟨_, rfl, ?_⟩) | ((with_reducible refine gate_callee (f := 67) rfl ?_); refine goesL_ (some 10) rfl rfl Tryd.func67 (by kernel_rfl) rfl #[.int .i64 a1] rfl (by (try simp only [List.map_toArray, List.map_cons, List.map_nil]); first | done | rfl | (simp only [List.length_drop, List.length_take]; rfl)) ?_; (with_reducible refine (cmp_isNaN_int.calls a1 false _ A4.out).mono ?_); rintro e w' ⟨rfl, ⟨nd, rfl⟩⟩; refine ⟨_, rfl, ?_⟩))
    go_ret
    exact ⟨by first | rfl | (simp; done) | (simp [*]; done), by repeat (first | exact Drawn0.refl _ | apply Drawn0.step)⟩
   ·rw [if_neg c8] at H
    have c8b0 : decide (a0 < a1) = false := decide_eq_false c8
    clear c8
    by_cases c9 : a0 > a1
    ·rw [if_pos c9] at H
     have c9b0 : decide (a1 < a0) = true := decide_eq_true c9
     clear c9
     obtain rfl := Option.some.inj H
     go_enter Tryd.func44, Tryd.ntmps44
     go_wp2_with (first | ((with_reducible refine gate_callee (f := 67) rfl ?_); refine goesL_ (some 8) rfl rfl Tryd.func67 (by kernel_rfl) rfl #[.int .i64 a0] rfl (by (try simp only [List.map_toArray, List.map_cons, List.map_nil]); first | done | rfl | (simp only [List.length_drop, List.length_take]; rfl)) ?_; (with_reducible refine (cmp_isNaN_int.calls a0 false _ A3.out).mono ?_); rintro e w' ⟨rfl, ⟨nd, rfl⟩⟩; refine ⟨_, rfl, ?_⟩) | ((with_reducible refine gate_callee (f := 67) rfl ?_); refine goesL_ (some 10) rfl rfl Tryd.func67 (by kernel_rfl) rfl #[.int .i64 a1] rfl (by (try simp only [List.map_toArray, List.map_cons, List.map_nil]); first | done | rfl | (simp only [List.length_drop, List.length_take]; rfl)) ?_; (with_reducible refine (cmp_isNaN_int.calls a1 false _ A4.out).mono ?_); rintro e w' ⟨rfl, ⟨nd, rfl⟩⟩; refine ⟨_, rfl, ?_⟩))
     go_ret
     exact ⟨by first | rfl | (simp; done) | (simp [*]; done), by repeat (first | exact Drawn0.refl _ | apply Drawn0.step)⟩
    ·rw [if_neg c9] at H
     have c9b0 : decide (a1 < a0) = false := decide_eq_false c9
     clear c9
     obtain rfl := Option.some.inj H
     go_enter Tryd.func44, Tryd.ntmps44
     go_wp2_with (first | ((with_reducible refine gate_callee (f := 67) rfl ?_); refine goesL_ (some 8) rfl rfl Tryd.func67 (by kernel_rfl) rfl #[.int .i64 a0] rfl (by (try simp only [List.map_toArray, List.map_cons, List.map_nil]); first | done | rfl | (simp only [List.length_drop, List.length_take]; rfl)) ?_; (with_reducible refine (cmp_isNaN_int.calls a0 false _ A3.out).mono ?_); rintro e w' ⟨rfl, ⟨nd, rfl⟩⟩; refine ⟨_, rfl, ?_⟩) | ((with_reducible refine gate_callee (f := 67) rfl ?_); refine goesL_ (some 10) rfl rfl Tryd.func67 (by kernel_rfl) rfl #[.int .i64 a1] rfl (by (try simp only [List.map_toArray, List.map_cons, List.map_nil]); first | done | rfl | (simp only [List.length_drop, List.length_take]; rfl)) ?_; (with_reducible refine (cmp_isNaN_int.calls a1 false _ A4.out).mono ?_); rintro e w' ⟨rfl, ⟨nd, rfl⟩⟩; refine ⟨_, rfl, ?_⟩))
     go_ret
     exact ⟨by first | rfl | (simp; done) | (simp [*]; done), by repeat (first | exact Drawn0.refl _ | apply Drawn0.step)⟩
end Go.Proofs.YtmhnfdgegejlkaaDoor.P
end

section
namespace Go.Proofs.YtmhnfdgegejlkaaDoor.P
open Go.RowKit Go.Proofs.YtmhnfdgegejlkaaDoorW.PrintWords Go.Proofs.YtmhnfdgegejlkaaDoorW.PrintLast Go.Proofs.YtmhnfdgegejlkaaDoorW.PrintMore
attribute [local go_sem] max2_int min2_int max_two min_two max_three min_three max_four min_four
set_option linter.unusedVariables false
set_option linter.unusedSimpArgs false
def cmp_Or_int.l0 : Nat → Int → List Int → Int → Int → Option (Int)
 | 0, _, _, _, _ => none
 | k + 1, x3, x6, x7, x8 => if x8 < x7 then (if 0 ≤ x8 then (if x8 < (x6.length : Int) then (if (rd x6 x8) = x3 then (cmp_Or_int.l0 k x3 x6 x7 (wrap64 (x8 + 1))) else (some (rd x6 x8))) else (none)) else (none)) else (some x3)
def cmp_Or_int.f (k : Nat) (l0 : List Int) : Option (Int) := cmp_Or_int.l0 k 0 l0 (l0.length : Int) 0
theorem cmp_Or_int.mono_l : ∀ k, (∀ y0 y1 y2 y3, LeO (cmp_Or_int.l0 k y0 y1 y2 y3) (cmp_Or_int.l0 (k + 1) y0 y1 y2 y3))
 | 0 => fun _ _ _ _ r h => by simp [cmp_Or_int.l0] at h
 | k + 1 => by
  have ih0 := cmp_Or_int.mono_l k
  ·intro y0 y1 y2 y3
   unfold cmp_Or_int.l0
   repeat' first
   | (with_reducible exact ih0 _ _ _ _)
   | (with_reducible exact LeO.refl _)
   | (with_reducible exact LeO.none _)
   | (with_reducible refine LeO.ite ?_ ?_)
   | (with_reducible refine LeO.bind ?_ (fun _ => ?_))
   | exact ih0 _ _ _ _
   | exact LeO.none _
   | refine LeO.ite ?_ ?_
   | refine LeO.bind ?_ (fun _ => ?_)
theorem cmp_Or_int.mono : ∀ a0 k, LeO (cmp_Or_int.f k a0) (cmp_Or_int.f (k + 1) a0) := by
 intro a0 k
 have ih0 := cmp_Or_int.mono_l k
 unfold cmp_Or_int.f
 repeat' first
   | (with_reducible exact ih0 _ _ _ _)
   | (with_reducible exact LeO.refl _)
   | (with_reducible exact LeO.none _)
   | (with_reducible refine LeO.ite ?_ ?_)
   | (with_reducible refine LeO.bind ?_ (fun _ => ?_))
   | exact ih0 _ _ _ _
   | exact LeO.none _
   | refine LeO.ite ?_ ?_
   | refine LeO.bind ?_ (fun _ => ?_)
set_option maxHeartbeats 8000000 in
set_option maxRecDepth 100000 in
theorem cmp_Or_int.calls (k : Nat) (A0 : Option Addr) (c0 : Nat) (l0 : List Int) (r : Int) (w : World) (hr0 : Kd.C (Kd.int .i64) w A0 l0.length l0) (hc0 : l0.length ≤ c0) (h : cmp_Or_int.f k l0 = some r) :
  Calls Tryd.prog 43 #[.slice A0 l0.length c0] w fun e w' => e = .returned (.int .i64 r) ∧ Drawn0 w w' := by
 have HR0 := Aside0.mk hr0
 have HC0 := Aside0.mk hc0
 clear hr0 hc0
 have H : (cmp_Or_int.l0 k 0 l0 (l0.length : Int) 0) = some r := h
 clear h
 have H' := Aside0.mk H
 clear H
 go_enter Tryd.func43, Tryd.ntmps43
 go_wp2
 go_loopg [8] k (fun kq v8 w' => ∃ (x8_1 : Int), v8 = .int .i64 x8_1 ∧ Aside0 (cmp_Or_int.l0 kq 0 l0 (l0.length : Int) x8_1 = some r) ∧ Aside0 (kq ≤ k) ∧ Drawn0 w w')
 case atStart => exact ⟨(0), (by first | rfl | (simp; done) | (simp [*]; done)), H', ⟨Nat.le_refl _⟩, by repeat (first | exact Drawn0.refl _ | apply Drawn0.step)⟩
 case round =>
  clear H'
  obtain ⟨x8_1, rfl, HA, HK1, ⟨m1, rfl⟩⟩ := hrel
  cases gk with
  | zero => exact absurd HA.out (by simp [cmp_Or_int.l0])
  | succ k1 =>
   have H := HA.out
   clear HA
   simp only [cmp_Or_int.l0] at H
   by_cases c2 : x8_1 < (l0.length : Int)
   ·rw [if_pos c2] at H
    have c2b0 : decide (x8_1 < (l0.length : Int)) = true := decide_eq_true c2
    clear c2
    by_cases c3 : 0 ≤ x8_1
    ·rw [if_pos c3] at H
     have c3b0 : decide (0 ≤ x8_1) = true := decide_eq_true c3
     clear c3
     by_cases c4 : x8_1 < (l0.length : Int)
     ·rw [if_pos c4] at H
      have c4b0 : decide (x8_1 < (l0.length : Int)) = true := decide_eq_true c4
      clear c4
      by_cases c5 : (rd l0 x8_1) = 0
      ·rw [if_pos c5] at H
       have c5b0 : ((rd l0 x8_1) == 0) = true := beq_iff_eq.mpr c5
       have c5b1 : ((rd l0 x8_1) != 0) = false := bne_eq_false_iff_eq.mpr c5
       clear c5
       have H' := Aside0.mk H
       clear H
       have p105 : 0 ≤ (x8_1 : Int) := of_decide_eq_true (by first | (with_reducible assumption) | assumption)
       have q105 : x8_1 < (l0.length : Int) := of_decide_eq_true (by first | (with_reducible assumption) | assumption)
       obtain ⟨ad105, e105, hx105_0⟩ := Kd.at_int HR0.out x8_1 p105 q105
       cases e105
       replace p105 := eq_true p105
       replace q105 := eq_true q105
       go_wp2
       go_roundg k1
       case measure => have := HK1.out; omega
       case rel => exact ⟨(wrap64 (x8_1 + 1)), (by first | rfl | (simp; done) | (simp [*]; done)), H', ⟨by have := HK1.out; omega⟩, by repeat (first | exact Drawn0.refl _ | apply Drawn0.step)⟩
      ·rw [if_neg c5] at H
       have c5b0 : ((rd l0 x8_1) == 0) = false := beq_eq_false_iff_ne.mpr c5
       have c5b1 : ((rd l0 x8_1) != 0) = true := bne_iff_ne.mpr c5
       obtain rfl := Option.some.inj H
       have p105 : 0 ≤ (x8_1 : Int) := of_decide_eq_true (by first | (with_reducible assumption) | assumption)
       have q105 : x8_1 < (l0.length : Int) := of_decide_eq_true (by first | (with_reducible assumption) | assumption)
       obtain ⟨ad105, e105, hx105_0⟩ := Kd.at_int HR0.out x8_1 p105 q105
       cases e105
       replace p105 := eq_true p105
       replace q105 := eq_true q105
       go_wp2
       go_ret
       exact ⟨by first | rfl | (simp; done) | (simp [*]; done), by repeat (first | exact Drawn0.refl _ | apply Drawn0.step)⟩
     ·rw [if_neg c4] at H
      exact absurd H (by simp)
    ·rw [if_neg c3] at H
     exact absurd H (by simp)
   ·rw [if_neg c2] at H
    have c2b0 : decide (x8_1 < (l0.length : Int)) = false := decide_eq_false c2
    clear c2
    obtain rfl := Option.some.inj H
    go_wp2
    go_ret
    exact ⟨by first | rfl | (simp; done) | (simp [*]; done), by repeat (first | exact Drawn0.refl _ | apply Drawn0.step)⟩
end Go.Proofs.YtmhnfdgegejlkaaDoor.P
end

section
namespace Go.Proofs.YtmhnfdgegejlkaaDoor.P
open Go.RowKit Go.Proofs.YtmhnfdgegejlkaaDoorW.PrintWords Go.Proofs.YtmhnfdgegejlkaaDoorW.PrintLast Go.Proofs.YtmhnfdgegejlkaaDoorW.PrintMore
attribute [local go_sem] max2_int min2_int max_two min_two max_three min_three max_four min_four
set_option linter.unusedVariables false
set_option linter.unusedSimpArgs false
def value_Compare.f (k : Nat) (a0_0 : Int) (a0_1 : Int) (a0_2 : ByteArray) (a1_0 : Int) (a1_1 : Int) (a1_2 : ByteArray) : Option (Int) := (cmp_Compare_int.f a0_0 a1_0).bind fun t108 => ((cmp_Compare_int.f a0_1 a1_1).bind fun t109 => ((strings_Compare.f a0_2 a1_2).bind fun t110 => ((cmp_Or_int.f k (([t108, t109, t110] : List Int))).bind fun t114 => (some t114))))
theorem value_Compare.mono : ∀ a0 a1 a2 a3 a4 a5 k, LeO (value_Compare.f k a0 a1 a2 a3 a4 a5) (value_Compare.f (k + 1) a0 a1 a2 a3 a4 a5) := by
 intro a0 a1 a2 a3 a4 a5 k
 unfold value_Compare.f
 repeat' first
   | (with_reducible exact cmp_Or_int.mono _ _)
   | (with_reducible exact LeO.refl _)
   | (with_reducible exact LeO.none _)
   | (with_reducible refine LeO.ite ?_ ?_)
   | (with_reducible refine LeO.bind ?_ (fun _ => ?_))
   | exact cmp_Or_int.mono _ _
   | exact LeO.none _
   | refine LeO.ite ?_ ?_
   | refine LeO.bind ?_ (fun _ => ?_)
def value_Compare.T1 : Bool × List (List Nat × List Nat) := (true, [([], []), ([0], [0]), ([], []), ([2], [2]), ([1, 3], [1, 3]), ([], []), ([5], [5]), ([], []), ([7], [7]), ([6, 8, 4], [6, 8]), ([], []), ([10], [10]), ([], []), ([12], [12]), ([11, 13, 9], [11, 13]), ([4, 9, 14], [4, 9, 14]), ([15, 14], [15]), ([16, 16, 0, 1, 2, 3, 4, 5, 6, 7, 8, 9, 10, 11, 12, 13, 14, 15, 16], [16])])
def value_Compare.B1 : List Nat := [0, 1, 0, 4, 15, 0, 32, 0, 128, 511, 0, 1024, 0, 4096, 16383, 32767, 65535, 131071]
theorem value_Compare.tab1 : rtab .any (opsOf Tryd.f13 1) = value_Compare.T1 := by kernel_rfl
theorem value_Compare.bits1 : waitsOk value_Compare.T1.2 value_Compare.B1 = true := by kernel_rfl
set_option maxHeartbeats 8000000 in
set_option maxRecDepth 100000 in
theorem value_Compare.calls (k : Nat) (a0_0 : Int) (a0_1 : Int) (a0_2 : ByteArray) (a1_0 : Int) (a1_1 : Int) (a1_2 : ByteArray) (r : Int) (w : World) (h : value_Compare.f k a0_0 a0_1 a0_2 a1_0 a1_1 a1_2 = some r) :
  Calls Tryd.prog 13 #[.agg #[.int .i64 a0_0, .int .i64 a0_1, .string a0_2], .agg #[.int .i64 a1_0, .int .i64 a1_1, .string a1_2]] w fun e w' => e = .returned (.int .i64 r) ∧ Below w.heap.size w w' := by
 have hu23 := Tryd.underlying23
 have HB := Aside0.mk (Below.refl w.heap.size w)
 have H : ((cmp_Compare_int.f a0_0 a1_0).bind fun t108 => ((cmp_Compare_int.f a0_1 a1_1).bind fun t109 => ((strings_Compare.f a0_2 a1_2).bind fun t110 => ((cmp_Or_int.f k (([t108, t109, t110] : List Int))).bind fun t114 => (some t114))))) = some r := h
 clear h
 replace H := Option.bind_eq_some_iff.mp H
 obtain ⟨t108, A30, H⟩ := H
 replace H : ((cmp_Compare_int.f a0_1 a1_1).bind fun t109 => ((strings_Compare.f a0_2 a1_2).bind fun t110 => ((cmp_Or_int.f k (([t108, t109, t110] : List Int))).bind fun t114 => (some t114)))) = some r := H
 have A3 := Aside0.mk A30
 clear A30
 replace H := Option.bind_eq_some_iff.mp H
 obtain ⟨t109, A40, H⟩ := H
 replace H : ((strings_Compare.f a0_2 a1_2).bind fun t110 => ((cmp_Or_int.f k (([t108, t109, t110] : List Int))).bind fun t114 => (some t114))) = some r := H
 have A4 := Aside0.mk A40
 clear A40
 replace H := Option.bind_eq_some_iff.mp H
 obtain ⟨t110, A50, H⟩ := H
 replace H : ((cmp_Or_int.f k (([t108, t109, t110] : List Int))).bind fun t114 => (some t114)) = some r := H
 have A5 := Aside0.mk A50
 clear A50
 obtain ⟨y111, hy111⟩ : ∃ y_ : List Int, y_ = (([t108, t109, t110] : List Int)) := ⟨_, rfl⟩
 replace H : ((cmp_Or_int.f k y111).bind fun t114 => (some t114)) = some r := by first | (rw [hy111]; with_reducible exact H) | (have H2_ := (Option.bind_some _ _).symm.trans H; rw [hy111]; with_reducible exact H2_) | (have H2_ := (Option.bind_some _ _).symm.trans H; with_reducible exact H2_) | with_reducible exact H | (rw [hy111]; exact H) | exact H
 have Ny111 := Aside0.mk hy111
 clear hy111
 replace H := Option.bind_eq_some_iff.mp H
 obtain ⟨t114, A60, H⟩ := H
 replace H : (some t114) = some r := H
 have A6 := Aside0.mk A60
 clear A60
 obtain rfl := Option.some.inj H
 go_enter Tryd.func13, Tryd.ntmps13
 try go_wp2_with (first | ((with_reducible refine gate_dst (N := 2) rfl ?_); refine box_event ?hg (N := 2) ?hd (cs := #[.int .i64 a0_0, .int .i64 a0_1, .string a0_2]) (t := 23) ?hr ?_; (case hd => rfl); (case hg => rfl); (case hr => first | (go_simp; done) | (go_simp; rfl)); intro gb106 hg w7 hbox hb; have BK106 := Aside0.mk (hbox); have GW106 := (sizeB HB hg : Aside0 (w.heap.size ≤ gb106)); have GE106 := (sizeB HB hg : Aside0 (w.heap.size ≤ gb106)); replace HB := stepB HB hb; clear hb hbox hg) | ((with_reducible refine gate_dst (N := 3) rfl ?_); refine box_event ?hg (N := 3) ?hd (cs := #[.int .i64 a1_0, .int .i64 a1_1, .string a1_2]) (t := 23) ?hr ?_; (case hd => rfl); (case hg => rfl); (case hr => first | (go_simp; done) | (go_simp; rfl)); intro gb107 hg w8 hbox hb; have BK107 := Aside0.mk (hbox); have GW107 := (sizeB HB hg : Aside0 (w.heap.size ≤ gb107)); have GE107 := (sizeB HB hg : Aside0 (w.heap.size ≤ gb107)); have NB106_107 := neB BK106 hg; have NB107_106 := neC BK106 hg; replace BK106 := blkB BK106 hb; replace HB := stepB HB hb; clear hb hbox hg))
 replace BK106 := Aside0.mk (blk_drew BK106.out)
 replace BK107 := Aside0.mk (blk_drew BK107.out)
 replace HB := Aside0.mk (below_drew1 HB.out)
 refine start_ (n := 18) (S := fun w' => w'.cell? ⟨gb106, 0, none⟩ = some (.int .i64 a0_0) ∧ w'.cell? ⟨gb106, 1, none⟩ = some (.int .i64 a0_1) ∧ w'.cell? ⟨gb106, 2, none⟩ = some (.string a0_2) ∧ w'.cell? ⟨gb107, 0, none⟩ = some (.int .i64 a1_0) ∧ w'.cell? ⟨gb107, 1, none⟩ = some (.int .i64 a1_1) ∧ w'.cell? ⟨gb107, 2, none⟩ = some (.string a1_2)) (ds := []) #[false, false, false, false, false, false, false, false, false, false, false, false, false, false, false, false, false, false] (by kernel_rfl) rfl rfl ⟨bc BK106 0, bc BK106 1, bc BK106 2, bc BK107 0, bc BK107 1, bc BK107 2⟩ (fun hHeld => ?_); refine with_tabW value_Compare.tab1 value_Compare.bits1 (fun HT_ HW_ => ?_)
 generalize w8.drew = w9 at BK106 BK107 HB hHeld ⊢
 refine pureA 0 5 #[true, false, false, false, false, false, false, false, false, false, false, false, false, false, false, false, false, false] HT_ ?_
 refine pureA 2 7 #[true, false, true, false, false, false, false, false, false, false, false, false, false, false, false, false, false, false] HT_ ?_
 refine pureA 5 10 #[true, false, true, false, false, true, false, false, false, false, false, false, false, false, false, false, false, false] HT_ ?_
 refine pureA 7 12 #[true, false, true, false, false, true, false, true, false, false, false, false, false, false, false, false, false, false] HT_ ?_
 refine pureA 10 15 #[true, false, true, false, false, true, false, true, false, false, true, false, false, false, false, false, false, false] HT_ ?_
 refine pureA 12 17 #[true, false, true, false, false, true, false, true, false, false, true, false, true, false, false, false, false, false] HT_ ?_
 refine takeA 1 6 #[true, true, true, false, false, true, false, true, false, false, true, false, true, false, false, false, false, false] HT_ HW_ hHeld ?_
 refine takeA 3 8 #[true, true, true, true, false, true, false, true, false, false, true, false, true, false, false, false, false, false] HT_ HW_ hHeld ?_
 refine takeA 6 11 #[true, true, true, true, false, true, true, true, false, false, true, false, true, false, false, false, false, false] HT_ HW_ hHeld ?_
 refine takeA 8 13 #[true, true, true, true, false, true, true, true, true, false, true, false, true, false, false, false, false, false] HT_ HW_ hHeld ?_
 refine takeA 11 16 #[true, true, true, true, false, true, true, true, true, false, true, true, true, false, false, false, false, false] HT_ HW_ hHeld ?_
 refine takeA 13 18 #[true, true, true, true, false, true, true, true, true, false, true, true, true, true, false, false, false, false] HT_ HW_ hHeld ?_
 refine one_ (i := 4) (N := some 9) #[true, true, true, true, true, true, true, true, true, false, true, true, true, true, false, false, false, false] rfl rfl (one_of HT_.out (by kernel_rfl)) (by decide) (fun K hK => ?_)
 refine goes_ Tryd.func44 (by kernel_rfl) rfl #[.int .i64 a0_0, .int .i64 a1_0] (by rfl) rfl rfl (by (try simp only [List.map_toArray, List.map_cons, List.map_nil]); first | done | rfl | (simp only [List.length_drop, List.length_take]; rfl)) ?_
 with_reducible refine (cmp_Compare_int.calls a0_0 a1_0 t108 _ A3.out).mono ?_
 rintro e w' ⟨rfl, ⟨nd, rfl⟩⟩
 refine ⟨_, rfl, ?_⟩
 refine hK.out _ _ ⟨bc BK106 0, bc BK106 1, bc BK106 2, bc BK107 0, bc BK107 1, bc BK107 2⟩ (fun hHeld => ?_)
 clear hK K
 refine normA 9 ?_
 refine one_ (i := 9) (N := some 14) #[true, true, true, true, true, true, true, true, true, true, true, true, true, true, false, false, false, false] rfl rfl (one_of HT_.out (by kernel_rfl)) (by decide) (fun K hK => ?_)
 refine goes_ Tryd.func44 (by kernel_rfl) rfl #[.int .i64 a0_1, .int .i64 a1_1] (by rfl) rfl rfl (by (try simp only [List.map_toArray, List.map_cons, List.map_nil]); first | done | rfl | (simp only [List.length_drop, List.length_take]; rfl)) ?_
 with_reducible refine (cmp_Compare_int.calls a0_1 a1_1 t109 _ A4.out).mono ?_
 rintro e w' ⟨rfl, ⟨nd, rfl⟩⟩
 refine ⟨_, rfl, ?_⟩
 refine hK.out _ _ ⟨bc BK106 0, bc BK106 1, bc BK106 2, bc BK107 0, bc BK107 1, bc BK107 2⟩ (fun hHeld => ?_)
 clear hK K
 refine normA 14 ?_
 refine one_ (i := 14) (N := some 19) #[true, true, true, true, true, true, true, true, true, true, true, true, true, true, true, false, false, false] rfl rfl (one_of HT_.out (by kernel_rfl)) (by decide) (fun K hK => ?_)
 refine goes_ Tryd.func45 (by kernel_rfl) rfl #[.string a0_2, .string a1_2] (by rfl) rfl rfl (by (try simp only [List.map_toArray, List.map_cons, List.map_nil]); first | done | rfl | (simp only [List.length_drop, List.length_take]; rfl)) ?_
 with_reducible refine (strings_Compare.calls a0_2 a1_2 t110 _ A5.out).mono ?_
 rintro e w' ⟨rfl, ⟨nd, rfl⟩⟩
 refine ⟨_, rfl, ?_⟩
 refine hK.out _ _ ⟨bc BK106 0, bc BK106 1, bc BK106 2, bc BK107 0, bc BK107 1, bc BK107 2⟩ (fun hHeld => ?_)
 clear hK K
 refine normA 19 ?_
 refine one_ (i := 15) (N := some 20) #[true, true, true, true, true, true, true, true, true, true, true, true, true, true, true, true, false, false] rfl rfl (one_of HT_.out (by kernel_rfl)) (by decide) (fun K hK => ?_)
 refine Kd.R_lit_step (Kd.int .i64) _ 3 ?hg (N := 20) ?hd (xs := ([t108, t109, t110] : List Int)) (inner := [.int .i64 t108, .int .i64 t109, .int .i64 t110]) (ok := fun _ => True) (okp := fun _ => True) ?hr ?hp (fun _ hk => hk) trivial (Below.refl _ _) (Nat.le_refl _) (by simp) ?_; (case hd => rfl); (case hg => rfl); (case hr => first | (go_simp; done) | (go_simp; rfl)); (case hp => exact (Reps.one (show Kd.M (Kd.int .i64) _ _ _ t108 [.int .i64 t108] from rfl) (Reps.one (show Kd.M (Kd.int .i64) _ _ _ t109 [.int .i64 t109] from rfl) (Reps.one (show Kd.M (Kd.int .i64) _ _ _ t110 [.int .i64 t110] from rfl) (Reps.none _ _)))))
 intro v112 w10 ho11 hb hg_ hnew_
 clear hg_ hnew_
 (first | rw [← Ny111.out] at ho11 | (simp only [Int.reduceToNat] at ho11; rw [← Ny111.out] at ho11))
 have HO113 := Aside0.mk (Kd.R_lower ho11 (below_size (by repeat (first | (with_reducible first | exact HB.out | apply below_alloc | apply pw_below_drewN | apply below_drew1 | refine below_set ?_ GE106.out | refine below_set ?_ GE107.out) | exact HB.out))))
 replace BK106 := blkB BK106 hb
 replace BK107 := blkB BK107 hb
 replace HB := stepB HB hb
 clear hb ho11
 obtain ⟨Ao12, co12, eo12⟩ := Kd.R_slice HO113.out
 (first | subst eo12 | (injection eo12 with f1_ f2_ f3_; have f4_ := f1_.symm; have f5_ := f3_.symm; clear f1_ f2_ f3_; subst f4_; subst f5_))
 refine hK.out _ _ ⟨bc BK106 0, bc BK106 1, bc BK106 2, bc BK107 0, bc BK107 1, bc BK107 2⟩ (fun hHeld => ?_)
 clear hK K
 refine normA 20 ?_
 refine one_ (i := 16) (N := some 21) #[true, true, true, true, true, true, true, true, true, true, true, true, true, true, true, true, true, false] rfl rfl (one_of HT_.out (by kernel_rfl)) (by decide) (fun K hK => ?_)
 refine goes_ Tryd.func43 (by kernel_rfl) rfl #[.slice Ao12 y111.length co12] (by rfl) rfl rfl (by (try simp only [List.map_toArray, List.map_cons, List.map_nil]); first | done | rfl | (simp only [List.length_drop, List.length_take]; rfl)) ?_
 with_reducible refine (cmp_Or_int.calls k _ _ y111 t114 _ ?side1 ?side2 A6.out).mono ?_
 (case side1 => repeat (first | exact (Kd.R_reads' HO113.out).2.2 | (with_reducible refine Kd.C_alloc ?_ _) | (with_reducible refine Kd.C_drewN ?_ _) | (with_reducible refine Kd.C_drew ?_)))
 (case side2 => exact (Kd.R_reads' HO113.out).2.1)
 rintro e w' ⟨rfl, ⟨nd, rfl⟩⟩
 refine ⟨_, rfl, ?_⟩
 refine hK.out _ _ ⟨bc BK106 0, bc BK106 1, bc BK106 2, bc BK107 0, bc BK107 1, bc BK107 2⟩ (fun hHeld => ?_)
 clear hK K
 refine normA 21 ?_
 refine pureA 17 4 #[true, true, true, true, true, true, true, true, true, true, true, true, true, true, true, true, true, true] HT_ ?_
 refine done_ (done_of HT_.out (by kernel_rfl)) ?_
 try go_wp2
 go_ret
 exact ⟨by first | rfl | (simp [errW_none, errW_some] <;> rfl) | (simp [*, errW_none, errW_some] <;> rfl), by repeat (first | (with_reducible first | exact HB.out | apply below_alloc | apply pw_below_drewN | apply below_drew1 | refine below_set ?_ GE106.out | refine below_set ?_ GE107.out) | exact HB.out)⟩
end Go.Proofs.YtmhnfdgegejlkaaDoor.P
end

section
namespace Go.Proofs.YtmhnfdgegejlkaaDoor.P
open Go.RowKit Go.Proofs.YtmhnfdgegejlkaaDoorW.PrintWords Go.Proofs.YtmhnfdgegejlkaaDoorW.PrintLast
def slices_Clone_Lint_int.f (l0 : List Int) : Option (List Int) := if l0.length * 8 ≤ 140737488351232 then some l0 else none
theorem infoInt : (Tryd.prog.info? 3).map (fun i => (i.zero, i.size, i.bytes)) = some (some (.int .i64 0), 1, 8) := by kernel_rfl
set_option maxHeartbeats 2000000 in
set_option maxRecDepth 100000 in
theorem slices_Clone_Lint_int.calls (A0 : Option Addr) (c0 : Nat) (l0 : List Int) (r : List Int) (w : World) (hr0 : Kd.C (Kd.int .i64) w A0 l0.length l0) (hc0 : l0.length ≤ c0) (h : slices_Clone_Lint_int.f l0 = some r) :
    Calls Tryd.prog 61 #[.slice A0 l0.length c0] w fun e w' => ∃ v0_ : Value, e = .returned (v0_) ∧ Kd.R (Kd.int .i64) 3 w' w.heap.size (fun _ => True) v0_ r ∧ Below w.heap.size w w' := by
  have hlim : l0.length * 8 ≤ 140737488351232 := by
    unfold slices_Clone_Lint_int.f at h
    split at h
    · assumption
    · cases h
  obtain rfl : l0 = r := by
    unfold slices_Clone_Lint_int.f at h
    rw [if_pos hlim] at h
    exact Option.some.inj h
  clear h
  have hq := fun (W : World) (n : Nat) => Lib.run_eql_slice_nil (P := Tryd.prog) W 28 3 A0 n c0 0 0 Tryd.underlying28
  cases A0 with
  | none =>
    have hn : l0 = [] := by
      rcases Nat.eq_zero_or_pos l0.length with h0 | h0
      · exact List.eq_nil_of_length_eq_zero h0
      · obtain ⟨ad, h1, _⟩ := hr0.2.2 h0
        cases h1
    subst hn
    clear hr0
    go_enter Tryd.func61, Tryd.ntmps61
    go_wp2
    go_ret
    exact ⟨_, rfl, Kd.R_nil _ _ _ _ _, Below.refl _ _⟩
  | some ad =>
    have HR := Aside0.mk hr0
    have HC := Aside0.mk hc0
    have HL := Aside0.mk hlim
    clear hr0 hc0 hlim
    have HB := Aside0.mk (Below.refl w.heap.size w)
    go_enter Tryd.func61, Tryd.ntmps61
    go_wp2_with (first
      | ((with_reducible refine gate_dst (N := 5) rfl ?_)
         refine Kd.R_lit (Kd.int .i64) w.heap.size 3 ?hg (N := 5) ?hd (xs := ([] : List Int)) (inner := []) (ok := fun _ => True) (okp := fun _ => True) ?hr ?hp (fun _ hk => hk) trivial (Below.refl _ _) (Nat.le_refl _) (by simp) ?_
         (case hd => rfl); (case hg => rfl); (case hr => first | (go_simp; done) | (go_simp; rfl)); (case hp => exact Reps.none _ _)
         intro v1 w1 ho hb hg hnew
         have HO := Aside0.mk ho
         have HB1 := Aside0.mk hb
         clear ho hb hg hnew HB)
      | ((with_reducible refine gate_dst (N := 7) rfl ?_)
         refine Kd.R_append_rows (Kd.int .i64) (w0 := w) w.heap.size rfl (.tmp 5) (.tmp 6) 28 3 (.int .i64 0) 8 rfl Tryd.underlying28 infoInt rfl (by decide) (by omega) v1 [] l0 _ _ _ (fun _ => True) (fun _ => False) rfl rfl ?aO ?aR (fun _ _ h => h) (fun _ h => h.elim) (fun _ _ => trivial) ?aB ?aS ?aL ?_
         (case aO => exact HO.out)
         (case aR => exact Kd.C_below HR.out HB1.out)
         (case aB => exact HB1.out)
         (case aS => exact below_size HB1.out)
         (case aL => have := HL.out; simp; omega)
         intro v2 w2 ho2 hb2 hg2 hat2
         have HO2 := Aside0.mk ho2
         have HB2 := Aside0.mk hb2
         clear ho2 hb2 hg2 hat2 HO HB1))
    go_ret
    exact ⟨_, rfl, HO2.out, HB2.out⟩
end Go.Proofs.YtmhnfdgegejlkaaDoor.P
end
