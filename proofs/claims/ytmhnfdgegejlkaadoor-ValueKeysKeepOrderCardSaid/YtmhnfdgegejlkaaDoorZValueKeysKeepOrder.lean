/- The law ValueKeysKeepOrder holds: at any two rows and any number the law alumlaw19.ValueKeysKeepOrder answers true, wherever the tied tables are laid -/
import Derived.Test.YtmhnfdgegejlkaaDoorBValueKeysKeepOrder3
import Derived.Test.YtmhnfdgegejlkaaDoorRows
import Derived.Test.YtmhnfdgegejlkaaDoorBValueKeysKeepOrder0
import Derived.WalkKit
import Derived.ProofKit
import Derived.OpenShut
import Derived.ShutString
import Derived.ChangeOld
import Derived.Below
import Derived.SizedLaws
import Derived.LaidMore
import Derived.Stop.Joined
import Derived.Test.YtmhnfdgegejlkaaDoorCards
import Derived.Test.YtmhnfdgegejlkaaDoorTie
import Derived.SevenTiedAt
section
namespace Go.Proofs.YtmhnfdgegejlkaaDoor.V
open Go Go.RowKit Go.Proofs.YtmhnfdgegejlkaaDoor.P Go.Proofs.YtmhnfdgegejlkaaDoorW.PrintWords Go.Proofs.YtmhnfdgegejlkaaDoorW.PrintMore
set_option linter.unusedSimpArgs false
set_option linter.unusedVariables false
def Few (l : List V) : Prop := l.length ≤ 20 ∧ ∀ v ∈ l, Rt v
theorem right_loop (l : List V) (hl : l.length ≤ 20) (d : Nat) : ∀ (k i : Nat), l.length - i = d → i ≤ l.length → d + 1 ≤ k → ∃ b, alumref19_RightRow.l0 k l i = some b ∧ (b = true ↔ ∀ v ∈ l.drop i, Rt v) := by
  induction d with
  | zero =>
    intro k i hd h1 hk
    obtain ⟨k, rfl⟩ : ∃ m, k = m + 1 := ⟨k - 1, by omega⟩
    refine ⟨true, by rw [alumref19_RightRow.l0, if_neg (by omega)], ?_⟩
    rw [List.drop_eq_nil_of_le (by omega)]
    simp
  | succ d ih =>
    intro k i hd h1 hk
    obtain ⟨k, rfl⟩ : ∃ m, k = m + 1 := ⟨k - 1, by omega⟩
    have hi : i < l.length := by omega
    rw [alumref19_RightRow.l0, if_pos (by omega), if_pos (by omega), rdV l i hi, List.drop_eq_getElem_cons hi]
    by_cases hr : Rt l[i]
    · rw [refRight_yes hr]
      simp only [Option.bind_some, if_true]
      rw [wrap_succ i (by omega)]
      obtain ⟨b, hb, hc⟩ := ih k (i + 1) (by omega) (by omega) (by omega)
      refine ⟨b, hb, ?_⟩
      rw [hc, List.forall_mem_cons]
      exact ⟨fun h => ⟨hr, h⟩, fun h => h.2⟩
    · rw [refRight_no hr]
      refine ⟨false, rfl, ?_⟩
      rw [List.forall_mem_cons]
      exact ⟨fun h => (by cases h), fun h => absurd h.1 hr⟩
theorem ev_few (k : Nat) (hk : 30 ≤ k) (l : List V) : ∃ b, alumlaw19_few.f k l = some b ∧ (b = true ↔ Few l) := by
  unfold alumlaw19_few.f Few
  by_cases h : (l.length : Int) ≤ 20
  · rw [if_pos h]
    have h' : l.length ≤ 20 := by omega
    obtain ⟨b, hb, hc⟩ := right_loop l h' l.length k 0 (by omega) (by omega) (by omega)
    rw [Int.natCast_zero] at hb
    rw [List.drop_zero] at hc
    unfold alumref19_RightRow.f
    rw [hb]
    exact ⟨b, rfl, by rw [hc]; exact ⟨fun x => ⟨h', x⟩, fun x => x.2⟩⟩
  · rw [if_neg h]
    exact ⟨false, rfl, by constructor; · intro h; cases h
                          · intro x; omega⟩
theorem rdI (l : List Int) (i : Nat) (h : i < l.length) : rd l (i : Int) = l[i] := by
  unfold rd
  rw [Int.toNat_natCast, List.getD_eq_getElem?_getD, List.getElem?_eq_getElem h]
  rfl
theorem keys_loop (x y : List Int) (hx : x.length ≤ 1000) (d : Nat) : ∀ (k i : Nat), x.length - i = d → i ≤ x.length → i ≤ y.length → d + 1 ≤ k →
    slices_Compare_Lint_int.l0 k x y x x.length i = some (lcmp cmpI (x.drop i) (y.drop i)) := by
  induction d with
  | zero =>
    intro k i hd h1 h2 hk
    obtain ⟨k, rfl⟩ : ∃ m, k = m + 1 := ⟨k - 1, by omega⟩
    have hi : i = x.length := by omega
    rw [slices_Compare_Lint_int.l0, if_neg (by omega), hi, List.drop_length]
    by_cases hl : x.length < y.length
    · rw [if_pos (by omega)]
      have : y.drop x.length ≠ [] := by simp; omega
      match h : y.drop x.length, this with
      | a :: l, _ => rfl
    · rw [if_neg (by omega), List.drop_eq_nil_of_le (by omega)]; rfl
  | succ d ih =>
    intro k i hd h1 h2 hk
    obtain ⟨k, rfl⟩ : ∃ m, k = m + 1 := ⟨k - 1, by omega⟩
    have hi : i < x.length := by omega
    rw [slices_Compare_Lint_int.l0, if_pos (by omega), if_pos (by omega), if_pos (by omega)]
    by_cases hy : i < y.length
    · rw [if_neg (by omega), if_pos (by omega), rdI x i hi, rdI y i hy, ev_cmpInt]
      simp only [Option.bind_some]
      rw [List.drop_eq_getElem_cons hi, List.drop_eq_getElem_cons hy]
      unfold lcmp
      by_cases hc : cmpI x[i] y[i] = 0
      · rw [if_pos hc, if_pos hc, wrap_succ i (by omega)]
        exact ih k (i + 1) (by omega) (by omega) (by omega) (by omega)
      · rw [if_neg hc, if_neg hc]
    · rw [if_pos (by omega), List.drop_eq_getElem_cons hi, show y.drop i = [] from List.drop_eq_nil_of_le (by omega)]; rfl
theorem ev_CompareKeys (k : Nat) (hk : 1010 ≤ k) (x y : List Int) (hx : x.length ≤ 1000) : value_CompareKeys.f k x y = some (lcmp cmpI x y) := by
  have := keys_loop x y hx x.length k 0 (by omega) (by omega) (by omega) (by omega)
  rw [Int.natCast_zero] at this
  unfold value_CompareKeys.f slices_Compare_Lint_int.f
  rw [this]
  rfl
def flat (l : List V) : List Int := l.flatMap W
theorem flat_cons (v : V) (l : List V) : flat (v :: l) = W v ++ flat l := by simp [flat]
theorem flat_len (l : List V) (h : ∀ v ∈ l, Rt v) : (flat l).length ≤ 12 * l.length := by
  induction l with
  | nil => simp [flat]
  | cons v l ih =>
    rw [flat_cons, List.length_append, List.length_cons]
    have := W_len (h v (by simp))
    have := ih (fun u hu => h u (by simp [hu]))
    omega
theorem take_mx (most : Int) (l : List Int) : l.take (mx 0 (mn most (l.length : Int))).toNat = l.take most.toNat := by
  unfold mx mn
  by_cases h : (l.length : Int) < most
  · rw [if_pos h]
    rw [List.take_of_length_le (i := most.toNat) (by omega)]
    apply List.take_of_length_le
    split <;> omega
  · rw [if_neg h]
    by_cases h2 : 0 < most
    · rw [if_pos h2]
    · rw [if_neg h2, show most.toNat = 0 from by omega]; rfl
theorem mx_rng (most : Int) (l : List Int) : 0 ≤ mx 0 (mn most (l.length : Int)) ∧ mx 0 (mn most (l.length : Int)) ≤ (l.length : Int) := by
  unfold mx mn
  constructor <;> (repeat split) <;> omega
theorem key_loop (most : Int) (x : List V) (hx : x.length ≤ 20) (hr : ∀ v ∈ x, Rt v) (d : Nat) : ∀ (k i : Nat) (out : List Int), x.length - i = d → i ≤ x.length → out.length ≤ 12 * i → d + 120 ≤ k →
    value_Key.l0 k most out x x.length i = some ((out ++ flat (x.drop i)).take most.toNat) := by
  induction d with
  | zero =>
    intro k i out hd h1 ho hk
    obtain ⟨k, rfl⟩ : ∃ m, k = m + 1 := ⟨k - 1, by omega⟩
    have hm := mx_rng most out
    rw [value_Key.l0, if_neg (by omega), if_pos hm.1, if_pos hm.2, take_mx]
    unfold slices_Clone_Lint_int.f
    have : (out.take most.toNat).length ≤ out.length := by rw [List.length_take]; omega
    rw [if_pos (by omega), List.drop_eq_nil_of_le (by omega)]
    simp [flat]
  | succ d ih =>
    intro k i out hd h1 ho hk
    obtain ⟨k, rfl⟩ : ∃ m, k = m + 1 := ⟨k - 1, by omega⟩
    have hi : i < x.length := by omega
    have hv := hr _ (List.getElem_mem hi)
    rw [value_Key.l0, if_pos (by omega), if_pos (by omega), if_pos (by omega), List.drop_eq_getElem_cons hi, flat_cons]
    by_cases hm : (out.length : Int) < most
    · rw [if_pos hm, rdV x i hi, ev_words k (by omega) out (by omega) _ hv]
      simp only [Option.bind_some]
      have := W_len hv
      rw [wrap_succ i (by omega), ih k (i + 1) _ (by omega) (by omega) (by rw [List.length_append]; omega) (by omega), List.append_assoc]
    · rw [if_neg hm, wrap_succ i (by omega), ih k (i + 1) _ (by omega) (by omega) (by omega) (by omega), List.take_append_of_le_length (by omega), List.take_append_of_le_length (by omega)]
theorem ev_Key (k : Nat) (hk : 150 ≤ k) (x : List V) (hx : Few x) (most : Int) : value_Key.f k x most = some ((flat x).take most.toNat) := by
  have := key_loop most x hx.1 hx.2 x.length k 0 [] (by omega) (by omega) (by simp) (by have := hx.1; omega)
  rw [Int.natCast_zero] at this
  exact this
theorem key_len (x : List V) (hx : Few x) (m : Nat) : ((flat x).take m).length ≤ 240 := by
  have := flat_len x hx.2
  have := hx.1
  rw [List.length_take]
  omega
end Go.Proofs.YtmhnfdgegejlkaaDoor.V
end

section
namespace Go.Proofs.YtmhnfdgegejlkaaDoor.V
open Go Go.RowKit Go.Proofs.YtmhnfdgegejlkaaDoor.P
set_option linter.unusedSimpArgs false
set_option linter.unusedVariables false
theorem cmpI_self (a : Int) : cmpI a a = 0 := tcI.refl a
theorem cmpI_lt {a b : Int} (h : a < b) : cmpI a b = -1 := by unfold cmpI; rw [if_pos h]
theorem cmpI_gt {a b : Int} (h : b < a) : cmpI a b = 1 := by unfold cmpI; rw [if_neg (by omega), if_pos h]
theorem lcmp_same (a : Int) (x y : List Int) : lcmp cmpI (a :: x) (a :: y) = lcmp cmpI x y := by unfold lcmp; rw [if_pos (cmpI_self a)]; cases x <;> cases y <;> rfl
theorem lcmp_ne {a b : Int} (h : a ≠ b) (x y : List Int) : lcmp cmpI (a :: x) (b :: y) = cmpI a b := by
  have : cmpI a b ≠ 0 := fun h' => h ((tcI.eq0 _ _).1 h')
  unfold lcmp
  rw [if_neg this]
theorem w4_cmp (a b c d n a' b' c' d' n' : Int) (ha : 0 ≤ a ∧ a < 256) (hb : 0 ≤ b ∧ b < 256) (hc : 0 ≤ c ∧ c < 256) (hd : 0 ≤ d ∧ d < 256) (hn : 0 ≤ n ∧ n < 256) (ha' : 0 ≤ a' ∧ a' < 256) (hb' : 0 ≤ b' ∧ b' < 256) (hc' : 0 ≤ c' ∧ c' < 256) (hd' : 0 ≤ d' ∧ d' < 256) (hn' : 0 ≤ n' ∧ n' < 256) :
    cmpI (w4 a b c d n) (w4 a' b' c' d' n') = lcmp cmpI [a, b, c, d, n] [a', b', c', d', n'] := by
  unfold w4
  have fin : ∀ {p q u v : Int}, (u < v → p < q) → (v < u → q < p) → u ≠ v → cmpI p q = cmpI u v := by
    intro p q u v h1 h2 h3
    rcases Int.lt_or_gt_of_ne h3 with h | h
    · rw [cmpI_lt h, cmpI_lt (h1 h)]
    · rw [cmpI_gt h, cmpI_gt (h2 h)]
  by_cases h1 : a = a'
  · subst h1; rw [lcmp_same]
    by_cases h2 : b = b'
    · subst h2; rw [lcmp_same]
      by_cases h3 : c = c'
      · subst h3; rw [lcmp_same]
        by_cases h4 : d = d'
        · subst h4; rw [lcmp_same]
          by_cases h5 : n = n'
          · subst h5; rw [lcmp_same, cmpI_self]; rfl
          · rw [lcmp_ne h5]; exact fin (by omega) (by omega) h5
        · rw [lcmp_ne h4]; exact fin (by omega) (by omega) h4
      · rw [lcmp_ne h3]; exact fin (by omega) (by omega) h3
    · rw [lcmp_ne h2]; exact fin (by omega) (by omega) h2
  · rw [lcmp_ne h1]; exact fin (by omega) (by omega) h1
def Bt (l : List Int) : Prop := ∀ b ∈ l, 0 ≤ b ∧ b < 256
def Pc : Nat → List Int → Int → List Int
  | 0, _, n => [n]
  | m + 1, [], n => 0 :: Pc m [] n
  | m + 1, b :: r, n => b :: Pc m r (n + 1)
def hd (l : List Int) : Int := w4 (l.getD 0 0) (l.getD 1 0) (l.getD 2 0) (l.getD 3 0) (if l.length < 4 then l.length else 4)
theorem tw_hd : ∀ l : List Int, tw l = hd l :: (if l.length < 4 then [] else tw (l.drop 4))
  | [] => rfl
  | [a] => rfl
  | [a, b] => rfl
  | [a, b, c] => rfl
  | a :: b :: c :: d :: r => by
    rw [if_neg (by simp only [List.length_cons]; omega)]
    unfold hd
    rw [if_neg (by simp only [List.length_cons]; omega)]
    rfl
theorem pc_hd : ∀ l : List Int, Pc 4 l 0 = [l.getD 0 0, l.getD 1 0, l.getD 2 0, l.getD 3 0, (if l.length < 4 then l.length else 4)]
  | [] => rfl
  | [a] => rfl
  | [a, b] => rfl
  | [a, b, c] => rfl
  | a :: b :: c :: d :: r => by
    rw [if_neg (by simp only [List.length_cons]; omega)]
    rfl
theorem Bt.getD {l : List Int} (h : Bt l) (i : Nat) : 0 ≤ l.getD i 0 ∧ l.getD i 0 < 256 := by
  rw [List.getD_eq_getElem?_getD]
  by_cases hi : i < l.length
  · rw [List.getElem?_eq_getElem hi]; exact h _ (List.getElem_mem hi)
  · rw [List.getElem?_eq_none (by omega)]; decide
theorem hd_cmp (s t : List Int) (hs : Bt s) (ht : Bt t) : cmpI (hd s) (hd t) = lcmp cmpI (Pc 4 s 0) (Pc 4 t 0) := by
  rw [pc_hd, pc_hd]
  exact w4_cmp _ _ _ _ _ _ _ _ _ _ (hs.getD 0) (hs.getD 1) (hs.getD 2) (hs.getD 3) (by split <;> omega) (ht.getD 0) (ht.getD 1) (ht.getD 2) (ht.getD 3) (by split <;> omega)
theorem Bt.tail {a : Int} {l : List Int} (h : Bt (a :: l)) : Bt l := fun b hb => h b (by simp [hb])
theorem pc_less : ∀ (m : Nat) (t : List Int) (n n' : Int), Bt t → n < n' → lcmp cmpI (Pc m [] n) (Pc m t n') = -1
  | 0, t, n, n', h, hn => by unfold Pc; rw [lcmp_ne (by omega), cmpI_lt hn]
  | m + 1, [], n, n', h, hn => by
    unfold Pc
    rw [lcmp_same]
    exact pc_less m [] n n' h hn
  | m + 1, b :: r, n, n', h, hn => by
    have hb := (h b (by simp)).1
    unfold Pc
    by_cases h0 : b = 0
    · subst h0; rw [lcmp_same]; exact pc_less m r n (n' + 1) h.tail (by omega)
    · rw [lcmp_ne (by omega), cmpI_lt (by omega)]
theorem pc_cmp : ∀ (m : Nat) (s t : List Int) (n : Int), Bt s → Bt t → (s.length < m ∨ t.length < m) → lcmp cmpI (Pc m s n) (Pc m t n) = lcmp cmpI s t
  | 0, s, t, n, hs, ht, h => by omega
  | m + 1, [], [], n, hs, ht, h => by rw [(tcL tcI).refl, (tcL tcI).refl]
  | m + 1, [], b :: r, n, hs, ht, h => by
    have hb := (ht b (by simp)).1
    have e : lcmp cmpI [] (b :: r) = -1 := by unfold lcmp; rfl
    rw [e]
    unfold Pc
    by_cases h0 : b = 0
    · subst h0; rw [lcmp_same]; exact pc_less m r n (n + 1) ht.tail (by omega)
    · rw [lcmp_ne (by omega), cmpI_lt (by omega)]
  | m + 1, b :: r, [], n, hs, ht, h => by
    have hb := (hs b (by simp)).1
    rw [(tcL tcI).sym (Pc (m + 1) [] n), (tcL tcI).sym [] (b :: r)]
    have e : lcmp cmpI [] (b :: r) = -1 := by unfold lcmp; rfl
    rw [e]
    congr 1
    unfold Pc
    by_cases h0 : b = 0
    · subst h0; rw [lcmp_same]; exact pc_less m r n (n + 1) hs.tail (by omega)
    · rw [lcmp_ne (by omega), cmpI_lt (by omega)]
  | m + 1, b :: r, c :: r', n, hs, ht, h => by
    unfold Pc
    by_cases h0 : b = c
    · subst h0; rw [lcmp_same, lcmp_same]; exact pc_cmp m r r' (n + 1) hs.tail ht.tail (by simp only [List.length_cons] at h; omega)
    · rw [lcmp_ne h0, lcmp_ne h0]
theorem lcmp_cons0 (a b : Int) (x y : List Int) : lcmp cmpI (a :: x) (b :: y) = if cmpI a b = 0 then lcmp cmpI x y else cmpI a b := by
  by_cases h : a = b
  · subst h; rw [lcmp_same, if_pos (cmpI_self a)]
  · rw [lcmp_ne h, if_neg (fun h' => h ((tcI.eq0 _ _).1 h'))]
theorem cmpI_ne {a b : Int} (h : a ≠ b) : cmpI a b ≠ 0 := fun h' => h ((tcI.eq0 _ _).1 h')
theorem tw_cmp (x y : List Int) : ∀ (n : Nat) (s t : List Int), s.length ≤ n → Bt s → Bt t → lcmp cmpI (tw s ++ x) (tw t ++ y) = if lcmp cmpI s t = 0 then lcmp cmpI x y else lcmp cmpI s t := by
  intro n
  induction n using Nat.strongRecOn with
  | _ n ih =>
    intro s t hn hs ht
    by_cases h4 : s.length < 4 ∨ t.length < 4
    · rw [tw_hd s, tw_hd t, List.cons_append, List.cons_append, lcmp_cons0, hd_cmp s t hs ht, pc_cmp 4 s t 0 hs ht h4]
      by_cases h0 : lcmp cmpI s t = 0
      · rw [if_pos h0, if_pos h0]
        have := ((tcL tcI).eq0 s t).1 h0
        subst this
        rw [if_pos (by omega), List.nil_append, List.nil_append]
      · rw [if_neg h0, if_neg h0]
    · match s, t, hs, ht, h4, hn with
      | a :: b :: c :: d :: r, a' :: b' :: c' :: d' :: r', hs, ht, h4, hn =>
        have h := hd_cmp (a :: b :: c :: d :: r) (a' :: b' :: c' :: d' :: r') hs ht
        rw [tw_hd (a :: b :: c :: d :: r), tw_hd (a' :: b' :: c' :: d' :: r'), List.cons_append, List.cons_append, lcmp_cons0, h]
        unfold Pc Pc Pc Pc Pc
        by_cases h1 : a = a'
        · subst h1; rw [lcmp_same, lcmp_same]
          by_cases h2 : b = b'
          · subst h2; rw [lcmp_same, lcmp_same]
            by_cases h3 : c = c'
            · subst h3; rw [lcmp_same, lcmp_same]
              by_cases h5 : d = d'
              · subst h5
                rw [(tcL tcI).refl, if_pos rfl, if_neg (by simp only [List.length_cons]; omega), if_neg (by simp only [List.length_cons]; omega), lcmp_same]
                exact ih r.length (by simp only [List.length_cons] at hn; omega) r r' (by omega) hs.tail.tail.tail.tail ht.tail.tail.tail.tail
              · rw [lcmp_ne h5, lcmp_ne h5, if_neg (cmpI_ne h5), if_neg (cmpI_ne h5)]
            · rw [lcmp_ne h3, lcmp_ne h3, if_neg (cmpI_ne h3), if_neg (cmpI_ne h3)]
          · rw [lcmp_ne h2, lcmp_ne h2, if_neg (cmpI_ne h2), if_neg (cmpI_ne h2)]
        · rw [lcmp_ne h1, lcmp_ne h1, if_neg (cmpI_ne h1), if_neg (cmpI_ne h1)]
      | [], t, _, _, h4, _ => exact absurd (Or.inl (by simp)) h4
      | [_], t, _, _, h4, _ => exact absurd (Or.inl (by simp)) h4
      | [_, _], t, _, _, h4, _ => exact absurd (Or.inl (by simp)) h4
      | [_, _, _], t, _, _, h4, _ => exact absurd (Or.inl (by simp)) h4
      | _ :: _ :: _ :: _ :: _, [], _, _, h4, _ => exact absurd (Or.inr (by simp)) h4
      | _ :: _ :: _ :: _ :: _, [_], _, _, h4, _ => exact absurd (Or.inr (by simp)) h4
      | _ :: _ :: _ :: _ :: _, [_, _], _, _, h4, _ => exact absurd (Or.inr (by simp)) h4
      | _ :: _ :: _ :: _ :: _, [_, _, _], _, _, h4, _ => exact absurd (Or.inr (by simp)) h4
theorem cmpU_I (a b : UInt8) : cmpU a b = cmpI (a.toNat : Int) (b.toNat : Int) := by
  unfold cmpU cmpI
  simp only [UInt8.lt_iff_toNat_lt, Int.ofNat_lt]
theorem bts_cmp : ∀ a b : List UInt8, lcmp cmpU a b = lcmp cmpI (a.map fun b => (b.toNat : Int)) (b.map fun b => (b.toNat : Int))
  | [], [] => rfl
  | [], _ :: _ => rfl
  | _ :: _, [] => rfl
  | a :: x, b :: y => by
    rw [List.map_cons, List.map_cons, lcmp_cons0, ← cmpU_I, ← bts_cmp x y]
    conv => lhs; unfold lcmp
theorem cmpS_bts (s t : ByteArray) : cmpS s t = lcmp cmpI (bts s) (bts t) := by unfold cmpS; rw [compareBytes_eq, bts_cmp]; rfl
theorem W_cmp (u v : V) (hu : Rt u) (hv : Rt v) (x y : List Int) : lcmp cmpI (W u ++ x) (W v ++ y) = if vcmp u v = 0 then lcmp cmpI x y else vcmp u v := by
  have hW : ∀ {v : V}, Rt v → ∃ r, W v = v.f0 :: r := by
    intro v h
    unfold W
    by_cases h1 : v.f0 = 1
    · rw [if_pos h1]; exact ⟨_, by rw [h1]⟩
    · rw [if_neg h1]
      by_cases h3 : v.f0 = 3
      · rw [if_pos h3]; exact ⟨_, by rw [h3]⟩
      · rw [if_neg h3]
        by_cases h0 : v.f0 = 0
        · rw [if_pos h0]; exact ⟨[], by rw [h0]⟩
        · rw [if_neg h0]
          have := h.kind
          exact ⟨_, by rw [show v.f0 = 2 from by omega]⟩
  by_cases hk : u.f0 = v.f0
  · have k0 : cmpI u.f0 v.f0 = 0 := (tcI.eq0 _ _).2 hk
    have hc : vcmp u v = if cmpI u.f1 v.f1 = 0 then cmpS u.f2 v.f2 else cmpI u.f1 v.f1 := by unfold vcmp cmp2; simp only []; rw [if_pos k0]
    rw [hc]
    unfold W
    rw [← hk]
    rcases hu with hu | hu | hu | hu
    · have hv' : v.f1 = 0 ∧ v.f2 = e0 := by rcases hv with hv | hv | hv | hv <;> first | exact hv.2 | (exfalso; omega)
      rw [if_neg (by omega), if_neg (by omega), if_pos hu.1, if_neg (by omega), if_neg (by omega), if_pos hu.1, hu.2.1, hu.2.2, hv'.1, hv'.2, cmpI_self, if_pos rfl, tcS.refl, if_pos rfl]
      exact lcmp_same _ _ _
    · have hv' : v.f2 = e0 := by rcases hv with hv | hv | hv | hv <;> first | exact hv.2.2.2 | (exfalso; omega)
      rw [if_pos hu.1, if_pos hu.1, hu.2.2.2, hv', tcS.refl]
      simp only [List.cons_append, List.nil_append]
      rw [lcmp_same]
      by_cases h : u.f1 = v.f1
      · rw [h, lcmp_same, cmpI_self, if_pos rfl, if_pos rfl]
      · rw [lcmp_ne (by omega), if_neg (cmpI_ne h), if_neg (cmpI_ne h)]
        unfold cmpI
        by_cases h1 : u.f1 < v.f1
        · rw [if_pos h1, if_pos (by omega)]
        · rw [if_neg h1, if_neg (by omega), if_pos (by omega), if_pos (by omega)]
    · have hv' : v.f1 = 0 := by rcases hv with hv | hv | hv | hv <;> first | exact hv.2.1 | (exfalso; omega)
      rw [if_neg (by omega), if_neg (by omega), if_neg (by omega), if_neg (by omega), if_neg (by omega), if_neg (by omega), hu.2.1, hv', cmpI_self, if_pos rfl, List.cons_append, List.cons_append, lcmp_same, tw_cmp x y _ _ _ (Nat.le_refl _) (bts_rng _) (bts_rng _), ← cmpS_bts]
    · have hv' : v.f2 = e0 := by rcases hv with hv | hv | hv | hv <;> first | exact hv.2.2 | (exfalso; omega)
      rw [if_neg (by omega), if_pos hu.1, if_neg (by omega), if_pos hu.1, hu.2.2, hv', tcS.refl]
      simp only [List.cons_append, List.nil_append]
      rw [lcmp_same]
      by_cases h : u.f1 = v.f1
      · rw [h, lcmp_same, cmpI_self, if_pos rfl, if_pos rfl]
      · rw [lcmp_ne h, if_neg (cmpI_ne h), if_neg (cmpI_ne h)]
  · obtain ⟨p, hp⟩ := hW hu
    obtain ⟨q, hq⟩ := hW hv
    have hc : vcmp u v = cmpI u.f0 v.f0 := by unfold vcmp cmp2; simp only []; rw [if_neg (cmpI_ne hk)]
    rw [hp, hq, hc, List.cons_append, List.cons_append, lcmp_ne hk, if_neg (cmpI_ne hk)]
theorem flat_cmp : ∀ a b : List V, (∀ v ∈ a, Rt v) → (∀ v ∈ b, Rt v) → lcmp cmpI (flat a) (flat b) = lcmp vcmp a b
  | [], [], _, _ => rfl
  | [], v :: b, _, hb => by
    rw [flat_cons]
    have : ∃ c r, W v = c :: r := by unfold W; (repeat' split) <;> exact ⟨_, _, rfl⟩
    obtain ⟨c, r, e⟩ := this
    rw [e]; rfl
  | v :: a, [], ha, _ => by
    rw [flat_cons]
    have : ∃ c r, W v = c :: r := by unfold W; (repeat' split) <;> exact ⟨_, _, rfl⟩
    obtain ⟨c, r, e⟩ := this
    rw [e]; rfl
  | u :: a, v :: b, ha, hb => by
    rw [flat_cons, flat_cons, W_cmp u v (ha _ (by simp)) (hb _ (by simp)), flat_cmp a b (fun w hw => ha w (by simp [hw])) (fun w hw => hb w (by simp [hw]))]
    conv => rhs; unfold lcmp
theorem lcmp_take (m : Nat) : ∀ p q : List Int, lcmp cmpI (p.take m) (q.take m) = 0 ∨ lcmp cmpI (p.take m) (q.take m) = lcmp cmpI p q := by
  induction m with
  | zero => intro p q; left; rw [List.take_zero, List.take_zero]; rfl
  | succ m ih =>
    intro p q
    cases p with
    | nil => cases q with
      | nil => right; rfl
      | cons b q => right; rfl
    | cons a p => cases q with
      | nil => right; rfl
      | cons b q =>
        rw [List.take_succ_cons, List.take_succ_cons]
        by_cases h : a = b
        · subst h; rw [lcmp_same, lcmp_same]; exact ih p q
        · rw [lcmp_ne h, lcmp_ne h]; right; rfl
theorem tw_rng : ∀ l : List Int, Bt l → ∀ w ∈ tw l, 0 ≤ w ∧ w ≤ 1099511627775
  | [], h => by intro w hw; simp only [tw, List.mem_singleton] at hw; subst hw; unfold w4; omega
  | [a], h => by have := h a (by simp); intro w hw; simp only [tw, List.mem_singleton] at hw; subst hw; unfold w4; omega
  | [a, b], h => by have := h a (by simp); have := h b (by simp); intro w hw; simp only [tw, List.mem_singleton] at hw; subst hw; unfold w4; omega
  | [a, b, c], h => by have := h a (by simp); have := h b (by simp); have := h c (by simp); intro w hw; simp only [tw, List.mem_singleton] at hw; subst hw; unfold w4; omega
  | a :: b :: c :: d :: r, h => by
    have := h a (by simp); have := h b (by simp); have := h c (by simp); have := h d (by simp)
    intro w hw
    simp only [tw, List.mem_cons] at hw
    rcases hw with rfl | hw
    · unfold w4; omega
    · exact tw_rng r h.tail.tail.tail.tail w hw
theorem W_rng (v : V) (h : Rt v) : ∀ w ∈ W v, 0 ≤ w ∧ w ≤ 1099511627775 := by
  intro w hw
  unfold W at hw
  rcases h with h | h | h | h
  · rw [if_neg (by omega), if_neg (by omega), if_pos h.1, List.mem_singleton] at hw; omega
  · rw [if_pos h.1] at hw
    simp only [List.mem_cons, List.not_mem_nil, or_false] at hw
    omega
  · rw [if_neg (by omega), if_neg (by omega), if_neg (by omega), List.mem_cons] at hw
    rcases hw with rfl | hw
    · omega
    · exact tw_rng _ (bts_rng _) w hw
  · rw [if_neg (by omega), if_pos h.1] at hw
    simp only [List.mem_cons, List.not_mem_nil, or_false] at hw
    omega
theorem flat_rng (l : List V) (h : ∀ v ∈ l, Rt v) : ∀ w ∈ flat l, 0 ≤ w ∧ w ≤ 1099511627775 := by
  intro w hw
  unfold flat at hw
  rw [List.mem_flatMap] at hw
  obtain ⟨v, hv, hw⟩ := hw
  exact W_rng v (h v hv) w hw
end Go.Proofs.YtmhnfdgegejlkaaDoor.V
end

section
namespace Go.Proofs.YtmhnfdgegejlkaaDoor.V
open Go Go.RowKit Go.Proofs.YtmhnfdgegejlkaaDoor.P Go.Proofs.YtmhnfdgegejlkaaDoorW.PrintWords
set_option linter.unusedSimpArgs false
set_option linter.unusedVariables false
theorem sameRow_loop (x y : List V) (hx : x.length ≤ 20) (hy : x.length ≤ y.length) (d : Nat) : ∀ (k i : Nat), x.length - i = d → i ≤ x.length → d + 1 ≤ k → ∃ r, alumref19_Same.l0 k x y i = some r := by
  induction d with
  | zero =>
    intro k i hd h1 hk
    obtain ⟨k, rfl⟩ : ∃ m, k = m + 1 := ⟨k - 1, by omega⟩
    exact ⟨true, by rw [alumref19_Same.l0, if_neg (by omega)]⟩
  | succ d ih =>
    intro k i hd h1 hk
    obtain ⟨k, rfl⟩ : ∃ m, k = m + 1 := ⟨k - 1, by omega⟩
    rw [alumref19_Same.l0, if_pos (by omega), if_pos (by omega), if_pos (by omega)]
    split
    · exact ⟨false, rfl⟩
    · rw [wrap_succ i (by omega)]
      exact ih k (i + 1) (by omega) (by omega) (by omega)
theorem ev_Same_some (k : Nat) (hk : 30 ≤ k) (x y : List V) (hx : x.length ≤ 20) : ∃ r, alumref19_Same.f k x y = some r := by
  unfold alumref19_Same.f
  by_cases h : (x.length : Int) = (y.length : Int)
  · rw [if_pos h]
    have := sameRow_loop x y hx (by omega) x.length k 0 (by omega) (by omega) (by omega)
    rw [Int.natCast_zero] at this
    exact this
  · rw [if_neg h]; exact ⟨false, rfl⟩
theorem keep_loop (a b : List V) (ha : Few a) (hb : Few b) (d : Nat) : ∀ (k i : Nat), (flat a).length - i = d → i ≤ (flat a).length → d + 1200 ≤ k →
    alumlaw19_ValueKeysKeepOrder.l0 k a b (lcmp vcmp a b) (flat a) (flat b) (flat a) (flat a).length i = some true := by
  have hl : (flat a).length ≤ 240 := by have := flat_len a ha.2; have := ha.1; omega
  have hc : ∀ k, 1100 ≤ k → value_CompareKeys.f k (flat a) (flat b) = some (lcmp vcmp a b) := fun k hk => by rw [ev_CompareKeys k (by omega) _ _ (by omega), flat_cmp a b ha.2 hb.2]
  induction d with
  | zero =>
    intro k i hd h1 hk
    obtain ⟨k, rfl⟩ : ∃ m, k = m + 1 := ⟨k - 1, by omega⟩
    rw [alumlaw19_ValueKeysKeepOrder.l0, if_neg (by omega)]
    have h20 := ha.1
    have h20' := hb.1
    by_cases h : (b.length : Int) < (a.length : Int)
    · rw [if_pos h, if_pos (by omega), if_pos (by omega), if_pos (by omega)]
      obtain ⟨r, hr⟩ := ev_Same_some k (by omega) (a.take ((b.length : Int) : Int).toNat) (b.take ((b.length : Int) : Int).toNat) (by rw [List.length_take]; omega)
      rw [hr]
      simp only [Option.bind_some, ev_sanity k (by omega), if_true, hc k (by omega), beq_self_eq_true]
      cases r <;> simp
    · rw [if_neg h, if_pos (by omega), if_pos (by omega), if_pos (by omega)]
      obtain ⟨r, hr⟩ := ev_Same_some k (by omega) (a.take ((a.length : Int) : Int).toNat) (b.take ((a.length : Int) : Int).toNat) (by rw [List.length_take]; omega)
      rw [hr]
      simp only [Option.bind_some, ev_sanity k (by omega), if_true, hc k (by omega), beq_self_eq_true]
      cases r <;> simp
  | succ d ih =>
    intro k i hd h1 hk
    obtain ⟨k, rfl⟩ : ∃ m, k = m + 1 := ⟨k - 1, by omega⟩
    have hi : i < (flat a).length := by omega
    have hw := flat_rng a ha.2 _ (List.getElem_mem hi)
    rw [alumlaw19_ValueKeysKeepOrder.l0, if_pos (by omega), if_pos (by omega), if_pos (by omega), rdI _ i hi, if_neg (by omega), if_neg (by omega), wrap_succ i (by omega)]
    exact ih k (i + 1) (by omega) (by omega) (by omega)
theorem ValueKeysKeepOrder : alumlaw19_ValueKeysKeepOrder.Pure := by
  intro a b most ga gb gm
  refine ⟨2000, ?_⟩
  unfold alumlaw19_ValueKeysKeepOrder.f
  have hs : alumlaw19_ValueKeysKeepOrder.j0 2000 a b most true = some true := by rw [alumlaw19_ValueKeysKeepOrder.j0, if_pos rfl, ev_sanity _ (by omega)]; rfl
  obtain ⟨fa, ha, ha'⟩ := ev_few 2000 (by omega) a
  obtain ⟨fb, hb, hb'⟩ := ev_few 2000 (by omega) b
  rw [ha, hb]
  simp only [Option.bind_some]
  cases fa with
  | false => exact hs
  | true =>
    rw [if_pos rfl]
    cases fb with
    | false => exact hs
    | true =>
      have ra := ha'.1 rfl
      have rb := hb'.1 rfl
      have h20 := ra.1
      have la := key_len a ra most.toNat
      have lb := key_len b rb most.toNat
      rw [alumlaw19_ValueKeysKeepOrder.j0, if_neg (by simp), ev_CompareRows _ a b (by omega) (by omega)]
      simp only [Option.bind_some]
      rw [ev_Key _ (by omega) a ra, ev_Key _ (by omega) b rb]
      simp only [Option.bind_some]
      rw [ev_CompareKeys _ (by omega) _ _ (by omega)]
      simp only [Option.bind_some]
      have hj : alumlaw19_ValueKeysKeepOrder.j1 1999 a b (lcmp vcmp a b) false = some true := by
        rw [alumlaw19_ValueKeysKeepOrder.j1, if_neg (by simp), ev_Key _ (by omega) a ra, ev_Key _ (by omega) b rb]
        simp only [Option.bind_some]
        have l1 := flat_len a ra.2
        have l2 := flat_len b rb.2
        have := rb.1
        rw [List.take_of_length_le (by omega), List.take_of_length_le (by omega)]
        have := keep_loop a b ra rb (flat a).length 1998 0 (by omega) (by omega) (by omega)
        rw [Int.natCast_zero] at this
        exact this
      have hp : ¬ wrap64 (lcmp cmpI ((flat a).take most.toNat) ((flat b).take most.toNat) * lcmp vcmp a b) < 0 := by
        rw [← flat_cmp a b ra.2 rb.2]
        have hb := (tcL tcI).rng (flat a) (flat b)
        rcases lcmp_take most.toNat (flat a) (flat b) with h | h
        · rw [h, Int.zero_mul, wrap64_id (by omega) (by omega)]; omega
        · rw [h]
          rcases hb with hb | hb | hb <;> rw [hb, wrap64_id (by omega) (by omega)] <;> omega
      rw [if_neg hp]
      have ht : ((flat a).take most.toNat).length ≤ most.toNat := by rw [List.length_take]; omega
      by_cases hm : most < 0
      · rw [if_pos hm, decide_eq_false (by omega)]; exact hj
      · rw [if_neg hm, decide_eq_false (by omega)]; exact hj
end Go.Proofs.YtmhnfdgegejlkaaDoor.V
end

section
namespace Go.Proofs.YtmhnfdgegejlkaaDoor.valueKeysKeepOrder
open Go Go.ChangeShapes Go.WideShapes Go.ChangeAt Go.RowKit Go.Proofs.YtmhnfdgegejlkaaDoor.P Go.Proofs.YtmhnfdgegejlkaaDoorW.PrintWords
open Go.ChangeMaps (open_string shut_string)
set_option linter.unusedVariables false
theorem own : ownKnob Tryd.prog.godebug = none := by kernel_rfl
theorem laidOut : laidOutB Tryd.prog = true := by kernel_rfl
theorem door_met (os : Os) (args : Array Value) : laidMetH Tryd.prog Rows.valueKeysKeepOrderRow.laid ((World.doorLaid Tryd.prog 72 os).forCall (fun _ _ => 0) ⟨#[], args, []⟩).memory :=
  laidMetH_of_parts3 (fuel := 8) (laidMet_of_run' 8 (by kernel_rfl) (by kernel_rfl)) (by kernel_rfl) (by kernel_rfl)
set_option maxRecDepth 100000 in
set_option maxHeartbeats 4000000 in
theorem lifted (os : Os) (started : os.Started) (H : Type) (enc : TypeId × Value → H) :
    ReturnsInHanded {} Tryd.checked os 8 .any (fun w args => (Rows.valueKeysKeepOrderSpec.pre enc Tryd.prog Tryd.f8 [] false w args ∧ laidMetH Tryd.prog Rows.valueKeysKeepOrderRow.laid w) ∧ sizedMet enc Tryd.prog Tryd.f8 (OpenSpec.ofChange Rows.valueKeysKeepOrderSpec) false w args)
      (Rows.valueKeysKeepOrderSpec.post enc Tryd.prog Tryd.f8 false true false false) := by
  refine returnsInHanded_of_change_and (C := Tryd.checked) (X := fun w _ => laidMetH Tryd.prog Rows.valueKeysKeepOrderRow.laid w) (fun _ _ _ hh h => h.of_heap hh) own started (by kernel_rfl) Tryd.func8
    (ChangeSpec.witness_shaped (enc := enc) (C := Tryd.checked) (os := os) (X := fun w _ => laidMetH Tryd.prog Rows.valueKeysKeepOrderRow.laid w) false (World.doorLaid Tryd.prog 72 os) #[.slice none 0 0, .slice none 0 0, .int .i64 0] 8 rfl (World.shaped_of_RefB (by kernel_rfl) (by kernel_rfl)) (by kernel_rfl) (by kernel_rfl) (by kernel_rfl) (door_met os _)) ?_
  intro W base args ds gs before hval0 hW hcnd hsz0 hL _
  have hsz : (DataW.weightsEach Tryd.prog (Tryd.f8.params.toList ++ Rows.valueKeysKeepOrderSpec.plain.varTypes Tryd.prog) (ds ++ gs)).all (· ≤ reachBytes) = true := hsz0
  have hval : ∀ (j : Nat) t v, Tryd.f8.params[j]? = some t → args[j]? = some v → Value.okWide Tryd.prog W .any base t v := hval0
  have hW' := hW
  obtain ⟨p, q, hA0, hV, rfl, hfz, hnd⟩ := hW
  have hA : DataW.TrodAll enc Tryd.prog W 0 (fun _ => true) true Tryd.f8.params.toList args.toList ds p := hA0
  rw [Tryd.params8] at hA hval hsz
  obtain ⟨v0, vs0, d0, ds0, p0, q0, hargs, rfl, rfl, h0, r0⟩ := trodAll_cons hA
  obtain ⟨v1, vs1, d1, ds1, p1, q1, rfl, rfl, rfl, h1, r1⟩ := trodAll_cons r0
  obtain ⟨v2, vs2, d2, ds2, p2, q2, rfl, rfl, rfl, h2, r2⟩ := trodAll_cons r1
  obtain ⟨rfl, rfl, rfl⟩ := trodAll_nil r2
  obtain rfl : args = #[v0, v1, v2] := Array.toList_inj.1 hargs
  obtain ⟨rfl, rfl⟩ := trodVars_none hV
  have wt0 : ∀ m ∈ d0.weights Tryd.prog 39, m ≤ reachBytes := fun m hm => of_decide_eq_true (List.all_eq_true.1 hsz m (DataW.weights_mem_each (j := 0) rfl rfl m hm))
  have k0 := h0
  have lt0 : ∀ x ∈ p0, x.block < W.heap.size := by obtain ⟨m, hm⟩ := k0; exact DataW.trod_lt m _ _ _ hm
  obtain ⟨a0, len0, cap0, rfl⟩ := okWide_slice Tryd.underlying39 (hval 0 39 v0 rfl rfl)
  obtain ⟨fu0, hf0⟩ := h0
  obtain ⟨x0, K0, g0⟩ := (op39 enc W).2 fu0 _ _ _ hf0 wt0
  obtain ⟨A0, c0, e0, hc0, hr0⟩ := K0
  obtain ⟨rfl, rfl, rfl⟩ : A0 = a0 ∧ len0 = x0.length ∧ c0 = cap0 := by have := Value.slice.inj (List.head_eq_of_cons_eq e0); exact ⟨this.1.symm, this.2.1, this.2.2.symm⟩
  have wt1 : ∀ m ∈ d1.weights Tryd.prog 39, m ≤ reachBytes := fun m hm => of_decide_eq_true (List.all_eq_true.1 hsz m (DataW.weights_mem_each (j := 1) rfl rfl m hm))
  have k1 := h1
  have lt1 : ∀ x ∈ p1, x.block < W.heap.size := by obtain ⟨m, hm⟩ := k1; exact DataW.trod_lt m _ _ _ hm
  obtain ⟨a1, len1, cap1, rfl⟩ := okWide_slice Tryd.underlying39 (hval 1 39 v1 rfl rfl)
  obtain ⟨fu1, hf1⟩ := h1
  obtain ⟨x1, K1, g1⟩ := (op39 enc W).2 fu1 _ _ _ hf1 wt1
  obtain ⟨A1, c1, e1, hc1, hr1⟩ := K1
  obtain ⟨rfl, rfl, rfl⟩ : A1 = a1 ∧ len1 = x1.length ∧ c1 = cap1 := by have := Value.slice.inj (List.head_eq_of_cons_eq e1); exact ⟨this.1.symm, this.2.1, this.2.2.symm⟩
  have wt2 : ∀ m ∈ d2.weights Tryd.prog 3, m ≤ reachBytes := fun m hm => of_decide_eq_true (List.all_eq_true.1 hsz m (DataW.weights_mem_each (j := 2) rfl rfl m hm))
  have k2 := h2
  obtain ⟨fu2, hf2⟩ := h2
  obtain ⟨x2, K2, g2⟩ := (op3 enc W).2 fu2 _ _ _ hf2 wt2
  obtain ⟨y2, rfl, rfl, rfl, w2⟩ := open_int Tryd.underlying3 (hval 2 3 v2 rfl rfl) k2
  obtain rfl : x2 = y2 := (Value.int.inj (List.head_eq_of_cons_eq K2)).2.symm
  clear hA0 hval0 hsz0 hsz
  obtain ⟨k, h⟩ := V.ValueKeysKeepOrder x0 x1 x2 g0 g1 g2
  refine (alumlaw19_ValueKeysKeepOrder.calls k _ _ x0 _ _ x1 x2 true W hr0 hc0 hr1 hc1 h).mono fun e W' ⟨he, bel⟩ => ?_
  subst he
  exact ⟨_, rfl, _, _, _, [], _, [], hW', trodAll_mk1 (shut_bool Tryd.underlying4 _), (trodAll_cons_mk (Below.trod laidOut (by kernel_rfl) (of_decide_eq_true (by kernel_rfl)) k0 bel lt0) (trodAll_cons_mk (Below.trod laidOut (by kernel_rfl) (of_decide_eq_true (by kernel_rfl)) k1 bel lt1) (trodAll_cons_mk (shut_int Tryd.underlying3 w2) trodAll_mk0))), rfl, bel.frame _, fun h => by cases h⟩
theorem over : Rows.valueKeysKeepOrderRow.holds Tryd.pinned (OpenSpec.ofChange Rows.valueKeysKeepOrderSpec) :=
  OpenClaim.holds_of_wide 8 Tryd.f8 rfl rfl rfl rfl rfl rfl rfl ⟨rfl, rfl, rfl, rfl, rfl⟩ rfl rfl rfl rfl rfl (by kernel_rfl) Tryd.func8 (by kernel_rfl)
    (of_decide_eq_true (by kernel_rfl)) (by unfold Func.isWrapper; first | (rw [if_pos (by decide +kernel)]; kernel_rfl) | (rw [if_neg (by decide +kernel)]; exact ⟨rfl, rfl⟩))
    (fun os started H enc _ => lifted os started H enc)
theorem proved : Rows.ValueKeysKeepOrderSaid := over
theorem card : Rows.ValueKeysKeepOrderCardSaid :=
  Claim7.holds_tied_plain_at .later [] [.data, .data, .data] true (true, "eaa6d28c6d451e0ea154fbe0a4847d0661ee0ec78c71484efcf210b047928753") true
    proved (fun _ h => by cases h) (by kernel_rfl) (fun _ h => by cases h) valueKeysKeepOrder_row_tie rfl ⟨rfl, rfl⟩ (by kernel_rfl) rfl
    (fun f fn hf hfn => by
      obtain rfl : f = 8 := Option.some.inj ((show Tryd.prog.funcNamed "alum/alumlaw19.ValueKeysKeepOrder" = some 8 by kernel_rfl).symm.trans hf) |>.symm
      obtain rfl : fn = Tryd.f8 := (Option.some.inj (Tryd.func8.symm.trans hfn)).symm
      exact ⟨by kernel_rfl, fun j t ht => by
        rw [Tryd.params8] at ht
        have hm : t ∈ [39, 39, 3] := by simpa using Array.mem_of_getElem? ht
        have hall : ([39, 39, 3].all fun u => !Tryd.prog.wantsStandIn u) = true := by kernel_rfl
        exact (show Tryd.prog.wantsStandIn t = false by simpa using List.all_eq_true.1 hall t hm)⟩)
    (by kernel_rfl)
#print axioms card
end Go.Proofs.YtmhnfdgegejlkaaDoor.valueKeysKeepOrder
end
