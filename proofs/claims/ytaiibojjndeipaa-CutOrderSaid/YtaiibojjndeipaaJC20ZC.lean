/- Parts of the proof: C20ZC, C20ZD, C20S. -/
import Derived.Test.YtaiibojjndeipaaJC20E
import Derived.Test.YtaiibojjndeipaaAbsSort
import Derived.Test.YtaiibojjndeipaaAbsForce
import Derived.KernelRfl
set_option linter.all false
/- Walks of chapter 20: insertion sort of numbers. -/
set_option linter.unusedSimpArgs false
set_option linter.unusedVariables false
set_option maxRecDepth 100000
set_option maxHeartbeats 4000000
namespace Go.Abs
open Go

abbrev stI (σ : Sto) (o : Nat) (nl : Bool) (D : List Int) : Sto := σ.set o (.cells nl (D.map fun n => .int .i64 n))
theorem stI_get {σ : Sto} {o : Nat} {nl : Bool} {D : List Int} (h : o < σ.length) : (stI σ o nl D)[o]? = some (.cells nl (D.map fun n => .int .i64 n)) := List.getElem?_set_self h
theorem stI_set {σ : Sto} {o : Nat} {nl : Bool} {D D' : List Int} : (stI σ o nl D).set o (.cells nl (D'.map fun n => .int .i64 n)) = stI σ o nl D' := List.set_set ..

/-- what the comparing function answers, whatever the numbers stand at -/
def CmpI (σ : Sto) (o : Nat) (nl : Bool) (g : FuncId) (fs cs : List AVal) (r : Int → Int → Bool) (p : Int → Prop) : Prop := ∀ (x y : Int) (D : List Int), p x → p y → ∃ c : Int, decide (c < 0) = r x y ∧ ∀ {Q : Post3} {k : List Item} {os : List AOper} {d : Option Nat} {e : Env},
  CallK T Q k os d e (stI σ o nl D) true g (fs ++ [.int .i64 x, .int .i64 y] ++ cs) ↔ Run T Q (.ops os :: k) (put e d (.int .i64 c)) (stI σ o nl D)

theorem ins_b1 {σ : Sto} {o n i : Nat} {nl : Bool} {g : FuncId} {fs cs : List AVal} {r : Int → Int → Bool} {p : Int → Prop} {Q : Post3} (ho : o < σ.length) (hc : CmpI σ o nl g fs cs r p) (hn : n < 1000) {x : Int} (hx : p x)
    {F : List Int} (next : Run T Q (.inLoop slices_insertionSortCmpFunc_int.b0 :: slices_insertionSortCmpFunc_int.k0) (mkE 53 [(0, .ref o n 0 n 1), (1, .int .i64 0), (2, .int .i64 n), (3, .clo (.func g) fs cs), (8, .int .i64 ((i + 1 : Nat) : Int))]) (stI σ o nl F)) (hi : i < n) :
    ∀ (Pr S : List Int), (∀ y ∈ Pr, p y) → Pr.length + 1 + S.length = n → F = (insR r x Pr).reverse ++ S →
    Run T Q (.inLoop slices_insertionSortCmpFunc_int.b1 :: slices_insertionSortCmpFunc_int.k1) (mkE 53 [(0, .ref o n 0 n 1), (1, .int .i64 0), (2, .int .i64 n), (3, .clo (.func g) fs cs), (8, .int .i64 i), (9, .int .i64 Pr.length)]) (stI σ o nl (Pr.reverse ++ x :: S))
  | [], S, _, hl, hF => by
    rw [run_round, run_unfold slices_insertionSortCmpFunc_int.b1.eq_1]
    subst hF
    simp (maxSteps := 2000000) only [go_sem, ↓reduceIte, Nat.reduceLT, Nat.reduceEqDiff, Nat.reduceLeDiff, Nat.reduceAdd, Nat.reduceSub, Nat.reduceMul, Int.reduceLT, Int.reduceLE, Int.reduceEq, Int.reduceNeg, run_unfold slices_insertionSortCmpFunc_int.c0.eq_1, run_unfold slices_insertionSortCmpFunc_int.c1.eq_1, slices_insertionSortCmpFunc_int.k0, slices_insertionSortCmpFunc_int.k1, wrap_succ (show i < 9223372036854775807 by omega), List.length_nil, Int.natCast_zero, Int.ofNat_zero]
    exact next
  | y :: Pr, S, hp, hl, hF => by
    rw [run_round, run_unfold slices_insertionSortCmpFunc_int.b1.eq_1]
    have hy := hp y (by simp)
    simp only [List.length_cons] at hl
    obtain ⟨D, hD⟩ : ∃ D, D = (y :: Pr).reverse ++ x :: S := ⟨_, rfl⟩
    have hDl : D.length = n := by rw [hD]; simp; omega
    have e0 : D = Pr.reverse ++ y :: x :: S := by rw [hD]; simp
    have h1 : Pr.length + 1 < D.length := by omega
    have h2 : Pr.length < D.length := by omega
    have g1 : D[Pr.length + 1] = x := by
      have : D[Pr.length + 1]? = some x := by rw [e0, List.getElem?_append_right (by simp)]; simp
      rw [List.getElem?_eq_getElem h1] at this; exact Option.some.inj this
    have g2 : D[Pr.length] = y := by
      have : D[Pr.length]? = some y := by rw [e0, List.getElem?_append_right (by simp)]; simp
      rw [List.getElem?_eq_getElem h2] at this; exact Option.some.inj this
    obtain ⟨c, hcr, hcall⟩ := hc x y D hx hy
    have hw : IntKind.i64.wrap (((Pr.length + 1 : Nat) : Int) - 1) = ((Pr.length : Nat) : Int) := by rw [wrap_i64 (by omega) (by omega)]; omega
    have hpos : (0 : Int) < ((Pr.length + 1 : Nat) : Int) := by omega
    rw [← hD]
    have hget := stI_get (nl := nl) (D := D) ho
    cases hr : r x y
    · have hcn : ¬ c < 0 := by simpa [hr] using hcr
      simp (maxSteps := 2000000) only [go_sem, ↓reduceIte, Nat.reduceLT, Nat.reduceEqDiff, Nat.reduceLeDiff, Nat.reduceAdd, Nat.reduceSub, Nat.reduceMul, Int.reduceLT, Int.reduceLE, Int.reduceEq, Int.reduceNeg, List.length_cons, hpos, hget, hDl, h1, h2, show Pr.length + 1 < n by omega, show Pr.length < n by omega, g1, g2, hw, hcall, hcn, run_unfold slices_insertionSortCmpFunc_int.c0.eq_1, run_unfold slices_insertionSortCmpFunc_int.c1.eq_1, slices_insertionSortCmpFunc_int.k0, slices_insertionSortCmpFunc_int.k1, wrap_succ (show i < 9223372036854775807 by omega)]
      have : F = D := by rw [hF, insR, if_neg (by rw [hr]; decide), hD]; simp
      rw [this] at next
      exact next
    · have hcn : c < 0 := by simpa [hr] using hcr
      have hk1 : Pr.length + 1 + 1 ≤ n := by omega
      have hk2 : Pr.length + 1 ≤ n := by omega
      have hget2 := stI_get (nl := nl) (D := D.set (Pr.length + 1) y) ho
      have h2' : Pr.length < (D.set (Pr.length + 1) y).length := by rw [List.length_set]; exact h2
      simp (maxSteps := 2000000) only [go_sem, ↓reduceIte, Nat.reduceLT, Nat.reduceEqDiff, Nat.reduceLeDiff, Nat.reduceAdd, Nat.reduceSub, Nat.reduceMul, Int.reduceLT, Int.reduceLE, Int.reduceEq, Int.reduceNeg, List.length_cons, hpos, hget, hget2, hDl, h1, h2, h2', show Pr.length + 1 < n by omega, show Pr.length < n by omega, g1, g2, hw, hcall, hcn, hk1, hk2, stI_set, List.length_set, List.length_map]
      have e1 : (D.set (Pr.length + 1) y).set Pr.length x = Pr.reverse ++ x :: y :: S := by
        rw [e0, show Pr.reverse ++ y :: x :: S = (Pr.reverse ++ [y]) ++ x :: S by simp, List.set_append_right _ _ (by simp), show Pr.length + 1 - (Pr.reverse ++ [y]).length = 0 by simp, List.set_cons_zero,
          List.append_assoc, List.set_append_right _ _ (by simp), show Pr.length - Pr.reverse.length = 0 by simp]
        simp
      rw [e1]
      refine ins_b1 ho hc hn hx next hi Pr (y :: S) (fun z hz => hp z (by simp [hz])) (by simp; omega) ?_
      rw [hF, insR, if_pos hr]
      simp

theorem ins_b0 {σ : Sto} {o n : Nat} {nl : Bool} {g : FuncId} {fs cs : List AVal} {r : Int → Int → Bool} {p : Int → Prop} {R : Post} (ho : o < σ.length) (hc : CmpI σ o nl g fs cs r p) (hn : n < 1000) {F : List Int}
    (next : R (.tup []) (stI σ o nl F)) : ∀ (S : List Int) (A : List Int), (∀ y ∈ S, p y) → (∀ y ∈ A, p y) → A.length + S.length = n → F = (isortR r A S).reverse →
    Run T (Ret [] R) (.inLoop slices_insertionSortCmpFunc_int.b0 :: slices_insertionSortCmpFunc_int.k0) (mkE 53 [(0, .ref o n 0 n 1), (1, .int .i64 0), (2, .int .i64 n), (3, .clo (.func g) fs cs), (8, .int .i64 A.length)]) (stI σ o nl (A.reverse ++ S))
  | [], A, _, _, hl, hF => by
    rw [run_round, run_unfold slices_insertionSortCmpFunc_int.b0.eq_1]
    simp only [List.length_nil, Nat.add_zero] at hl
    simp (maxSteps := 2000000) only [go_sem, ↓reduceIte, Nat.reduceLT, Nat.reduceEqDiff, Nat.reduceLeDiff, Nat.reduceAdd, Nat.reduceSub, Nat.reduceMul, Int.reduceLT, Int.reduceLE, Int.reduceEq, Int.reduceNeg, hl, Nat.lt_irrefl, run_unfold slices_insertionSortCmpFunc_int.c0.eq_1, run_unfold slices_insertionSortCmpFunc_int.c1.eq_1, slices_insertionSortCmpFunc_int.k0, slices_insertionSortCmpFunc_int.k1]
    rw [hF, isortR] at next
    exact next
  | x :: S, A, hS, hA, hl, hF => by
    rw [run_round, run_unfold slices_insertionSortCmpFunc_int.b0.eq_1]
    simp only [List.length_cons] at hl
    have hlt : A.length < n := by omega
    simp (maxSteps := 2000000) only [go_sem, ↓reduceIte, Nat.reduceLT, Nat.reduceEqDiff, Nat.reduceLeDiff, Nat.reduceAdd, Nat.reduceSub, Nat.reduceMul, Int.reduceLT, Int.reduceLE, Int.reduceEq, Int.reduceNeg, hlt]
    refine ins_b1 ho hc hn (hS x (by simp)) ?_ hlt A S hA (by omega) rfl
    have := ins_b0 ho hc hn next S (insR r x A) (fun y hy => hS y (by simp [hy])) (fun y hy => by
      rcases List.mem_cons.1 ((insR_perm r x A).mem_iff.1 hy) with rfl | hy
      · exact hS _ (by simp)
      · exact hA y hy) (by rw [insR_len]; omega) (by rw [hF, isortR])
    rw [insR_len] at this
    exact this

/-- insertion sort of a slice of numbers -/
theorem insertionSort_int {σ : Sto} {o : Nat} {nl : Bool} {g : FuncId} {fs cs : List AVal} {r : Int → Int → Bool} {p : Int → Prop} {R : Post} (ho : o < σ.length) (hc : CmpI σ o nl g fs cs r p) {D : List Int} (hn : D.length < 1000) (hp : ∀ y ∈ D, p y) (hσ : σ[o]? = some (.cells nl (D.map fun n => .int .i64 n)))
    (next : R (.tup []) (stI σ o nl (isort r D))) : Cw T false i_slices_insertionSortCmpFunc_int [.ref o D.length 0 D.length 1, .int .i64 0, .int .i64 D.length, .clo (.func g) fs cs] [] σ R := by
  rw [cw_enter T_slices_insertionSortCmpFunc_int (by simp), run_unfold slices_insertionSortCmpFunc_int.main.eq_1]
  simp (maxSteps := 2000000) only [go_sem, ↓reduceIte, Nat.reduceLT, Nat.reduceEqDiff, Nat.reduceLeDiff, Nat.reduceAdd, Nat.reduceSub, Nat.reduceMul, Int.reduceLT, Int.reduceLE, Int.reduceEq, Int.reduceNeg]
  have e0 : σ = stI σ o nl D := (set_same_v hσ).symm
  cases D with
  | nil =>
    rw [run_round, run_unfold slices_insertionSortCmpFunc_int.b0.eq_1]
    simp (maxSteps := 2000000) only [go_sem, ↓reduceIte, Nat.reduceLT, Nat.reduceEqDiff, Nat.reduceLeDiff, Nat.reduceAdd, Nat.reduceSub, Nat.reduceMul, Int.reduceLT, Int.reduceLE, Int.reduceEq, Int.reduceNeg, run_unfold slices_insertionSortCmpFunc_int.c0.eq_1, run_unfold slices_insertionSortCmpFunc_int.c1.eq_1, slices_insertionSortCmpFunc_int.k0, slices_insertionSortCmpFunc_int.k1, List.length_nil]
    rw [e0]
    exact next
  | cons x S =>
    have := ins_b0 (A := [x]) ho hc hn next S (fun y hy => hp y (by simp [hy])) (fun y hy => hp y (by simp at hy; simp [hy])) (by simp; omega) rfl
    rw [e0]
    exact this

def lenOf (n : Nat) : Int := if n = 0 then 0 else if n = 1 then 1 else if n < 4 then 2 else if n < 8 then 3 else 4
def isInt (v : Int) : AVal → Bool
  | .int .i64 k => decide (k = v)
  | _ => false
theorem lens_all : ((List.range 13).all fun n => fSays T 100 i_bits_Len [.int .u64 (n : Int)] (isInt (lenOf n))) = true := by kernel_rfl
theorem lens (n : Nat) (h : n ≤ 12) {lv : List Nat} {σ : Sto} {R : Post} : Cw T true i_bits_Len [.int .u64 (n : Int)] lv σ R ↔ R (.int .i64 (lenOf n)) σ := by
  have := List.all_eq_true.1 lens_all n (by simp; omega)
  refine cw_says T_bits_Len (by simp (maxSteps := 2000000) only [go_sem, ↓reduceIte, Nat.reduceLT, Nat.reduceEqDiff, Nat.reduceLeDiff, Nat.reduceAdd, Nat.reduceSub, Nat.reduceMul, Int.reduceLT, Int.reduceLE, Int.reduceEq, Int.reduceNeg]) (fun u h => ?_) this
  unfold isInt at h
  split at h
  · rw [of_decide_eq_true h]
  · cases h

/-- slices.SortFunc of at most twelve numbers -/
theorem sortFunc_int {σ : Sto} {o : Nat} {nl : Bool} {g : FuncId} {fs cs : List AVal} {r : Int → Int → Bool} {p : Int → Prop} {R : Post} (ho : o < σ.length) (hc : CmpI σ o nl g fs cs r p) {D : List Int} (hn : D.length ≤ 12) (hp : ∀ y ∈ D, p y) (hσ : σ[o]? = some (.cells nl (D.map fun n => .int .i64 n)))
    (next : R (.tup []) (stI σ o nl (isort r D))) : Cw T false i_slices_SortFunc_int [.ref o D.length 0 D.length 1, .clo (.func g) fs cs] [] σ R := by
  rw [cw_enter T_slices_SortFunc_int (by simp), run_unfold slices_SortFunc_int.main.eq_1]
  have hu : IntKind.u64.wrap (D.length : Int) = (D.length : Int) := by
    have e1 : (2 : Int) ^ IntKind.u64.bits = 18446744073709551616 := by decide
    have e3 : IntKind.u64.signed = false := rfl
    simp only [IntKind.wrap, e1, e3, Bool.false_and, Bool.false_eq_true, if_false]
    omega
  simp (maxSteps := 2000000) only [go_sem, ↓reduceIte, Nat.reduceLT, Nat.reduceEqDiff, Nat.reduceLeDiff, Nat.reduceAdd, Nat.reduceSub, Nat.reduceMul, Int.reduceLT, Int.reduceLE, Int.reduceEq, Int.reduceNeg, hσ, List.length_map, hu, callK_of (lens D.length hn)]
  unfold CallK
  rw [cw_enter T_slices_pdqsortCmpFunc_int (by simp), run_unfold slices_pdqsortCmpFunc_int.main.eq_1]
  simp (maxSteps := 2000000) only [go_sem, ↓reduceIte, Nat.reduceLT, Nat.reduceEqDiff, Nat.reduceLeDiff, Nat.reduceAdd, Nat.reduceSub, Nat.reduceMul, Int.reduceLT, Int.reduceLE, Int.reduceEq, Int.reduceNeg]
  rw [run_round, run_unfold slices_pdqsortCmpFunc_int.b0.eq_1]
  have hw : IntKind.i64.wrap ((D.length : Int) - 0) = (D.length : Int) := by rw [wrap_i64 (by omega) (by omega)]; omega
  simp (maxSteps := 2000000) only [go_sem, ↓reduceIte, Nat.reduceLT, Nat.reduceEqDiff, Nat.reduceLeDiff, Nat.reduceAdd, Nat.reduceSub, Nat.reduceMul, Int.reduceLT, Int.reduceLE, Int.reduceEq, Int.reduceNeg, hw, show (D.length : Int) ≤ 12 by omega]
  unfold CallK
  refine insertionSort_int ho hc (by omega) hp hσ ?_
  simp (maxSteps := 2000000) only [go_sem, ↓reduceIte, Nat.reduceLT, Nat.reduceEqDiff, Nat.reduceLeDiff, Nat.reduceAdd, Nat.reduceSub, Nat.reduceMul, Int.reduceLT, Int.reduceLE, Int.reduceEq, Int.reduceNeg]
  exact next

end Go.Abs
/- The walk of cut.Order. -/
set_option linter.unusedSimpArgs false
set_option linter.unusedVariables false
set_option maxRecDepth 100000
set_option maxHeartbeats 4000000
namespace Go.Abs
open Go

theorem snap_ptr {σ : Sto} {n o gen off : Nat} {nl : Bool} {cs : List AVal} (hσ : σ[o]? = some (.cells nl cs)) (hl : cs.length = gen) (hp : AVal.pures (cs.drop off) = true) : snapA σ (n + 2) (.ptr o gen off) = some (.fptr (cs.drop off)) := by
  have h0 : (AVal.ptr o gen off).pure = false := by simp [AVal.names]
  rw [snapA, h0]
  simp only [Bool.false_eq_true, if_false, hσ, hl, if_true, mapM_snapN hp]
  rfl
theorem snap_nils {σ : Sto} {n o : Nat} {c : List Int} (hσ : σ[o]? = some (.cells true (c.map fun n => AVal.int .i64 n))) : snapA σ (n + 2) (.ref o c.length 0 c.length 1) = some (ints .nil c) := by
  have h0 : (AVal.ref o c.length 0 c.length 1).pure = false := by simp [AVal.names]
  rw [snapA, h0]
  cases c with
  | nil => simp [hσ]; rfl
  | cons x c =>
    have htake : (((x :: c).map fun n => AVal.int .i64 n).drop 0).take ((x :: c).length * 1) = (x :: c).map fun n => AVal.int .i64 n := by
      rw [List.drop_zero, List.take_of_length_le (by simp)]
    simp only [Bool.false_eq_true, if_false, hσ, List.length_map, if_true, Nat.zero_add, Nat.mul_one, Nat.le_refl, true_and, show 0 < 1 by decide, and_self]
    rw [if_neg (by simp)]
    rw [Nat.mul_one] at htake
    rw [htake, mapM_snapN v_names_ints]
    have := chunk_one ((x :: c).map fun n => AVal.int .i64 n)
    rw [List.length_map] at this
    simp only [Option.map_some, this]
    rfl

theorem cut_Order_1_spec {f : SlF} {l : List Com} {i k : Nat} (hi : i < l.length) (hk : k < l.length) (h1 : Fits l[i].past) (h2 : Fits l[k].past) {lv : List Nat} {σ : Sto} {R : Post} : Cw T true i_cut_Order_1 [.int .i64 (i : Int), .int .i64 (k : Int), .fptr [coms f l]] lv σ R ↔ R (.int .i64 (cmpC l[i] l[k])) σ := by
  refine cw_intro T_cut_Order_1 (by simp only [go_sem]) (by simp) ?_; rw [run_unfold cut_Order_1.main.eq_1]
  simp (maxSteps := 2000000) only [go_sem, ↓reduceIte, Nat.reduceLT, Nat.reduceEqDiff, Nat.reduceLeDiff, Nat.reduceAdd, Nat.reduceSub, Nat.reduceMul, Int.reduceLT, Int.reduceLE, Int.reduceEq, Int.reduceNeg, hi, hk, h1, h2]

/-- the order of indices -/
def ixR (l : List Com) (x y : Int) : Bool := decide (cmpC (l.getD x.toNat (mkCom 0 0 [])) (l.getD y.toNat (mkCom 0 0 [])) < 0)
def isIx (l : List Com) (x : Int) : Prop := ∃ i : Nat, x = (i : Int) ∧ i < l.length

theorem order_cmp {σ : Sto} {o : Nat} {nl : Bool} {f : SlF} {l : List Com} (hp : ∀ x ∈ l, Fits x.past) (ho : o ≠ 0) (hσ : σ[0]? = some (.cells false [coms f l])) : CmpI σ o nl i_cut_Order_1 [] [.ptr 0 1 0] (ixR l) (isIx l) := by
  rintro x y D ⟨i, rfl, hi⟩ ⟨k, rfl, hk⟩
  refine ⟨cmpC l[i] l[k], ?_, fun {Q kk os d e} => ?_⟩
  · unfold ixR
    rw [Int.toNat_natCast, Int.toNat_natCast, List.getD_eq_getElem?_getD, List.getD_eq_getElem?_getD, List.getElem?_eq_getElem hi, List.getElem?_eq_getElem hk]
    rfl
  · refine callK_live T_cut_Order_1 (as := [.int .i64 (i : Int), .int .i64 (k : Int), .fptr [coms f l]]) (cut_Order_1_spec hi hk (hp _ (List.getElem_mem hi)) (hp _ (List.getElem_mem hk))) ?_ (by simp (maxSteps := 2000000) only [go_sem, ↓reduceIte, Nat.reduceLT, Nat.reduceEqDiff, Nat.reduceLeDiff, Nat.reduceAdd, Nat.reduceSub, Nat.reduceMul, Int.reduceLT, Int.reduceLE, Int.reduceEq, Int.reduceNeg]) rfl
    have h0 : (stI σ o nl D)[0]? = some (.cells false [coms f l]) := by rw [List.getElem?_set_ne ho]; exact hσ
    show [AVal.int .i64 (i : Int), .int .i64 (k : Int), .ptr 0 1 0].mapM _ = _
    have h1 : snapA (stI σ o nl D) 64 (.ptr 0 1 0) = some (.fptr [coms f l]) := snap_ptr (n := 62) (gen := 1) h0 rfl (by simp (maxSteps := 2000000) only [go_sem, ↓reduceIte, Nat.reduceLT, Nat.reduceEqDiff, Nat.reduceLeDiff, Nat.reduceAdd, Nat.reduceSub, Nat.reduceMul, Int.reduceLT, Int.reduceLE, Int.reduceEq, Int.reduceNeg, List.drop_zero])
    rw [mapM_scons, snapDepth_eq, snapA_step (by simp (maxSteps := 2000000) only [go_sem, ↓reduceIte, Nat.reduceLT, Nat.reduceEqDiff, Nat.reduceLeDiff, Nat.reduceAdd, Nat.reduceSub, Nat.reduceMul, Int.reduceLT, Int.reduceLE, Int.reduceEq, Int.reduceNeg]), mapM_scons, snapA_step (by simp (maxSteps := 2000000) only [go_sem, ↓reduceIte, Nat.reduceLT, Nat.reduceEqDiff, Nat.reduceLeDiff, Nat.reduceAdd, Nat.reduceSub, Nat.reduceMul, Int.reduceLT, Int.reduceLE, Int.reduceEq, Int.reduceNeg]), mapM_scons, h1, mapM_snil]

def ix (l : List Com) (s q : Nat) : Int := match (nmap l).get ⟨(s : Int), (q : Int)⟩ with
  | some j => (j : Int)
  | none => 0
def seg (l : List Com) (s : Nat) : Nat → Nat → List Int
  | _, 0 => []
  | q, d + 1 => ix l s (q + 1) :: seg l s (q + 1) d
def rows (l : List Com) (c : List Int) : Nat → Nat → List Int
  | _, 0 => []
  | s, d + 1 => seg l s 0 (c.getD s 0).toNat ++ rows l c (s + 1) d
theorem seg_len {l : List Com} {s : Nat} : ∀ d q, (seg l s q d).length = d
  | 0, _ => rfl
  | d + 1, q => by simp [seg, seg_len d]

theorem look_ix {l : List Com} {s q : Nat} {σ : Sto} : lookupV (.row [(0, 1, false, .int .i64), (1, 1, false, .int .i64)]) (.int .i64 0) false (fmapN (nmap l)) (.agg [.int .i64 (s : Int), .int .i64 (q : Int)]) σ = some (.int .i64 (ix l s q), σ) := by
  show lookAV shN (.int .i64 0) false (encN ⟨(s : Int), (q : Int)⟩) (keysA (nmap l)) (valsA (nmap l)) σ = _
  unfold ix
  generalize nmap l = m
  generalize (⟨(s : Int), (q : Int)⟩ : Nam) = n
  unfold lookAV
  rw [eqA_name, if_pos (by simp), findA_names]
  simp only [NMap.get]
  cases h : m.findIdx? fun p => decide (n = p.1) with
  | none =>
    have : (m.find? fun p => decide (n = p.1)) = none := by
      rw [List.find?_eq_none]
      rw [List.findIdx?_eq_none_iff] at h
      intro x hx; simp [h x hx]
    simp [this]
  | some j =>
    obtain ⟨hj, hp, hlt⟩ := List.findIdx?_eq_some_iff_getElem.1 h
    have : (m.find? fun p => decide (n = p.1)) = some m[j] := by
      rw [List.find?_eq_some_iff_getElem]
      exact ⟨hp, j, hj, rfl, fun k hk => by simpa using hlt k hk⟩
    simp [this, hj]

theorem names_ints_ok {p : Nat → Bool} {l : List Int} : AVal.namesL p (l.map fun n => AVal.int .i64 n) = true := v_names_ints

abbrev orS (f : SlF) (l : List Com) (out : List Int) : Sto := [.cells false [coms f l], .cells true (out.map fun n => .int .i64 n)]

theorem cut_Order_b1 {f g : SlF} {l : List Com} {c : List Int} {s m : Nat} {Q : Post3} (hs : s < 6) (hm : m < 1000) {F : List Int} (hF : F.length < 100000)
    (next : Run T Q (.inLoop cut_Order.b0 :: cut_Order.k0) (mkE 43 [(2, .ptr 0 1 0), (6, fmapN (nmap l)), (7, .ref 1 F.length 0 F.length 1), (17, ints g c), (18, .int .i64 6), (19, .int .i64 ((s + 1 : Nat) : Int))]) (orS f l F)) :
    ∀ d q, q + d = m → ∀ out : List Int, out ++ seg l s q d = F →
    Run T Q (.inLoop cut_Order.b1 :: cut_Order.k1 2) (mkE 43 [(2, .ptr 0 1 0), (6, fmapN (nmap l)), (7, .ref 1 out.length 0 out.length 1), (8, .int .i64 s), (17, ints g c), (18, .int .i64 6), (19, .int .i64 s), (24, .int .i64 m), (25, .int .i64 q)]) (orS f l out) := by
  intro d
  induction d with
  | zero =>
    intro q hq out ho
    rw [run_round, run_unfold cut_Order.b1.eq_1]
    rw [seg, List.append_nil] at ho
    subst ho
    simp (maxSteps := 2000000) only [go_sem, ↓reduceIte, Nat.reduceLT, Nat.reduceEqDiff, Nat.reduceLeDiff, Nat.reduceAdd, Nat.reduceSub, Nat.reduceMul, Int.reduceLT, Int.reduceLE, Int.reduceEq, Int.reduceNeg, run_unfold cut_Order.c0.eq_1, run_unfold cut_Order.c1.eq_1, run_unfold cut_Order.c2.eq_1, run_unfold cut_Order.c3.eq_1, cut_Order.k0, cut_Order.k1, show q = m by omega, Nat.lt_irrefl, wrap_succ (show s < 9223372036854775807 by omega)]
    exact next
  | succ d ih =>
    intro q hq out ho
    rw [run_round, run_unfold cut_Order.b1.eq_1]
    simp (maxSteps := 2000000) only [go_sem, ↓reduceIte, Nat.reduceLT, Nat.reduceEqDiff, Nat.reduceLeDiff, Nat.reduceAdd, Nat.reduceSub, Nat.reduceMul, Int.reduceLT, Int.reduceLE, Int.reduceEq, Int.reduceNeg, run_unfold cut_Order.c0.eq_1, run_unfold cut_Order.c1.eq_1, run_unfold cut_Order.c2.eq_1, run_unfold cut_Order.c3.eq_1, cut_Order.k0, cut_Order.k1, show q < m by omega, wrap_succ (show q < 9223372036854775807 by omega)]
    rw [look_ix]
    have hlen : out.length + (d + 1) = F.length := by rw [← ho, List.length_append, seg_len]
    simp (maxSteps := 2000000) only [go_sem, ↓reduceIte, Nat.reduceLT, Nat.reduceEqDiff, Nat.reduceLeDiff, Nat.reduceAdd, Nat.reduceSub, Nat.reduceMul, Int.reduceLT, Int.reduceLE, Int.reduceEq, Int.reduceNeg]
    refine after_of (appendV_push (n := out.length) (nl := true) (cs := out.map fun n => AVal.int .i64 n) (v := .int .i64 (ix l s (q + 1))) (by rfl) (by rfl) (by simp) rfl (by unfold maxBytes; omega)) ?_
    simp (maxSteps := 2000000) only [go_sem, ↓reduceIte, Nat.reduceLT, Nat.reduceEqDiff, Nat.reduceLeDiff, Nat.reduceAdd, Nat.reduceSub, Nat.reduceMul, Int.reduceLT, Int.reduceLE, Int.reduceEq, Int.reduceNeg, names_ints_ok, wrap_succ (show q < 9223372036854775807 by omega)]
    have := ih (q + 1) (by omega) (out ++ [ix l s (q + 1)]) (by rw [← ho, seg, List.append_assoc]; rfl)
    rw [List.length_append, List.length_singleton] at this
    unfold orS at this
    rw [List.map_append] at this
    exact this

theorem cut_Order_b0 {f g : SlF} {l : List Com} {c : List Int} {Q : Post3} (hv : valid c = true) {F : List Int} (hF : F.length < 100000)
    (next : Run T Q [.code cut_Order.c0] (mkE 43 [(2, .ptr 0 1 0), (7, .ref 1 F.length 0 F.length 1)]) (orS f l F)) :
    ∀ d s, s + d = 6 → ∀ out : List Int, out ++ rows l c s d = F →
    Run T Q (.inLoop cut_Order.b0 :: .inBlock 0 :: .code cut_Order.c1 :: [.code cut_Order.c0]) (mkE 43 [(2, .ptr 0 1 0), (6, fmapN (nmap l)), (7, .ref 1 out.length 0 out.length 1), (17, ints g c), (18, .int .i64 6), (19, .int .i64 s)]) (orS f l out) := by
  have h6 := valid_len hv
  intro d
  induction d with
  | zero =>
    intro s hs out ho
    rw [run_round, run_unfold cut_Order.b0.eq_1]
    rw [rows, List.append_nil] at ho
    subst ho
    simp (maxSteps := 2000000) only [go_sem, ↓reduceIte, Nat.reduceLT, Nat.reduceEqDiff, Nat.reduceLeDiff, Nat.reduceAdd, Nat.reduceSub, Nat.reduceMul, Int.reduceLT, Int.reduceLE, Int.reduceEq, Int.reduceNeg, run_unfold cut_Order.c1.eq_1, show s = 6 by omega]
    exact next
  | succ d ih =>
    intro s hs out ho
    rw [run_round, run_unfold cut_Order.b0.eq_1]
    have hsl : s < c.length := by omega
    obtain ⟨m, g1, g2, g3⟩ := valid_get hv hsl
    rw [rows, g3, ← List.append_assoc] at ho
    simp (maxSteps := 2000000) only [go_sem, ↓reduceIte, Nat.reduceLT, Nat.reduceEqDiff, Nat.reduceLeDiff, Nat.reduceAdd, Nat.reduceSub, Nat.reduceMul, Int.reduceLT, Int.reduceLE, Int.reduceEq, Int.reduceNeg, show ((s : Int) < 6) by omega, hsl, g1]
    refine cut_Order_b1 (m := m) (by omega) g2 (F := out ++ seg l s 0 m) (by
      rw [← ho] at hF; simp only [List.length_append] at hF ⊢; omega) ?_ m 0 (by omega) out rfl
    exact ih (s + 1) (by omega) _ ho

theorem cut_Order_spec {f g : SlF} {l : List Com} {c : List Int} (hl : Fits l) (hv : valid c = true) (hcl : closedP l c = true) (hp : ∀ x ∈ l, Fits x.past) (h12 : (rows l c 0 6).length ≤ 12) (hix : ∀ x ∈ rows l c 0 6, isIx l x) {lv : List Nat} {σ : Sto} {R : Post} :
    Cw T true i_cut_Order [coms f l, ints g c] lv σ R ↔ R (.tup [ints .nil (isort (ixR l) (rows l c 0 6)), .int .i64 0]) σ := by
  refine cw_intro T_cut_Order (by simp only [go_sem]) (by simp) ?_; rw [run_unfold cut_Order.main.eq_1]
  simp (maxSteps := 2000000) only [go_sem, ↓reduceIte, Nat.reduceLT, Nat.reduceEqDiff, Nat.reduceLeDiff, Nat.reduceAdd, Nat.reduceSub, Nat.reduceMul, Int.reduceLT, Int.reduceLE, Int.reduceEq, Int.reduceNeg, hl, hcl]
  have := cut_Order_b0 (f := f) (g := g) (l := l) (Q := Res [.tmp 4, .tmp 5] (.tup [ints .nil (isort (ixR l) (rows l c 0 6)), .int .i64 0])) hv (F := rows l c 0 6) (by omega) ?_ 6 0 (by omega) [] rfl
  · rw [valid_len hv]
    exact this
  · rw [run_unfold cut_Order.c0.eq_1]
    simp (maxSteps := 2000000) only [go_sem, ↓reduceIte, Nat.reduceLT, Nat.reduceEqDiff, Nat.reduceLeDiff, Nat.reduceAdd, Nat.reduceSub, Nat.reduceMul, Int.reduceLT, Int.reduceLE, Int.reduceEq, Int.reduceNeg]
    unfold CallK
    refine sortFunc_int (o := 1) (by simp) (order_cmp hp (by decide) rfl) h12 hix rfl ?_
    simp (maxSteps := 2000000) only [go_sem, ↓reduceIte, Nat.reduceLT, Nat.reduceEqDiff, Nat.reduceLeDiff, Nat.reduceAdd, Nat.reduceSub, Nat.reduceMul, Int.reduceLT, Int.reduceLE, Int.reduceEq, Int.reduceNeg]
    rw [← isort_len (ixR l), snap_nils (n := 61) (by rfl)]
    rfl

end Go.Abs
/- The walk of CutLattice. -/
set_option linter.unusedSimpArgs false
set_option linter.unusedVariables false
set_option maxRecDepth 100000
set_option maxHeartbeats 4000000
namespace Go.Abs
open Go

theorem fits6 {a : List Int} (h : valid a = true) : Fits a := by have := valid_len h; unfold Fits; omega

theorem x_ia0 {σ : Sto} : iaddrAV 3 1 (.ptr 0 3 0) (.int .i64 0) σ = some (.ptr 0 3 0, σ) := rfl
theorem x_ia1 {σ : Sto} : iaddrAV 3 1 (.ptr 0 3 0) (.int .i64 1) σ = some (.ptr 0 3 1, σ) := rfl
theorem x_ia2 {σ : Sto} : iaddrAV 3 1 (.ptr 0 3 0) (.int .i64 2) σ = some (.ptr 0 3 2, σ) := rfl
theorem cutLattice_true {f f0 f1 f2 : SlF} {x k0 k1 k2 : List Nat} (hb : Fits x) (hb8 : ∀ n ∈ x, n < 256) (h0 : Fits k0) (h1 : Fits k1) (h2 : Fits k2) : Cw T false i_l20_CutLattice [bytesV f x, .agg [bytesV f0 k0, bytesV f1 k1, bytesV f2 k2]] [] [] yes := by
  have hl : Fits (headers x) := by have := headers_fits x; unfold Fits; omega
  generalize hL : headers x = l at hl
  obtain ⟨ca, va⟩ := cutOfL_closed l k0
  obtain ⟨cb, vb⟩ := cutOfL_closed l k1
  obtain ⟨cc, vc⟩ := cutOfL_closed l k2
  generalize ha : cutOfL l k0 = a at ca va
  generalize hb' : cutOfL l k1 = b at cb vb
  generalize hc' : cutOfL l k2 = c at cc vc
  have L := latt va vb vc
  have L2 := latt vb vc va
  have vp := valid_maxL va vb
  have vq := valid_minL va vb
  have vbc := valid_maxL vb vc
  have vbc2 := valid_minL vb vc
  have cp := closedP_of (closed_max ca cb)
  have cq := closedP_of (closed_min ca cb)
  have f1 := fits6 vp
  have f2 := fits6 vq
  have f3 := fits6 va
  have f4 := fits6 (valid_maxL va vbc)
  have f5 := fits6 (valid_minL va vbc2)
  have e1 := L.leq1
  have e2 := L.leq2
  rw [cw_enter T_l20_CutLattice (by simp), run_unfold l20_CutLattice.main.eq_1]
  cases hq : leq a b <;> rw [hq] at e1 e2
  · simp (maxSteps := 2000000) only [go_sem, ↓reduceIte, Nat.reduceLT, Nat.reduceEqDiff, Nat.reduceLeDiff, Nat.reduceAdd, Nat.reduceSub, Nat.reduceMul, Int.reduceLT, Int.reduceLE, Int.reduceEq, Int.reduceNeg, r20_Headers_call (f := f) hb hb8, hL, hl, h0, h1, h2, ha, hb', hc', cutOf, va, vb, vc, vp, vq, vbc, vbc2, cp, cq, x_ia0, x_ia1, x_ia2, L.comm1, L.comm2, L.ass1, L.ass2, L.id1, L.id2, L.abs1, L.abs2, f1, f2, f3, f4, f5, hq, e1.symm, e2.symm, L.mm]
  · simp (maxSteps := 2000000) only [go_sem, ↓reduceIte, Nat.reduceLT, Nat.reduceEqDiff, Nat.reduceLeDiff, Nat.reduceAdd, Nat.reduceSub, Nat.reduceMul, Int.reduceLT, Int.reduceLE, Int.reduceEq, Int.reduceNeg, r20_Headers_call (f := f) hb hb8, hL, hl, h0, h1, h2, ha, hb', hc', cutOf, va, vb, vc, vp, vq, vbc, vbc2, cp, cq, x_ia0, x_ia1, x_ia2, L.comm1, L.comm2, L.ass1, L.ass2, L.id1, L.id2, L.abs1, L.abs2, f1, f2, f3, f4, f5, hq, e1.symm, e2.symm, L.mm]

end Go.Abs
