/- Parts of the proof: D20ZC, D20ZD, D20ZE, C23H. -/
import Derived.Test.YtmdkgkhddjhdoaaDoorJAbsLaw
import Derived.Test.YtmdkgkhddjhdoaaDoorAbsSort
import Derived.Test.YtmdkgkhddjhdoaaDoorJAbsEval
import Derived.KernelRfl
import Derived.Test.YtmdkgkhddjhdoaaDoorJD20A
set_option linter.all false
/- Walks of chapter 20: insertion sort of numbers. -/
set_option linter.unusedSimpArgs false
set_option linter.unusedVariables false
set_option maxRecDepth 100000
set_option maxHeartbeats 4000000
namespace Go.Abs
open Go
attribute [local go_sem_proc] Nat.reduceLT Nat.reduceEqDiff Nat.reduceLeDiff Nat.reduceAdd Nat.reduceSub Nat.reduceMul Int.reduceLT Int.reduceLE Int.reduceEq Int.reduceNeg
attribute [local go_sem_proc ↓] reduceIte

abbrev stI (σ : Sto) (o : Nat) (nl : Bool) (D : List Int) : Sto := σ.set o (.cells nl (D.map fun n => .int .i64 n))
theorem stI_get {σ : Sto} {o : Nat} {nl : Bool} {D : List Int} (h : o < σ.length) : (stI σ o nl D)[o]? = some (.cells nl (D.map fun n => .int .i64 n)) := List.getElem?_set_self h
theorem stI_set {σ : Sto} {o : Nat} {nl : Bool} {D D' : List Int} : (stI σ o nl D).set o (.cells nl (D'.map fun n => .int .i64 n)) = stI σ o nl D' := List.set_set ..

/-- what the comparing function answers, whatever the numbers stand at -/
def CmpI (σ : Sto) (o : Nat) (nl : Bool) (g : FuncId) (fs cs : List AVal) (r : Int → Int → Bool) (p : Int → Prop) : Prop := ∀ (x y : Int) (D : List Int), p x → p y → ∃ c : Int, decide (c < 0) = r x y ∧ ∀ {Q : Post3} {k : List Item} {os : List AOper} {d : Option Nat} {e : Env},
  CallK T Q k os d e (stI σ o nl D) true g (fs ++ [.int .i64 x, .int .i64 y] ++ cs) ↔ Run T Q (.ops os :: k) (put e d (.int .i64 c)) (stI σ o nl D)

theorem ins_b1 {σ : Sto} {o n i : Nat} {nl : Bool} {g : FuncId} {fs cs : List AVal} {r : Int → Int → Bool} {p : Int → Prop} {Q : Post3} (ho : o < σ.length) (hc : CmpI σ o nl g fs cs r p) (hn : n < 1000) {x : Int} (hx : p x)
    {F : List Int} (next : Run T Q (.inLoop slices_insertionSortCmpFunc_int.b0 :: slices_insertionSortCmpFunc_int.k0) (mkE 53 [(0, .ref o n 0 n 1), (1, .int .i64 0), (2, .int .i64 n), (3, .clo (.func g) fs cs), (8, .int .i64 ((i + 1 : Nat) : Int))]) (stI σ o nl F)) (hi : i < n) :
    ∀ (Pr S : List Int), (∀ y ∈ Pr, p y) → Pr.length + 1 + S.length = n → F = (insR r x Pr).reverse ++ S →
    Run T Q (.inLoop slices_insertionSortCmpFunc_int.b1 :: slices_insertionSortCmpFunc_int.k1) (mkE 53 [(0, .ref o n 0 n 1), (1, .int .i64 0), (2, .int .i64 n), (3, .clo (.func g) fs cs), (8, .int .i64 i), (9, .int .i64 Pr.length)]) (stI σ o nl (Pr.reverse ++ x :: S))
  | [], S, _, hl, hF => by
    rw [run_round, run_unfold slices_insertionSortCmpFunc_int.b1.eq_1]
    subst hF
    simp (maxSteps := 2000000) only [go_sem, run_unfold slices_insertionSortCmpFunc_int.c0.eq_1, run_unfold slices_insertionSortCmpFunc_int.c1.eq_1, slices_insertionSortCmpFunc_int.k0, slices_insertionSortCmpFunc_int.k1, wrap_succ (show i < 9223372036854775807 by omega), List.length_nil, Int.natCast_zero, Int.ofNat_zero]
    exact next
  | y :: Pr, S, hp, hl, hF => by
    rw [run_round, run_unfold slices_insertionSortCmpFunc_int.b1.eq_1]
    have hy := hp y (by simp)
    simp only [List.length_cons] at hl
    obtain ⟨D, hD⟩ : ∃ D, D = (y :: Pr).reverse ++ x :: S := ⟨_, rfl⟩
    have hDl : D.length = n := by rw [hD]; simp; omega
    have e0 : D = Pr.reverse ++ y :: x :: S := by rw [hD]; simp
    have h1 : Pr.length + 1 < D.length := by omega
    have h2 : Pr.length < D.length := by omega
    have g1 : D[Pr.length + 1] = x := by
      have : D[Pr.length + 1]? = some x := by rw [e0, List.getElem?_append_right (by simp)]; simp
      rw [List.getElem?_eq_getElem h1] at this; exact Option.some.inj this
    have g2 : D[Pr.length] = y := by
      have : D[Pr.length]? = some y := by rw [e0, List.getElem?_append_right (by simp)]; simp
      rw [List.getElem?_eq_getElem h2] at this; exact Option.some.inj this
    obtain ⟨c, hcr, hcall⟩ := hc x y D hx hy
    have hw : IntKind.i64.wrap (((Pr.length + 1 : Nat) : Int) - 1) = ((Pr.length : Nat) : Int) := by rw [wrap_i64 (by omega) (by omega)]; omega
    have hpos : (0 : Int) < ((Pr.length + 1 : Nat) : Int) := by omega
    rw [← hD]
    have hget := stI_get (nl := nl) (D := D) ho
    cases hr : r x y
    · have hcn : ¬ c < 0 := by simpa [hr] using hcr
      simp (maxSteps := 2000000) only [go_sem, List.length_cons, hpos, hget, hDl, h1, h2, show Pr.length + 1 < n by omega, show Pr.length < n by omega, g1, g2, hw, hcall, hcn, run_unfold slices_insertionSortCmpFunc_int.c0.eq_1, run_unfold slices_insertionSortCmpFunc_int.c1.eq_1, slices_insertionSortCmpFunc_int.k0, slices_insertionSortCmpFunc_int.k1, wrap_succ (show i < 9223372036854775807 by omega)]
      have : F = D := by rw [hF, insR, if_neg (by rw [hr]; decide), hD]; simp
      rw [this] at next
      exact next
    · have hcn : c < 0 := by simpa [hr] using hcr
      have hk1 : Pr.length + 1 + 1 ≤ n := by omega
      have hk2 : Pr.length + 1 ≤ n := by omega
      have hget2 := stI_get (nl := nl) (D := D.set (Pr.length + 1) y) ho
      have h2' : Pr.length < (D.set (Pr.length + 1) y).length := by rw [List.length_set]; exact h2
      simp (maxSteps := 2000000) only [go_sem, List.length_cons, hpos, hget, hget2, hDl, h1, h2, h2', show Pr.length + 1 < n by omega, show Pr.length < n by omega, g1, g2, hw, hcall, hcn, hk1, hk2, stI_set, List.length_set, List.length_map]
      have e1 : (D.set (Pr.length + 1) y).set Pr.length x = Pr.reverse ++ x :: y :: S := by
        rw [e0, show Pr.reverse ++ y :: x :: S = (Pr.reverse ++ [y]) ++ x :: S by simp, List.set_append_right _ _ (by simp), show Pr.length + 1 - (Pr.reverse ++ [y]).length = 0 by simp, List.set_cons_zero,
          List.append_assoc, List.set_append_right _ _ (by simp), show Pr.length - Pr.reverse.length = 0 by simp]
        simp
      rw [e1]
      refine ins_b1 ho hc hn hx next hi Pr (y :: S) (fun z hz => hp z (by simp [hz])) (by simp; omega) ?_
      rw [hF, insR, if_pos hr]
      simp

theorem ins_b0 {σ : Sto} {o n : Nat} {nl : Bool} {g : FuncId} {fs cs : List AVal} {r : Int → Int → Bool} {p : Int → Prop} {R : Post} (ho : o < σ.length) (hc : CmpI σ o nl g fs cs r p) (hn : n < 1000) {F : List Int}
    (next : R (.tup []) (stI σ o nl F)) : ∀ (S : List Int) (A : List Int), (∀ y ∈ S, p y) → (∀ y ∈ A, p y) → A.length + S.length = n → F = (isortR r A S).reverse →
    Run T (Ret [] R) (.inLoop slices_insertionSortCmpFunc_int.b0 :: slices_insertionSortCmpFunc_int.k0) (mkE 53 [(0, .ref o n 0 n 1), (1, .int .i64 0), (2, .int .i64 n), (3, .clo (.func g) fs cs), (8, .int .i64 A.length)]) (stI σ o nl (A.reverse ++ S))
  | [], A, _, _, hl, hF => by
    rw [run_round, run_unfold slices_insertionSortCmpFunc_int.b0.eq_1]
    simp only [List.length_nil, Nat.add_zero] at hl
    simp (maxSteps := 2000000) only [go_sem, hl, Nat.lt_irrefl, run_unfold slices_insertionSortCmpFunc_int.c0.eq_1, run_unfold slices_insertionSortCmpFunc_int.c1.eq_1, slices_insertionSortCmpFunc_int.k0, slices_insertionSortCmpFunc_int.k1]
    rw [hF, isortR] at next
    exact next
  | x :: S, A, hS, hA, hl, hF => by
    rw [run_round, run_unfold slices_insertionSortCmpFunc_int.b0.eq_1]
    simp only [List.length_cons] at hl
    have hlt : A.length < n := by omega
    simp (maxSteps := 2000000) only [go_sem, hlt]
    refine ins_b1 ho hc hn (hS x (by simp)) ?_ hlt A S hA (by omega) rfl
    have := ins_b0 ho hc hn next S (insR r x A) (fun y hy => hS y (by simp [hy])) (fun y hy => by
      rcases List.mem_cons.1 ((insR_perm r x A).mem_iff.1 hy) with rfl | hy
      · exact hS _ (by simp)
      · exact hA y hy) (by rw [insR_len]; omega) (by rw [hF, isortR])
    rw [insR_len] at this
    exact this

/-- insertion sort of a slice of numbers -/
theorem insertionSort_int {σ : Sto} {o : Nat} {nl : Bool} {g : FuncId} {fs cs : List AVal} {r : Int → Int → Bool} {p : Int → Prop} {R : Post} (ho : o < σ.length) (hc : CmpI σ o nl g fs cs r p) {D : List Int} (hn : D.length < 1000) (hp : ∀ y ∈ D, p y) (hσ : σ[o]? = some (.cells nl (D.map fun n => .int .i64 n)))
    (next : R (.tup []) (stI σ o nl (isort r D))) : Cw T false i_slices_insertionSortCmpFunc_int [.ref o D.length 0 D.length 1, .int .i64 0, .int .i64 D.length, .clo (.func g) fs cs] [] σ R := by
  rw [cw_enter T_slices_insertionSortCmpFunc_int (by simp), run_unfold slices_insertionSortCmpFunc_int.main.eq_1]
  simp (maxSteps := 2000000) only [go_sem]
  have e0 : σ = stI σ o nl D := (set_same_v hσ).symm
  cases D with
  | nil =>
    rw [run_round, run_unfold slices_insertionSortCmpFunc_int.b0.eq_1]
    simp (maxSteps := 2000000) only [go_sem, run_unfold slices_insertionSortCmpFunc_int.c0.eq_1, run_unfold slices_insertionSortCmpFunc_int.c1.eq_1, slices_insertionSortCmpFunc_int.k0, slices_insertionSortCmpFunc_int.k1, List.length_nil]
    rw [e0]
    exact next
  | cons x S =>
    have := ins_b0 (A := [x]) ho hc hn next S (fun y hy => hp y (by simp [hy])) (fun y hy => hp y (by simp at hy; simp [hy])) (by simp; omega) rfl
    rw [e0]
    exact this

def lenOf (n : Nat) : Int := if n = 0 then 0 else if n = 1 then 1 else if n < 4 then 2 else if n < 8 then 3 else 4
def isInt (v : Int) : AVal → Bool
  | .int .i64 k => decide (k = v)
  | _ => false
theorem lens_all : ((List.range 13).all fun n => fSays T 100 i_bits_Len [.int .u64 (n : Int)] (isInt (lenOf n))) = true := by kernel_rfl
theorem lens (n : Nat) (h : n ≤ 12) {lv : List Nat} {σ : Sto} {R : Post} : Cw T true i_bits_Len [.int .u64 (n : Int)] lv σ R ↔ R (.int .i64 (lenOf n)) σ := by
  have := List.all_eq_true.1 lens_all n (by simp; omega)
  refine cw_says T_bits_Len (by simp (maxSteps := 2000000) only [go_sem]) (fun u h => ?_) this
  unfold isInt at h
  split at h
  · rw [of_decide_eq_true h]
  · cases h

/-- slices.SortFunc of at most twelve numbers -/
theorem sortFunc_int {σ : Sto} {o : Nat} {nl : Bool} {g : FuncId} {fs cs : List AVal} {r : Int → Int → Bool} {p : Int → Prop} {R : Post} (ho : o < σ.length) (hc : CmpI σ o nl g fs cs r p) {D : List Int} (hn : D.length ≤ 12) (hp : ∀ y ∈ D, p y) (hσ : σ[o]? = some (.cells nl (D.map fun n => .int .i64 n)))
    (next : R (.tup []) (stI σ o nl (isort r D))) : Cw T false i_slices_SortFunc_int [.ref o D.length 0 D.length 1, .clo (.func g) fs cs] [] σ R := by
  rw [cw_enter T_slices_SortFunc_int (by simp), run_unfold slices_SortFunc_int.main.eq_1]
  have hu : IntKind.u64.wrap (D.length : Int) = (D.length : Int) := by
    have e1 : (2 : Int) ^ IntKind.u64.bits = 18446744073709551616 := by decide
    have e3 : IntKind.u64.signed = false := rfl
    simp only [IntKind.wrap, e1, e3, Bool.false_and, Bool.false_eq_true, if_false]
    omega
  simp (maxSteps := 2000000) only [go_sem, hσ, List.length_map, hu, callK_of (lens D.length hn)]
  unfold CallK
  rw [cw_enter T_slices_pdqsortCmpFunc_int (by simp), run_unfold slices_pdqsortCmpFunc_int.main.eq_1]
  simp (maxSteps := 2000000) only [go_sem]
  rw [run_round, run_unfold slices_pdqsortCmpFunc_int.b0.eq_1]
  have hw : IntKind.i64.wrap ((D.length : Int) - 0) = (D.length : Int) := by rw [wrap_i64 (by omega) (by omega)]; omega
  simp (maxSteps := 2000000) only [go_sem, hw, show (D.length : Int) ≤ 12 by omega]
  unfold CallK
  refine insertionSort_int ho hc (by omega) hp hσ ?_
  simp (maxSteps := 2000000) only [go_sem]
  exact next

end Go.Abs
/- The walk of cut.Order. -/
set_option linter.unusedSimpArgs false
set_option linter.unusedVariables false
set_option maxRecDepth 100000
set_option maxHeartbeats 4000000
namespace Go.Abs
open Go
attribute [local go_sem_proc] Nat.reduceLT Nat.reduceEqDiff Nat.reduceLeDiff Nat.reduceAdd Nat.reduceSub Nat.reduceMul Int.reduceLT Int.reduceLE Int.reduceEq Int.reduceNeg
attribute [local go_sem_proc ↓] reduceIte

theorem snap_ptr {σ : Sto} {n o gen off : Nat} {nl : Bool} {cs : List AVal} (hσ : σ[o]? = some (.cells nl cs)) (hl : cs.length = gen) (hp : AVal.pures (cs.drop off) = true) : snapA σ (n + 2) (.ptr o gen off) = some (.fptr (cs.drop off)) := by
  have h0 : (AVal.ptr o gen off).pure = false := by simp [AVal.names]
  rw [snapA, h0]
  simp only [Bool.false_eq_true, if_false, hσ, hl, if_true, mapM_snapN hp]
  rfl
theorem snap_nils {σ : Sto} {n o : Nat} {c : List Int} (hσ : σ[o]? = some (.cells true (c.map fun n => AVal.int .i64 n))) : snapA σ (n + 2) (.ref o c.length 0 c.length 1) = some (ints .nil c) := by
  have h0 : (AVal.ref o c.length 0 c.length 1).pure = false := by simp [AVal.names]
  rw [snapA, h0]
  cases c with
  | nil => simp [hσ]; rfl
  | cons x c =>
    have htake : (((x :: c).map fun n => AVal.int .i64 n).drop 0).take ((x :: c).length * 1) = (x :: c).map fun n => AVal.int .i64 n := by
      rw [List.drop_zero, List.take_of_length_le (by simp)]
    simp only [Bool.false_eq_true, if_false, hσ, List.length_map, if_true, Nat.zero_add, Nat.mul_one, Nat.le_refl, true_and, show 0 < 1 by decide, and_self]
    rw [if_neg (by simp)]
    rw [Nat.mul_one] at htake
    rw [htake, mapM_snapN v_names_ints]
    have := chunk_one ((x :: c).map fun n => AVal.int .i64 n)
    rw [List.length_map] at this
    simp only [Option.map_some, this]
    rfl

theorem cut_Order_1_spec {f : SlF} {l : List Com} {i k : Nat} (hi : i < l.length) (hk : k < l.length) (h1 : Fits l[i].past) (h2 : Fits l[k].past) {lv : List Nat} {σ : Sto} {R : Post} : Cw T true i_cut_Order_1 [.int .i64 (i : Int), .int .i64 (k : Int), .fptr [coms f l]] lv σ R ↔ R (.int .i64 (cmpC l[i] l[k])) σ := by
  refine cw_intro T_cut_Order_1 (by simp only [go_sem]) (by simp) ?_; rw [run_unfold cut_Order_1.main.eq_1]
  simp (maxSteps := 2000000) only [go_sem, hi, hk, h1, h2]

/-- the order of indices -/
def ixR (l : List Com) (x y : Int) : Bool := decide (cmpC (l.getD x.toNat (mkCom 0 0 [])) (l.getD y.toNat (mkCom 0 0 [])) < 0)
def isIx (l : List Com) (x : Int) : Prop := ∃ i : Nat, x = (i : Int) ∧ i < l.length

theorem order_cmp {σ : Sto} {o : Nat} {nl : Bool} {f : SlF} {l : List Com} (hp : ∀ x ∈ l, Fits x.past) (ho : o ≠ 0) (hσ : σ[0]? = some (.cells false [coms f l])) : CmpI σ o nl i_cut_Order_1 [] [.ptr 0 1 0] (ixR l) (isIx l) := by
  rintro x y D ⟨i, rfl, hi⟩ ⟨k, rfl, hk⟩
  refine ⟨cmpC l[i] l[k], ?_, fun {Q kk os d e} => ?_⟩
  · unfold ixR
    rw [Int.toNat_natCast, Int.toNat_natCast, List.getD_eq_getElem?_getD, List.getD_eq_getElem?_getD, List.getElem?_eq_getElem hi, List.getElem?_eq_getElem hk]
    rfl
  · refine callK_live T_cut_Order_1 (as := [.int .i64 (i : Int), .int .i64 (k : Int), .fptr [coms f l]]) (cut_Order_1_spec hi hk (hp _ (List.getElem_mem hi)) (hp _ (List.getElem_mem hk))) ?_ (by simp (maxSteps := 2000000) only [go_sem]) rfl
    have h0 : (stI σ o nl D)[0]? = some (.cells false [coms f l]) := by rw [List.getElem?_set_ne ho]; exact hσ
    show [AVal.int .i64 (i : Int), .int .i64 (k : Int), .ptr 0 1 0].mapM _ = _
    have h1 : snapA (stI σ o nl D) 64 (.ptr 0 1 0) = some (.fptr [coms f l]) := snap_ptr (n := 62) (gen := 1) h0 rfl (by simp (maxSteps := 2000000) only [go_sem, List.drop_zero])
    rw [mapM_scons, snapDepth_eq, snapA_step (by simp (maxSteps := 2000000) only [go_sem]), mapM_scons, snapA_step (by simp (maxSteps := 2000000) only [go_sem]), mapM_scons, h1, mapM_snil]

def ix (l : List Com) (s q : Nat) : Int := match (nmap l).get ⟨(s : Int), (q : Int)⟩ with
  | some j => (j : Int)
  | none => 0
def seg (l : List Com) (s : Nat) : Nat → Nat → List Int
  | _, 0 => []
  | q, d + 1 => ix l s (q + 1) :: seg l s (q + 1) d
def rows (l : List Com) (c : List Int) : Nat → Nat → List Int
  | _, 0 => []
  | s, d + 1 => seg l s 0 (c.getD s 0).toNat ++ rows l c (s + 1) d
theorem seg_len {l : List Com} {s : Nat} : ∀ d q, (seg l s q d).length = d
  | 0, _ => rfl
  | d + 1, q => by simp [seg, seg_len d]

theorem look_ix {l : List Com} {s q : Nat} {σ : Sto} : lookupV (.row [(0, 1, false, .int .i64), (1, 1, false, .int .i64)]) (.int .i64 0) false (fmapN (nmap l)) (.agg [.int .i64 (s : Int), .int .i64 (q : Int)]) σ = some (.int .i64 (ix l s q), σ) := by
  show lookAV shN (.int .i64 0) false (encN ⟨(s : Int), (q : Int)⟩) (keysA (nmap l)) (valsA (nmap l)) σ = _
  unfold ix
  generalize nmap l = m
  generalize (⟨(s : Int), (q : Int)⟩ : Nam) = n
  unfold lookAV
  rw [eqA_name, if_pos (by simp), findA_names]
  simp only [NMap.get]
  cases h : m.findIdx? fun p => decide (n = p.1) with
  | none =>
    have : (m.find? fun p => decide (n = p.1)) = none := by
      rw [List.find?_eq_none]
      rw [List.findIdx?_eq_none_iff] at h
      intro x hx; simp [h x hx]
    simp [this]
  | some j =>
    obtain ⟨hj, hp, hlt⟩ := List.findIdx?_eq_some_iff_getElem.1 h
    have : (m.find? fun p => decide (n = p.1)) = some m[j] := by
      rw [List.find?_eq_some_iff_getElem]
      exact ⟨hp, j, hj, rfl, fun k hk => by simpa using hlt k hk⟩
    simp [this, hj]

theorem names_ints_ok {p : Nat → Bool} {l : List Int} : AVal.namesL p (l.map fun n => AVal.int .i64 n) = true := v_names_ints

abbrev orS (f : SlF) (l : List Com) (out : List Int) : Sto := [.cells false [coms f l], .cells true (out.map fun n => .int .i64 n)]

theorem cut_Order_b1 {f g : SlF} {l : List Com} {c : List Int} {s m : Nat} {Q : Post3} (hs : s < 6) (hm : m < 1000) {F : List Int} (hF : F.length < 100000)
    (next : Run T Q (.inLoop cut_Order.b0 :: cut_Order.k0) (mkE 43 [(2, .ptr 0 1 0), (6, fmapN (nmap l)), (7, .ref 1 F.length 0 F.length 1), (17, ints g c), (18, .int .i64 6), (19, .int .i64 ((s + 1 : Nat) : Int))]) (orS f l F)) :
    ∀ d q, q + d = m → ∀ out : List Int, out ++ seg l s q d = F →
    Run T Q (.inLoop cut_Order.b1 :: cut_Order.k1 2) (mkE 43 [(2, .ptr 0 1 0), (6, fmapN (nmap l)), (7, .ref 1 out.length 0 out.length 1), (8, .int .i64 s), (17, ints g c), (18, .int .i64 6), (19, .int .i64 s), (24, .int .i64 m), (25, .int .i64 q)]) (orS f l out) := by
  intro d
  induction d with
  | zero =>
    intro q hq out ho
    rw [run_round, run_unfold cut_Order.b1.eq_1]
    rw [seg, List.append_nil] at ho
    subst ho
    simp (maxSteps := 2000000) only [go_sem, run_unfold cut_Order.c0.eq_1, run_unfold cut_Order.c1.eq_1, run_unfold cut_Order.c2.eq_1, run_unfold cut_Order.c3.eq_1, cut_Order.k0, cut_Order.k1, show q = m by omega, Nat.lt_irrefl, wrap_succ (show s < 9223372036854775807 by omega)]
    exact next
  | succ d ih =>
    intro q hq out ho
    rw [run_round, run_unfold cut_Order.b1.eq_1]
    simp (maxSteps := 2000000) only [go_sem, run_unfold cut_Order.c0.eq_1, run_unfold cut_Order.c1.eq_1, run_unfold cut_Order.c2.eq_1, run_unfold cut_Order.c3.eq_1, cut_Order.k0, cut_Order.k1, show q < m by omega, wrap_succ (show q < 9223372036854775807 by omega)]
    rw [look_ix]
    have hlen : out.length + (d + 1) = F.length := by rw [← ho, List.length_append, seg_len]
    simp (maxSteps := 2000000) only [go_sem]
    refine after_of (appendV_push (n := out.length) (nl := true) (cs := out.map fun n => AVal.int .i64 n) (v := .int .i64 (ix l s (q + 1))) (by rfl) (by rfl) (by simp) rfl (by unfold maxBytes; omega)) ?_
    simp (maxSteps := 2000000) only [go_sem, names_ints_ok, wrap_succ (show q < 9223372036854775807 by omega)]
    have := ih (q + 1) (by omega) (out ++ [ix l s (q + 1)]) (by rw [← ho, seg, List.append_assoc]; rfl)
    rw [List.length_append, List.length_singleton] at this
    unfold orS at this
    rw [List.map_append] at this
    exact this

theorem cut_Order_b0 {f g : SlF} {l : List Com} {c : List Int} {Q : Post3} (hv : valid c = true) {F : List Int} (hF : F.length < 100000)
    (next : Run T Q [.code cut_Order.c0] (mkE 43 [(2, .ptr 0 1 0), (7, .ref 1 F.length 0 F.length 1)]) (orS f l F)) :
    ∀ d s, s + d = 6 → ∀ out : List Int, out ++ rows l c s d = F →
    Run T Q (.inLoop cut_Order.b0 :: .inBlock 0 :: .code cut_Order.c1 :: [.code cut_Order.c0]) (mkE 43 [(2, .ptr 0 1 0), (6, fmapN (nmap l)), (7, .ref 1 out.length 0 out.length 1), (17, ints g c), (18, .int .i64 6), (19, .int .i64 s)]) (orS f l out) := by
  have h6 := valid_len hv
  intro d
  induction d with
  | zero =>
    intro s hs out ho
    rw [run_round, run_unfold cut_Order.b0.eq_1]
    rw [rows, List.append_nil] at ho
    subst ho
    simp (maxSteps := 2000000) only [go_sem, run_unfold cut_Order.c1.eq_1, show s = 6 by omega]
    exact next
  | succ d ih =>
    intro s hs out ho
    rw [run_round, run_unfold cut_Order.b0.eq_1]
    have hsl : s < c.length := by omega
    obtain ⟨m, g1, g2, g3⟩ := valid_get hv hsl
    rw [rows, g3, ← List.append_assoc] at ho
    simp (maxSteps := 2000000) only [go_sem, show ((s : Int) < 6) by omega, hsl, g1]
    refine cut_Order_b1 (m := m) (by omega) g2 (F := out ++ seg l s 0 m) (by
      rw [← ho] at hF; simp only [List.length_append] at hF ⊢; omega) ?_ m 0 (by omega) out rfl
    exact ih (s + 1) (by omega) _ ho

theorem cut_Order_spec {f g : SlF} {l : List Com} {c : List Int} (hl : Fits l) (hv : valid c = true) (hcl : closedP l c = true) (hp : ∀ x ∈ l, Fits x.past) (h12 : (rows l c 0 6).length ≤ 12) (hix : ∀ x ∈ rows l c 0 6, isIx l x) {lv : List Nat} {σ : Sto} {R : Post} :
    Cw T true i_cut_Order [coms f l, ints g c] lv σ R ↔ R (.tup [ints .nil (isort (ixR l) (rows l c 0 6)), .int .i64 0]) σ := by
  refine cw_intro T_cut_Order (by simp only [go_sem]) (by simp) ?_; rw [run_unfold cut_Order.main.eq_1]
  simp (maxSteps := 2000000) only [go_sem, hl, hcl]
  have := cut_Order_b0 (f := f) (g := g) (l := l) (Q := Res [.tmp 4, .tmp 5] (.tup [ints .nil (isort (ixR l) (rows l c 0 6)), .int .i64 0])) hv (F := rows l c 0 6) (by omega) ?_ 6 0 (by omega) [] rfl
  · rw [valid_len hv]
    exact this
  · rw [run_unfold cut_Order.c0.eq_1]
    simp (maxSteps := 2000000) only [go_sem]
    unfold CallK
    refine sortFunc_int (o := 1) (by simp) (order_cmp hp (by decide) rfl) h12 hix rfl ?_
    simp (maxSteps := 2000000) only [go_sem]
    rw [← isort_len (ixR l), snap_nils (n := 61) (by rfl)]
    rfl

end Go.Abs
/- Plain laws of chapter 20: the fixed order. -/
set_option linter.unusedSimpArgs false
set_option linter.unusedVariables false
set_option maxRecDepth 100000
set_option maxHeartbeats 4000000
namespace Go.Abs
open Go

def comAt (l : List Com) (x : Int) : Com := l.getD x.toNat (mkCom 0 0 [])
theorem comAt_get {l : List Com} {i : Nat} (h : i < l.length) : comAt l (i : Int) = l[i] := by
  unfold comAt
  rw [Int.toNat_natCast, List.getD_eq_getElem?_getD, List.getElem?_eq_getElem h]; rfl
theorem comAt_mem {l : List Com} {x : Int} (h : isIx l x) : comAt l x ∈ l := by
  obtain ⟨i, rfl, hi⟩ := h
  rw [comAt_get hi]; exact List.getElem_mem hi

/-- a list whose commits are those of a good list -/
structure Alike (l l' : List Com) : Prop where
  good : LGood l
  mem : ∀ c, c ∈ l' ↔ c ∈ l

theorem ix_ok {l l' : List Com} (h : Alike l l') {c : List Int} (hc : Clo l c) {s q : Nat} (h1 : 1 ≤ q) (h2 : (q : Int) ≤ c.getD s 0) :
    isIx l' (ix l' s q) ∧ (comAt l' (ix l' s q)).st = (s : Int) ∧ (comAt l' (ix l' s q)).seq = (q : Int) ∧ le (own (comAt l' (ix l' s q))) c := by
  obtain ⟨e, he, e1, e2, e3⟩ := hc s q (by omega) h2
  have he' := (h.mem e).2 he
  rcases nmap_cases l' ⟨(s : Int), (q : Int)⟩ with ⟨_, hn⟩ | ⟨j, hj, g1, g2⟩
  · rw [List.find?_eq_none] at hn
    exact absurd (isN_iff.2 ⟨e1, e2⟩) (hn e he')
  · have hx := isN_iff.1 (List.find?_some g2)
    have hm := (h.mem _).1 (List.getElem_mem hj)
    have : l'[j] = e := nd_eq h.good.nd hm he (hx.1.trans e1.symm) (hx.2.trans e2.symm)
    unfold ix
    rw [g1]
    refine ⟨⟨j, rfl, hj⟩, ?_⟩
    rw [comAt_get hj, this]
    exact ⟨e1, e2, e3⟩

theorem seg_mem {l : List Com} {s : Nat} {x : Int} : ∀ d q, x ∈ seg l s q d ↔ ∃ p, q < p ∧ p ≤ q + d ∧ x = ix l s p
  | 0, q => by simp [seg]; intro p h1 h2; omega
  | d + 1, q => by
    rw [seg, List.mem_cons, seg_mem d (q + 1)]
    constructor
    · rintro (h | ⟨p, h1, h2, h3⟩)
      · exact ⟨q + 1, by omega, by omega, h⟩
      · exact ⟨p, by omega, by omega, h3⟩
    · rintro ⟨p, h1, h2, h3⟩
      by_cases e : p = q + 1
      · left; rw [h3, e]
      · exact .inr ⟨p, by omega, by omega, h3⟩
theorem rows_mem {l : List Com} {c : List Int} {x : Int} : ∀ d s, x ∈ rows l c s d ↔ ∃ t p : Nat, s ≤ t ∧ t < s + d ∧ 1 ≤ p ∧ p ≤ (c.getD t 0).toNat ∧ x = ix l t p
  | 0, s => by simp [rows]; intro t h1 h2; omega
  | d + 1, s => by
    rw [rows, List.mem_append, seg_mem, rows_mem d (s + 1)]
    constructor
    · rintro (⟨p, h1, h2, h3⟩ | ⟨t, p, h1, h2, h3⟩)
      · exact ⟨s, p, by omega, by omega, by omega, by omega, h3⟩
      · exact ⟨t, p, by omega, by omega, h3⟩
    · rintro ⟨t, p, h1, h2, h3, h4, h5⟩
      by_cases e : t = s
      · subst e; exact .inl ⟨p, by omega, by omega, h5⟩
      · exact .inr ⟨t, p, by omega, by omega, h3, h4, h5⟩
theorem rows_len {l : List Com} {c : List Int} : ∀ d s, s + d = c.length → (rows l c s d).length = total (c.drop s)
  | 0, s, h => by rw [List.drop_of_length_le (by omega)]; rfl
  | d + 1, s, h => by
    rw [rows, List.length_append, seg_len, rows_len d (s + 1) (by omega), List.drop_eq_getElem_cons (show s < c.length by omega)]
    have : c.getD s 0 = c[s]'(by omega) := by rw [List.getD_eq_getElem?_getD, List.getElem?_eq_getElem (by omega)]; rfl
    rw [this]
    simp only [total, List.map_cons, List.sum_cons]

theorem seg_pw {l l' : List Com} (h : Alike l l') {c : List Int} (hc : Clo l c) {s : Nat} : ∀ d q, ((q + d : Nat) : Int) ≤ c.getD s 0 → (seg l' s q d).Pairwise (fun a b => comAt l' a ≠ comAt l' b)
  | 0, q, _ => List.Pairwise.nil
  | d + 1, q, hq => by
    rw [seg, List.pairwise_cons]
    refine ⟨fun x hx e => ?_, seg_pw h hc d (q + 1) (by omega)⟩
    obtain ⟨p, h1, h2, rfl⟩ := (seg_mem d (q + 1)).1 hx
    have g1 := (ix_ok h hc (s := s) (q := q + 1) (by omega) (by omega)).2.2.1
    have g2 := (ix_ok h hc (s := s) (q := p) (by omega) (by omega)).2.2.1
    rw [e, g2] at g1
    omega
theorem rows_pw {l l' : List Com} (h : Alike l l') {c : List Int} (hv : valid c = true) (hc : Clo l c) : ∀ d s, (rows l' c s d).Pairwise (fun a b => comAt l' a ≠ comAt l' b)
  | 0, s => List.Pairwise.nil
  | d + 1, s => by
    have nn := ((valid_iff.1 hv).2 s).1
    rw [rows, List.pairwise_append]
    refine ⟨seg_pw h hc _ 0 (by omega), rows_pw h hv hc d (s + 1), fun x hx y hy e => ?_⟩
    obtain ⟨p, h1, h2, rfl⟩ := (seg_mem _ 0).1 hx
    obtain ⟨t, r, k1, k2, k3, k4, rfl⟩ := (rows_mem d (s + 1)).1 hy
    have g1 := (ix_ok h hc (s := s) (q := p) (by omega) (by omega)).2.1
    have g2 := (ix_ok h hc (s := t) (q := r) (by omega) (by omega)).2.1
    rw [e, g2] at g1
    omega

/-! ### The order of commits -/
theorem cmp_ord {l : List Com} (hl : LGood l) : Ord3 (fun a b : Com => decide (cmpC a b < 0)) (fun c => c ∈ l) where
  asym a b ha hb h := by
    rw [cmpC_lt] at h ⊢
    repeat' split at h
    all_goals (repeat' split)
    all_goals simp only [decide_eq_true_eq, decide_eq_false_iff_not] at *
    all_goals omega
  trans a b c ha hb hc h1 h2 := by
    rw [cmpC_lt] at h1 h2 ⊢
    repeat' split at h1
    all_goals (repeat' split at h2)
    all_goals (repeat' split)
    all_goals simp only [decide_eq_true_eq, decide_eq_false_iff_not] at *
    all_goals omega
theorem cmp_total {l : List Com} (hl : LGood l) {a b : Com} (ha : a ∈ l) (hb : b ∈ l) (h : ¬ cmpC b a < 0) (hne : a ≠ b) : cmpC a b < 0 := by
  have hnm : ¬ (a.st = b.st ∧ a.seq = b.seq) := fun e => hne (nd_eq hl.nd ha hb e.1 e.2)
  have h1 := before_not hl ha hb hnm
  rw [before_iff hl hb ha, before_iff hl ha hb] at h1
  by_cases h2 : cmpC a b < 0
  · exact h2
  · simp [h, h2] at h1

/-- the commits of a closed cut in the fixed order -/
def orderC (l : List Com) (c : List Int) : List Com := (isort (ixR l) (rows l c 0 6)).map (comAt l)

structure OrdOk (l : List Com) (c : List Int) (cs : List Com) : Prop where
  mem : ∀ e, e ∈ cs ↔ e ∈ l ∧ has c e.nam = true
  srt : cs.Pairwise (fun a b => decide (cmpC a b < 0) = true)

theorem order_ok {l l' : List Com} (h : Alike l l') {c : List Int} (hv : valid c = true) (hc : Clo l c) : (∀ x ∈ rows l' c 0 6, isIx l' x) ∧ OrdOk l c (orderC l' c) := by
  have h6 := valid_len hv
  have hix : ∀ x ∈ rows l' c 0 6, isIx l' x := by
    intro x hx
    obtain ⟨t, p, k1, k2, k3, k4, rfl⟩ := (rows_mem 6 0).1 hx
    have := ((valid_iff.1 hv).2 t).1
    exact (ix_ok h hc k3 (by omega)).1
  have hin : ∀ x, isIx l' x → comAt l' x ∈ l := fun x hx => (h.mem _).1 (comAt_mem hx)
  have ord : Ord3 (ixR l') (isIx l') := by
    have o := cmp_ord h.good
    exact ⟨fun a b ha hb => o.asym _ _ (hin a ha) (hin b hb), fun a b c ha hb hc => o.trans _ _ _ (hin a ha) (hin b hb) (hin c hc)⟩
  refine ⟨hix, fun e => ?_, ?_⟩
  · unfold orderC
    rw [List.mem_map]
    constructor
    · rintro ⟨x, hx, rfl⟩
      rw [isort_mem] at hx
      have hm := hin x (hix x hx)
      obtain ⟨t, p, k1, k2, k3, k4, rfl⟩ := (rows_mem 6 0).1 hx
      have := ((valid_iff.1 hv).2 t).1
      exact ⟨hm, (has_own h.good hv hc hm).2 (ix_ok h hc k3 (by omega)).2.2.2⟩
    · rintro ⟨he, hh⟩
      have ge := h.good.coms e he
      have hle := (has_iff h.good hv he).1 hh
      have hs := ge.seq
      have hp := ge.pst
      have hst := ge.st6
      have h0 := ge.s0
      have hcast : ((e.seq.toNat : Nat) : Int) = e.seq := by omega
      have := ix_ok h hc (s := e.st.toNat) (q := e.seq.toNat) (by omega) (by omega)
      refine ⟨ix l' e.st.toNat e.seq.toNat, ?_, ?_⟩
      · rw [isort_mem]
        exact (rows_mem 6 0).2 ⟨e.st.toNat, e.seq.toNat, by omega, by omega, by omega, by omega, rfl⟩
      · exact nd_eq h.good.nd (hin _ this.1) he (by rw [this.2.1]; omega) (by rw [this.2.2.1]; exact hcast)
  · unfold orderC
    rw [List.pairwise_map]
    have s1 := isort_sorted ord hix
    have s2 := ((isort_perm (ixR l') (rows l' c 0 6)).pairwise_iff (R := fun a b => comAt l' a ≠ comAt l' b) (fun h e => h e.symm)).2 (rows_pw h hv hc 6 0)
    refine (s1.and s2).imp_of_mem fun {a b} ha hb hab => ?_
    rw [isort_mem] at ha hb
    have := cmp_total h.good (hin a (hix a ha)) (hin b (hix b hb)) (by
      have := hab.1
      exact of_decide_eq_false this) hab.2
    simpa using this

theorem ord_unique {l : List Com} (hl : LGood l) {c c' : List Int} {cs cs' : List Com} (h : OrdOk l c cs) (h' : OrdOk l c' cs') (e : ∀ x ∈ l, has c x.nam = has c' x.nam) : cs = cs' := by
  refine strict_unique (p := fun c => c ∈ l) (cmp_ord hl).asym (fun x hx => ((h.mem x).1 hx).1) (fun x => ?_) h.srt h'.srt
  rw [h.mem, h'.mem]
  constructor
  · rintro ⟨a, b⟩; exact ⟨a, by rw [← e x a]; exact b⟩
  · rintro ⟨a, b⟩; exact ⟨a, by rw [e x a]; exact b⟩

theorem ord_filter {l : List Com} (hl : LGood l) {a c : List Int} (va : valid a = true) (vc : valid c = true) (hle : le a c) {cs cs' : List Com} (h : OrdOk l c cs) (h' : OrdOk l a cs') : cs' = cs.filter fun e => has a e.nam := by
  refine strict_unique (p := fun c => c ∈ l) (cmp_ord hl).asym (fun x hx => ((h'.mem x).1 hx).1) (fun x => ?_) h'.srt (h.srt.filter _)
  rw [h'.mem, List.mem_filter, h.mem]
  constructor
  · rintro ⟨g1, g2⟩
    refine ⟨⟨g1, ?_⟩, g2⟩
    rw [has_iff hl vc g1]
    exact Int.le_trans ((has_iff hl va g1).1 g2) (hle _)
  · rintro ⟨⟨g1, _⟩, g3⟩
    exact ⟨g1, g3⟩

/-- different members of a list are not more than it has -/
theorem few_of_nodup {α : Type} : ∀ {xs ys : List α}, xs.Pairwise (fun a b => a ≠ b) → (∀ x ∈ xs, x ∈ ys) → xs.length ≤ ys.length
  | [], ys, _, _ => Nat.zero_le _
  | x :: xs, ys, h, hm => by
    rw [List.pairwise_cons] at h
    obtain ⟨s, t, rfl⟩ := List.append_of_mem (hm x (by simp))
    have := few_of_nodup (ys := s ++ t) h.2 fun y hy => by
      have h1 := hm y (by simp [hy])
      have h2 := h.1 y hy
      simp only [List.mem_append, List.mem_cons] at h1 ⊢
      rcases h1 with h1 | h1 | h1
      · exact .inl h1
      · exact absurd h1.symm h2
      · exact .inr h1
    simp only [List.length_append, List.length_cons] at this ⊢
    omega
theorem rows_few {l l' : List Com} (h : Alike l l') {c : List Int} (hv : valid c = true) (hc : Clo l c) : (rows l' c 0 6).length ≤ l'.length := by
  have h1 := rows_pw h hv hc 6 0
  have h2 := (order_ok h hv hc).1
  have := few_of_nodup (xs := (rows l' c 0 6).map (comAt l')) (ys := l') (by rw [List.pairwise_map]; exact h1) fun x hx => by
    obtain ⟨i, hi, rfl⟩ := List.mem_map.1 hx
    exact comAt_mem (h2 i hi)
  rwa [List.length_map] at this
end Go.Abs
/- Chapter 23: the examples, by evaluation. -/
namespace Go.Abs
open Go

theorem l23_examples_says : fSays T 1000 i_l23_examples [] AVal.isTrue = true := by kernel_rfl
theorem l23_examples_spec {lv : List Nat} {σ : Sto} {R : Post} : Cw T true i_l23_examples [] lv σ R ↔ R (.bool true) σ := cw_true T_l23_examples rfl l23_examples_says
@[go_sem] theorem l23_examples_call {Q : Post3} {k : List Item} {os : List AOper} {d : Option Nat} {e : Env} {σ : Sto} : CallK T Q k os d e σ true i_l23_examples [] ↔ Run T Q (.ops os :: k) (put e d (.bool true)) σ := l23_examples_spec
end Go.Abs
