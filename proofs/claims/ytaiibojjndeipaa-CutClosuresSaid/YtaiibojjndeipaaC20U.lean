/- The walk of Closure's own closure. -/
import Derived.Test.YtaiibojjndeipaaC20T
set_option linter.all false
set_option linter.unusedSimpArgs false
set_option linter.unusedVariables false
set_option maxRecDepth 100000
set_option maxHeartbeats 4000000
namespace Go.Abs
open Go

abbrev addV : AVal := .clo (.func i_cut_Closure_1) [] [.ptr 1 1 0, .ptr 0 1 0, .ptr 3 1 0, .ptr 4 1 0]
abbrev Bst (f : SlF) (l : List Com) (c : List Int) (ρ : Sto) : Sto := .cells false [coms f l] :: .cells false [fmapN (nmap l)] :: .cells false (c.map fun n => .int .i64 n) :: .cells false [.ref 2 6 0 6 1] :: .cells false [addV] :: ρ

theorem get5a {x y : AObj} {ρ : Sto} : (ρ ++ [x] ++ [y])[ρ.length]? = some x := by simp
theorem get5c {x : AObj} {ρ : Sto} : (ρ ++ [x])[ρ.length]? = some x := by simp
theorem get5b {x y : AObj} {ρ : Sto} : (ρ ++ [x] ++ [y])[ρ.length + 1]? = some y := by simp
theorem set5 {x y z : AObj} {ρ : Sto} : (ρ ++ [x] ++ [y]).set (ρ.length + 1) z = ρ ++ [x] ++ [z] := by simp
theorem len6 {x : AObj} {ρ : Sto} : (ρ ++ [x]).length + 5 = ρ.length + 6 := by simp
theorem len5 {a b c d e : AObj} {ρ : Sto} : (a :: b :: c :: d :: e :: ρ).length = ρ.length + 5 := rfl

theorem add_head {f : SlF} {l : List Com} {c : List Int} {i : Nat} {ρ : Sto} {R : Post} (hl : Fits l) (hc : valid c = true) (hi : i < l.length) (hw : wf l[i] = true) {s : Nat} {q : Int} (hs : s < 6) (hm : (nmap l).get ⟨s, q⟩ = some i)
    (next : Run T (Ret [.tmp 6] R) (.inLoop cut_Closure_1.b0 :: cut_Closure_1.k0) (mkE 69 [(1, .ptr 1 1 0), (2, .ptr 0 1 0), (3, .ptr 3 1 0), (4, .ptr 4 1 0), (40, .ref (ρ.length + 6) 6 0 6 1), (41, .int .i64 6), (42, .int .i64 0)]) (Bst f l c (ρ ++ [.cells false [.int .i64 s, .int .i64 q]] ++ [.cells false ((l[i].past.set s q).map fun n => .int .i64 n)]))) :
    Cw T false i_cut_Closure_1 [.agg [.int .i64 (s : Int), .int .i64 q], .ptr 1 1 0, .ptr 0 1 0, .ptr 3 1 0, .ptr 4 1 0] [] (Bst f l c ρ) R := by
  rw [cw_enter T_cut_Closure_1 (by simp), run_unfold cut_Closure_1.main.eq_1]
  simp (maxSteps := 2000000) only [go_sem, ↓reduceIte, Nat.reduceLT, Nat.reduceEqDiff, Nat.reduceLeDiff, Nat.reduceAdd, Nat.reduceSub, Nat.reduceMul, Int.reduceLT, Int.reduceLE, Int.reduceEq, Int.reduceNeg, get5c, ↓len5, hi, hw, hm]
  have hv : valid l[i].past = true := by unfold wf at hw; simp only [Bool.and_eq_true] at hw; exact hw.1.2
  unfold CallK
  rw [slices_Clone_int_spec (ne_nil_of_valid hv) (bytes_of_valid hv)]
  simp (maxSteps := 2000000) only [go_sem, ↓reduceIte, Nat.reduceLT, Nat.reduceEqDiff, Nat.reduceLeDiff, Nat.reduceAdd, Nat.reduceSub, Nat.reduceMul, Int.reduceLT, Int.reduceLE, Int.reduceEq, Int.reduceNeg, get5a, get5b, set5, len6, ↓len5, valid_len hv, hs, show s ≤ 5 by omega, show s + 1 ≤ 6 by omega, List.length_set]
  exact next

/-- what a nested call does -/
def AddOk (f : SlF) (l : List Com) (c : List Int) (s : Nat) (q : Int) (c2 : List Int) : Prop := ∀ {ρ : Sto} {R : Post}, (∀ p, ρ.all (AObj.under p) = true) → (∀ x y, R (.bool true) (Bst f l c2 (ρ ++ [x] ++ [y]))) →
    Cw T false i_cut_Closure_1 [.agg [.int .i64 (s : Int), .int .i64 q], .ptr 1 1 0, .ptr 0 1 0, .ptr 3 1 0, .ptr 4 1 0] [] (Bst f l c ρ) R

theorem add_round {f : SlF} {l : List Com} {c c2 : List Int} {ρ : Sto} {Q : Post3} {n j : Nat} {m : Int} {k : List Item} (hc : valid c = true) (hj : j < 6) (hlt : c.getD j 0 < m) (hm : m ≤ 999) (hn : n < ρ.length + 5) (hρ : ∀ p, ρ.all (AObj.under p) = true) (hok : AddOk f l (c.set j (c.getD j 0 + 1)) j (c.getD j 0 + 1) c2)
    (next : Run T Q (.inLoop cut_Closure_1.b1 :: k) (mkE 69 [(1, .ptr 1 1 0), (2, .ptr 0 1 0), (3, .ptr 3 1 0), (4, .ptr 4 1 0), (10, .int .i64 j), (11, .int .i64 m), (40, .ref n 6 0 6 1), (41, .int .i64 6), (42, .int .i64 j)]) (Bst f l c2 ρ)) :
    Run T Q (.inLoop cut_Closure_1.b1 :: k) (mkE 69 [(1, .ptr 1 1 0), (2, .ptr 0 1 0), (3, .ptr 3 1 0), (4, .ptr 4 1 0), (10, .int .i64 j), (11, .int .i64 m), (40, .ref n 6 0 6 1), (41, .int .i64 6), (42, .int .i64 j)]) (Bst f l c ρ) := by
  rw [run_round, run_unfold cut_Closure_1.b1.eq_1]
  have h6 := valid_len hc
  have hjl : j < c.length := by omega
  have hg : c.getD j 0 = c[j] := by rw [List.getD_eq_getElem?_getD, List.getElem?_eq_getElem hjl]; rfl
  rw [hg] at hlt hok
  obtain ⟨v, hv1, hv2, _⟩ := valid_get hc hjl
  have hw : IntKind.i64.wrap (c[j] + 1) = c[j] + 1 := wrap_i64 (by omega) (by omega)
  have hjs : j < (c.set j (c[j] + 1)).length := by rw [List.length_set]; exact hjl
  simp (maxSteps := 2000000) only [go_sem, ↓reduceIte, Nat.reduceLT, Nat.reduceEqDiff, Nat.reduceLeDiff, Nat.reduceAdd, Nat.reduceSub, Nat.reduceMul, Int.reduceLT, Int.reduceLE, Int.reduceEq, Int.reduceNeg, ↓len5, hj, hjl, h6, hlt, hw, hjs, List.length_set, List.getElem_set_self, show j ≤ 5 by omega, show j + 1 ≤ 6 by omega]
  refine hok hρ fun x y => ?_
  have htake : (ρ ++ [x] ++ [y]).take ρ.length = ρ := by simp
  simp (maxSteps := 2000000) only [go_sem, ↓reduceIte, Nat.reduceLT, Nat.reduceEqDiff, Nat.reduceLeDiff, Nat.reduceAdd, Nat.reduceSub, Nat.reduceMul, Int.reduceLT, Int.reduceLE, Int.reduceEq, Int.reduceNeg, ↓len5, htake, hρ, hn, show 2 < ρ.length + 5 by omega, show 1 < ρ.length + 5 by omega, show 0 < ρ.length + 5 by omega, show 3 < ρ.length + 5 by omega, show 4 < ρ.length + 5 by omega]
  exact next

end Go.Abs
