/- The walk of CutClosures. -/
import Derived.Test.YtaiibojjndeipaaC20X
import Derived.Test.YtaiibojjndeipaaC20S
set_option linter.all false
set_option linter.unusedSimpArgs false
set_option linter.unusedVariables false
set_option maxRecDepth 100000
set_option maxHeartbeats 4000000
namespace Go.Abs
open Go

theorem l20_closure_spec {f g : SlF} {l : List Com} {ns : List Nam} (hf : Fits l) (hl : LGood l) (hns : ∀ n ∈ ns, Mem l n) (hn : Fits ns) {lv : List Nat} {σ : Sto} {R : Post} : Cw T true i_l20_closure [coms f l, noms g ns] lv σ R ↔ R (encU ⟨.lst, cloF l ns, 0⟩) σ := by
  refine cw_intro T_l20_closure (by simp only [go_sem]) (by simp) ?_; rw [run_unfold l20_closure.main.eq_1]
  simp (maxSteps := 2000000) only [go_sem, ↓reduceIte, Nat.reduceLT, Nat.reduceEqDiff, Nat.reduceLeDiff, Nat.reduceAdd, Nat.reduceSub, Nat.reduceMul, Int.reduceLT, Int.reduceLE, Int.reduceEq, Int.reduceNeg, cut_Closure_call (f := f) (g := g) hf hl hns hn]
@[go_sem] theorem l20_closure_call {f g : SlF} {l : List Com} {ns : List Nam} (hf : Fits l) (hl : LGood l) (hns : ∀ n ∈ ns, Mem l n) (hn : Fits ns) {Q : Post3} {k : List Item} {os : List AOper} {d : Option Nat} {e : Env} {σ : Sto} : CallK T Q k os d e σ true i_l20_closure [coms f l, noms g ns] ↔ Run T Q (.ops os :: k) (put e d (encU ⟨.lst, cloF l ns, 0⟩)) σ := l20_closure_spec hf hl hns hn


theorem chosen_mem {l : List Com} {b : List Nat} : ∀ n ∈ chosen l b, Mem l n := by
  intro n h
  unfold chosen at h
  split at h
  · simp at h
  · obtain ⟨k, _, rfl⟩ := List.mem_map.1 h
    have hk : k % l.length < l.length := Nat.mod_lt _ (by omega)
    refine ⟨l[k % l.length], List.getElem_mem hk, ?_⟩
    unfold pick
    rw [List.getD_eq_getElem?_getD, List.getElem?_eq_getElem hk]; rfl
theorem chosen_len {l : List Com} {b : List Nat} : (chosen l b).length ≤ 6 := by
  unfold chosen
  split
  · simp
  · simp; omega

abbrev clS (f0 f1 f2 : SlF) (k0 k1 k2 : List Nat) (a b u : List Int) (X : List Nam) : Sto := [.cells false [bytesV f0 k0, bytesV f1 k1, bytesV f2 k2], .dead, .cells false [ints .lst a, .int .i64 0], .cells false [ints .lst b, .int .i64 0], .cells false [ints .lst u, .int .i64 0], .cells false (X.flatMap cellsN)]
def inside (c : List Int) (l : List Com) : List Nam := (l.filter fun e => has c e.nam).map Com.nam

theorem inside_snoc {c : List Int} {l : List Com} {i : Nat} (hi : i < l.length) : inside c (l.take (i + 1)) = if has c l[i].nam = true then inside c (l.take i) ++ [l[i].nam] else inside c (l.take i) := by
  rw [List.take_succ_eq_append_getElem hi]
  simp only [inside, List.filter_append, List.map_append, List.filter_cons, List.filter_nil]
  split <;> simp

theorem cl_b1 {f0 f1 f2 : SlF} {k0 k1 k2 : List Nat} {l : List Com} {m n : List Nam} {c b u : List Int} (hf : Fits l) (hl : LGood l) (h12 : l.length ≤ 12) (vc : valid c = true) (P : Closures l m n c) : ∀ i, i ≤ l.length →
    Run T (Ret [.tmp 4] yes) (.inLoop l20_CutClosures.b1 :: l20_CutClosures.k1) (mkE 134 [(5, .bool true), (6, coms .lst l), (9, .ptr 2 2 0), (12, ints .lst c), (13, .bool (m.all (has c))), (14, .ref 5 ((inside c (l.take i)).length * 2) 0 (inside c (l.take i)).length 2), (16, .int .i64 i)]) (clS f0 f1 f2 k0 k1 k2 (cloF l m) b u (inside c (l.take i))) := by
  have one2 : ∀ y : Nam, (cellsN y).all AVal.one = true := fun _ => rfl
  have hmem : ∀ x ∈ inside c l, Mem l x := by
    intro x hx
    obtain ⟨e, he, rfl⟩ := List.mem_map.1 hx
    exact ⟨e, (List.mem_filter.1 he).1, rfl⟩
  have hlen : ∀ i, (inside c (l.take i)).length ≤ 12 := by
    intro i
    unfold inside
    rw [List.length_map]
    exact Nat.le_trans (List.length_filter_le _ _) (by rw [List.length_take]; omega)
  have hfi : Fits (inside c l) := by have := hlen l.length; rw [List.take_length] at this; unfold Fits; omega
  refine up_ind ?_ fun i hi ih => ?_
  · rw [run_round, run_unfold l20_CutClosures.b1.eq_1]
    rw [List.take_length]
    simp (maxSteps := 2000000) only [go_sem, ↓reduceIte, Nat.reduceLT, Nat.reduceEqDiff, Nat.reduceLeDiff, Nat.reduceAdd, Nat.reduceSub, Nat.reduceMul, Int.reduceLT, Int.reduceLE, Int.reduceEq, Int.reduceNeg, run_unfold l20_CutClosures.c0.eq_1, run_unfold l20_CutClosures.c1.eq_1, run_unfold l20_CutClosures.c2.eq_1, l20_CutClosures.k0, l20_CutClosures.k1, P.leq, Nat.lt_irrefl, P.va]
    refine afterG_of (deep_structs (g := cellsN) (n := 62) (by decide) (by decide) cellsN_len (fun c => cellsN_pure c) (by rfl)) ?_
    have e4 : AVal.list 2 ((inside c l).map fun x => .agg (cellsN x)) = noms .lst (inside c l) := (sv_lst _ _).symm
    rw [e4]
    have hfc := fits6 vc
    have hall : cloF l (inside c l) = c := P.all
    simp (maxSteps := 2000000) only [go_sem, ↓reduceIte, Nat.reduceLT, Nat.reduceEqDiff, Nat.reduceLeDiff, Nat.reduceAdd, Nat.reduceSub, Nat.reduceMul, Int.reduceLT, Int.reduceLE, Int.reduceEq, Int.reduceNeg, l20_closure_call (f := .lst) (g := .lst) hf hl hmem hfi, hall, x_eq, decide_true, Bool.and_self, hfc]
  · rw [run_round, run_unfold l20_CutClosures.b1.eq_1]
    have hsn := inside_snoc (c := c) hi
    cases hh : has c l[i].nam
    · rw [hh] at hsn
      rw [if_neg (by decide)] at hsn
      rw [hsn] at ih
      have hh' : has c ⟨l[i].st, l[i].seq⟩ = false := hh
      have hX := hlen i
      generalize inside c (l.take i) = X at ih hX ⊢
      simp (maxSteps := 2000000) only [go_sem, ↓reduceIte, Nat.reduceLT, Nat.reduceEqDiff, Nat.reduceLeDiff, Nat.reduceAdd, Nat.reduceSub, Nat.reduceMul, Int.reduceLT, Int.reduceLE, Int.reduceEq, Int.reduceNeg, hi, hf, hh', wrap_succ (show i < 9223372036854775807 by omega), names_noms, run_unfold l20_CutClosures.c0.eq_1, run_unfold l20_CutClosures.c1.eq_1, run_unfold l20_CutClosures.c2.eq_1, l20_CutClosures.k0, l20_CutClosures.k1]
      exact ih
    · rw [hh, if_pos rfl] at hsn
      rw [hsn] at ih
      have hh' : has c ⟨l[i].st, l[i].seq⟩ = true := hh
      have hX := hlen i
      generalize inside c (l.take i) = X at ih hX ⊢
      simp (maxSteps := 2000000) only [go_sem, ↓reduceIte, Nat.reduceLT, Nat.reduceEqDiff, Nat.reduceLeDiff, Nat.reduceAdd, Nat.reduceSub, Nat.reduceMul, Int.reduceLT, Int.reduceLE, Int.reduceEq, Int.reduceNeg, hi, hf, hh']
      refine after_of (appendV_struct (X := X) (y := l[i].nam) (by decide) cellsN_len one2 (by rfl) (by rfl) (by unfold maxBytes; omega)) ?_
      simp (maxSteps := 2000000) only [go_sem, ↓reduceIte, Nat.reduceLT, Nat.reduceEqDiff, Nat.reduceLeDiff, Nat.reduceAdd, Nat.reduceSub, Nat.reduceMul, Int.reduceLT, Int.reduceLE, Int.reduceEq, Int.reduceNeg, run_unfold l20_CutClosures.c0.eq_1, run_unfold l20_CutClosures.c1.eq_1, run_unfold l20_CutClosures.c2.eq_1, l20_CutClosures.k0, l20_CutClosures.k1, names_noms, wrap_succ (show i < 9223372036854775807 by omega)]
      exact ih

theorem cl_b0 {f0 f1 f2 : SlF} {k0 k1 k2 : List Nat} {l : List Com} {m n : List Nam} {c b u : List Int} (hf : Fits l) (hl : LGood l) (h12 : l.length ≤ 12) (hm : Fits m) (vc : valid c = true) (P : Closures l m n c) : ∀ i, i ≤ m.length →
    Run T (Ret [.tmp 4] yes) (.inLoop l20_CutClosures.b0 :: l20_CutClosures.k0) (mkE 134 [(5, .bool true), (6, coms .lst l), (7, noms .lst m), (9, .ptr 2 2 0), (12, ints .lst c), (13, .bool ((m.take i).all (has c))), (14, .ref 5 0 0 0 2), (15, .int .i64 i)]) (clS f0 f1 f2 k0 k1 k2 (cloF l m) b u []) := by
  refine up_ind ?_ fun i hi ih => ?_
  · rw [run_round, run_unfold l20_CutClosures.b0.eq_1]
    rw [List.take_length]
    simp (maxSteps := 2000000) only [go_sem, ↓reduceIte, Nat.reduceLT, Nat.reduceEqDiff, Nat.reduceLeDiff, Nat.reduceAdd, Nat.reduceSub, Nat.reduceMul, Int.reduceLT, Int.reduceLE, Int.reduceEq, Int.reduceNeg, run_unfold l20_CutClosures.c0.eq_1, run_unfold l20_CutClosures.c1.eq_1, run_unfold l20_CutClosures.c2.eq_1, l20_CutClosures.k0, l20_CutClosures.k1, Nat.lt_irrefl]
    exact cl_b1 hf hl h12 vc P 0 (by omega)
  · rw [run_round, run_unfold l20_CutClosures.b0.eq_1]
    have h1 := P.has m[i] (List.getElem_mem hi)
    rw [List.take_succ_eq_append_getElem hi, List.all_append] at ih
    cases hq : (m.take i).all (has c) <;> rw [hq] at ih
    · simp (maxSteps := 2000000) only [go_sem, ↓reduceIte, Nat.reduceLT, Nat.reduceEqDiff, Nat.reduceLeDiff, Nat.reduceAdd, Nat.reduceSub, Nat.reduceMul, Int.reduceLT, Int.reduceLE, Int.reduceEq, Int.reduceNeg, hi, h1, hq, wrap_succ (show i < 9223372036854775807 by omega)]
      simpa using ih
    · simp (maxSteps := 2000000) only [go_sem, ↓reduceIte, Nat.reduceLT, Nat.reduceEqDiff, Nat.reduceLeDiff, Nat.reduceAdd, Nat.reduceSub, Nat.reduceMul, Int.reduceLT, Int.reduceLE, Int.reduceEq, Int.reduceNeg, hi, h1, hq, wrap_succ (show i < 9223372036854775807 by omega)]
      simpa using ih

theorem cutClosures_true {f f0 f1 f2 : SlF} {x k0 k1 k2 : List Nat} (hb : Fits x) (hb8 : ∀ n ∈ x, n < 256) (h0 : Fits k0) (h1 : Fits k1) (h2 : Fits k2) (h08 : ∀ n ∈ k0, n < 256) (h18 : ∀ n ∈ k1, n < 256) : Cw T false i_l20_CutClosures [bytesV f x, .agg [bytesV f0 k0, bytesV f1 k1, bytesV f2 k2]] [] [] yes := by
  have hf : Fits (headers x) := by have := headers_fits x; unfold Fits; omega
  have hl := headers_lgood x
  have h12 := headers_fits x
  generalize hL : headers x = l at hf hl h12
  obtain ⟨cc, vc⟩ := cutOfL_closed l k2
  generalize hc' : cutOfL l k2 = c at cc vc
  have hm := @chosen_mem l k0
  have hn := @chosen_mem l k1
  have lm := @chosen_len l k0
  have ln := @chosen_len l k1
  generalize hM : chosen l k0 = m at hm lm
  generalize hN : chosen l k1 = n at hn ln
  have hmn : ∀ y ∈ m ++ n, Mem l y := fun y hy => (List.mem_append.1 hy).elim (hm y) (hn y)
  have P := closures_good hl hm hn vc cc
  have fm : Fits m := by unfold Fits; omega
  have fn : Fits n := by unfold Fits; omega
  have fmn : Fits (m ++ n) := by unfold Fits; simp; omega
  rw [cw_enter T_l20_CutClosures (by simp), run_unfold l20_CutClosures.main.eq_1]
  simp (maxSteps := 2000000) only [go_sem, ↓reduceIte, Nat.reduceLT, Nat.reduceEqDiff, Nat.reduceLeDiff, Nat.reduceAdd, Nat.reduceSub, Nat.reduceMul, Int.reduceLT, Int.reduceLE, Int.reduceEq, Int.reduceNeg, r20_Headers_call (f := f) hb hb8, hL, hf, h0, h1, h2, h08, h18, l20_chosen_call (f := .lst) (g := f0) hf h0 h08, l20_chosen_call (f := .lst) (g := f1) hf h1 h18, hM, hN, l20_closure_call (f := .lst) (g := .lst) hf hl hm fm, l20_closure_call (f := .lst) (g := .lst) hf hl hn fn, x_ia0, x_ia1, x_ia2, hl, hm, hn, fm, fn]
  have one2 : ∀ y : Nam, (cellsN y).all AVal.one = true := fun _ => rfl
  refine after_of (appendV_structs (X := []) (Y := m) (by decide) cellsN_len one2 (by rfl) (by unfold maxBytes; simp; omega)) ?_
  simp (maxSteps := 2000000) only [go_sem, ↓reduceIte, Nat.reduceLT, Nat.reduceEqDiff, Nat.reduceLeDiff, Nat.reduceAdd, Nat.reduceSub, Nat.reduceMul, Int.reduceLT, Int.reduceLE, Int.reduceEq, Int.reduceNeg, List.nil_append]
  refine after_of (appendV_structs (X := m) (Y := n) (by decide) cellsN_len one2 (by rfl) (by unfold maxBytes; omega)) ?_
  simp (maxSteps := 2000000) only [go_sem, ↓reduceIte, Nat.reduceLT, Nat.reduceEqDiff, Nat.reduceLeDiff, Nat.reduceAdd, Nat.reduceSub, Nat.reduceMul, Int.reduceLT, Int.reduceLE, Int.reduceEq, Int.reduceNeg]
  refine afterG_of (deep_structs (n := 62) (by decide) (by decide) cellsN_len (fun c => cellsN_pure c) (by rfl)) ?_
  have e4 : AVal.list 2 ((m ++ n).map fun x => .agg (cellsN x)) = noms .lst (m ++ n) := (sv_lst _ _).symm
  rw [e4]
  have fa := fits6 P.va
  have fb := fits6 P.vb
  have vm : valid (cloF l (m ++ n)) = true := by rw [← P.both]; exact valid_maxL P.va P.vb
  have fm' := fits6 vm
  simp (maxSteps := 2000000) only [go_sem, ↓reduceIte, Nat.reduceLT, Nat.reduceEqDiff, Nat.reduceLeDiff, Nat.reduceAdd, Nat.reduceSub, Nat.reduceMul, Int.reduceLT, Int.reduceLE, Int.reduceEq, Int.reduceNeg, l20_closure_call (f := .lst) (g := .lst) hf hl hmn fmn, P.cl, hf, P.va, P.vb, cutOf, P.both, fm', x_eq, decide_true, Bool.and_self, r20_CutOf_call (f := .lst) (g := f2) hf h2, hc', x_ia2]
  exact cl_b0 hf hl h12 fm vc P 0 (by omega)

end Go.Abs
