/- Walks of chapter 36: CostChoice. -/
import Derived.Test.YtdiekiajedmaeaaJC36SC
set_option linter.all false
set_option linter.unusedSimpArgs false
set_option linter.unusedVariables false
set_option maxRecDepth 100000
set_option maxHeartbeats 8000000
namespace Go.Abs
open Go
attribute [local go_sem_proc] Nat.reduceLT Nat.reduceEqDiff Nat.reduceLeDiff Nat.reduceAdd Nat.reduceSub Nat.reduceMul Int.reduceLT Int.reduceLE Int.reduceEq Int.reduceNeg
attribute [local go_sem_proc ↓] reduceIte

abbrev u16A (f : SlF) (xs : List Nat) : AVal := sv 1 f (xs.map fun x : Nat => .int .u16 (x : Int))
theorem flat_set1 {v : Int} : ∀ {W : List Pc} {i : Nat} (h : i < W.length), List.take (i * 2 + 1) (W.flatMap fun p => [AVal.int .i64 p.n, .int .i64 p.b]) ++ [AVal.int .i64 v] ++ List.drop (i * 2 + 1 + 1) (W.flatMap fun p => [AVal.int .i64 p.n, .int .i64 p.b]) = (W.set i ⟨W[i].n, v⟩).flatMap fun p => [AVal.int .i64 p.n, .int .i64 p.b]
 | p :: W, 0, _ => rfl
 | p :: W, i + 1, h => by
  have ih := flat_set1 (v := v) (W := W) (i := i) (by simpa using h)
  have e : (i + 1) * 2 = i * 2 + 1 + 1 := by omega
  simp only [List.flatMap_cons, List.cons_append, List.nil_append, e, List.take_succ_cons, List.drop_succ_cons, List.set_cons_succ, List.getElem_cons_succ] at ih ⊢
  rw [← ih]
theorem choice_loop {f : SlF} {l : List Pc} {xs : List Nat} {Q : Post3} (hl : l.length ≤ 60) (hp : ∀ p ∈ l, 1 ≤ p.n ∧ p.n ≤ 79) (hx : ∀ x ∈ xs, x < 65536)
  (next : ∀ (C : List Int) (most : Int), C.length = 16 → (∀ k, k < 16 → C.getD k 0 = (cntL l k : Int)) → ((4 : Int) ≤ most ↔ ∃ k, k < 16 ∧ (4 : Int) ≤ C.getD k 0) →
   Run T Q [.code Xq30.c2, .code Xq30.c1] (mkE 97 [(1, u16A f xs), (5, .bool true), (6, pcA .lst l), (7, .ref 0 (l.length * 2) 0 l.length 2), (8, .ptr 1 16 0), (9, .int .i64 most), (10, .int .i64 l.length), (26, .bool false)]) [pcO (othP l xs), .cells false (C.map fun n => .int .i64 n)]) :
  ∀ i, i ≤ l.length → ∀ (W : List Pc) (C : List Int) (most : Int), W = (othP l xs).take i ++ l.drop i → C.length = 16 → (∀ k, k < 16 → C.getD k 0 + (cntL (l.drop i) k : Int) = (cntL l k : Int)) → ((4 : Int) ≤ most ↔ ∃ k, k < 16 ∧ (4 : Int) ≤ C.getD k 0) →
  Run T Q (.inLoop Xq30.b0 :: Xq30.k0) (mkE 97 [(1, u16A f xs), (5, .bool true), (6, pcA .lst l), (7, .ref 0 (l.length * 2) 0 l.length 2), (8, .ptr 1 16 0), (9, .int .i64 most), (10, .int .i64 i)]) [pcO W, .cells false (C.map fun n => .int .i64 n)] := by
 refine up_ind (fun W C most hW hC hc hm => ?_) fun i hi ih W C most hW hC hc hm => ?_
 ·rw [List.drop_length, List.append_nil, List.take_of_length_le (by rw [othP_len]; exact Nat.le_refl _)] at hW
  subst hW
  have nx := next C most hC (fun k hk => by have := hc k hk; rw [List.drop_length] at this; simpa [cntL] using this) hm
  rw [run_round, run_unfold Xq30.b0.eq_1]
  simp (maxSteps := 2000000) only [go_sem, Xq30.k0, Int.lt_irrefl, decide_false]
  exact nx
 ·have w1 := wrap_succ (show i < 9223372036854775807 by omega)
  have hWl : W.length = l.length := by rw [hW, List.length_append, List.length_take, List.length_drop, othP_len]; omega
  have hWi : W[i]? = some l[i] := by
   rw [hW, List.getElem?_append_right (by rw [List.length_take]; omega), List.length_take, othP_len, Nat.min_eq_left (by omega), Nat.sub_self, List.getElem?_drop, Nat.add_zero, List.getElem?_eq_getElem hi]
  obtain ⟨p1, p2⟩ := hp _ (List.getElem_mem hi)
  have hn : ((l[i].n.toNat : Nat) : Int) = l[i].n := Int.toNat_of_nonneg (by omega)
  have hlv : 0 ≤ lev l[i].n.toNat ∧ lev l[i].n.toNat < 4 := by
   refine ⟨?_, lev_lt (k := 4) (by omega)⟩
   rw [lev_pos (by omega)]
   have := (lev_bnd (l[i].n.toNat / 4)).1
   omega
  obtain ⟨k, hk⟩ := Int.eq_ofNat_of_zero_le hlv.1
  have hk16 : k < 16 := by omega
  have hkC : k < C.length := by omega
  have hLv := fun {Q k os d e σ} => @Xq45_call l[i].n.toNat (by omega) Q k os d e σ
  rw [hn, hk] at hLv
  have mm1 : ¬ (15 : Int) < (k : Int) := by omega
  have mm2 : (k : Int) < 15 := by omega
  have mm3 : ¬ (k : Int) < 0 := by omega
  have mmk : (if (0 : Int) < (k : Int) then (k : Int) else 0) = (k : Int) := by split <;> omega
  have hcnt := hc k hk16
  have hd0 : cntL (l.drop i) k = cntL (l.drop (i + 1)) k + 1 := by rw [List.drop_eq_getElem_cons hi, cntL_cons, hk, if_pos rfl]
  have hle : cntL l k ≤ l.length := List.length_filter_le ..
  rw [hd0, List.getD_eq_getElem?_getD, List.getElem?_eq_getElem hkC, Option.getD_some] at hcnt
  have hc0 : 0 ≤ C[k] := by
   have : cntL (l.drop i) k ≤ cntL l k := by
    unfold cntL
    exact ((List.drop_sublist i l).filter _).length_le
   omega
  have w2 : IntKind.i64.wrap (C[k] + 1) = C[k] + 1 := wrap_i64 (by omega) (by omega)
  have hput := put_map (F := fun n : Int => AVal.int .i64 n) (g := C[k] + 1) hkC
  have hdr : List.drop k (List.map (fun n => AVal.int .i64 n) C) = .int .i64 C[k] :: List.drop (k + 1) (List.map (fun n => AVal.int .i64 n) C) := by
   rw [List.drop_eq_getElem_cons (by rw [List.length_map]; exact hkC), List.getElem_map]
  have hdr2 : List.drop k (List.map (fun n => AVal.int .i64 n) (C.set k (C[k] + 1))) = .int .i64 (C[k] + 1) :: List.drop (k + 1) (List.map (fun n => AVal.int .i64 n) (C.set k (C[k] + 1))) := by
   rw [List.drop_eq_getElem_cons (by rw [List.length_map, List.length_set]; exact hkC), List.getElem_map, List.getElem_set_self]
  have tail : ∀ W' : List Pc, W' = (othP l xs).take (i + 1) ++ l.drop (i + 1) → Run T Q (.code Xq30.c4 :: .inBlock 1 :: .code Xq30.c3 :: .inLoop Xq30.b0 :: Xq30.k0) (mkE 97 [(1, u16A f xs), (5, .bool true), (6, pcA .lst l), (7, .ref 0 (l.length * 2) 0 l.length 2), (8, .ptr 1 16 0), (9, .int .i64 most), (10, .int .i64 i)]) [pcO W', .cells false (C.map fun n => .int .i64 n)] := by
   intro W' hW'
   have ih' := ih W' (C.set k (C[k] + 1)) (if most < C[k] + 1 then C[k] + 1 else most) hW' (by rw [List.length_set]; exact hC) (fun j hj => by
    have h0 := hc j hj
    rw [List.drop_eq_getElem_cons hi, cntL_cons, hk] at h0
    rw [List.getD_eq_getElem?_getD, List.getElem?_set]
    by_cases e : k = j
    ·subst e
     rw [if_pos rfl, if_pos hkC, Option.getD_some]
     omega
    ·have hne : ¬ ((k : Int) = (j : Int)) := by omega
     rw [if_neg e, ← List.getD_eq_getElem?_getD]
     rw [if_neg hne] at h0
     omega) (by
    have hset : ∀ j, (C.set k (C[k] + 1)).getD j 0 = if j = k then C[k] + 1 else C.getD j 0 := fun j => by
     rw [List.getD_eq_getElem?_getD, List.getElem?_set]
     by_cases e : k = j
     ·subst e; simp [hkC]
     ·rw [if_neg e, if_neg (fun h => e h.symm), List.getD_eq_getElem?_getD]
    have hCk : C.getD k 0 = C[k] := by rw [List.getD_eq_getElem?_getD, List.getElem?_eq_getElem hkC, Option.getD_some]
    constructor
    ·intro h
     by_cases h4 : (4 : Int) ≤ C[k] + 1
     ·exact ⟨k, hk16, by rw [hset, if_pos rfl]; exact h4⟩
     ·have : (4 : Int) ≤ most := by split at h <;> omega
      obtain ⟨j, hj, h5⟩ := hm.1 this
      exact ⟨j, hj, by
       rw [hset]
       split
       ·rename_i e; subst e; omega
       ·exact h5⟩
    ·rintro ⟨j, hj, h5⟩
     rw [hset] at h5
     by_cases e : j = k
     ·rw [if_pos e] at h5; split <;> omega
     ·rw [if_neg e] at h5
      have := hm.2 ⟨j, hj, h5⟩
      split <;> omega)
   simp (maxSteps := 2000000) only [go_sem, run_unfold Xq30.c0.eq_1, run_unfold Xq30.c1.eq_1, run_unfold Xq30.c2.eq_1, run_unfold Xq30.c3.eq_1, run_unfold Xq30.c4.eq_1, Xq30.k0, Xq30.k1, hi, hLv, mm1, mm2, mm3, mmk]
   rw [ia16 hk16]
   simp (maxSteps := 2000000) only [go_sem, hC, hkC, List.length_map, hdr]
   rw [ia16 hk16]
   simp (maxSteps := 2000000) only [go_sem, hC, hkC, List.length_map, w2, hput]
   rw [ia16 hk16]
   simp (maxSteps := 2000000) only [go_sem, hC, hkC, List.length_map, List.length_set, hdr2]
   rw [if_pos (by omega)]
   simp (maxSteps := 2000000) only [go_sem, run_unfold Xq30.c0.eq_1, run_unfold Xq30.c1.eq_1, run_unfold Xq30.c2.eq_1, run_unfold Xq30.c3.eq_1, run_unfold Xq30.c4.eq_1, Xq30.k0, Xq30.k1, w1]
   exact ih'
  by_cases hix : i < xs.length
  ·have hix' : (i : Int) < (xs.length : Int) := by omega
   have wc : IntKind.i64.wrap ((xs[i] : Nat) : Int) = ((xs[i] : Nat) : Int) := by have := hx _ (List.getElem_mem hix); exact wrap_nat (by omega)
   have hfl := flatMap_len (k := 2) (g := fun p : Pc => [AVal.int .i64 p.n, .int .i64 p.b]) (fun _ => rfl) W
   rw [run_round, run_unfold Xq30.b0.eq_1]
   simp (maxSteps := 2000000) only [go_sem, hi, hix, hix', decide_true, wc, hfl, hWl]
   have hst : List.take (i * 2 + 1) (W.flatMap fun p => [AVal.int .i64 p.n, .int .i64 p.b]) ++ [AVal.int .i64 ((xs[i] : Nat) : Int)] ++ List.drop (i * 2 + 1 + 1) (W.flatMap fun p => [AVal.int .i64 p.n, .int .i64 p.b]) = (W.set i ⟨W[i].n, ((xs[i] : Nat) : Int)⟩).flatMap fun p => [AVal.int .i64 p.n, .int .i64 p.b] := flat_set1 (by omega)
   rw [if_pos (by omega), hst]
   refine tail _ ?_
   have hWi' : W[i] = l[i] := by
    have := List.getElem?_eq_getElem (l := W) (i := i) (by omega)
    rw [hWi] at this
    exact (Option.some.inj this).symm
   rw [hWi', hW, List.set_append_right _ _ (by rw [List.length_take]; omega), List.length_take, othP_len, Nat.min_eq_left (by omega), Nat.sub_self, List.drop_eq_getElem_cons hi, List.set_cons_zero, List.take_succ_eq_append_getElem (by rw [othP_len]; exact hi), othP_get hi, dif_pos hix, List.append_assoc]
   rfl
  ·have hix' : ¬ (i : Int) < (xs.length : Int) := by omega
   rw [run_round, run_unfold Xq30.b0.eq_1]
   simp (maxSteps := 2000000) only [go_sem, hi, hix, hix', decide_false]
   refine tail W ?_
   rw [hW, List.drop_eq_getElem_cons hi, List.take_succ_eq_append_getElem (by rw [othP_len]; exact hi), othP_get hi, dif_neg hix, List.append_assoc]
   rfl
theorem freeze_pc {l : List Pc} {n : Nat} {X : AObj} (hn : n = l.length) : freezeV (.ref 0 (n * 2) 0 n 2) [pcO l, X] = some (pcA .lst l, [.dead, X]) := by
 subst hn
 have hlen := flatMap_len (k := 2) (g := fun p : Pc => [AVal.int .i64 p.n, .int .i64 p.b]) (fun _ => rfl) l
 have hp : AVal.pures (l.flatMap fun p : Pc => [AVal.int .i64 p.n, .int .i64 p.b]) = true := v_names_flat (fun _ => rfl) l
 have ht : (l.flatMap fun p : Pc => [AVal.int .i64 p.n, .int .i64 p.b]).take (l.length * 2) = l.flatMap fun p : Pc => [AVal.int .i64 p.n, .int .i64 p.b] := List.take_of_length_le (by omega)
 simp only [freezeV, List.getElem?_cons_zero, hlen, Nat.zero_add, Nat.le_refl, Nat.reduceLT, hp, and_self, if_true, Bool.false_and, Bool.false_eq_true, if_false, List.drop_zero, ht, List.set_cons_zero, pc_chunk]
abbrev chR (G : List (List Int)) : AObj := .cells false [grpA G, .nils, .int .i64 0, .int .i64 0]
theorem four_loop {G : List (List Int)} {σ : Sto} {Q : Post3} {a b c : AVal} (hG : Fits G) (h : ∀ g ∈ G, 4 ≤ g.length) (hσ : σ[2]? = some (chR G)) 
  (next : Run T Q [.code (.ghost (.kill [13, 66])), .code Xq30.c0] (mkE 97 [(5, a), (7, b), (9, c), (12, .ptr 2 4 0), (13, .int .i64 G.length), (66, .bool false)]) σ) : ∀ i, i ≤ G.length →
  Run T Q (.inLoop Xq30.b1 :: Xq30.k1) (mkE 97 [(5, a), (7, b), (9, c), (12, .ptr 2 4 0), (13, .int .i64 i)]) σ := by
 refine up_ind ?_ fun i hi ih => ?_
 ·rw [run_round, run_unfold Xq30.b1.eq_1]
  simp (maxSteps := 2000000) only [go_sem, hσ, Xq30.k1, List.length_map, Int.lt_irrefl, decide_false]
  exact next
 ·have w1 := wrap_succ (show i < 9223372036854775807 by have : G.length < _ := hG; omega)
  have hg := h _ (List.getElem_mem hi)
  have hg' : ¬ (G[i].length : Int) < 4 := by omega
  rw [run_round, run_unfold Xq30.b1.eq_1]
  simp (maxSteps := 2000000) only [go_sem, hσ, List.length_map, hi, decide_true, List.getElem_map, hg', decide_false, w1]
  exact ih
theorem chosen_le {l : List Pc} (hv : validB l = true) : ∀ g ∈ chosenG l, g.length ≤ l.length := by
 intro g hg
 obtain ⟨x, hx, rfl⟩ := List.mem_map.1 hg
 have h1 := flat_len (f := fun x : Gr => x.1) (List.mem_filter.1 hx).1
 have h2 := (finG_flat (l := l)).length_eq
 rw [List.length_map, List.length_range'] at h2
 rw [isort_len]
 omega
theorem Xq30_spec {f g : SlF} {z : List (Nat × Nat)} {xs : List Nat} (hz : z.length < 9223372036854775808) (hb : ∀ p ∈ z, p.1 < 256 ∧ p.2 < 256) (hx : ∀ x ∈ xs, x < 65536) {lv : List Nat} {σ : Sto} {R : Post} : Cw T true i_Xq30 [twoA f z, u16A g xs] lv σ R ↔ R (.bool true) σ := by
 obtain ⟨hm1, hm2⟩ := madeP_ok hb
 have hv := madeP_valid hb
 have hmk := fun {Q k os d e σ} => @Xq64_call f z hz hb Q k os d e σ
 refine cw_intro T_Xq30 (by simp only [go_sem]) (by simp) ?_; rw [run_unfold Xq30.main.eq_1]
 generalize madeP z = l at *
 have hap : appendV 2 16 (.ref 0 0 0 0 2) (pcA .lst l) [AObj.cells false []] = some (.ref 0 (l.length * 2) 0 l.length 2, [pcO l]) := by
  rw [appendV_fresh rfl rowOf_structs (flatMap_len (k := 2) (fun _ => rfl) l) (by decide) (all_one_flat (fun _ => rfl) l) (by simp only [maxBytes]; omega)]
  rfl
 simp (maxSteps := 2000000) only [go_sem, hmk, hap]
 rw [c16]
 refine choice_loop hm1 (fun p hp => by have := hm2 p hp; omega) hx (fun C most hC hCc hCm => ?_) 0 (by omega) l _ 0 (by simp) (by simp) (fun k hk => by rw [List.getD_eq_getElem?_getD, List.getElem?_replicate, if_pos hk]; simp) ?_
 ·have hfz := freeze_pc (l := othP l xs) (n := l.length) (X := .cells false (C.map fun n => .int .i64 n)) othP_len.symm
  have hc1 := @Xq51_call .lst l (by omega)
  have hc2 := @Xq51_call .lst (othP l xs) (by rw [othP_len]; omega)
  have e1 : chooseG l = chosenG l := by unfold chooseG; rw [if_pos hv]
  have e2 : chooseE l = 0 := by unfold chooseE; rw [if_pos hv]
  have hvo := oth_valid hv hx
  have e3 : chooseG (othP l xs) = chosenG l := by unfold chooseG; rw [if_pos hvo, chosen_names othP_names]
  have e4 : chooseE (othP l xs) = 0 := by unfold chooseE; rw [if_pos hvo]
  rw [e1, e2] at hc1
  rw [e3, e4] at hc2
  have hcl := chosen_len hv
  have hcs := chosen_some hv
  have hgl : (chosenG l).length ≤ 300 := by
   unfold chosenG
   rw [List.length_map]
   have := List.length_filter_le (fun x : Gr => decide (1 < x.1.length)) (finG l)
   have := finG_len hv
   omega
  simp (maxSteps := 2000000) only [go_sem, run_unfold Xq30.c0.eq_1, run_unfold Xq30.c1.eq_1, run_unfold Xq30.c2.eq_1, run_unfold Xq30.c3.eq_1, run_unfold Xq30.c4.eq_1, Xq30.k0, Xq30.k1, hfz, hc1]
  have hgf : Fits (chosenG l) := by unfold Fits; omega
  have hgf2 : GrFit (lsG (chosenG l)) := ⟨by unfold Fits; rw [List.length_map]; omega, fun p hp => by
   obtain ⟨g, hg, rfl⟩ := List.mem_map.1 hp
   have := chosen_le hv g hg
   unfold Fits; show g.length < _; omega⟩
  have ha : ∀ {Q : Post3} {k : List Item} {os : List AOper} {d : Option Nat} {e : Env} {σ : Sto}, CallK T Q k os d e σ true i_Xq56 [.agg [grpA (chosenG l), .nils, .int .i64 0, .int .i64 0], .agg [grpA (chosenG l), .nils, .int .i64 0, .int .i64 0]] ↔ Run T Q (.ops os :: k) (put e d (.bool true)) σ := by
   intro Q k os d e σ
   have := @Xq56_call (flG (chosenG l)) (flG (chosenG l)) (lsG (chosenG l)) (lsG (chosenG l)) .nil .nil [] [] 0 0 0 0 hgf2 hgf2 (by unfold Fits; decide) (by unfold Fits; decide) Q k os d e σ
   simp only [decide_true, Bool.and_true] at this
   exact this
  refine four_loop hgf hcl rfl ?_ 0 (by omega)
  have hlg : ((0 : Int) < ((lsG (chosenG l)).length : Int)) ↔ chosenG l ≠ [] := by
   rw [List.length_map]
   cases chosenG l <;> simp <;> omega
  have h4 : (4 : Int) ≤ most ↔ chosenG l ≠ [] := by
   rw [hCm, hcs]
   constructor
   ·rintro ⟨k, hk, h⟩; exact ⟨k, hk, by rw [hCc k hk] at h; rw [cnt_ini]; omega⟩
   ·rintro ⟨k, hk, h⟩; exact ⟨k, hk, by rw [cnt_ini] at h; rw [hCc k hk]; omega⟩
  by_cases hne : chosenG l = []
  ·have a1 : ¬ (4 : Int) ≤ most := fun h => h4.1 h hne
   have a2 : ¬ (0 : Int) < ((chosenG l).length : Int) := by rw [hne]; simp
   simp (maxSteps := 2000000) only [go_sem, run_unfold Xq30.c0.eq_1, run_unfold Xq30.c1.eq_1, run_unfold Xq30.c2.eq_1, run_unfold Xq30.c3.eq_1, run_unfold Xq30.c4.eq_1, Xq30.k0, Xq30.k1, hc2, ha, List.length_map, a1, a2, decide_true, decide_false]
  ·have a1 : (4 : Int) ≤ most := h4.2 hne
   have a2 : (0 : Int) < ((chosenG l).length : Int) := by
    have : 0 < (chosenG l).length := List.length_pos_iff.2 hne
    omega
   simp (maxSteps := 2000000) only [go_sem, run_unfold Xq30.c0.eq_1, run_unfold Xq30.c1.eq_1, run_unfold Xq30.c2.eq_1, run_unfold Xq30.c3.eq_1, run_unfold Xq30.c4.eq_1, Xq30.k0, Xq30.k1, hc2, ha, List.length_map, a1, a2, decide_true, decide_false]
 ·constructor
  ·intro h; omega
  ·rintro ⟨k, hk, h⟩
   rw [List.getD_eq_getElem?_getD, List.getElem?_replicate, if_pos hk] at h
   simp at h
@[go_sem] theorem Xq30_call {f g : SlF} {z : List (Nat × Nat)} {xs : List Nat} (hz : z.length < 9223372036854775808) (hb : ∀ p ∈ z, p.1 < 256 ∧ p.2 < 256) (hx : ∀ x ∈ xs, x < 65536) {Q : Post3} {k : List Item} {os : List AOper} {d : Option Nat} {e : Env} {σ : Sto} : CallK T Q k os d e σ true i_Xq30 [twoA f z, u16A g xs] ↔ Run T Q (.ops os :: k) (put e d (.bool true)) σ := Xq30_spec hz hb hx

end Go.Abs
