/- Parts of the proof: C36QC, C36QD, C36QE. -/
import Derived.Test.YtdiekiajedmaeaaJC36SC
set_option linter.all false
/- Walks of chapter 36: what is worth merging. -/
set_option linter.unusedSimpArgs false
set_option linter.unusedVariables false
set_option maxRecDepth 100000
set_option maxHeartbeats 8000000
namespace Go.Abs
open Go
attribute [local go_sem_proc] Nat.reduceLT Nat.reduceEqDiff Nat.reduceLeDiff Nat.reduceAdd Nat.reduceSub Nat.reduceMul Int.reduceLT Int.reduceLE Int.reduceEq Int.reduceNeg
attribute [local go_sem_proc ↓] reduceIte

abbrev ZdG (a b : AVal) : AVal := .clo (.func i_Xq36) [] [a, b]
def ixW (p : List Int → Bool) : List (List Int) → Nat → Int
 | [], _ => -1
 | g :: G, i => if p g = true then (i : Int) else ixW p G (i + 1)
theorem ZoX {f h : SlF} {l : List Pc} {r : Int} {G : List (List Int)} (hl : ZG l) (hr : 0 ≤ r ∧ r ≤ 1000000000) (hG : G.length ≤ 100000) (hg : ∀ g ∈ G, g.length ≤ 100000) : ∀ i, i ≤ G.length →
  Run T (Res [.tmp 4] (.int .i64 (ixW (Zbs l r) (G.drop i) i))) (.inLoop Xq15.b0 :: Xq15.k0) (mkE 19 [(0, grA h (lsG G)), (1, ZdG (.fptr [pcA f l]) (.fptr [.int .i64 r])), (7, .int .i64 G.length), (8, .int .i64 i)]) [] := by
 refine Zat ?_ fun i hi ih => ?_
 ·rw [Zb, Za Xq15.b0.eq_1]
  simp (maxSteps := 2000000) only [go_sem, Za Xq15.c0.eq_1, Za Xq15.c1.eq_1, Xq15.k0, Int.lt_irrefl, List.drop_length, ixW]
 ·have w1 := Zj (show i < 9223372036854775807 by omega)
  rw [List.drop_eq_getElem_cons hi, ixW]
  have hc := @Zh4 f .lst l G[i] r hl (hg _ (List.getElem_mem hi)) hr
  have hil : i < (lsG G).length := by rw [List.length_map]; exact hi
  rw [Zb, Za Xq15.b0.eq_1]
  cases h : Zbs l r G[i] <;> rw [h] at hc
  ·simp (maxSteps := 2000000) only [go_sem, hi, List.length_map, List.getElem_map, hc, w1, Za Xq15.c0.eq_1, Za Xq15.c1.eq_1, Xq15.k0]
   exact ih
  ·simp (maxSteps := 2000000) only [go_sem, hi, List.length_map, List.getElem_map, hc]
theorem ZhZ {f h : SlF} {l : List Pc} {r : Int} {G : List (List Int)} (hl : ZG l) (hr : 0 ≤ r ∧ r ≤ 1000000000) (hG : G.length ≤ 100000) (hg : ∀ g ∈ G, g.length ≤ 100000) {lv : List Nat} {σ : Sto} {R : Zs} : Cw T true i_Xq15 [grA h (lsG G), ZdG (.fptr [pcA f l]) (.fptr [.int .i64 r])] lv σ R ↔ R (.int .i64 (ixW (Zbs l r) G 0)) σ := by
 refine Zt T_Xq15 (by simp only [go_sem]) (by simp) ?_; rw [Za Xq15.main.eq_1]
 have hh := ZoX (f := f) (h := h) hl hr hG hg 0 (by omega)
 simp only [List.drop_zero] at hh
 simp (maxSteps := 2000000) only [go_sem, List.length_map]
 exact hh
@[go_sem] theorem Ztn {f h : SlF} {l : List Pc} {r : Int} {G : List (List Int)} (hl : ZG l) (hr : 0 ≤ r ∧ r ≤ 1000000000) (hG : G.length ≤ 100000) (hg : ∀ g ∈ G, g.length ≤ 100000) {Q : Zg} {k : List Item} {os : List AOper} {d : Option Nat} {e : Env} {σ : Sto} : Zp T Q k os d e σ true i_Xq15 [grA h (lsG G), ZdG (.fptr [pcA f l]) (.fptr [.int .i64 r])] ↔ Run T Q (.ops os :: k) (put e d (.int .i64 (ixW (Zbs l r) G 0))) σ := ZhZ hl hr hG hg

section
variable {T : FuncId → Option AFunc} {Q : Zg} {k : List Item} {os : List AOper} {d : Option Nat} {e : Env} {σ : Sto}
def Zqc (zero : List AVal) (x : AVal) (σ : Sto) : Option (AVal × Sto) := match x with
  | .nils | .nilm | .emp => some (.tup [], σ)
  | .list _ [] => some (.tup [], σ)
  | .ref o gen off len k =>
   match σ[o]? with
   | some (.cells nl cs) =>
    if cs.length = gen ∧ k = zero.length ∧ off + len * k ≤ gen then
     some (.tup [], σ.set o (.cells nl (Zl cs off (List.replicate len zero).flatten))) else none
   | _ => none
  | _ => none
@[go_sem] theorem Zuz {zero : List AVal} {x : Opd} {a r : List Nat} : Run T Q (.ops (⟨d, .clear zero x, none, a, r⟩ :: os) :: k) e σ ↔ after T Q k os d e (Zqc zero (ev e x) σ) := by
 rw [Zq (by simp) (by simp)]
 simp only [Zc, ZbH, List.all_nil, and_true]
 unfold Zqc after
 cases ev e x <;> first | rfl | skip
end


abbrev ZcZ (l : List Pc) (r : Int) (d : Cl) : Bool := !Zbs l r (Zao d.g)
structure Del (τ σ : Sto) (m a b : Nat) (D : List Cl) (f : SlF) (l : List Pc) (r : Int) : Prop where
 out : σ[m]? = some (ZkS D)
 got : ∀ d ∈ D, σ[d.q]? = some (gO (Zao d.g))
 mn : ∀ d ∈ D, d.q ≠ m
 ca : σ[a]? = some (.cells false [pcA f l])
 cb : σ[b]? = some (.cells false [.int .i64 r])
 na : a ≠ m
 nb : b ≠ m
 le : D.length ≤ 100000
 len : ∀ d ∈ D, d.g.length ≤ 100000
theorem ZdT {σ : Sto} {n o : Nat} {v : AVal} (hv : v.pure = true) (hσ : σ[o]? = some (.cells false [v])) : Zn σ (n + 2) (.ptr o 1 0) = some (.fptr [v]) := by
 have h1 : (AVal.ptr o 1 0).pure = false := by simp [AVal.names]
 rw [Zn, h1]
 have hm : [v].mapM (Zn σ (n + 1)) = some [v] := Zbh (by simp only [AVal.namesL, hv, Bool.true_and])
 simp only [Bool.false_eq_true, if_false, hσ, List.length_cons, List.length_nil, Nat.zero_add, if_true, List.drop_zero, hm, Option.map_some]
theorem ZmS {σ : Sto} {a b n : Nat} {f : SlF} {l : List Pc} {r : Int} (ha : σ[a]? = some (.cells false [pcA f l])) (hb : σ[b]? = some (.cells false [.int .i64 r])) : Zn σ (n + 3) (ZdG (.ptr a 1 0) (.ptr b 1 0)) = some (ZdG (.fptr [pcA f l]) (.fptr [.int .i64 r])) := by
 have h0 : (ZdG (.ptr a 1 0) (.ptr b 1 0)).pure = false := by simp [AVal.names, AVal.namesL]
 rw [Zn, h0]
 simp only [Bool.false_eq_true, if_false, ZhQ, Zes, ZdT (n := n) Zde ha, ZdT (n := n) (v := .int .i64 r) rfl hb]
theorem ZoY {τ σ : Sto} {m a b : Nat} {D : List Cl} {f : SlF} {l : List Pc} {r : Int} {Q : Zg} (h : Del τ σ m a b D f l r) (hl : ZG l) (hr : 0 ≤ r ∧ r ≤ 1000000000)
  (next : ∀ (V : List AVal) (i : Nat), V.length = D.length → i < D.length → V.take i = (D.filter (ZcZ l r)).map Zdk → i = (D.filter (ZcZ l r)).length → Run T Q [.code (.ghost (.kill [1, 6, 19])), .code Xq18.c0] (mkE 42 [(0, .ref m D.length 0 D.length 1), (1, ZdG (.ptr a 1 0) (.ptr b 1 0)), (5, .int .i64 (i : Int)), (6, .int .i64 D.length), (19, .bool false)]) (σ.set m (.cells true V))) :
  ∀ j, j ≤ D.length → ∀ (V : List AVal) (i : Nat), V.length = D.length → i < j → V.take i = ((D.take j).filter (ZcZ l r)).map Zdk → i = ((D.take j).filter (ZcZ l r)).length → V.drop j = (D.drop j).map Zdk →
   Run T Q (.inLoop Xq18.b0 :: Xq18.k0) (mkE 42 [(0, .ref m D.length 0 D.length 1), (1, ZdG (.ptr a 1 0) (.ptr b 1 0)), (5, .int .i64 (i : Int)), (6, .int .i64 (j : Int))]) (σ.set m (.cells true V)) := by
 obtain ⟨h1, h2, h3, h4, h5, h6, h7, h8, h9⟩ := h
 have lm : m < σ.length := (List.getElem?_eq_some_iff.1 h1).1
 have gm : ∀ X : AObj, (σ.set m X)[m]? = some X := fun X => List.getElem?_set_self lm
 have gn : ∀ (X : AObj) i, i ≠ m → (σ.set m X)[i]? = σ[i]? := fun X i hi => List.getElem?_set_ne hi.symm
 refine Zat (fun V i hV hi hk hc hd => ?_) fun j hj ih V i hV hi hk hc hd => ?_
 ·rw [List.take_length] at hk hc
  have nx := next V i hV hi hk hc
  rw [Zb, Za Xq18.b0.eq_1]
  simp (maxSteps := 2000000) only [go_sem, gm, hV, Int.lt_irrefl, decide_false, Xq18.k0]
  exact nx
 ·have w1 := Zj (show j < 9223372036854775807 by omega)
  have w2 := Zj (show i < 9223372036854775807 by omega)
  have hVj : List.drop j V = Zdk D[j] :: List.drop (j + 1) V := by
   rw [hd, List.drop_eq_getElem_cons hj, List.map_cons]
   congr 1
   have := congrArg (List.drop 1) hd
   rw [List.drop_drop, ← List.map_drop, List.drop_drop] at this
   exact this.symm
  have hdm : D[j] ∈ D := List.getElem_mem hj
  have hc1 := @Zh4 f .lst l (Zao D[j].g) r hl (by rw [Zbt]; exact h9 _ hdm) hr
  have hs1 : ∀ X : AObj, Zn (σ.set m X) 64 (Zdk D[j]) = some (Z3 .lst (Zao D[j].g)) := fun X => by
   have := Zfz (n := 62) (σ := σ.set m X) (o := D[j].q) (c := Zao D[j].g) (by rw [gn _ _ (h3 _ hdm)]; exact h2 _ hdm)
   rwa [Zbt] at this
  have hsa : ∀ X : AObj, Zn (σ.set m X) 64 (.ptr a 1 0) = some (.fptr [pcA f l]) := fun X => ZdT Zde (by rw [gn _ _ h6]; exact h4)
  have hsb : ∀ X : AObj, Zn (σ.set m X) 64 (.ptr b 1 0) = some (.fptr [.int .i64 r]) := fun X => ZdT rfl (by rw [gn _ _ h7]; exact h5)
  rw [Zb, Za Xq18.b0.eq_1]
  simp (maxSteps := 2000000) only [go_sem, gm, hV, hj, decide_true, hVj]
  refine (Zbi T_Xq36 (as := [Z3 .lst (Zao D[j].g), .fptr [pcA f l], .fptr [.int .i64 r]]) (v := .bool (Zbs l r (Zao D[j].g))) (fun {lv σ R} => Zh2 hl (by rw [Zbt]; exact h9 _ hdm) hr) ?_ (by simp (maxSteps := 2000000) only [go_sem]) rfl).2 ?_
  ·simp (maxSteps := 2000000) only [go_sem, hs1, hsa, hsb]
  have htk : D.take (j + 1) = D.take j ++ [D[j]] := List.take_succ_eq_append_getElem hj
  cases hp : Zbs l r (Zao D[j].g)
  ·have hkp : ZcZ l r D[j] = true := by simp only [ZcZ, hp, Bool.not_false]
   have hiV : i < V.length := by omega
   have ih' := ih (V.set i (Zdk D[j])) (i + 1) (by rw [List.length_set]; exact hV) (by omega) (by
    rw [htk, List.filter_append, List.filter_cons_of_pos hkp, List.filter_nil, List.map_append, ← hk, Zeb hiV]; rfl) (by
    rw [htk, List.filter_append, List.filter_cons_of_pos hkp, List.filter_nil, List.length_append, List.length_singleton, ← hc]) (by
    rw [List.drop_set_of_lt (by omega)]
    have := congrArg (List.drop 1) hd
    rwa [List.drop_drop, ← List.map_drop, List.drop_drop] at this)
   have hov : List.take i V ++ [Zdk D[j]] ++ List.drop (i + 1) V = V.set i (Zdk D[j]) := by
    rw [List.set_eq_take_append_cons_drop, if_pos hiV, List.append_assoc]; rfl
   simp (maxSteps := 2000000) only [go_sem, hp, Bool.not_false, gm, hV]
   rw [if_pos (by omega), if_pos (by omega), List.set_set, hov, w2]
   simp (maxSteps := 2000000) only [go_sem, w1, Xq18.c1]
   exact ih'
  ·have hkp : ¬ ZcZ l r D[j] = true := by simp only [ZcZ, hp, Bool.not_true]; decide
   have ih' := ih V i hV (by omega) (by rw [htk, List.filter_append, List.filter_cons_of_neg hkp, List.filter_nil, List.append_nil]; exact hk) (by rw [htk, List.filter_append, List.filter_cons_of_neg hkp, List.filter_nil, List.append_nil]; exact hc) (by
    have := congrArg (List.drop 1) hd
    rwa [List.drop_drop, ← List.map_drop, List.drop_drop] at this)
   simp (maxSteps := 2000000) only [go_sem, hp, Bool.not_true, w1, Xq18.c1]
   exact ih'
theorem Zlr {p : List Int → Bool} : ∀ {G : List (List Int)} {i : Nat}, ixW p G i = -1 → G.filter (fun g => !p g) = G
 | [], _, _ => rfl
 | g :: G, i, h => by
  unfold ixW at h
  split at h
  ·omega
  ·rename_i hg
   rw [List.filter_cons_of_pos (by simpa using hg), Zlr h]
theorem Zls {p : List Int → Bool} : ∀ {G : List (List Int)} {i : Nat}, ixW p G i ≠ -1 → ∃ k, k < G.length ∧ ixW p G i = ((i + k : Nat) : Int) ∧ p (G.getD k []) = true ∧ (G.take k).filter (fun g => !p g) = G.take k
 | [], i, h => by simp [ixW] at h
 | g :: G, i, h => by
  unfold ixW at h ⊢
  split
  ·rename_i hg
   exact ⟨0, by simp, rfl, hg, rfl⟩
  ·rename_i hg
   rw [if_neg hg] at h
   obtain ⟨k, h1, h2, h3, h4⟩ := Zls h
   refine ⟨k + 1, by simp; omega, by rw [h2]; omega, h3, ?_⟩
   rw [List.take_succ_cons, List.filter_cons_of_pos (by simpa using hg), h4]
theorem Zh0 {σ : Sto} {m n i N : Nat} {V : List AVal} {D : List Cl} {G : List (List Int)} (hm : σ[m]? = some (.cells true V)) (hV : V.length = N) (hN : 0 < N) (hi : i ≤ N) (hD : V.take i = D.map Zdk) (got : ∀ d ∈ D, σ[d.q]? = some (gO (Zao d.g))) (hG : D.map (fun d => Zao d.g) = G) :
  Zn σ (n + 3) (.ref m N 0 i 1) = some (grA .lst (lsG G)) := by
 have h0 : (AVal.ref m N 0 i 1).pure = false := by simp [AVal.names]
 rw [Zn, h0]
 have hne : V.isEmpty = false := by cases V with
  | nil => simp at hV; omega
  | cons _ _ => rfl
 have hil : i = G.length := by
  have := congrArg List.length hD
  rw [List.length_take, List.length_map, hV, Nat.min_eq_left hi] at this
  rw [this, ← hG, List.length_map]
 simp only [Bool.false_eq_true, if_false, hm, hV, Nat.zero_add, Nat.mul_one, hi, Nat.zero_lt_one, and_self, if_true, Bool.true_and, List.drop_zero, hne]
 rw [hD, Zex got, hG]
 have hc := ZcW (G.map fun g => sv 1 .lst (g.map fun i => AVal.int .i64 i))
 rw [List.length_map] at hc
 rw [Option.map_some, hil, hc, grA, sv_lst, List.map_map]
 rfl
theorem ZoZ {τ σ : Sto} {m a b : Nat} {D : List Cl} {f : SlF} {l : List Pc} {r : Int} {G : List (List Int)} (h : Del τ σ m a b D f l r) (hG : D.map (fun d => Zao d.g) = G) (hl : ZG l) (hr : 0 ≤ r ∧ r ≤ 1000000000) {Q : Zg} {kk : List Item} {os : List AOper} {d : Option Nat} {e : Env}
  (next : ∀ (i : Nat) σ', Zn σ' 63 (.ref m D.length 0 i 1) = some (grA (flG G) (lsG (G.filter fun g => !Zbs l r g))) → Run T Q (.ops os :: kk) (put e d (.ref m D.length 0 i 1)) σ') : Zp T Q kk os d e σ false i_Xq18 [.ref m D.length 0 D.length 1, ZdG (.ptr a 1 0) (.ptr b 1 0)] := by
 unfold Zp
 rw [ZS T_Xq18 (by simp), Za Xq18.main.eq_1]
 have h' := h
 obtain ⟨h1, h2, h3, h4, h5, h6, h7, h8, h9⟩ := h
 have hGl : G.length = D.length := by rw [← hG, List.length_map]
 have hsg : ∀ n, Zn σ (n + 3) (.ref m D.length 0 D.length 1) = some (Zho G) := fun n => by
  rw [Zn]
  have h0 : (AVal.ref m D.length 0 D.length 1).pure = false := by simp [AVal.names]
  cases hD : D with
  | nil =>
   subst hD
   rw [List.map_nil] at hG
   subst hG
   simp [h1, AVal.names]
   rfl
  | cons d0 D0 =>
   have hne : G ≠ [] := by rw [← hG, hD]; simp
   have := Zh0 (n := n) (σ := σ) (m := m) (i := D.length) (N := D.length) (V := D.map Zdk) (D := D) h1 (by simp) (by rw [hD]; simp) (Nat.le_refl _) (by rw [List.take_of_length_le (by simp)]) h2 hG
   rw [Zn] at this
   rw [hD] at this
   rw [this, Zho, flG, if_neg hne]
 have hsw := ZmS (n := 61) h4 h5
 have hix : ∀ {lv : List Nat} {σ : Sto} {R : Zs}, Cw T true i_Xq15 [Zho G, ZdG (.fptr [pcA f l]) (.fptr [.int .i64 r])] lv σ R ↔ R (.int .i64 (ixW (Zbs l r) G 0)) σ := fun {lv σ R} => ZhZ hl hr (by omega) (fun g hg => by
  rw [← hG] at hg
  obtain ⟨d, hd, rfl⟩ := List.mem_map.1 hg
  rw [Zbt]; exact h9 d hd)
 simp (maxSteps := 2000000) only [go_sem]
 refine (Zbi T_Xq15 (as := [Zho G, ZdG (.fptr [pcA f l]) (.fptr [.int .i64 r])]) (v := .int .i64 (ixW (Zbs l r) G 0)) hix ?_ (by simp (maxSteps := 2000000) only [go_sem]) rfl).2 ?_
 ·simp (maxSteps := 2000000) only [go_sem, hsg 61, hsw]
 by_cases hneg : ixW (Zbs l r) G 0 = -1
 ·have hf := Zlr hneg
  have nx := next D.length σ (by rw [hf]; exact hsg 60)
  simp (maxSteps := 2000000) only [go_sem, hneg, decide_true]
  exact nx
 ·obtain ⟨k, k1, k2, k3, k4⟩ := Zls hneg
  rw [Nat.zero_add] at k2
  have kn : ¬ (k : Int) = -1 := by omega
  have w1 := Zj (show k < 9223372036854775807 by omega)
  simp (maxSteps := 2000000) only [go_sem, k2, kn, decide_false, w1]
  have kD : k < D.length := by omega
  have hGk : G.getD k [] = Zao D[k].g := by
   rw [← hG, List.getD_eq_getElem?_getD, List.getElem?_map, List.getElem?_eq_getElem kD]; rfl
  rw [hGk] at k3
  have hkn : ¬ ZcZ l r D[k] = true := by simp only [ZcZ, k3, Bool.not_true]; decide
  have hkt : (D.take k).filter (ZcZ l r) = D.take k := by
   rw [List.filter_eq_self] at k4 ⊢
   intro d hd
   exact k4 (Zao d.g) (by rw [← hG, ← List.map_take]; exact List.mem_map.2 ⟨d, hd, rfl⟩)
  have htk : (D.take (k + 1)).filter (ZcZ l r) = D.take k := by
   rw [List.take_succ_eq_append_getElem kD, List.filter_append, List.filter_cons_of_neg hkn, List.filter_nil, List.append_nil, hkt]
  have lm : m < σ.length := (List.getElem?_eq_some_iff.1 h1).1
  have gm : ∀ X : AObj, (σ.set m X)[m]? = some X := fun X => List.getElem?_set_self lm
  have gn : ∀ (X : AObj) i, i ≠ m → (σ.set m X)[i]? = σ[i]? := fun X i hi => List.getElem?_set_ne hi.symm
  have hdl := ZoY (Q := Ret [.tmp 4] fun v σ' => Run T Q (.ops os :: kk) (put e d v) σ') h' hl hr (fun V i hV hi hk hc => ?_) (k + 1) (by omega) (D.map Zdk) k (by simp) (by omega) (by rw [htk, List.map_take]) (by rw [htk, List.length_take]; omega) (by rw [List.map_drop])
  ·rw [Zer h1] at hdl
   exact hdl
  ·have hNe : ∀ W : List AVal, W.length = D.length → W.isEmpty = false := fun W hW => by
    cases W with
    | nil => simp at hW; omega
    | cons _ _ => rfl
   have s1 : Zdv 1 (.ref m D.length 0 D.length 1) (some (.int .i64 (i : Int))) none none (σ.set m (.cells true V)) = some (.ref m D.length i (D.length - i) 1, σ.set m (.cells true V)) := by
    have e1 : Zbn (.int .i64 (i : Int)) = some i := ZdS
    simp only [Zdv, gm, hV, hNe V hV, bnd, e1, Nat.zero_lt_one, and_self, if_true, Bool.and_false, Bool.false_eq_true, if_false, Nat.zero_add, Nat.mul_one, Nat.le_refl, and_true]
    rw [if_pos (by omega), if_neg (by omega)]
   have s2 : Zqc [.nils] (.ref m D.length i (D.length - i) 1) (σ.set m (.cells true V)) = some (.tup [], σ.set m (.cells true (Zl V i (List.replicate (D.length - i) [AVal.nils]).flatten))) := by
    simp only [Zqc, gm, hV, List.length_singleton, Nat.mul_one, true_and]
    rw [if_pos (by omega), List.set_set]
   have hVl : (Zl V i (List.replicate (D.length - i) [AVal.nils]).flatten).length = D.length := by
    rw [List.flatten_replicate_singleton]
    simp only [Zl, List.length_append, List.length_take, List.length_drop, List.length_replicate]
    omega
   have hVt : (Zl V i (List.replicate (D.length - i) [AVal.nils]).flatten).take i = V.take i := by
    unfold Zl
    rw [List.append_assoc, List.take_append_of_le_length (by rw [List.length_take]; omega), List.take_take, Nat.min_self]
   generalize (Zl V i (List.replicate (D.length - i) [AVal.nils]).flatten) = V2 at s2 hVl hVt
   have s3 : Zdv 1 (.ref m D.length 0 D.length 1) none (some (.int .i64 (i : Int))) none (σ.set m (.cells true V2)) = some (.ref m D.length 0 i 1, σ.set m (.cells true V2)) := by
    have e1 : Zbn (.int .i64 (i : Int)) = some i := ZdS
    simp only [Zdv, gm, hVl, hNe V2 hVl, bnd, e1, Nat.zero_lt_one, and_self, if_true, Bool.and_false, Bool.false_eq_true, if_false, Nat.zero_add, Nat.mul_one, Nat.le_refl, and_true, Nat.zero_mul, Nat.sub_zero]
    rw [if_pos (by omega), if_neg (by omega)]
   have hne : G ≠ [] := by intro hh; rw [hh] at hGl; simp at hGl; omega
   have hfG : (D.filter (ZcZ l r)).map (fun d => Zao d.g) = G.filter fun g => !Zbs l r g := by
    rw [← hG, List.filter_map]; rfl
   have nx := next i (σ.set m (.cells true V2)) (by
    rw [flG, if_neg hne]
    exact Zh0 (n := 60) (gm _) hVl (by omega) (by omega) (hVt.trans hk) (fun d hd => by rw [gn _ _ (h3 d (List.mem_filter.1 hd).1)]; exact h2 d (List.mem_filter.1 hd).1) hfG)
   simp (maxSteps := 2000000) only [go_sem, Xq18.c0, s1, s2, s3]
   exact nx
end Go.Abs
/- Walks of chapter 36: Worth. -/
set_option linter.unusedSimpArgs false
set_option linter.unusedVariables false
set_option maxRecDepth 100000
set_option maxHeartbeats 8000000
namespace Go.Abs
open Go
attribute [local go_sem_proc] Nat.reduceLT Nat.reduceEqDiff Nat.reduceLeDiff Nat.reduceAdd Nat.reduceSub Nat.reduceMul Int.reduceLT Int.reduceLE Int.reduceEq Int.reduceNeg
attribute [local go_sem_proc ↓] reduceIte

def okW (l : List Pc) (r : Int) : Bool := ZJ l && decide (0 ≤ r ∧ r ≤ 1000000000)
def ZbA (l : List Pc) (r : Int) : List (List Int) := if okW l r = true then (ZaG l).filter fun g => !Zbs l r g else []
def ZdF (l : List Pc) (r : Int) : SlF := if okW l r = true then flG (ZaG l) else .nil
def Zcn (l : List Pc) (r : Int) : Int := if okW l r = true then 0 else 1
theorem ZfT {l : List Pc} (hv : ZJ l = true) : (ZaG l).length ≤ l.length ∧ ∀ g ∈ ZaG l, g.length ≤ l.length := by
 refine ⟨?_, fun g hg => ?_⟩
 ·unfold ZaG
  rw [List.length_map]
  have := List.length_filter_le (fun x : Gr => decide (1 < x.1.length)) (Zm9 l)
  have := ZjW hv
  omega
 ·obtain ⟨x, hx, rfl⟩ := List.mem_map.1 hg
  have h1 := ZjV (f := fun x : Gr => x.1) (List.mem_filter.1 hx).1
  have h2 := (ZfD (l := l)).length_eq
  rw [List.length_map, List.length_range'] at h2
  rw [Zbt]
  omega
theorem ZmP {f : SlF} {l : List Pc} {r : Int} (hl : l.length ≤ 300) {lv : List Nat} {σ : Sto} {R : Zs} : Cw T true i_Xq49 [pcA f l, .int .i64 r] lv σ R ↔ R (.tup [grA (ZdF l r) (lsG (ZbA l r)), .int .i64 (Zcn l r)]) σ := by
 refine Zt T_Xq49 (by simp only [go_sem]) (by simp) ?_; rw [Za Xq49.main.eq_1]
 unfold ZbA ZdF Zcn okW
 cases hv : ZJ l
 ·simp (maxSteps := 2000000) only [go_sem]
  refine ZkR (by unfold ZG; omega) hv ?_
  simp (maxSteps := 2000000) only [go_sem, Bool.false_and, Bool.false_eq_true]
  rfl
 ·simp (maxSteps := 2000000) only [go_sem]
  refine ZjX hv hl fun σ' m D hC => ?_
  obtain ⟨c1, c2, c3, c4, c5, c6, c7, c8⟩ := hC
  have g0 : σ'[0]? = some (.cells false [pcA f l]) := c1 0 (by simp)
  have g1 : σ'[1]? = some (.cells false [.int .i64 r]) := c1 1 (by simp)
  simp only [List.length_cons, List.length_nil] at c2
  by_cases hr : 0 ≤ r ∧ r ≤ 1000000000
  ·have r1 : ¬ r < 0 := by omega
   have r2 : ¬ (1000000000 : Int) < r := by omega
   have hDl : D.length = (ZaG l).length := by rw [← c8, List.length_map]
   have hcl := ZfT hv
   have hd : Del σ' σ' m 0 1 D f l r := ⟨c3, c4, fun d hd e => c5 (e ▸ ZdI hd), g0, g1, by omega, by omega, by omega, fun d hd => by
    have := hcl.2 (Zao d.g) (by rw [← c8]; exact List.mem_map.2 ⟨d, hd, rfl⟩)
    rw [Zbt] at this
    omega⟩
   simp (maxSteps := 2000000) only [go_sem, g0, g1, r1, r2, decide_false, hr, decide_true, Bool.and_self]
   refine ZoZ hd c8 (by unfold ZG; omega) hr fun i σ2 hs => ?_
   simp (maxSteps := 2000000) only [go_sem, hs]
  ·have hd : decide (0 ≤ r ∧ r ≤ 1000000000) = false := decide_eq_false hr
   by_cases r1 : r < 0
   ·simp (maxSteps := 2000000) only [go_sem, g0, g1, r1, decide_true, hd, Bool.and_false]
    rw [if_neg hr, if_neg hr, if_neg hr]; rfl
   ·have r2 : (1000000000 : Int) < r := by omega
    simp (maxSteps := 2000000) only [go_sem, g0, g1, r1, r2, decide_true, decide_false, hd, Bool.and_false]
    rw [if_neg hr, if_neg hr, if_neg hr]; rfl
@[go_sem] theorem ZmR {f : SlF} {l : List Pc} {r : Int} (hl : l.length ≤ 300) {Q : Zg} {k : List Item} {os : List AOper} {d : Option Nat} {e : Env} {σ : Sto} : Zp T Q k os d e σ true i_Xq49 [pcA f l, .int .i64 r] ↔ Run T Q (.ops os :: k) (put e d (.tup [grA (ZdF l r) (lsG (ZbA l r)), .int .i64 (Zcn l r)])) σ := ZmP hl

theorem ZmQ {f : SlF} {l : List Pc} {r : Int} (hl : l.length ≤ 300) {lv : List Nat} {σ : Sto} {R : Zs} : Cw T true i_Xq60 [pcA f l, .int .i64 r] lv σ R ↔ R (.agg [grA (ZdF l r) (lsG (ZbA l r)), .nils, .int .i64 0, .int .i64 (Zcn l r)]) σ := by
 refine Zt T_Xq60 (by simp only [go_sem]) (by simp) ?_; rw [Za Xq60.main.eq_1]
 simp (maxSteps := 2000000) only [go_sem, ZcX (show l.length ≤ 100000 by omega), ZmR hl]
 done
@[go_sem] theorem ZfB {f : SlF} {l : List Pc} {r : Int} (hl : l.length ≤ 300) {Q : Zg} {k : List Item} {os : List AOper} {d : Option Nat} {e : Env} {σ : Sto} : Zp T Q k os d e σ true i_Xq60 [pcA f l, .int .i64 r] ↔ Run T Q (.ops os :: k) (put e d (.agg [grA (ZdF l r) (lsG (ZbA l r)), .nils, .int .i64 0, .int .i64 (Zcn l r)])) σ := ZmQ hl

end Go.Abs
/- Walks of chapter 36: CostWorth. -/
set_option linter.unusedSimpArgs false
set_option linter.unusedVariables false
set_option maxRecDepth 100000
set_option maxHeartbeats 8000000
namespace Go.Abs
open Go
attribute [local go_sem_proc] Nat.reduceLT Nat.reduceEqDiff Nat.reduceLeDiff Nat.reduceAdd Nat.reduceSub Nat.reduceMul Int.reduceLT Int.reduceLE Int.reduceEq Int.reduceNeg
attribute [local go_sem_proc ↓] reduceIte

theorem ZoT {n : Nat} : ∀ {g : List Int} {last : Int}, g.Pairwise (· < ·) → (∀ i ∈ g, last < i ∧ i < n) → isG n last g = true
 | [], _, _, _ => rfl
 | j :: g, last, hp, h => by
  rw [List.pairwise_cons] at hp
  rw [isG, decide_eq_true (h j List.mem_cons_self), Bool.true_and]
  exact ZoT hp.2 fun i hi => ⟨hp.1 i hi, (h i (List.mem_cons_of_mem _ hi)).2⟩
theorem ZjR {g : List Int} (hn : g.Nodup) : (Zao g).Pairwise (· < ·) := by
 have ho : Ord3 ltI (fun _ => True) := ⟨fun a b _ _ h => by simp only [ltI, decide_eq_true_eq, decide_eq_false_iff_not] at *; omega, fun a b c _ _ _ h1 h2 => by simp only [ltI, decide_eq_false_iff_not] at *; omega⟩
 have h1 := Zfh (r := ltI) ho (D := g) (fun _ _ => trivial)
 have h2 : (Zao g).Nodup := (Zdm ltI g).nodup_iff.2 hn
 have h3 := h1.and h2
 refine h3.imp fun {a b} h => ?_
 obtain ⟨h4, h5⟩ := h
 simp only [ltI, decide_eq_false_iff_not] at h4
 have : a ≠ b := h5
 omega
theorem ZkM {l : List Pc} (hv : ZJ l = true) : ∀ g ∈ ZaG l, ZaN l.length g = true := by
 intro g hg
 have h4 := Zg1 hv g hg
 obtain ⟨x, hx, rfl⟩ := List.mem_map.1 hg
 have hx1 := (List.mem_filter.1 hx).1
 have hok := (Zf9 hv).ok
 have hnd := ZjU (f := fun x : Gr => x.1) hx1 hok.nd
 unfold ZaN
 rw [Bool.and_eq_true]
 refine ⟨ZoT (ZjR hnd) fun i hi => ?_, decide_eq_true fun e => by rw [e] at h4; simp at h4⟩
 have := hok.bd i (List.mem_flatMap.2 ⟨x, hx1, (ZfH ltI).1 hi⟩)
 omega

abbrev ZkN (f : SlF) (G : List (List Int)) : AObj := .cells false [grA f (lsG G), .nils, .int .i64 0, .int .i64 0]
theorem ZoU {g h : List Int} (hg : ZG g) (hh : ZG h) {Q : Zg} {k : List Item} {os : List AOper} {d : Option Nat} {e : Env} {σ : Sto} : Zp T Q k os d e σ true i_Xq28 [.list 1 [Z3 .lst g], .list 1 [Z3 .lst h]] ↔ Run T Q (.ops os :: k) (put e d (.bool (decide (g = h)))) σ := by
 have := @Zh6 .lst .lst [(.lst, g)] [(.lst, h)] ⟨by unfold ZG; simp, by simpa using hg⟩ ⟨by unfold ZG; simp, by simpa using hh⟩ Q k os d e σ
 simp only [List.map_cons, List.map_nil, List.cons.injEq, and_true] at this
 exact this
theorem ZkO {l : List Pc} {X Y : List (List Int)} {fx fy : SlF} {Z : AObj} {a1 a2 s p : AVal} {i : Nat} {Q : Zg} (hi : i < X.length) (hX : ∀ g ∈ X, ZG g) (hY : ∀ g ∈ Y, ZG g) (hYl : Y.length ≤ 1000)
  (next : Run T Q [.code (.ghost (.kill [16, 67])), .code Xq32.c3, .inBlock 1, .inTrunc 3, .code Xq32.c2, .inLoop Xq32.b0, .inBlock 0, .code Xq32.c1, .code Xq32.c0] (mkE 150 [(1, a1), (2, a2), (7, .bool true), (8, pcA .lst l), (9, .ptr 0 4 0), (10, .ptr 1 4 0), (12, s), (13, p), (14, .int .i64 i), (15, .bool true), (16, .int .i64 Y.length), (67, .bool false)]) [ZkN fx X, ZkN fy Y, Z]) :
  ∀ k, k ≤ Y.length → ∀ b : Bool, (b = true ∨ X[i] ∈ Y.drop k) →
  Run T Q (.inLoop Xq32.b1 :: Xq32.k1 3) (mkE 150 [(1, a1), (2, a2), (7, .bool true), (8, pcA .lst l), (9, .ptr 0 4 0), (10, .ptr 1 4 0), (12, s), (13, p), (14, .int .i64 i), (15, .bool b), (16, .int .i64 k)]) [ZkN fx X, ZkN fy Y, Z] := by
 refine Zat (fun b hb => ?_) fun k hk ih b hb => ?_
 ·rw [List.drop_length] at hb
  have hb' : b = true := by simpa using hb
  subst hb'
  rw [Zb, Za Xq32.b1.eq_1]
  simp (maxSteps := 2000000) only [go_sem, Xq32.k1, List.length_map, Int.lt_irrefl, decide_false]
  exact next
 ·have w1 := Zj (show k < 9223372036854775807 by omega)
  cases b
  ·rw [List.drop_eq_getElem_cons hk] at hb
   have hb' : X[i] = Y[k] ∨ X[i] ∈ Y.drop (k + 1) := by
    rcases hb with hb | hb
    ·cases hb
    ·exact List.mem_cons.1 hb
   have hs := fun {Q k' os d e σ} => @ZoU X[i] Y[k] (hX _ (List.getElem_mem hi)) (hY _ (List.getElem_mem hk)) Q k' os d e σ
   have ih' := ih (decide (X[i] = Y[k])) (by
    by_cases e : X[i] = Y[k]
    ·exact .inl (decide_eq_true e)
    ·exact .inr (hb'.resolve_left e))
   rw [Zb, Za Xq32.b1.eq_1]
   simp (maxSteps := 2000000) only [go_sem, List.length_map, hk, hi, decide_true, List.getElem_map, hs, w1]
   exact ih'
  ·have ih' := ih true (.inl rfl)
   rw [Zb, Za Xq32.b1.eq_1]
   simp (maxSteps := 2000000) only [go_sem, List.length_map, hk, decide_true, w1]
   exact ih'
structure WOk (l : List Pc) (r : Int) (X Y : List (List Int)) : Prop where
 sub : ∀ g ∈ X, g ∈ Y
 len : ∀ g ∈ Y, g.length ≤ l.length
 xl : X.length ≤ l.length
 yl : Y.length ≤ 1000
 ll : l.length ≤ 60
 grp : ∀ g ∈ X, Zew l g = 0
 pay : ∀ g ∈ X, 0 ≤ Za7 l g ∧ Za7 l g ≤ 1000000000000
 gain : ∀ g ∈ X, Za7 l g < r * 4096 * ((g.length : Int) - 1)
theorem ZoV {n m : Nat} : (if m < n then (m : Int) else (n : Int)) = ((min n m : Nat) : Int) := by
 rw [Nat.min_def]; split <;> split <;> omega
theorem Zr5 {n m : Nat} : (if n < m then (m : Int) else (n : Int)) = ((max n m : Nat) : Int) := by
 rw [Nat.max_def]; split <;> split <;> omega
theorem ZkP {l : List Pc} {X Y : List (List Int)} {fx fy : SlF} {fz : SlF} {W : List (List Int)} {n m : Nat} (hn : n < 65536) (hm : m < 65536) (h : WOk l ((min n m : Nat) : Int) X Y) :
  ∀ i, i ≤ X.length → ∀ s p : Int, 0 ≤ p → p + i ≤ s → s ≤ i * 100000000000 →
  Run T (Res [.tmp 6] (.bool true)) (.inLoop Xq32.b0 :: Xq32.k0) (mkE 150 [(1, .int .u16 (n : Int)), (2, .int .u16 (m : Int)), (7, .bool true), (8, pcA .lst l), (9, .ptr 0 4 0), (10, .ptr 1 4 0), (12, .int .i64 s), (13, .int .i64 p), (14, .int .i64 i)]) [ZkN fx X, ZkN fy Y, ZkN fz W] := by
 obtain ⟨h1, h2, h3, h4, h5, h6, h7, h8⟩ := h
 have hY : ∀ g ∈ Y, ZG g := fun g hg => by have := h2 g hg; unfold ZG; omega
 have hX : ∀ g ∈ X, ZG g := fun g hg => hY g (h1 g hg)
 refine Zat (fun s p hp hs hb => ?_) fun i hi ih s p hp hs hb => ?_
 ·by_cases hX0 : X.length = 0
  ·have e0 : ((X.length : Nat) : Int) = 0 := by omega
   rw [Zb, Za Xq32.b0.eq_1]
   simp (maxSteps := 2000000) only [go_sem, Za Xq32.c0.eq_1, Za Xq32.c1.eq_1, Za Xq32.c2.eq_1, Za Xq32.c3.eq_1, Xq32.k0, Xq32.k1, List.length_map, Int.lt_irrefl, decide_false, e0, decide_true]
  ·have e0 : ¬ ((X.length : Nat) : Int) = 0 := by omega
   have e1 : p < s := by omega
   rw [Zb, Za Xq32.b0.eq_1]
   simp (maxSteps := 2000000) only [go_sem, Za Xq32.c0.eq_1, Za Xq32.c1.eq_1, Za Xq32.c2.eq_1, Za Xq32.c3.eq_1, Xq32.k0, Xq32.k1, List.length_map, Int.lt_irrefl, decide_false, e0, e1, decide_true]
 ·have hgm := List.getElem_mem hi
  have m1 := h6 _ hgm
  have m2 := h7 _ hgm
  have m3 := h8 _ hgm
  have m4 := h2 _ (h1 _ hgm)
  have hmc := fun {Q k os d e σ} => @ZmZ .lst .lst l X[i] (by omega) (hX _ hgm) Q k os d e σ
  rw [m1] at hmc
  have hr16 : min n m < 65536 := by omega
  have hpos : 0 ≤ ((min n m : Nat) : Int) * 4096 * ((X[i].length : Int) - 1) := by omega
  have hup : ((min n m : Nat) : Int) * 4096 * ((X[i].length : Int) - 1) ≤ 65536 * 4096 * 60 := by
   have a1 : ((min n m : Nat) : Int) * 4096 ≤ 65536 * 4096 := by omega
   by_cases hx0 : X[i].length = 0
   ·have e : (X[i].length : Int) - 1 = -1 := by omega
    rw [e]; omega
   ·exact Int.mul_le_mul a1 (by omega) (by omega) (by omega)
  have w1 := Zj (show i < 9223372036854775807 by omega)
  have w2 : IntKind.i64.wrap ((min n m : Nat) : Int) = ((min n m : Nat) : Int) := Zbc (by omega)
  have w3 : IntKind.i64.wrap (((min n m : Nat) : Int) * 4096) = ((min n m : Nat) : Int) * 4096 := Zi (by omega) (by omega)
  have w4 : IntKind.i64.wrap ((X[i].length : Int) - 1) = (X[i].length : Int) - 1 := Zi (by omega) (by omega)
  have w5 : IntKind.i64.wrap (((min n m : Nat) : Int) * 4096 * ((X[i].length : Int) - 1)) = ((min n m : Nat) : Int) * 4096 * ((X[i].length : Int) - 1) := Zi (by omega) (by omega)
  have w6 : IntKind.i64.wrap (s + ((min n m : Nat) : Int) * 4096 * ((X[i].length : Int) - 1)) = s + ((min n m : Nat) : Int) * 4096 * ((X[i].length : Int) - 1) := Zi (by omega) (by omega)
  have w7 : IntKind.i64.wrap (p + Za7 l X[i]) = p + Za7 l X[i] := Zi (by omega) (by omega)
  have c1 : ¬ (l.length : Int) < (X[i].length : Int) := by omega
  have c2 : ¬ (l.length : Int) < (X.length : Int) := by omega
  have ih' := ih (s + ((min n m : Nat) : Int) * 4096 * ((X[i].length : Int) - 1)) (p + Za7 l X[i]) (by omega) (by omega) (by omega)
  rw [Zb, Za Xq32.b0.eq_1]
  simp (maxSteps := 2000000) only [go_sem, List.length_map, hi, decide_true]
  refine ZkO hi hX hY h4 ?_ 0 (by omega) false (.inr (by rw [List.drop_zero]; exact h1 _ hgm))
  have d1 : ¬ l.length < X[i].length := by omega
  have d2 : ¬ l.length < X.length := by omega
  simp (maxSteps := 2000000) only [go_sem, Za Xq32.c0.eq_1, Za Xq32.c1.eq_1, Za Xq32.c2.eq_1, Za Xq32.c3.eq_1, Xq32.k0, Xq32.k1, List.length_map, hi, decide_true, List.getElem_map, hmc, d1, d2, c1, c2, decide_false, not_false_eq_true, ZoV, w2, w3, w4, w5, w6, w7, w1]
  exact ih'
theorem ZjS {l : List Pc} (hv : ZJ l = true) (g : List Int) : 0 ≤ Za7 l g := by
 unfold Za7 Zh1
 cases hi : ZaN l.length g
 ·simp
 ·rw [hv]
  obtain ⟨hn, ho⟩ := Zbr.1 hv
  have := (Zdj (v := mB) (M := 3000000000) (by omega) (fun p hp => by have := ho p hp; unfold mB; omega) (ZfC hi).2).1
  simp only [Bool.and_self, if_true]
  omega
theorem ZkQ {l : List Pc} (hv : ZJ l = true) : ZbA l 0 = [] := by
 unfold ZbA
 split
 ·rw [List.filter_eq_nil_iff]
  intro g _
  have := ZjS hv g
  have e : Zbs l 0 g = true := decide_eq_true (by omega)
  rw [e]; decide
 ·rfl
theorem ZoW {l : List Pc} {n m : Nat} (hv : ZJ l = true) (hl : l.length ≤ 60) (hn : n < 65536) (hm : m < 65536) : WOk l ((min n m : Nat) : Int) (ZbA l ((min n m : Nat) : Int)) (ZbA l ((max n m : Nat) : Int)) := by
 obtain ⟨h512, ho⟩ := Zbr.1 hv
 have o1 : okW l ((min n m : Nat) : Int) = true := by unfold okW; rw [hv, Bool.true_and]; exact decide_eq_true (by omega)
 have o2 : okW l ((max n m : Nat) : Int) = true := by unfold okW; rw [hv, Bool.true_and]; exact decide_eq_true (by omega)
 have e1 : ZbA l ((min n m : Nat) : Int) = (ZaG l).filter fun g => !Zbs l ((min n m : Nat) : Int) g := by unfold ZbA; rw [if_pos o1]
 have e2 : ZbA l ((max n m : Nat) : Int) = (ZaG l).filter fun g => !Zbs l ((max n m : Nat) : Int) g := by unfold ZbA; rw [if_pos o2]
 obtain ⟨c1, c2⟩ := ZfT hv
 have hcg := ZkM hv
 have hc4 := Zg1 hv
 have hin : ∀ g ∈ ZbA l ((min n m : Nat) : Int), g ∈ ZaG l ∧ Za7 l g < ((min n m : Nat) : Int) * 4096 * ((g.length : Int) - 1) := fun g hg => by
  rw [e1] at hg
  obtain ⟨h1, h2⟩ := List.mem_filter.1 hg
  refine ⟨h1, ?_⟩
  simp only [Zbs, Bool.not_eq_true', decide_eq_false_iff_not] at h2
  omega
 refine ⟨fun g hg => ?_, fun g hg => ?_, ?_, ?_, hl, fun g hg => ?_, fun g hg => ?_, fun g hg => (hin g hg).2⟩
 ·obtain ⟨h1, h2⟩ := hin g hg
  rw [e2]
  refine List.mem_filter.2 ⟨h1, ?_⟩
  have h4 := hc4 g h1
  have hle : ((min n m : Nat) : Int) * 4096 ≤ ((max n m : Nat) : Int) * 4096 := by omega
  have := Int.mul_le_mul_of_nonneg_right hle (show (0 : Int) ≤ (g.length : Int) - 1 by omega)
  simp only [Zbs, Bool.not_eq_true', decide_eq_false_iff_not]
  omega
 ·rw [e2] at hg
  exact c2 g (List.mem_filter.1 hg).1
 ·rw [e1]; exact Nat.le_trans (List.length_filter_le ..) c1
 ·rw [e2]; exact Nat.le_trans (List.length_filter_le ..) (by omega)
 ·have := hcg g (hin g hg).1
  unfold Zew Zh1
  rw [hv, this]; rfl
 ·refine ⟨ZjS hv g, ?_⟩
  have hgr := hcg g (hin g hg).1
  obtain ⟨m1, m2⟩ := ZfC hgr
  have := (Zdj (v := mB) (M := 3000000000) (by omega) (fun p hp => by have := ho p hp; unfold mB; omega) m2).2
  unfold Za7 Zh1
  rw [hv, hgr]
  simp only [Bool.and_self, if_true]
  omega
theorem ZhY {f : SlF} {z : List (Nat × Nat)} {n m : Nat} (hz : z.length < 9223372036854775808) (hb : ∀ p ∈ z, p.1 < 256 ∧ p.2 < 256) (hn : n < 65536) (hm : m < 65536) {lv : List Nat} {σ : Sto} {R : Zs} : Cw T true i_Xq32 [ZgX f z, .int .u16 (n : Int), .int .u16 (m : Int)] lv σ R ↔ R (.bool true) σ := by
 obtain ⟨hm1, hm2⟩ := Zhd hb
 have hv := Zka hb
 have hmk := fun {Q k os d e σ} => @ZhU f z hz hb Q k os d e σ
 refine Zt T_Xq32 (by simp only [go_sem]) (by simp) ?_; rw [Za Xq32.main.eq_1]
 generalize Zcz z = l at *
 have hw := ZoW hv hm1 hn hm
 have q1 := fun {Q k os d e σ} => @ZfB .lst l ((min n m : Nat) : Int) (by omega) Q k os d e σ
 have q2 := fun {Q k os d e σ} => @ZfB .lst l ((max n m : Nat) : Int) (by omega) Q k os d e σ
 have q3 := fun {Q k os d e σ} => @ZfB .lst l 0 (by omega) Q k os d e σ
 have e1 : Zcn l ((min n m : Nat) : Int) = 0 := by unfold Zcn okW; rw [hv, Bool.true_and, decide_eq_true (by omega)]; rfl
 have e2 : Zcn l ((max n m : Nat) : Int) = 0 := by unfold Zcn okW; rw [hv, Bool.true_and, decide_eq_true (by omega)]; rfl
 have e3 : Zcn l 0 = 0 := by unfold Zcn okW; rw [hv]; rfl
 rw [e1] at q1
 rw [e2] at q2
 rw [e3, ZkQ hv] at q3
 have w1 : IntKind.i64.wrap ((min n m : Nat) : Int) = ((min n m : Nat) : Int) := Zbc (by omega)
 have w2 : IntKind.i64.wrap ((max n m : Nat) : Int) = ((max n m : Nat) : Int) := Zbc (by omega)
 have hlp := ZkP (fx := ZdF l ((min n m : Nat) : Int)) (fy := ZdF l ((max n m : Nat) : Int)) (fz := ZdF l 0) (W := []) hn hm hw 0 (by omega) 0 0 (by omega) (by omega) (by omega)
 simp (maxSteps := 2000000) only [go_sem, hmk, ZoV, Zr5, w1, w2, q1, q2, q3, decide_false, List.map_nil, List.length_nil, List.length_map]
 exact hlp
@[go_sem] theorem Ztm {f : SlF} {z : List (Nat × Nat)} {n m : Nat} (hz : z.length < 9223372036854775808) (hb : ∀ p ∈ z, p.1 < 256 ∧ p.2 < 256) (hn : n < 65536) (hm : m < 65536) {Q : Zg} {k : List Item} {os : List AOper} {d : Option Nat} {e : Env} {σ : Sto} : Zp T Q k os d e σ true i_Xq32 [ZgX f z, .int .u16 (n : Int), .int .u16 (m : Int)] ↔ Run T Q (.ops os :: k) (put e d (.bool true)) σ := ZhY hz hb hn hm

end Go.Abs
