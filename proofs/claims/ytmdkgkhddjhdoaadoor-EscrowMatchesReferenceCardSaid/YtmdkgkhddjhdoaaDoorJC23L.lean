/- Parts of the proof: C23L, C23N, C23P, C23Q, C23R. -/
import Derived.Test.YtmdkgkhddjhdoaaDoorC23H
import Derived.Test.YtmdkgkhddjhdoaaDoorC23K
set_option linter.all false
/- Chapter 23: two commits of different stations. -/
set_option linter.unusedSimpArgs false
set_option linter.unusedVariables false
set_option maxRecDepth 10000
namespace Go.Abs
open Go

theorem comB_fits {st : Int} {l : List Tri} : Fits (comB st l).ops := by
  unfold Fits comB
  simp only [List.length_map, List.length_take]
  omega
theorem doP_some {s p : List Int} {c : Cm} (h : doP s c = some p) : Good s ∧ 0 ≤ c.st ∧ c.st < 6 ∧ opsP c.st c.ops s = some p ∧ Good p := by
  unfold doP at h
  split at h
  · rename_i hc
    simp only [Bool.and_eq_true, decide_eq_true_eq] at hc
    have hG := svalid_good.1 hc.1
    exact ⟨hG, hc.2.1, hc.2.2, h, opsP_good hG h⟩
  · cases h
theorem doP_mk {s p : List Int} {c : Cm} (hG : Good s) (h0 : 0 ≤ c.st) (h6 : c.st < 6) (h : opsP c.st c.ops s = some p) : doP s c = some p := by
  unfold doP
  rw [if_pos (by simp [svalid_good.2 hG, h0, h6]), h]
theorem Good.fits {s : List Int} (h : Good s) : Fits s := by have := h.len; unfold Fits; omega

set_option maxHeartbeats 4000000 in
theorem l23_EscrowIndependence_true {f f1 f2 : SlF} {b : List Nat} {x y : List Tri} (hb : Fits b) (hx : Fits x) (hy : Fits y) {lv : List Nat} {σ : Sto} {R : Post} : Cw T true i_l23_EscrowIndependence [bytesV f b, trisV f1 x, trisV f2 y] lv σ R ↔ R (.bool true) σ := by
  refine cw_intro T_l23_EscrowIndependence (by simp only [go_sem]) (by simp) ?_; rw [run_unfold l23_EscrowIndependence.main.eq_1]
  have hG := sharesP_good b
  generalize hsd : sharesP b = s at hG
  have hc : Fits (comB 0 x).ops := comB_fits
  have hd : Fits (comB 1 y).ops := comB_fits
  have c0 : (comB 0 x).st = 0 := rfl
  have d0 : (comB 1 y).st = 1 := rfl
  generalize hcd : comB 0 x = c at hc c0
  generalize hdd : comB 1 y = d at hd d0
  cases hp : doP s c with
  | none =>
    cases hq : doP s d with
    | none => simp (maxSteps := 2000000) only [go_sem, ↓reduceIte, Nat.reduceLT, Nat.reduceEqDiff, Nat.reduceLeDiff, Nat.reduceAdd, Nat.reduceSub, Nat.reduceMul, Int.reduceLT, Int.reduceLE, Int.reduceEq, Int.reduceNeg, hb, hx, hy, hsd, hcd, hdd, hc, hd, hp, hq, gotG]
    | some q => simp (maxSteps := 2000000) only [go_sem, ↓reduceIte, Nat.reduceLT, Nat.reduceEqDiff, Nat.reduceLeDiff, Nat.reduceAdd, Nat.reduceSub, Nat.reduceMul, Int.reduceLT, Int.reduceLE, Int.reduceEq, Int.reduceNeg, hb, hx, hy, hsd, hcd, hdd, hc, hd, hp, hq, gotG]
  | some p =>
    obtain ⟨_, p0, p1, p2, pG⟩ := doP_some hp
    cases hq : doP s d with
    | none => simp (maxSteps := 2000000) only [go_sem, ↓reduceIte, Nat.reduceLT, Nat.reduceEqDiff, Nat.reduceLeDiff, Nat.reduceAdd, Nat.reduceSub, Nat.reduceMul, Int.reduceLT, Int.reduceLE, Int.reduceEq, Int.reduceNeg, hb, hx, hy, hsd, hcd, hdd, hc, hd, hp, hq, gotG]
    | some q =>
      obtain ⟨_, q0, q1, q2, qG⟩ := doP_some hq
      obtain ⟨u, u1, u2⟩ := opsP_swap p0 q0 (by rw [c0, d0]; decide) hG.len p2 q2
      have hu := doP_mk pG q0 q1 u1
      have hv := doP_mk qG p0 p1 u2
      have uG := opsP_good pG u1
      simp (maxSteps := 2000000) only [go_sem, ↓reduceIte, Nat.reduceLT, Nat.reduceEqDiff, Nat.reduceLeDiff, Nat.reduceAdd, Nat.reduceSub, Nat.reduceMul, Int.reduceLT, Int.reduceLE, Int.reduceEq, Int.reduceNeg, hb, hx, hy, hsd, hcd, hdd, hc, hd, hp, hq, hu, hv, gotG, svalid_good.2 pG, svalid_good.2 qG, pG.fits, qG.fits, uG.fits]
end Go.Abs
/- Chapter 23: plays. -/
set_option linter.unusedSimpArgs false
set_option linter.unusedVariables false
set_option maxRecDepth 10000
namespace Go.Abs
open Go

/-- commits that are done one after the other, where they can be -/
def playL : List Int → List Cm → List Int × List Bool
  | s, [] => (s, [])
  | s, c :: r => ((playL ((doP s c).getD s) r).1, (doP s c).isSome :: (playL ((doP s c).getD s) r).2)
theorem playL_len : ∀ (l : List Cm) (s : List Int), (playL s l).2.length = l.length
  | [], s => rfl
  | c :: r, s => by simp [playL, playL_len r]

abbrev cms (f : SlF) (l : List Cm) : AVal := sv 5 f (l.map encM)
abbrev boolsO (l : List Bool) : AObj := .cells false (l.map AVal.bool)
abbrev boolsV (f : SlF) (l : List Bool) : AVal := sv 1 f (l.map AVal.bool)

theorem slices_Clone_int_pure {f : SlF} {c : List Int} (hc : c ≠ []) (hb : c.length * 8 ≤ maxBytes) {lv : List Nat} {σ : Sto} {R : Post} : Cw T true i_slices_Clone_int [ints f c] lv σ R ↔ R (ints .lst c) σ := by
  refine cw_intro T_slices_Clone_int (by simp only [go_sem]) (by simp) ?_; rw [run_unfold slices_Clone_int.main.eq_1]
  simp (maxSteps := 2000000) only [go_sem, ↓reduceIte, Nat.reduceLT, Nat.reduceEqDiff, Nat.reduceLeDiff, Nat.reduceAdd, Nat.reduceSub, Nat.reduceMul, Int.reduceLT, Int.reduceLE, Int.reduceEq, Int.reduceNeg, eqnilV_sv (show (c.map fun n => AVal.int .i64 n) ≠ [] by simpa using hc)]
  rw [appendV_fresh (by rfl) rowOf_ints (by simp) (by decide) (by simp [AVal.one]) hb]
  simp (maxSteps := 2000000) only [go_sem, ↓reduceIte, Nat.reduceLT, Nat.reduceEqDiff, Nat.reduceLeDiff, Nat.reduceAdd, Nat.reduceSub, Nat.reduceMul, Int.reduceLT, Int.reduceLE, Int.reduceEq, Int.reduceNeg]
  have h := snap_ints (n := 62) (σ := [cellsI c]) (o := 0) (c := c) rfl
  exact h

theorem snap_bools {σ : Sto} {o : Nat} {l : List Bool} {n : Nat} (hn : l.length = n) (h : σ[o]? = some (boolsO l)) : snapA σ 63 (.ref o n 0 n 1) = some (boolsV .lst l) := by
  subst hn
  have hp : AVal.pures (l.map AVal.bool) = true := v_names_map (fun _ => rfl) l
  have := snapA_refN (n := 61) (len := l.length) (k := 1) h (List.length_map ..) (by simp) (by decide) hp
  rw [show (63 : Nat) = 61 + 2 from rfl, this, boolsV, sv_lst]
  have := chunk_one (l.map AVal.bool)
  rw [List.length_map] at this
  rw [this]

theorem rep_set {D : List Bool} {i n : Nat} (hD : D.length = i) (hi : i < n) : (D ++ List.replicate (n - i) false).set i true = (D ++ [true]) ++ List.replicate (n - (i + 1)) false := by
  rw [show n - i = (n - (i + 1)) + 1 by omega, List.replicate_succ, List.set_append_right _ _ (by omega)]
  simp [hD]
theorem rep_same {D : List Bool} {i n : Nat} (hi : i < n) : D ++ List.replicate (n - i) false = (D ++ [false]) ++ List.replicate (n - (i + 1)) false := by
  rw [show n - i = (n - (i + 1)) + 1 by omega, List.replicate_succ]
  simp
theorem over_bools {l : List Bool} {i : Nat} {b : Bool} (h : i < l.length) : (l.map AVal.bool).take i ++ [AVal.bool b] ++ (l.map AVal.bool).drop (i + 1) = (l.set i b).map AVal.bool := by
  have := overwrite_map (g := AVal.bool) (l := l) (v := b) h
  simpa [overwrite] using this

theorem namesL_memI {p : Nat → Bool} : ∀ {xs : List AVal}, (∀ x ∈ xs, x.names p = true) → AVal.namesL p xs = true
  | [], _ => rfl
  | x :: xs, h => by
    simp only [AVal.namesL, Bool.and_eq_true]
    exact ⟨h x (by simp), namesL_memI fun y hy => h y (by simp [hy])⟩
theorem bools_names {p : Nat → Bool} {l : List Bool} : AVal.namesL p (l.map AVal.bool) = true := namesL_memI fun x hx => by
  obtain ⟨b, _, rfl⟩ := List.mem_map.1 hx
  rfl
theorem bools_take {p : Nat → Bool} {l : List Bool} {i : Nat} : AVal.namesL p ((l.map AVal.bool).take i) = true := by rw [← List.map_take]; exact bools_names
theorem bools_drop {p : Nat → Bool} {l : List Bool} {i : Nat} : AVal.namesL p ((l.map AVal.bool).drop i) = true := by rw [← List.map_drop]; exact bools_names

theorem escrow_Play_loop {fl f : SlF} {l : List Cm} (hl : Fits l) (hc : ∀ c ∈ l, Fits c.ops) : ∀ i, i ≤ l.length → ∀ (s : List Int) (D : List Bool), D.length = i → (svalid s = true → fl = .lst) →
    Run T (Res [.tmp 4, .tmp 5] (.tup [ints fl (playL s (l.drop i)).1, boolsV .lst (D ++ (playL s (l.drop i)).2)])) (.inLoop escrow_Play.b0 :: escrow_Play.k0) (mkE 41 [(6, ints fl s), (7, .ref 0 l.length 0 l.length 1), (19, cms f l), (20, .int .i64 l.length), (21, .int .i64 i)])
      [boolsO (D ++ List.replicate (l.length - i) false)] := by
  refine up_ind ?_ fun i hi ih => ?_
  · intro s D hD hs
    rw [run_round, run_unfold escrow_Play.b0.eq_1]
    rw [List.drop_length, playL, Nat.sub_self, List.replicate_zero]
    simp (maxSteps := 2000000) only [go_sem, ↓reduceIte, Nat.reduceLT, Nat.reduceEqDiff, Nat.reduceLeDiff, Nat.reduceAdd, Nat.reduceSub, Nat.reduceMul, Int.reduceLT, Int.reduceLE, Int.reduceEq, Int.reduceNeg, Nat.lt_irrefl, run_unfold escrow_Play.c0.eq_1, run_unfold escrow_Play.c1.eq_1, run_unfold escrow_Play.c2.eq_1, run_unfold escrow_Play.c3.eq_1, escrow_Play.k0, List.append_nil, snap_bools hD (show [boolsO D][0]? = _ from rfl)]
  · intro s D hD hs
    have hci := hc _ (List.getElem_mem hi)
    have hw := wrap_succ (n := i) (by unfold Fits at hl; omega)
    rw [List.drop_eq_getElem_cons hi, playL]
    rw [run_round, run_unfold escrow_Play.b0.eq_1]
    cases hp : doP s l[i] with
    | none =>
      have := ih s (D ++ [false]) (by simp [hD]) hs
      rw [rep_same hi]
      simp only [List.append_assoc, List.singleton_append] at this ⊢
      simp (maxSteps := 2000000) only [go_sem, ↓reduceIte, Nat.reduceLT, Nat.reduceEqDiff, Nat.reduceLeDiff, Nat.reduceAdd, Nat.reduceSub, Nat.reduceMul, Int.reduceLT, Int.reduceLE, Int.reduceEq, Int.reduceNeg, hi, hci, hp, gotA, hw, run_unfold escrow_Play.c2.eq_1, bools_names, AVal.unders, Option.getD_none, Option.isSome_none]
      exact this
    | some y =>
      have hfl : fl = .lst := hs (svalid_good.2 (doP_some hp).1)
      subst hfl
      have := ih y (D ++ [true]) (by simp [hD]) (fun _ => rfl)
      have hlen : i < (D ++ List.replicate (l.length - i) false).length := by simp [hD]; omega
      have hset := rep_set hD hi
      simp only [List.append_assoc, List.singleton_append] at this hset
      have hl2 : (D ++ List.replicate (l.length - i) false).length = l.length := by simp [hD]; omega
      have hob := over_bools (b := true) hlen
      rw [hset] at hob
      simp (maxSteps := 2000000) only [go_sem, ↓reduceIte, Nat.reduceLT, Nat.reduceEqDiff, Nat.reduceLeDiff, Nat.reduceAdd, Nat.reduceSub, Nat.reduceMul, Int.reduceLT, Int.reduceLE, Int.reduceEq, Int.reduceNeg, hi, hci, hp, gotA, hw, hl2, show i + 1 ≤ l.length by omega, bools_take, bools_drop, hob, run_unfold escrow_Play.c2.eq_1, bools_names, AVal.unders, Option.getD_some, Option.isSome_some]
      exact this

theorem flat_rep {α : Type} (x : α) : ∀ n : Nat, (List.replicate n [x]).flatten = List.replicate n x
  | 0 => rfl
  | n + 1 => by rw [List.replicate_succ, List.flatten_cons, flat_rep x n, List.replicate_succ]; rfl
theorem mk_bools {σ : Sto} {n : Nat} (h : n ≤ 1000000) : mksliceV 1 1 [.bool false] (.int .i64 n) (.int .i64 n) σ = some (.ref σ.length n 0 n 1, σ ++ [boolsO (List.replicate n false)]) := by
  have e : IntKind.i64.max = 9223372036854775807 := by decide
  simp only [mksliceV, e]
  rw [if_pos ⟨by omega, by omega, by simp [maxBytes]; omega, by omega⟩]
  simp [flat_rep]

def flP (s : List Int) : SlF := if svalid s then .lst else .nil
def stP (s : List Int) : List Int := if svalid s then s else []

theorem escrow_Play_spec {f g : SlF} {s : List Int} {l : List Cm} (hl : l.length ≤ 1000000) (hc : ∀ c ∈ l, Fits c.ops) {lv : List Nat} {σ : Sto} {R : Post} : Cw T true i_escrow_Play [ints g s, cms f l] lv σ R ↔ R (.tup [ints (flP s) (playL (stP s) l).1, boolsV .lst (playL (stP s) l).2]) σ := by
  refine cw_intro T_escrow_Play (by simp only [go_sem]) (by simp) ?_; rw [run_unfold escrow_Play.main.eq_1]
  have hf : Fits l := by unfold Fits; omega
  unfold flP stP
  cases hs : svalid s
  · simp (maxSteps := 2000000) only [go_sem, ↓reduceIte, Nat.reduceLT, Nat.reduceEqDiff, Nat.reduceLeDiff, Nat.reduceAdd, Nat.reduceSub, Nat.reduceMul, Int.reduceLT, Int.reduceLE, Int.reduceEq, Int.reduceNeg, hs, run_unfold escrow_Play.c3.eq_1, mk_bools hl, hl]
    exact escrow_Play_loop (fl := .nil) hf hc 0 (by omega) [] [] rfl (fun h => by cases h)
  · have hG := svalid_good.1 hs
    have hne : s ≠ [] := by intro h; have := hG.len; rw [h] at this; cases this
    simp (maxSteps := 2000000) only [go_sem, ↓reduceIte, Nat.reduceLT, Nat.reduceEqDiff, Nat.reduceLeDiff, Nat.reduceAdd, Nat.reduceSub, Nat.reduceMul, Int.reduceLT, Int.reduceLE, Int.reduceEq, Int.reduceNeg, hs, callK_of (slices_Clone_int_pure (f := g) hne (by rw [hG.len]; decide)), run_unfold escrow_Play.c3.eq_1, mk_bools hl]
    exact escrow_Play_loop (fl := .lst) hf hc 0 (by omega) s [] rfl (fun _ => rfl)
@[go_sem] theorem escrow_Play_call {f g : SlF} {s : List Int} {l : List Cm} (hl : l.length ≤ 1000000) (hc : ∀ c ∈ l, Fits c.ops) {Q : Post3} {k : List Item} {os : List AOper} {d : Option Nat} {e : Env} {σ : Sto} : CallK T Q k os d e σ true i_escrow_Play [ints g s, cms f l] ↔ Run T Q (.ops os :: k) (put e d (.tup [ints (flP s) (playL (stP s) l).1, boolsV .lst (playL (stP s) l).2])) σ := escrow_Play_spec hl hc


theorem l23_played_spec {f g : SlF} {s : List Int} {l : List Cm} (hl : l.length ≤ 1000000) (hc : ∀ c ∈ l, Fits c.ops) {lv : List Nat} {σ : Sto} {R : Post} : Cw T true i_l23_played [ints g s, cms f l] lv σ R ↔ R (.agg [ints (flP s) (playL (stP s) l).1, boolsV .lst (playL (stP s) l).2]) σ := by
  refine cw_intro T_l23_played (by simp only [go_sem]) (by simp) ?_; rw [run_unfold l23_played.main.eq_1]
  simp (maxSteps := 2000000) only [go_sem, ↓reduceIte, Nat.reduceLT, Nat.reduceEqDiff, Nat.reduceLeDiff, Nat.reduceAdd, Nat.reduceSub, Nat.reduceMul, Int.reduceLT, Int.reduceLE, Int.reduceEq, Int.reduceNeg, escrow_Play_call hl hc]
@[go_sem] theorem l23_played_call {f g : SlF} {s : List Int} {l : List Cm} (hl : l.length ≤ 1000000) (hc : ∀ c ∈ l, Fits c.ops) {Q : Post3} {k : List Item} {os : List AOper} {d : Option Nat} {e : Env} {σ : Sto} : CallK T Q k os d e σ true i_l23_played [ints g s, cms f l] ↔ Run T Q (.ops os :: k) (put e d (.agg [ints (flP s) (playL (stP s) l).1, boolsV .lst (playL (stP s) l).2])) σ := l23_played_spec hl hc


theorem r23_Alike_spec {f g : SlF} {a b : List Int} {v w : Int} (ha : Fits a) {lv : List Nat} {σ : Sto} {R : Post} : Cw T true i_r23_Alike [.agg [ints f a, .int .i64 v], .agg [ints g b, .int .i64 w]] lv σ R ↔ R (.bool (decide (v = w) && decide (a = b))) σ := by
  refine cw_intro T_r23_Alike (by simp only [go_sem]) (by simp) ?_; rw [run_unfold r23_Alike.main.eq_1]
  by_cases h : v = w
  · simp (maxSteps := 2000000) only [go_sem, ↓reduceIte, Nat.reduceLT, Nat.reduceEqDiff, Nat.reduceLeDiff, Nat.reduceAdd, Nat.reduceSub, Nat.reduceMul, Int.reduceLT, Int.reduceLE, Int.reduceEq, Int.reduceNeg, h, ha]
  · simp (maxSteps := 2000000) only [go_sem, ↓reduceIte, Nat.reduceLT, Nat.reduceEqDiff, Nat.reduceLeDiff, Nat.reduceAdd, Nat.reduceSub, Nat.reduceMul, Int.reduceLT, Int.reduceLE, Int.reduceEq, Int.reduceNeg, h, ha, Bool.false_and]
@[go_sem] theorem r23_Alike_call {f g : SlF} {a b : List Int} {v w : Int} (ha : Fits a) {Q : Post3} {k : List Item} {os : List AOper} {d : Option Nat} {e : Env} {σ : Sto} : CallK T Q k os d e σ true i_r23_Alike [.agg [ints f a, .int .i64 v], .agg [ints g b, .int .i64 w]] ↔ Run T Q (.ops os :: k) (put e d (.bool (decide (v = w) && decide (a = b)))) σ := r23_Alike_spec ha

end Go.Abs
/- Chapter 23: the reference: results, operations, commits. -/
set_option linter.unusedSimpArgs false
set_option linter.unusedVariables false
set_option maxRecDepth 10000
namespace Go.Abs
open Go

theorem r23_station_spec {n : Int} {lv : List Nat} {σ : Sto} {R : Post} : Cw T true i_r23_station [.int .i64 n] lv σ R ↔ R (.bool (decide (0 ≤ n) && decide (n < 6))) σ := by
  refine cw_intro T_r23_station (by simp only [go_sem]) (by simp) ?_; rw [run_unfold r23_station.main.eq_1]
  by_cases h : 0 ≤ n
  · simp (maxSteps := 2000000) only [go_sem, ↓reduceIte, Nat.reduceLT, Nat.reduceEqDiff, Nat.reduceLeDiff, Nat.reduceAdd, Nat.reduceSub, Nat.reduceMul, Int.reduceLT, Int.reduceLE, Int.reduceEq, Int.reduceNeg, h]
  · simp (maxSteps := 2000000) only [go_sem, ↓reduceIte, Nat.reduceLT, Nat.reduceEqDiff, Nat.reduceLeDiff, Nat.reduceAdd, Nat.reduceSub, Nat.reduceMul, Int.reduceLT, Int.reduceLE, Int.reduceEq, Int.reduceNeg, h, Bool.false_and]
@[go_sem] theorem r23_station_call {n : Int} {Q : Post3} {k : List Item} {os : List AOper} {d : Option Nat} {e : Env} {σ : Sto} : CallK T Q k os d e σ true i_r23_station [.int .i64 n] ↔ Run T Q (.ops os :: k) (put e d (.bool (decide (0 ≤ n) && decide (n < 6)))) σ := r23_station_spec


/-- new shares -/
def newP (st v : Int) : Option (List Int) := if 0 ≤ st ∧ st < 6 ∧ 0 ≤ v ∧ v ≤ maxN then some (zeros.set st.toNat v) else none

theorem over_zeros {n : Nat} {v : Int} (h : n < 6) : ((zeros.map fun n => AVal.int .i64 n).take n ++ [AVal.int .i64 v] ++ (zeros.map fun n => AVal.int .i64 n).drop (n + 1)) = (zeros.set n v).map fun n => AVal.int .i64 n := over_ints (l := zeros) h

theorem slarrV_6 {σ : Sto} {o : Nat} {l : List Int} (hl : l.length = 6) (h : σ[o]? = some (cellsI l)) : slarrV 6 1 (.ptr o 6 0) none none σ = some (.ref o 6 0 6 1, σ) := by
  simp [slarrV, bnd, h, hl]

theorem escrow_New_spec {st v : Int} {lv : List Nat} {σ : Sto} {R : Post} : Cw T true i_escrow_New [.int .i64 st, .int .i64 v] lv σ R ↔ R (gotA (newP st v)) σ := by
  refine cw_intro T_escrow_New (by simp only [go_sem]) (by simp) ?_; rw [run_unfold escrow_New.main.eq_1]
  unfold newP
  by_cases h1 : 0 ≤ st
  case neg => simp (maxSteps := 2000000) only [go_sem, ↓reduceIte, Nat.reduceLT, Nat.reduceEqDiff, Nat.reduceLeDiff, Nat.reduceAdd, Nat.reduceSub, Nat.reduceMul, Int.reduceLT, Int.reduceLE, Int.reduceEq, Int.reduceNeg, h1, false_and, gotA, Bool.false_and]
  by_cases h2 : st < 6
  case neg => simp (maxSteps := 2000000) only [go_sem, ↓reduceIte, Nat.reduceLT, Nat.reduceEqDiff, Nat.reduceLeDiff, Nat.reduceAdd, Nat.reduceSub, Nat.reduceMul, Int.reduceLT, Int.reduceLE, Int.reduceEq, Int.reduceNeg, h1, h2, false_and, and_false, gotA]
  by_cases h3 : v < 0
  case pos => simp (maxSteps := 2000000) only [go_sem, ↓reduceIte, Nat.reduceLT, Nat.reduceEqDiff, Nat.reduceLeDiff, Nat.reduceAdd, Nat.reduceSub, Nat.reduceMul, Int.reduceLT, Int.reduceLE, Int.reduceEq, Int.reduceNeg, h1, h2, h3, Int.not_le.2 h3, false_and, and_false, gotA]
  have h3' := Int.not_lt.1 h3
  by_cases h4 : 1000000000000000 < v
  case pos => simp (maxSteps := 2000000) only [go_sem, ↓reduceIte, Nat.reduceLT, Nat.reduceEqDiff, Nat.reduceLeDiff, Nat.reduceAdd, Nat.reduceSub, Nat.reduceMul, Int.reduceLT, Int.reduceLE, Int.reduceEq, Int.reduceNeg, h1, h2, h3, h3', h4, show ¬ v ≤ maxN by unfold maxN; omega, false_and, and_false, gotA]
  obtain ⟨n, rfl⟩ := Int.eq_ofNat_of_zero_le h1
  have hn : n < 6 := by omega
  have hz : List.take n [AVal.int .i64 0, .int .i64 0, .int .i64 0, .int .i64 0, .int .i64 0, .int .i64 0] ++ [AVal.int .i64 v] ++ List.drop n [AVal.int .i64 0, .int .i64 0, .int .i64 0, .int .i64 0, .int .i64 0] = (zeros.set n v).map fun n => AVal.int .i64 n := over_zeros (v := v) hn
  have hl : (zeros.set n v).length = 6 := by simp
  simp (maxSteps := 2000000) only [go_sem, ↓reduceIte, Nat.reduceLT, Nat.reduceEqDiff, Nat.reduceLeDiff, Nat.reduceAdd, Nat.reduceSub, Nat.reduceMul, Int.reduceLT, Int.reduceLE, Int.reduceEq, Int.reduceNeg, h1, h2, h3, h3', h4, show v ≤ maxN by unfold maxN; omega, gotA, hn, show n ≤ 5 by omega, hz, Int.toNat_natCast]
  rw [slarrV_6 hl rfl]
  simp (maxSteps := 2000000) only [go_sem, ↓reduceIte, Nat.reduceLT, Nat.reduceEqDiff, Nat.reduceLeDiff, Nat.reduceAdd, Nat.reduceSub, Nat.reduceMul, Int.reduceLT, Int.reduceLE, Int.reduceEq, Int.reduceNeg]
  rw [snap6 hl rfl]
  rfl
@[go_sem] theorem escrow_New_call {st v : Int} {Q : Post3} {k : List Item} {os : List AOper} {d : Option Nat} {e : Env} {σ : Sto} : CallK T Q k os d e σ true i_escrow_New [.int .i64 st, .int .i64 v] ↔ Run T Q (.ops os :: k) (put e d (gotA (newP st v))) σ := escrow_New_spec


theorem l23_created_spec {st v : Int} {lv : List Nat} {σ : Sto} {R : Post} : Cw T true i_l23_created [.int .i64 st, .int .i64 v] lv σ R ↔ R (gotG (newP st v)) σ := by
  refine cw_intro T_l23_created (by simp only [go_sem]) (by simp) ?_; rw [run_unfold l23_created.main.eq_1]
  obtain ⟨a, b, h1, h2, h3, h4, h5, h6⟩ := gotA_0 (newP st v)
  simp (maxSteps := 2000000) only [go_sem, ↓reduceIte, Nat.reduceLT, Nat.reduceEqDiff, Nat.reduceLeDiff, Nat.reduceAdd, Nat.reduceSub, Nat.reduceMul, Int.reduceLT, Int.reduceLE, Int.reduceEq, Int.reduceNeg, h1, h2, h3, h4, one_fits h3, one_fits h4, one_cells h3, one_cells h4, names_pure _ h5, names_pure _ h6]
@[go_sem] theorem l23_created_call {st v : Int} {Q : Post3} {k : List Item} {os : List AOper} {d : Option Nat} {e : Env} {σ : Sto} : CallK T Q k os d e σ true i_l23_created [.int .i64 st, .int .i64 v] ↔ Run T Q (.ops os :: k) (put e d (gotG (newP st v))) σ := l23_created_spec


theorem r23_NewIn_spec {st v : Int} {lv : List Nat} {σ : Sto} {R : Post} : Cw T true i_r23_NewIn [.int .i64 st, .int .i64 v] lv σ R ↔ R (gotG (newP st v)) σ := by
  refine cw_intro T_r23_NewIn (by simp only [go_sem]) (by simp) ?_; rw [run_unfold r23_NewIn.main.eq_1]
  unfold newP
  by_cases h1 : 0 ≤ st
  case neg => simp (maxSteps := 2000000) only [go_sem, ↓reduceIte, Nat.reduceLT, Nat.reduceEqDiff, Nat.reduceLeDiff, Nat.reduceAdd, Nat.reduceSub, Nat.reduceMul, Int.reduceLT, Int.reduceLE, Int.reduceEq, Int.reduceNeg, h1, false_and, gotG, Bool.false_and]
  by_cases h2 : st < 6
  case neg => simp (maxSteps := 2000000) only [go_sem, ↓reduceIte, Nat.reduceLT, Nat.reduceEqDiff, Nat.reduceLeDiff, Nat.reduceAdd, Nat.reduceSub, Nat.reduceMul, Int.reduceLT, Int.reduceLE, Int.reduceEq, Int.reduceNeg, h1, h2, false_and, and_false, gotG]
  by_cases h3 : v < 0
  case pos => simp (maxSteps := 2000000) only [go_sem, ↓reduceIte, Nat.reduceLT, Nat.reduceEqDiff, Nat.reduceLeDiff, Nat.reduceAdd, Nat.reduceSub, Nat.reduceMul, Int.reduceLT, Int.reduceLE, Int.reduceEq, Int.reduceNeg, h1, h2, h3, Int.not_le.2 h3, false_and, and_false, gotG]
  have h3' := Int.not_lt.1 h3
  by_cases h4 : 1000000000000000 < v
  case pos => simp (maxSteps := 2000000) only [go_sem, ↓reduceIte, Nat.reduceLT, Nat.reduceEqDiff, Nat.reduceLeDiff, Nat.reduceAdd, Nat.reduceSub, Nat.reduceMul, Int.reduceLT, Int.reduceLE, Int.reduceEq, Int.reduceNeg, h1, h2, h3, h3', h4, show ¬ v ≤ maxN by unfold maxN; omega, false_and, and_false, gotG]
  obtain ⟨n, rfl⟩ := Int.eq_ofNat_of_zero_le h1
  have hn : n < 6 := by omega
  have hz : List.take n [AVal.int .i64 0, .int .i64 0, .int .i64 0, .int .i64 0, .int .i64 0, .int .i64 0] ++ [AVal.int .i64 v] ++ List.drop n [AVal.int .i64 0, .int .i64 0, .int .i64 0, .int .i64 0, .int .i64 0] = (zeros.set n v).map fun n => AVal.int .i64 n := over_zeros (v := v) hn
  have hl : (zeros.set n v).length = 6 := by simp
  simp (maxSteps := 2000000) only [go_sem, ↓reduceIte, Nat.reduceLT, Nat.reduceEqDiff, Nat.reduceLeDiff, Nat.reduceAdd, Nat.reduceSub, Nat.reduceMul, Int.reduceLT, Int.reduceLE, Int.reduceEq, Int.reduceNeg, h1, h2, h3, h3', h4, show v ≤ maxN by unfold maxN; omega, gotG, hn, show n ≤ 5 by omega, hz, Int.toNat_natCast]
  rw [show mksliceV 1 8 [AVal.int IntKind.i64 0] (AVal.int IntKind.i64 6) (AVal.int IntKind.i64 6) [AObj.cells false [AVal.nils, AVal.int IntKind.i64 0]] = some (.ref 1 6 0 6 1, [AObj.cells false [AVal.nils, AVal.int IntKind.i64 0], cellsI zeros]) from rfl]
  simp (maxSteps := 2000000) only [go_sem, ↓reduceIte, Nat.reduceLT, Nat.reduceEqDiff, Nat.reduceLeDiff, Nat.reduceAdd, Nat.reduceSub, Nat.reduceMul, Int.reduceLT, Int.reduceLE, Int.reduceEq, Int.reduceNeg, hn, show n < zeros.length by simp; omega, show n + 1 ≤ 6 by omega, show zeros.length = 6 from rfl, hz]
  rw [snap6 hl rfl]
  rfl
@[go_sem] theorem r23_NewIn_call {st v : Int} {Q : Post3} {k : List Item} {os : List AOper} {d : Option Nat} {e : Env} {σ : Sto} : CallK T Q k os d e σ true i_r23_NewIn [.int .i64 st, .int .i64 v] ↔ Run T Q (.ops os :: k) (put e d (gotG (newP st v))) σ := r23_NewIn_spec


def moveP (s : List Int) (st to v : Int) : Option (List Int) := if svalid s then (if to = -1 then takeP s st v else grantP s st to v) else none

theorem r23_MoveIn_spec {f : SlF} {s : List Int} {st to v : Int} (hf : Fits s) {lv : List Nat} {σ : Sto} {R : Post} : Cw T true i_r23_MoveIn [ints f s, .agg [.int .i64 st, .int .i64 to, .int .i64 v]] lv σ R ↔ R (gotG (moveP s st to v)) σ := by
  refine cw_intro T_r23_MoveIn (by simp only [go_sem]) (by simp) ?_; rw [run_unfold r23_MoveIn.main.eq_1]
  unfold moveP
  cases hs : svalid s
  · simp (maxSteps := 2000000) only [go_sem, ↓reduceIte, Nat.reduceLT, Nat.reduceEqDiff, Nat.reduceLeDiff, Nat.reduceAdd, Nat.reduceSub, Nat.reduceMul, Int.reduceLT, Int.reduceLE, Int.reduceEq, Int.reduceNeg, hf, hs, gotG]
  have hG := svalid_good.1 hs
  have hl := hG.len
  have hb8 : s.length * 8 ≤ maxBytes := by rw [hl]; decide
  by_cases h1 : 0 ≤ st
  case neg => simp (maxSteps := 2000000) only [go_sem, ↓reduceIte, Nat.reduceLT, Nat.reduceEqDiff, Nat.reduceLeDiff, Nat.reduceAdd, Nat.reduceSub, Nat.reduceMul, Int.reduceLT, Int.reduceLE, Int.reduceEq, Int.reduceNeg, hf, hs, h1, gotG, takeP, grantP, false_and, Option.map_none, ite_self]
  by_cases h2 : st < 6
  case neg => simp (maxSteps := 2000000) only [go_sem, ↓reduceIte, Nat.reduceLT, Nat.reduceEqDiff, Nat.reduceLeDiff, Nat.reduceAdd, Nat.reduceSub, Nat.reduceMul, Int.reduceLT, Int.reduceLE, Int.reduceEq, Int.reduceNeg, hf, hs, h1, h2, gotG, takeP, grantP, false_and, and_false, Option.map_none, ite_self]
  by_cases h3 : v < 1
  case pos => simp (maxSteps := 2000000) only [go_sem, ↓reduceIte, Nat.reduceLT, Nat.reduceEqDiff, Nat.reduceLeDiff, Nat.reduceAdd, Nat.reduceSub, Nat.reduceMul, Int.reduceLT, Int.reduceLE, Int.reduceEq, Int.reduceNeg, hf, hs, h1, h2, h3, gotG, takeP, grantP, show ¬ (1 ≤ v) by omega, false_and, and_false, Option.map_none, ite_self]
  obtain ⟨n, rfl⟩ := Int.eq_ofNat_of_zero_le h1
  have hn : n < s.length := by omega
  have hn6 : n < 6 := by omega
  have hg : s.getD n 0 = s[n] := getD_get hn
  have hbn := hG.bnd s[n] (List.getElem_mem hn)
  by_cases h4 : s[n] < v
  case pos => simp (maxSteps := 2000000) only [go_sem, ↓reduceIte, Nat.reduceLT, Nat.reduceEqDiff, Nat.reduceLeDiff, Nat.reduceAdd, Nat.reduceSub, Nat.reduceMul, Int.reduceLT, Int.reduceLE, Int.reduceEq, Int.reduceNeg, hf, hs, h1, h2, h3, h4, hn, hl, hn6, gotG, takeP, grantP, hg, Int.toNat_natCast, show ¬ (v ≤ s[n]) by omega, false_and, and_false, Option.map_none, ite_self]
  have ht : takeP s n v = some (s.set n (s[n] - v)) := by
    unfold takeP
    rw [Int.toNat_natCast, hg, if_pos ⟨by omega, by omega, by omega, by omega⟩]
  have hyG := takeP_good hG ht
  have w1 : IntKind.i64.wrap (s[n] - v) = s[n] - v := wrap_i64 (by unfold maxN at *; omega) (by unfold maxN at *; omega)
  have n5 : n + 1 ≤ s.length := by omega
  by_cases hm : to = -1
  · subst hm
    simp (maxSteps := 2000000) only [go_sem, ↓reduceIte, Nat.reduceLT, Nat.reduceEqDiff, Nat.reduceLeDiff, Nat.reduceAdd, Nat.reduceSub, Nat.reduceMul, Int.reduceLT, Int.reduceLE, Int.reduceEq, Int.reduceNeg, hf, hs, h1, h2, h3, h4, hn, hn6, ht, gotG]
    rw [appendV_fresh (by rfl) rowOf_ints (by simp) (by decide) (by simp [AVal.one]) hb8]
    simp (maxSteps := 2000000) only [go_sem, ↓reduceIte, Nat.reduceLT, Nat.reduceEqDiff, Nat.reduceLeDiff, Nat.reduceAdd, Nat.reduceSub, Nat.reduceMul, Int.reduceLT, Int.reduceLE, Int.reduceEq, Int.reduceNeg, hn, hn6, w1, n5, hl, run_unfold r23_MoveIn.c0.eq_1, show n ≤ 5 by omega]
    rw [snap6 hyG.len rfl]
    rfl
  by_cases m1 : 0 ≤ to
  case neg => simp (maxSteps := 2000000) only [go_sem, ↓reduceIte, Nat.reduceLT, Nat.reduceEqDiff, Nat.reduceLeDiff, Nat.reduceAdd, Nat.reduceSub, Nat.reduceMul, Int.reduceLT, Int.reduceLE, Int.reduceEq, Int.reduceNeg, hf, hs, h1, h2, h3, h4, hn, hn6, hm, m1, gotG, grantP, false_and]
  by_cases m2 : to < 6
  case neg => simp (maxSteps := 2000000) only [go_sem, ↓reduceIte, Nat.reduceLT, Nat.reduceEqDiff, Nat.reduceLeDiff, Nat.reduceAdd, Nat.reduceSub, Nat.reduceMul, Int.reduceLT, Int.reduceLE, Int.reduceEq, Int.reduceNeg, hf, hs, h1, h2, h3, h4, hn, hn6, hm, m1, m2, gotG, grantP, false_and, and_false]
  by_cases m3 : to = (n : Int)
  case pos => subst m3; simp (maxSteps := 2000000) only [go_sem, ↓reduceIte, Nat.reduceLT, Nat.reduceEqDiff, Nat.reduceLeDiff, Nat.reduceAdd, Nat.reduceSub, Nat.reduceMul, Int.reduceLT, Int.reduceLE, Int.reduceEq, Int.reduceNeg, hf, hs, h1, h2, h3, h4, hn, hn6, hm, gotG, grantP, false_and, and_false, not_true_eq_false]
  obtain ⟨m, rfl⟩ := Int.eq_ofNat_of_zero_le m1
  have hq : grantP s n m v = some ((s.set n (s[n] - v)).set m ((s.set n (s[n] - v)).getD m 0 + v)) := by
    unfold grantP
    rw [if_pos ⟨by omega, by omega, by omega⟩, ht, Option.map_some, Int.toNat_natCast]
  have hqG := grantP_good hG hq
  have hmy : m < (s.set n (s[n] - v)).length := by have := hyG.len; omega
  have hm6 : m < 6 := by omega
  have hys := takeP_sum hG ht
  have hbm := hyG.bnd _ (List.getElem_mem hmy)
  rw [getD_get hmy] at hq hqG
  have w2 : IntKind.i64.wrap ((s.set n (s[n] - v))[m] + v) = (s.set n (s[n] - v))[m] + v := wrap_i64 (by unfold maxN at *; omega) (by unfold maxN at *; omega)
  have m5 : m + 1 ≤ 6 := by omega
  have hyl := hyG.len
  generalize hyd : s.set n (s[n] - v) = y at *
  simp (maxSteps := 2000000) only [go_sem, ↓reduceIte, Nat.reduceLT, Nat.reduceEqDiff, Nat.reduceLeDiff, Nat.reduceAdd, Nat.reduceSub, Nat.reduceMul, Int.reduceLT, Int.reduceLE, Int.reduceEq, Int.reduceNeg, hf, hs, h1, h2, h3, h4, hn, hn6, hm, m1, m2, m3, hm6, hq, gotG]
  rw [appendV_fresh (by rfl) rowOf_ints (by simp) (by decide) (by simp [AVal.one]) hb8]
  simp (maxSteps := 2000000) only [go_sem, ↓reduceIte, Nat.reduceLT, Nat.reduceEqDiff, Nat.reduceLeDiff, Nat.reduceAdd, Nat.reduceSub, Nat.reduceMul, Int.reduceLT, Int.reduceLE, Int.reduceEq, Int.reduceNeg, hn, hn6, w1, n5, hl, hyd, run_unfold r23_MoveIn.c0.eq_1, hmy, hm6, w2, m5, hyl, show n ≤ 5 by omega]
  rw [snap6 hqG.len rfl]
  rfl
@[go_sem] theorem r23_MoveIn_call {f : SlF} {s : List Int} {st to v : Int} (hf : Fits s) {Q : Post3} {k : List Item} {os : List AOper} {d : Option Nat} {e : Env} {σ : Sto} : CallK T Q k os d e σ true i_r23_MoveIn [ints f s, .agg [.int .i64 st, .int .i64 to, .int .i64 v]] ↔ Run T Q (.ops os :: k) (put e d (gotG (moveP s st to v))) σ := r23_MoveIn_spec hf

end Go.Abs
/- Chapter 23: the reference: commits, totals. -/
set_option linter.unusedSimpArgs false
set_option linter.unusedVariables false
set_option maxRecDepth 10000
namespace Go.Abs
open Go

theorem r23_TakeIn_spec {f : SlF} {s : List Int} {st v : Int} (hf : Fits s) {lv : List Nat} {σ : Sto} {R : Post} : Cw T true i_r23_TakeIn [ints f s, .int .i64 st, .int .i64 v] lv σ R ↔ R (gotG (moveP s st (-1) v)) σ := by
  refine cw_intro T_r23_TakeIn (by simp only [go_sem]) (by simp) ?_; rw [run_unfold r23_TakeIn.main.eq_1]
  cases hp : moveP s st (-1) v with
  | none => simp (maxSteps := 2000000) only [go_sem, ↓reduceIte, Nat.reduceLT, Nat.reduceEqDiff, Nat.reduceLeDiff, Nat.reduceAdd, Nat.reduceSub, Nat.reduceMul, Int.reduceLT, Int.reduceLE, Int.reduceEq, Int.reduceNeg, hf, hp, gotG]
  | some y => simp (maxSteps := 2000000) only [go_sem, ↓reduceIte, Nat.reduceLT, Nat.reduceEqDiff, Nat.reduceLeDiff, Nat.reduceAdd, Nat.reduceSub, Nat.reduceMul, Int.reduceLT, Int.reduceLE, Int.reduceEq, Int.reduceNeg, hf, hp, gotG]
@[go_sem] theorem r23_TakeIn_call {f : SlF} {s : List Int} {st v : Int} (hf : Fits s) {Q : Post3} {k : List Item} {os : List AOper} {d : Option Nat} {e : Env} {σ : Sto} : CallK T Q k os d e σ true i_r23_TakeIn [ints f s, .int .i64 st, .int .i64 v] ↔ Run T Q (.ops os :: k) (put e d (gotG (moveP s st (-1) v))) σ := r23_TakeIn_spec hf


theorem r23_GrantIn_spec {f : SlF} {s : List Int} {st to v : Int} (hf : Fits s) {lv : List Nat} {σ : Sto} {R : Post} : Cw T true i_r23_GrantIn [ints f s, .agg [.int .i64 st, .int .i64 to, .int .i64 v]] lv σ R ↔ R (gotG (if 0 ≤ to ∧ to < 6 then moveP s st to v else none)) σ := by
  refine cw_intro T_r23_GrantIn (by simp only [go_sem]) (by simp) ?_; rw [run_unfold r23_GrantIn.main.eq_1]
  by_cases h1 : 0 ≤ to
  case neg => simp (maxSteps := 2000000) only [go_sem, ↓reduceIte, Nat.reduceLT, Nat.reduceEqDiff, Nat.reduceLeDiff, Nat.reduceAdd, Nat.reduceSub, Nat.reduceMul, Int.reduceLT, Int.reduceLE, Int.reduceEq, Int.reduceNeg, hf, h1, gotG, false_and, Bool.false_and]
  by_cases h2 : to < 6
  case neg => simp (maxSteps := 2000000) only [go_sem, ↓reduceIte, Nat.reduceLT, Nat.reduceEqDiff, Nat.reduceLeDiff, Nat.reduceAdd, Nat.reduceSub, Nat.reduceMul, Int.reduceLT, Int.reduceLE, Int.reduceEq, Int.reduceNeg, hf, h1, h2, gotG, and_false, Bool.and_false]
  cases hp : moveP s st to v with
  | none => simp (maxSteps := 2000000) only [go_sem, ↓reduceIte, Nat.reduceLT, Nat.reduceEqDiff, Nat.reduceLeDiff, Nat.reduceAdd, Nat.reduceSub, Nat.reduceMul, Int.reduceLT, Int.reduceLE, Int.reduceEq, Int.reduceNeg, hf, h1, h2, hp, gotG, and_self]
  | some y => simp (maxSteps := 2000000) only [go_sem, ↓reduceIte, Nat.reduceLT, Nat.reduceEqDiff, Nat.reduceLeDiff, Nat.reduceAdd, Nat.reduceSub, Nat.reduceMul, Int.reduceLT, Int.reduceLE, Int.reduceEq, Int.reduceNeg, hf, h1, h2, hp, gotG, and_self]
@[go_sem] theorem r23_GrantIn_call {f : SlF} {s : List Int} {st to v : Int} (hf : Fits s) {Q : Post3} {k : List Item} {os : List AOper} {d : Option Nat} {e : Env} {σ : Sto} : CallK T Q k os d e σ true i_r23_GrantIn [ints f s, .agg [.int .i64 st, .int .i64 to, .int .i64 v]] ↔ Run T Q (.ops os :: k) (put e d (gotG (if 0 ≤ to ∧ to < 6 then moveP s st to v else none))) σ := r23_GrantIn_spec hf


theorem ints_lst {f : SlF} {s : List Int} (h : s ≠ []) : ints f s = ints .lst s := by
  cases s with
  | nil => exact absurd rfl h
  | cons a s => rfl
theorem Good.ne {s : List Int} (h : Good s) : s ≠ [] := by intro e; have := h.len; rw [e] at this; cases this

theorem r23_DoIn_loop {c : Cm} (hc : Fits c.ops) : ∀ i, i ≤ c.ops.length → ∀ {x : List Int}, Good x →
    Run T (Res [.cell 4 true 2] (gotG (opsP c.st (c.ops.drop i) x))) (.inLoop r23_DoIn.b0 :: r23_DoIn.k0) (mkE 82 [(3, .ptr 0 5 0), (4, .ptr 1 2 0), (5, .ptr 2 2 0), (6, .int .i64 i)])
      [.cells false (cellsM c), .cells false [.nils, .int .i64 0], .cells false [ints .lst x, .int .i64 0]] := by
  refine up_ind ?_ fun i hi ih => ?_
  · intro x hx
    rw [List.drop_length, opsP]
    rw [run_round, run_unfold r23_DoIn.b0.eq_1]
    simp (maxSteps := 2000000) only [go_sem, ↓reduceIte, Nat.reduceLT, Nat.reduceEqDiff, Nat.reduceLeDiff, Nat.reduceAdd, Nat.reduceSub, Nat.reduceMul, Int.reduceLT, Int.reduceLE, Int.reduceEq, Int.reduceNeg, Nat.lt_irrefl, run_unfold r23_DoIn.c0.eq_1, run_unfold r23_DoIn.c1.eq_1, run_unfold r23_DoIn.c2.eq_1, r23_DoIn.k0, gotG]
  · intro x hx
    have hw := wrap_succ (n := i) (by have : Fits c.ops := hc; unfold Fits at this; omega)
    have hxv := svalid_good.2 hx
    have hxf := hx.fits
    rw [List.drop_eq_getElem_cons hi, opsP, opP]
    rw [run_round, run_unfold r23_DoIn.b0.eq_1]
    by_cases hv : c.ops[i].vk = 2
    case neg =>
      rw [if_neg hv, Option.bind_none]
      by_cases h6 : c.ops[i].kind = 6
      · simp (maxSteps := 2000000) only [go_sem, ↓reduceIte, Nat.reduceLT, Nat.reduceEqDiff, Nat.reduceLeDiff, Nat.reduceAdd, Nat.reduceSub, Nat.reduceMul, Int.reduceLT, Int.reduceLE, Int.reduceEq, Int.reduceNeg, hi, h6, hv, gotG, run_unfold r23_DoIn.c0.eq_1, run_unfold r23_DoIn.c1.eq_1, run_unfold r23_DoIn.c2.eq_1, r23_DoIn.k0]
      · simp (maxSteps := 2000000) only [go_sem, ↓reduceIte, Nat.reduceLT, Nat.reduceEqDiff, Nat.reduceLeDiff, Nat.reduceAdd, Nat.reduceSub, Nat.reduceMul, Int.reduceLT, Int.reduceLE, Int.reduceEq, Int.reduceNeg, hi, h6, hv, gotG, run_unfold r23_DoIn.c0.eq_1, run_unfold r23_DoIn.c1.eq_1, run_unfold r23_DoIn.c2.eq_1, r23_DoIn.k0]
    rw [if_pos hv]
    by_cases h5 : c.ops[i].kind = 5
    · rw [if_pos h5]
      have hm : moveP x c.st (-1) c.ops[i].vi = takeP x c.st c.ops[i].vi := by unfold moveP; rw [if_pos hxv, if_pos rfl]
      cases hp : takeP x c.st c.ops[i].vi with
      | none =>
        rw [hp] at hm
        simp (maxSteps := 2000000) only [go_sem, ↓reduceIte, Nat.reduceLT, Nat.reduceEqDiff, Nat.reduceLeDiff, Nat.reduceAdd, Nat.reduceSub, Nat.reduceMul, Int.reduceLT, Int.reduceLE, Int.reduceEq, Int.reduceNeg, hi, h5, hv, hxf, hm, gotG, Option.bind_none, run_unfold r23_DoIn.c1.eq_1, run_unfold r23_DoIn.c2.eq_1]
      | some z =>
        rw [hp] at hm
        rw [Option.bind_some]
        have := ih (takeP_good hx hp)
        simp (maxSteps := 2000000) only [go_sem, ↓reduceIte, Nat.reduceLT, Nat.reduceEqDiff, Nat.reduceLeDiff, Nat.reduceAdd, Nat.reduceSub, Nat.reduceMul, Int.reduceLT, Int.reduceLE, Int.reduceEq, Int.reduceNeg, hi, h5, hv, hxf, hm, gotG, hw, run_unfold r23_DoIn.c1.eq_1, run_unfold r23_DoIn.c2.eq_1]
        exact this
    · rw [if_neg h5]
      by_cases h6 : c.ops[i].kind = 6
      case neg =>
        rw [if_neg h6, Option.bind_none]
        simp (maxSteps := 2000000) only [go_sem, ↓reduceIte, Nat.reduceLT, Nat.reduceEqDiff, Nat.reduceLeDiff, Nat.reduceAdd, Nat.reduceSub, Nat.reduceMul, Int.reduceLT, Int.reduceLE, Int.reduceEq, Int.reduceNeg, hi, h5, h6, hv, gotG, run_unfold r23_DoIn.c1.eq_1, run_unfold r23_DoIn.c2.eq_1]
      rw [if_pos h6]
      by_cases m1 : 0 ≤ c.ops[i].to
      case neg =>
        have hg : grantP x c.st c.ops[i].to c.ops[i].vi = none := by unfold grantP; rw [if_neg (by omega)]
        rw [hg, Option.bind_none]
        simp (maxSteps := 2000000) only [go_sem, ↓reduceIte, Nat.reduceLT, Nat.reduceEqDiff, Nat.reduceLeDiff, Nat.reduceAdd, Nat.reduceSub, Nat.reduceMul, Int.reduceLT, Int.reduceLE, Int.reduceEq, Int.reduceNeg, hi, h5, h6, hv, m1, gotG, run_unfold r23_DoIn.c1.eq_1, run_unfold r23_DoIn.c2.eq_1]
      by_cases m2 : c.ops[i].to < 6
      case neg =>
        have hg : grantP x c.st c.ops[i].to c.ops[i].vi = none := by unfold grantP; rw [if_neg (by omega)]
        rw [hg, Option.bind_none]
        simp (maxSteps := 2000000) only [go_sem, ↓reduceIte, Nat.reduceLT, Nat.reduceEqDiff, Nat.reduceLeDiff, Nat.reduceAdd, Nat.reduceSub, Nat.reduceMul, Int.reduceLT, Int.reduceLE, Int.reduceEq, Int.reduceNeg, hi, h5, h6, hv, m1, m2, gotG, run_unfold r23_DoIn.c1.eq_1, run_unfold r23_DoIn.c2.eq_1]
      have hm : moveP x c.st c.ops[i].to c.ops[i].vi = grantP x c.st c.ops[i].to c.ops[i].vi := by unfold moveP; rw [if_pos hxv, if_neg (by omega)]
      cases hp : grantP x c.st c.ops[i].to c.ops[i].vi with
      | none =>
        rw [hp] at hm
        simp (maxSteps := 2000000) only [go_sem, ↓reduceIte, Nat.reduceLT, Nat.reduceEqDiff, Nat.reduceLeDiff, Nat.reduceAdd, Nat.reduceSub, Nat.reduceMul, Int.reduceLT, Int.reduceLE, Int.reduceEq, Int.reduceNeg, hi, h5, h6, hv, m1, m2, hxf, hm, gotG, Option.bind_none, run_unfold r23_DoIn.c1.eq_1, run_unfold r23_DoIn.c2.eq_1]
      | some z =>
        rw [hp] at hm
        rw [Option.bind_some]
        have := ih (grantP_good hx hp)
        simp (maxSteps := 2000000) only [go_sem, ↓reduceIte, Nat.reduceLT, Nat.reduceEqDiff, Nat.reduceLeDiff, Nat.reduceAdd, Nat.reduceSub, Nat.reduceMul, Int.reduceLT, Int.reduceLE, Int.reduceEq, Int.reduceNeg, hi, h5, h6, hv, m1, m2, hxf, hm, gotG, hw, run_unfold r23_DoIn.c1.eq_1, run_unfold r23_DoIn.c2.eq_1]
        exact this

theorem r23_DoIn_spec {f : SlF} {s : List Int} {c : Cm} (hf : Fits s) (hc : Fits c.ops) {lv : List Nat} {σ : Sto} {R : Post} : Cw T true i_r23_DoIn [ints f s, encM c] lv σ R ↔ R (gotG (doP s c)) σ := by
  refine cw_intro T_r23_DoIn (by simp only [go_sem]) (by simp) ?_; rw [run_unfold r23_DoIn.main.eq_1]
  unfold doP
  cases hs : svalid s
  · simp (maxSteps := 2000000) only [go_sem, ↓reduceIte, Nat.reduceLT, Nat.reduceEqDiff, Nat.reduceLeDiff, Nat.reduceAdd, Nat.reduceSub, Nat.reduceMul, Int.reduceLT, Int.reduceLE, Int.reduceEq, Int.reduceNeg, hf, hs, gotG, Bool.false_and]
  have hG := svalid_good.1 hs
  rw [ints_lst (f := f) hG.ne]
  by_cases h1 : 0 ≤ c.st
  case neg => simp (maxSteps := 2000000) only [go_sem, ↓reduceIte, Nat.reduceLT, Nat.reduceEqDiff, Nat.reduceLeDiff, Nat.reduceAdd, Nat.reduceSub, Nat.reduceMul, Int.reduceLT, Int.reduceLE, Int.reduceEq, Int.reduceNeg, hf, hs, h1, gotG, Bool.false_and, Bool.and_false]
  by_cases h2 : c.st < 6
  case neg => simp (maxSteps := 2000000) only [go_sem, ↓reduceIte, Nat.reduceLT, Nat.reduceEqDiff, Nat.reduceLeDiff, Nat.reduceAdd, Nat.reduceSub, Nat.reduceMul, Int.reduceLT, Int.reduceLE, Int.reduceEq, Int.reduceNeg, hf, hs, h1, h2, gotG, Bool.false_and, Bool.and_false]
  simp (maxSteps := 2000000) only [go_sem, ↓reduceIte, Nat.reduceLT, Nat.reduceEqDiff, Nat.reduceLeDiff, Nat.reduceAdd, Nat.reduceSub, Nat.reduceMul, Int.reduceLT, Int.reduceLE, Int.reduceEq, Int.reduceNeg, hf, hs, h1, h2]
  exact r23_DoIn_loop hc 0 (by omega) hG
@[go_sem] theorem r23_DoIn_call {f : SlF} {s : List Int} {c : Cm} (hf : Fits s) (hc : Fits c.ops) {Q : Post3} {k : List Item} {os : List AOper} {d : Option Nat} {e : Env} {σ : Sto} : CallK T Q k os d e σ true i_r23_DoIn [ints f s, encM c] ↔ Run T Q (.ops os :: k) (put e d (gotG (doP s c))) σ := r23_DoIn_spec hf hc


theorem sum_pos2 : ∀ {l : List Int}, (∀ n ∈ l, 0 ≤ n) → 0 ≤ l.sum
  | [], _ => by simp
  | a :: l, h => by
    have h1 := h a (by simp)
    have h2 := sum_pos2 (l := l) fun n hn => h n (by simp [hn])
    rw [List.sum_cons]; omega

theorem r23_Total_loop {f : SlF} {s : List Int} (hG : Good s) : ∀ i, i ≤ s.length → ∀ t : Int, 0 ≤ t → t + (s.drop i).sum ≤ maxN →
    Run T (Res [.tmp 2] (.int .i64 (t + (s.drop i).sum))) (.inLoop r23_Total.b0 :: r23_Total.k0) (mkE 22 [(0, ints f s), (3, .int .i64 t), (4, .int .i64 i)]) [] := by
  have hs := svalid_good.2 hG
  have hf := hG.fits
  refine up_ind ?_ fun i hi ih => ?_
  · intro t _ _
    rw [run_round, run_unfold r23_Total.b0.eq_1]
    simp (maxSteps := 2000000) only [go_sem, ↓reduceIte, Nat.reduceLT, Nat.reduceEqDiff, Nat.reduceLeDiff, Nat.reduceAdd, Nat.reduceSub, Nat.reduceMul, Int.reduceLT, Int.reduceLE, Int.reduceEq, Int.reduceNeg, Nat.lt_irrefl, run_unfold r23_Total.c0.eq_1, r23_Total.k0, List.drop_length, List.sum_nil, Int.add_zero]
  · intro t h0 ht
    have h1 := hG.pos s[i] (List.getElem_mem hi)
    have h2 : 0 ≤ (s.drop (i + 1)).sum := sum_pos2 fun n hn => hG.pos n (List.mem_of_mem_drop hn)
    rw [List.drop_eq_getElem_cons hi, List.sum_cons] at ht ⊢
    have e : IntKind.i64.wrap (t + s[i]) = t + s[i] := wrap_i64 (by unfold maxN at *; omega) (by unfold maxN at *; omega)
    rw [run_round, run_unfold r23_Total.b0.eq_1]
    have hl := hG.len
    simp (maxSteps := 2000000) only [go_sem, ↓reduceIte, Nat.reduceLT, Nat.reduceEqDiff, Nat.reduceLeDiff, Nat.reduceAdd, Nat.reduceSub, Nat.reduceMul, Int.reduceLT, Int.reduceLE, Int.reduceEq, Int.reduceNeg, hi, hs, hf, e, wrap_succ (show i < 9223372036854775807 by omega)]
    have := ih (t + s[i]) (by omega) (by omega)
    rw [Int.add_assoc] at this
    exact this

theorem r23_Total_spec {f : SlF} {s : List Int} (hf : Fits s) {lv : List Nat} {σ : Sto} {R : Post} : Cw T true i_r23_Total [ints f s] lv σ R ↔ R (.int .i64 (totalP s)) σ := by
  refine cw_intro T_r23_Total (by simp only [go_sem]) (by simp) ?_; rw [run_unfold r23_Total.main.eq_1]
  unfold totalP
  cases hs : svalid s
  · simp (maxSteps := 2000000) only [go_sem, ↓reduceIte, Nat.reduceLT, Nat.reduceEqDiff, Nat.reduceLeDiff, Nat.reduceAdd, Nat.reduceSub, Nat.reduceMul, Int.reduceLT, Int.reduceLE, Int.reduceEq, Int.reduceNeg]
    rw [run_round, run_unfold r23_Total.b0.eq_1]
    by_cases h : (0 : Int) < s.length
    · simp (maxSteps := 2000000) only [go_sem, ↓reduceIte, Nat.reduceLT, Nat.reduceEqDiff, Nat.reduceLeDiff, Nat.reduceAdd, Nat.reduceSub, Nat.reduceMul, Int.reduceLT, Int.reduceLE, Int.reduceEq, Int.reduceNeg, hf, hs, h, run_unfold r23_Total.c0.eq_1, r23_Total.k0]
    · simp (maxSteps := 2000000) only [go_sem, ↓reduceIte, Nat.reduceLT, Nat.reduceEqDiff, Nat.reduceLeDiff, Nat.reduceAdd, Nat.reduceSub, Nat.reduceMul, Int.reduceLT, Int.reduceLE, Int.reduceEq, Int.reduceNeg, hf, hs, h, run_unfold r23_Total.c0.eq_1, r23_Total.k0]
  · have hG := svalid_good.1 hs
    simp (maxSteps := 2000000) only [go_sem, ↓reduceIte, Nat.reduceLT, Nat.reduceEqDiff, Nat.reduceLeDiff, Nat.reduceAdd, Nat.reduceSub, Nat.reduceMul, Int.reduceLT, Int.reduceLE, Int.reduceEq, Int.reduceNeg]
    have := r23_Total_loop (f := f) hG 0 (by omega) 0 (by omega) (by rw [List.drop_zero]; have := hG.sum; omega)
    rw [List.drop_zero, Int.zero_add] at this
    exact this
@[go_sem] theorem r23_Total_call {f : SlF} {s : List Int} (hf : Fits s) {Q : Post3} {k : List Item} {os : List AOper} {d : Option Nat} {e : Env} {σ : Sto} : CallK T Q k os d e σ true i_r23_Total [ints f s] ↔ Run T Q (.ops os :: k) (put e d (.int .i64 (totalP s))) σ := r23_Total_spec hf

end Go.Abs
/- Chapter 23: the reference's plays. -/
set_option linter.unusedSimpArgs false
set_option linter.unusedVariables false
set_option maxRecDepth 10000
namespace Go.Abs
open Go

def DoneOk (J : Sto) (dv : AVal) (D : List Bool) : Prop := (D = [] ∧ dv = .nils) ∨ (D ≠ [] ∧ ∃ d, dv = .ref (d + 2) D.length 0 D.length 1 ∧ J[d]? = some (boolsO D))

theorem app_nilb {σ : Sto} {o : Nat} {b : Bool} (h : σ[o]? = some (.cells false [.bool b])) : appendV 1 1 .nils (.ref o 1 0 1 1) σ = some (.ref σ.length 1 0 1 1, σ ++ [boolsO [b]]) := by
  have hr : rowOf σ (.ref o 1 0 1 1) = some (1, [.bool b]) := by simp [rowOf, h]
  simp only [appendV, hr]
  simp [maxBytes, AVal.one]

theorem get_l2 {σ : Sto} {p q : AObj} : ((σ ++ [p]) ++ [q])[σ.length]? = some p := by simp
theorem get_l3 {σ : Sto} {p q r : AObj} : (((σ ++ [p]) ++ [q]) ++ [r])[σ.length]? = some p := by simp
theorem get_l2s {σ : Sto} {p q v : AObj} {d : Nat} (h : d < σ.length) : (((σ ++ [p]) ++ [q]).set d v)[σ.length]? = some p := by
  rw [List.getElem?_set_ne (by omega)]; exact get_l2
theorem app_moreb {σ : Sto} {o o' : Nat} {X : List Bool} {y : Bool} (h : σ[o]? = some (boolsO X)) (h' : σ[o']? = some (.cells false [.bool y])) (hb : X.length ≤ 1000000) :
    appendV 1 1 (.ref o X.length 0 X.length 1) (.ref o' 1 0 1 1) σ = some (.ref o (X ++ [y]).length 0 (X ++ [y]).length 1, σ.set o (boolsO (X ++ [y]))) :=
  appendV_one (g := AVal.bool) (fun _ => rfl) h h' (by unfold maxBytes; omega)

theorem r23_PlayIn_loop {fl f : SlF} {l : List Cm} (hl : l.length ≤ 1000000) (hc : ∀ c ∈ l, Fits c.ops) : ∀ i, i ≤ l.length → ∀ (s : List Int) (D : List Bool) (J : Sto) (dv : AVal), D.length = i → Fits s → (svalid s = true → fl = .lst) → DoneOk J dv D →
    Run T (Res [.cell 4 true 2] (.agg [ints fl (playL s (l.drop i)).1, boolsV .nil (D ++ (playL s (l.drop i)).2)])) (.inLoop r23_PlayIn.b0 :: r23_PlayIn.k0) (mkE 42 [(1, cms f l), (4, .ptr 0 2 0), (5, .ptr 1 2 0), (6, .int .i64 i)])
      (.cells false [.nils, .nils] :: .cells false [ints fl s, dv] :: J) := by
  refine up_ind ?_ fun i hi ih => ?_
  · intro s D J dv hD hf hs hJ
    rw [List.drop_length, playL, List.append_nil]
    rw [run_round, run_unfold r23_PlayIn.b0.eq_1]
    rcases hJ with ⟨rfl, rfl⟩ | ⟨hne, d, rfl, hd⟩
    · simp (maxSteps := 2000000) only [go_sem, ↓reduceIte, Nat.reduceLT, Nat.reduceEqDiff, Nat.reduceLeDiff, Nat.reduceAdd, Nat.reduceSub, Nat.reduceMul, Int.reduceLT, Int.reduceLE, Int.reduceEq, Int.reduceNeg, Nat.lt_irrefl, run_unfold r23_PlayIn.c0.eq_1, run_unfold r23_PlayIn.c1.eq_1, run_unfold r23_PlayIn.c2.eq_1, r23_PlayIn.k0]
      rfl
    · simp (maxSteps := 2000000) only [go_sem, ↓reduceIte, Nat.reduceLT, Nat.reduceEqDiff, Nat.reduceLeDiff, Nat.reduceAdd, Nat.reduceSub, Nat.reduceMul, Int.reduceLT, Int.reduceLE, Int.reduceEq, Int.reduceNeg, Nat.lt_irrefl, run_unfold r23_PlayIn.c0.eq_1, run_unfold r23_PlayIn.c1.eq_1, run_unfold r23_PlayIn.c2.eq_1, r23_PlayIn.k0]
      rw [snap_bools rfl (by simpa using hd)]
      cases D with
      | nil => exact absurd rfl hne
      | cons a D => rfl
  · intro s D J dv hD hf hs hJ
    have hci := hc _ (List.getElem_mem hi)
    have hw := wrap_succ (n := i) (by omega)
    rw [List.drop_eq_getElem_cons hi, playL]
    rw [run_round, run_unfold r23_PlayIn.b0.eq_1]
    cases hp : doP s l[i] with
    | none =>
      rcases hJ with ⟨rfl, rfl⟩ | ⟨hne, d, rfl, hd⟩
      · simp (maxSteps := 2000000) only [go_sem, ↓reduceIte, Nat.reduceLT, Nat.reduceEqDiff, Nat.reduceLeDiff, Nat.reduceAdd, Nat.reduceSub, Nat.reduceMul, Int.reduceLT, Int.reduceLE, Int.reduceEq, Int.reduceNeg, hi, hf, hci, hp, gotG, hw, get_last, set_last]
        refine after_of (app_nilb (b := false) get_last) ?_
        simp (maxSteps := 2000000) only [go_sem, ↓reduceIte, Nat.reduceLT, Nat.reduceEqDiff, Nat.reduceLeDiff, Nat.reduceAdd, Nat.reduceSub, Nat.reduceMul, Int.reduceLT, Int.reduceLE, Int.reduceEq, Int.reduceNeg, get_l3]
        have := ih s [false] _ _ (by simp at hD ⊢; omega) hf hs (.inr ⟨by simp, _, rfl, get_last (σ := J ++ [AObj.cells false [.nils, .int .i64 230]] ++ [AObj.cells false [.bool false]])⟩)
        simp (maxSteps := 2000000) only [go_sem, ↓reduceIte, Nat.reduceLT, Nat.reduceEqDiff, Nat.reduceLeDiff, Nat.reduceAdd, Nat.reduceSub, Nat.reduceMul, Int.reduceLT, Int.reduceLE, Int.reduceEq, Int.reduceNeg, run_unfold r23_PlayIn.c1.eq_1, hw, Option.getD_none, Option.isSome_none, List.nil_append]
        exact this
      · have hdl : d < J.length := (List.getElem?_eq_some_iff.1 hd).1
        simp (maxSteps := 2000000) only [go_sem, ↓reduceIte, Nat.reduceLT, Nat.reduceEqDiff, Nat.reduceLeDiff, Nat.reduceAdd, Nat.reduceSub, Nat.reduceMul, Int.reduceLT, Int.reduceLE, Int.reduceEq, Int.reduceNeg, hi, hf, hci, hp, gotG, hw, get_last, set_last]
        refine after_of (app_moreb (X := D) (y := false) (by
          show (J ++ [AObj.cells false [.nils, .int .i64 230]] ++ [AObj.cells false [.bool false]])[d]? = _
          rw [List.getElem?_append_left (by simp; omega), List.getElem?_append_left (by omega)]; exact hd) get_last (by omega)) ?_
        simp (maxSteps := 2000000) only [go_sem, ↓reduceIte, Nat.reduceLT, Nat.reduceEqDiff, Nat.reduceLeDiff, Nat.reduceAdd, Nat.reduceSub, Nat.reduceMul, Int.reduceLT, Int.reduceLE, Int.reduceEq, Int.reduceNeg, get_l2s hdl]
        have := ih s (D ++ [false]) ((J ++ [AObj.cells false [.nils, .int .i64 230]] ++ [AObj.cells false [.bool false]]).set d (boolsO (D ++ [false]))) _ (by simp [hD]) hf hs (.inr ⟨by simp, d, rfl, by rw [List.getElem?_set_self (by simp; omega)]⟩)
        simp (maxSteps := 2000000) only [go_sem, ↓reduceIte, Nat.reduceLT, Nat.reduceEqDiff, Nat.reduceLeDiff, Nat.reduceAdd, Nat.reduceSub, Nat.reduceMul, Int.reduceLT, Int.reduceLE, Int.reduceEq, Int.reduceNeg, run_unfold r23_PlayIn.c1.eq_1, hw, Option.getD_none, Option.isSome_none]
        simpa only [List.append_assoc, List.singleton_append] using this
    | some y =>
      have hfl : fl = .lst := hs (svalid_good.2 (doP_some hp).1)
      subst hfl
      have hyf := (doP_some hp).2.2.2.2.fits
      rcases hJ with ⟨rfl, rfl⟩ | ⟨hne, d, rfl, hd⟩
      · simp (maxSteps := 2000000) only [go_sem, ↓reduceIte, Nat.reduceLT, Nat.reduceEqDiff, Nat.reduceLeDiff, Nat.reduceAdd, Nat.reduceSub, Nat.reduceMul, Int.reduceLT, Int.reduceLE, Int.reduceEq, Int.reduceNeg, hi, hf, hci, hp, gotG, hw, get_last, set_last]
        refine after_of (app_nilb (b := true) get_last) ?_
        simp (maxSteps := 2000000) only [go_sem, ↓reduceIte, Nat.reduceLT, Nat.reduceEqDiff, Nat.reduceLeDiff, Nat.reduceAdd, Nat.reduceSub, Nat.reduceMul, Int.reduceLT, Int.reduceLE, Int.reduceEq, Int.reduceNeg, get_l3]
        have := ih y [true] _ _ (by simp at hD ⊢; omega) hyf (fun _ => rfl) (.inr ⟨by simp, _, rfl, get_last (σ := J ++ [AObj.cells false [ints .lst y, .int .i64 0]] ++ [AObj.cells false [.bool true]])⟩)
        simp (maxSteps := 2000000) only [go_sem, ↓reduceIte, Nat.reduceLT, Nat.reduceEqDiff, Nat.reduceLeDiff, Nat.reduceAdd, Nat.reduceSub, Nat.reduceMul, Int.reduceLT, Int.reduceLE, Int.reduceEq, Int.reduceNeg, run_unfold r23_PlayIn.c1.eq_1, hw, Option.getD_some, Option.isSome_some, List.nil_append]
        exact this
      · have hdl : d < J.length := (List.getElem?_eq_some_iff.1 hd).1
        simp (maxSteps := 2000000) only [go_sem, ↓reduceIte, Nat.reduceLT, Nat.reduceEqDiff, Nat.reduceLeDiff, Nat.reduceAdd, Nat.reduceSub, Nat.reduceMul, Int.reduceLT, Int.reduceLE, Int.reduceEq, Int.reduceNeg, hi, hf, hci, hp, gotG, hw, get_last, set_last]
        refine after_of (app_moreb (X := D) (y := true) (by
          show (J ++ [AObj.cells false [ints .lst y, .int .i64 0]] ++ [AObj.cells false [.bool true]])[d]? = _
          rw [List.getElem?_append_left (by simp; omega), List.getElem?_append_left (by omega)]; exact hd) get_last (by omega)) ?_
        simp (maxSteps := 2000000) only [go_sem, ↓reduceIte, Nat.reduceLT, Nat.reduceEqDiff, Nat.reduceLeDiff, Nat.reduceAdd, Nat.reduceSub, Nat.reduceMul, Int.reduceLT, Int.reduceLE, Int.reduceEq, Int.reduceNeg, get_l2s hdl]
        have := ih y (D ++ [true]) ((J ++ [AObj.cells false [ints .lst y, .int .i64 0]] ++ [AObj.cells false [.bool true]]).set d (boolsO (D ++ [true]))) _ (by simp [hD]) hyf (fun _ => rfl) (.inr ⟨by simp, d, rfl, by rw [List.getElem?_set_self (by simp; omega)]⟩)
        simp (maxSteps := 2000000) only [go_sem, ↓reduceIte, Nat.reduceLT, Nat.reduceEqDiff, Nat.reduceLeDiff, Nat.reduceAdd, Nat.reduceSub, Nat.reduceMul, Int.reduceLT, Int.reduceLE, Int.reduceEq, Int.reduceNeg, run_unfold r23_PlayIn.c1.eq_1, hw, Option.getD_some, Option.isSome_some]
        simpa only [List.append_assoc, List.singleton_append] using this

theorem r23_PlayIn_spec {f g : SlF} {s : List Int} {l : List Cm} (hf : Fits s) (hl : l.length ≤ 1000000) (hc : ∀ c ∈ l, Fits c.ops) {lv : List Nat} {σ : Sto} {R : Post} : Cw T true i_r23_PlayIn [ints g s, cms f l] lv σ R ↔ R (.agg [ints (flP s) (playL (stP s) l).1, boolsV .nil (playL (stP s) l).2]) σ := by
  refine cw_intro T_r23_PlayIn (by simp only [go_sem]) (by simp) ?_; rw [run_unfold r23_PlayIn.main.eq_1]
  unfold flP stP
  cases hs : svalid s
  · simp (maxSteps := 2000000) only [go_sem, ↓reduceIte, Nat.reduceLT, Nat.reduceEqDiff, Nat.reduceLeDiff, Nat.reduceAdd, Nat.reduceSub, Nat.reduceMul, Int.reduceLT, Int.reduceLE, Int.reduceEq, Int.reduceNeg, hf, hs, run_unfold r23_PlayIn.c2.eq_1]
    exact r23_PlayIn_loop (fl := .nil) hl hc 0 (by omega) [] [] [] .nils rfl (by decide) (fun h => by cases h) (.inl ⟨rfl, rfl⟩)
  · have hG := svalid_good.1 hs
    rw [ints_lst (f := g) hG.ne]
    simp (maxSteps := 2000000) only [go_sem, ↓reduceIte, Nat.reduceLT, Nat.reduceEqDiff, Nat.reduceLeDiff, Nat.reduceAdd, Nat.reduceSub, Nat.reduceMul, Int.reduceLT, Int.reduceLE, Int.reduceEq, Int.reduceNeg, hf, hs, run_unfold r23_PlayIn.c2.eq_1]
    exact r23_PlayIn_loop (fl := .lst) hl hc 0 (by omega) s [] [] .nils rfl hf (fun _ => rfl) (.inl ⟨rfl, rfl⟩)
@[go_sem] theorem r23_PlayIn_call {f g : SlF} {s : List Int} {l : List Cm} (hf : Fits s) (hl : l.length ≤ 1000000) (hc : ∀ c ∈ l, Fits c.ops) {Q : Post3} {k : List Item} {os : List AOper} {d : Option Nat} {e : Env} {σ : Sto} : CallK T Q k os d e σ true i_r23_PlayIn [ints g s, cms f l] ↔ Run T Q (.ops os :: k) (put e d (.agg [ints (flP s) (playL (stP s) l).1, boolsV .nil (playL (stP s) l).2])) σ := r23_PlayIn_spec hf hl hc


theorem r23_Same_loop {f g fa fb : SlF} {a b : List Int} {x y : List Bool} (hl : x.length = y.length) (hx : x.length ≤ 1000000) : ∀ i, i ≤ x.length →
    Run T (Res [.tmp 4] (.bool (decide (x.drop i = y.drop i)))) (.inLoop r23_Same.b0 :: r23_Same.k0) (mkE 39 [(2, .ptr 0 2 0), (3, .ptr 1 2 0), (5, .int .i64 i)]) [.cells false [ints f a, boolsV fa x], .cells false [ints g b, boolsV fb y]] := by
  refine up_ind ?_ fun i hi ih => ?_
  · rw [run_round, run_unfold r23_Same.b0.eq_1]
    simp (maxSteps := 2000000) only [go_sem, ↓reduceIte, Nat.reduceLT, Nat.reduceEqDiff, Nat.reduceLeDiff, Nat.reduceAdd, Nat.reduceSub, Nat.reduceMul, Int.reduceLT, Int.reduceLE, Int.reduceEq, Int.reduceNeg, Nat.lt_irrefl, run_unfold r23_Same.c0.eq_1, run_unfold r23_Same.c1.eq_1, r23_Same.k0, List.drop_length]
    rw [hl, List.drop_length]
    rfl
  · have hi' : i < y.length := by omega
    have hw := wrap_succ (n := i) (by omega)
    rw [run_round, run_unfold r23_Same.b0.eq_1]
    rw [List.drop_eq_getElem_cons hi, List.drop_eq_getElem_cons hi']
    have e : decide (x[i] :: x.drop (i + 1) = y[i] :: y.drop (i + 1)) = (decide (x[i] = y[i]) && decide (x.drop (i + 1) = y.drop (i + 1))) := by
      rw [Bool.eq_iff_iff]; simp only [Bool.and_eq_true, decide_eq_true_eq, List.cons.injEq]
    rw [e]
    cases hxi : x[i] <;> cases hyi : y[i]
    · simp (maxSteps := 2000000) only [go_sem, ↓reduceIte, Nat.reduceLT, Nat.reduceEqDiff, Nat.reduceLeDiff, Nat.reduceAdd, Nat.reduceSub, Nat.reduceMul, Int.reduceLT, Int.reduceLE, Int.reduceEq, Int.reduceNeg, hi, hi', hxi, hyi, hw]; exact ih
    · simp (maxSteps := 2000000) only [go_sem, ↓reduceIte, Nat.reduceLT, Nat.reduceEqDiff, Nat.reduceLeDiff, Nat.reduceAdd, Nat.reduceSub, Nat.reduceMul, Int.reduceLT, Int.reduceLE, Int.reduceEq, Int.reduceNeg, hi, hi', hxi, hyi, hw, Bool.false_and, show (false == true) = false from rfl, show (true == false) = false from rfl]
    · simp (maxSteps := 2000000) only [go_sem, ↓reduceIte, Nat.reduceLT, Nat.reduceEqDiff, Nat.reduceLeDiff, Nat.reduceAdd, Nat.reduceSub, Nat.reduceMul, Int.reduceLT, Int.reduceLE, Int.reduceEq, Int.reduceNeg, hi, hi', hxi, hyi, hw, Bool.false_and, show (false == true) = false from rfl, show (true == false) = false from rfl]
    · simp (maxSteps := 2000000) only [go_sem, ↓reduceIte, Nat.reduceLT, Nat.reduceEqDiff, Nat.reduceLeDiff, Nat.reduceAdd, Nat.reduceSub, Nat.reduceMul, Int.reduceLT, Int.reduceLE, Int.reduceEq, Int.reduceNeg, hi, hi', hxi, hyi, hw]; exact ih

theorem r23_Same_spec {f g fa fb : SlF} {a b : List Int} {x y : List Bool} (ha : Fits a) (hx : x.length ≤ 1000000) {lv : List Nat} {σ : Sto} {R : Post} : Cw T true i_r23_Same [.agg [ints f a, boolsV fa x], .agg [ints g b, boolsV fb y]] lv σ R ↔ R (.bool (decide (a = b) && decide (x = y))) σ := by
  refine cw_intro T_r23_Same (by simp only [go_sem]) (by simp) ?_; rw [run_unfold r23_Same.main.eq_1]
  by_cases h1 : a = b
  case neg => simp (maxSteps := 2000000) only [go_sem, ↓reduceIte, Nat.reduceLT, Nat.reduceEqDiff, Nat.reduceLeDiff, Nat.reduceAdd, Nat.reduceSub, Nat.reduceMul, Int.reduceLT, Int.reduceLE, Int.reduceEq, Int.reduceNeg, ha, h1, Bool.false_and]
  subst h1
  by_cases h2 : x.length = y.length
  · have h2' : (x.length : Int) = (y.length : Int) := by omega
    simp (maxSteps := 2000000) only [go_sem, ↓reduceIte, Nat.reduceLT, Nat.reduceEqDiff, Nat.reduceLeDiff, Nat.reduceAdd, Nat.reduceSub, Nat.reduceMul, Int.reduceLT, Int.reduceLE, Int.reduceEq, Int.reduceNeg, ha, h2, h2']
    have := r23_Same_loop (f := f) (g := g) (fa := fa) (fb := fb) (a := a) (b := a) h2 hx 0 (by omega)
    rw [List.drop_zero, List.drop_zero] at this
    exact this
  · have h2' : ¬ (x.length : Int) = (y.length : Int) := by omega
    have h3 : ¬ x = y := fun h => h2 (by rw [h])
    simp (maxSteps := 2000000) only [go_sem, ↓reduceIte, Nat.reduceLT, Nat.reduceEqDiff, Nat.reduceLeDiff, Nat.reduceAdd, Nat.reduceSub, Nat.reduceMul, Int.reduceLT, Int.reduceLE, Int.reduceEq, Int.reduceNeg, ha, h2, h2', h3, Bool.and_false]
@[go_sem] theorem r23_Same_call {f g fa fb : SlF} {a b : List Int} {x y : List Bool} (ha : Fits a) (hx : x.length ≤ 1000000) {Q : Post3} {k : List Item} {os : List AOper} {d : Option Nat} {e : Env} {σ : Sto} : CallK T Q k os d e σ true i_r23_Same [.agg [ints f a, boolsV fa x], .agg [ints g b, boolsV fb y]] ↔ Run T Q (.ops os :: k) (put e d (.bool (decide (a = b) && decide (x = y)))) σ := r23_Same_spec ha hx

end Go.Abs
