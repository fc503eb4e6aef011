/- Parts of the proof: C23L, C23N. -/
import Derived.Test.YtmdkgkhddjhdoaaDoorJD20ZC
import Derived.Test.YtmdkgkhddjhdoaaDoorC23K
set_option linter.all false
/- Chapter 23: two commits of different stations. -/
set_option linter.unusedSimpArgs false
set_option linter.unusedVariables false
set_option maxRecDepth 10000
namespace Go.Abs
open Go
attribute [local go_sem_proc] Nat.reduceLT Nat.reduceEqDiff Nat.reduceLeDiff Nat.reduceAdd Nat.reduceSub Nat.reduceMul Int.reduceLT Int.reduceLE Int.reduceEq Int.reduceNeg
attribute [local go_sem_proc ↓] reduceIte

theorem comB_fits {st : Int} {l : List Tri} : Fits (comB st l).ops := by
  unfold Fits comB
  simp only [List.length_map, List.length_take]
  omega
theorem doP_some {s p : List Int} {c : Cm} (h : doP s c = some p) : Good s ∧ 0 ≤ c.st ∧ c.st < 6 ∧ opsP c.st c.ops s = some p ∧ Good p := by
  unfold doP at h
  split at h
  · rename_i hc
    simp only [Bool.and_eq_true, decide_eq_true_eq] at hc
    have hG := svalid_good.1 hc.1
    exact ⟨hG, hc.2.1, hc.2.2, h, opsP_good hG h⟩
  · cases h
theorem doP_mk {s p : List Int} {c : Cm} (hG : Good s) (h0 : 0 ≤ c.st) (h6 : c.st < 6) (h : opsP c.st c.ops s = some p) : doP s c = some p := by
  unfold doP
  rw [if_pos (by simp [svalid_good.2 hG, h0, h6]), h]
theorem Good.fits {s : List Int} (h : Good s) : Fits s := by have := h.len; unfold Fits; omega

set_option maxHeartbeats 4000000 in
theorem l23_EscrowIndependence_true {f f1 f2 : SlF} {b : List Nat} {x y : List Tri} (hb : Fits b) (hx : Fits x) (hy : Fits y) {lv : List Nat} {σ : Sto} {R : Post} : Cw T true i_l23_EscrowIndependence [bytesV f b, trisV f1 x, trisV f2 y] lv σ R ↔ R (.bool true) σ := by
  refine cw_intro T_l23_EscrowIndependence (by simp only [go_sem]) (by simp) ?_; rw [run_unfold l23_EscrowIndependence.main.eq_1]
  have hG := sharesP_good b
  generalize hsd : sharesP b = s at hG
  have hc : Fits (comB 0 x).ops := comB_fits
  have hd : Fits (comB 1 y).ops := comB_fits
  have c0 : (comB 0 x).st = 0 := rfl
  have d0 : (comB 1 y).st = 1 := rfl
  generalize hcd : comB 0 x = c at hc c0
  generalize hdd : comB 1 y = d at hd d0
  cases hp : doP s c with
  | none =>
    cases hq : doP s d with
    | none => simp (maxSteps := 2000000) only [go_sem, hb, hx, hy, hsd, hcd, hdd, hc, hd, hp, hq, gotG]
    | some q => simp (maxSteps := 2000000) only [go_sem, hb, hx, hy, hsd, hcd, hdd, hc, hd, hp, hq, gotG]
  | some p =>
    obtain ⟨_, p0, p1, p2, pG⟩ := doP_some hp
    cases hq : doP s d with
    | none => simp (maxSteps := 2000000) only [go_sem, hb, hx, hy, hsd, hcd, hdd, hc, hd, hp, hq, gotG]
    | some q =>
      obtain ⟨_, q0, q1, q2, qG⟩ := doP_some hq
      obtain ⟨u, u1, u2⟩ := opsP_swap p0 q0 (by rw [c0, d0]; decide) hG.len p2 q2
      have hu := doP_mk pG q0 q1 u1
      have hv := doP_mk qG p0 p1 u2
      have uG := opsP_good pG u1
      simp (maxSteps := 2000000) only [go_sem, hb, hx, hy, hsd, hcd, hdd, hc, hd, hp, hq, hu, hv, gotG, svalid_good.2 pG, svalid_good.2 qG, pG.fits, qG.fits, uG.fits]
end Go.Abs
/- Chapter 23: plays. -/
set_option linter.unusedSimpArgs false
set_option linter.unusedVariables false
set_option maxRecDepth 10000
namespace Go.Abs
open Go
attribute [local go_sem_proc] Nat.reduceLT Nat.reduceEqDiff Nat.reduceLeDiff Nat.reduceAdd Nat.reduceSub Nat.reduceMul Int.reduceLT Int.reduceLE Int.reduceEq Int.reduceNeg
attribute [local go_sem_proc ↓] reduceIte

/-- commits that are done one after the other, where they can be -/
def playL : List Int → List Cm → List Int × List Bool
  | s, [] => (s, [])
  | s, c :: r => ((playL ((doP s c).getD s) r).1, (doP s c).isSome :: (playL ((doP s c).getD s) r).2)
theorem playL_len : ∀ (l : List Cm) (s : List Int), (playL s l).2.length = l.length
  | [], s => rfl
  | c :: r, s => by simp [playL, playL_len r]

abbrev cms (f : SlF) (l : List Cm) : AVal := sv 5 f (l.map encM)
abbrev boolsO (l : List Bool) : AObj := .cells false (l.map AVal.bool)
abbrev boolsV (f : SlF) (l : List Bool) : AVal := sv 1 f (l.map AVal.bool)

theorem slices_Clone_int_pure {f : SlF} {c : List Int} (hc : c ≠ []) (hb : c.length * 8 ≤ maxBytes) {lv : List Nat} {σ : Sto} {R : Post} : Cw T true i_slices_Clone_int [ints f c] lv σ R ↔ R (ints .lst c) σ := by
  refine cw_intro T_slices_Clone_int (by simp only [go_sem]) (by simp) ?_; rw [run_unfold slices_Clone_int.main.eq_1]
  simp (maxSteps := 2000000) only [go_sem, eqnilV_sv (show (c.map fun n => AVal.int .i64 n) ≠ [] by simpa using hc)]
  rw [appendV_fresh (by rfl) rowOf_ints (by simp) (by decide) (by simp [AVal.one]) hb]
  simp (maxSteps := 2000000) only [go_sem]
  have h := snap_ints (n := 62) (σ := [cellsI c]) (o := 0) (c := c) rfl
  exact h

theorem snap_bools {σ : Sto} {o : Nat} {l : List Bool} {n : Nat} (hn : l.length = n) (h : σ[o]? = some (boolsO l)) : snapA σ 63 (.ref o n 0 n 1) = some (boolsV .lst l) := by
  subst hn
  have hp : AVal.pures (l.map AVal.bool) = true := v_names_map (fun _ => rfl) l
  have := snapA_refN (n := 61) (len := l.length) (k := 1) h (List.length_map ..) (by simp) (by decide) hp
  rw [show (63 : Nat) = 61 + 2 from rfl, this, boolsV, sv_lst]
  have := chunk_one (l.map AVal.bool)
  rw [List.length_map] at this
  rw [this]

theorem rep_set {D : List Bool} {i n : Nat} (hD : D.length = i) (hi : i < n) : (D ++ List.replicate (n - i) false).set i true = (D ++ [true]) ++ List.replicate (n - (i + 1)) false := by
  rw [show n - i = (n - (i + 1)) + 1 by omega, List.replicate_succ, List.set_append_right _ _ (by omega)]
  simp [hD]
theorem rep_same {D : List Bool} {i n : Nat} (hi : i < n) : D ++ List.replicate (n - i) false = (D ++ [false]) ++ List.replicate (n - (i + 1)) false := by
  rw [show n - i = (n - (i + 1)) + 1 by omega, List.replicate_succ]
  simp
theorem over_bools {l : List Bool} {i : Nat} {b : Bool} (h : i < l.length) : (l.map AVal.bool).take i ++ [AVal.bool b] ++ (l.map AVal.bool).drop (i + 1) = (l.set i b).map AVal.bool := by
  have := overwrite_map (g := AVal.bool) (l := l) (v := b) h
  simpa [overwrite] using this

theorem namesL_memI {p : Nat → Bool} : ∀ {xs : List AVal}, (∀ x ∈ xs, x.names p = true) → AVal.namesL p xs = true
  | [], _ => rfl
  | x :: xs, h => by
    simp only [AVal.namesL, Bool.and_eq_true]
    exact ⟨h x (by simp), namesL_memI fun y hy => h y (by simp [hy])⟩
theorem bools_names {p : Nat → Bool} {l : List Bool} : AVal.namesL p (l.map AVal.bool) = true := namesL_memI fun x hx => by
  obtain ⟨b, _, rfl⟩ := List.mem_map.1 hx
  rfl
theorem bools_take {p : Nat → Bool} {l : List Bool} {i : Nat} : AVal.namesL p ((l.map AVal.bool).take i) = true := by rw [← List.map_take]; exact bools_names
theorem bools_drop {p : Nat → Bool} {l : List Bool} {i : Nat} : AVal.namesL p ((l.map AVal.bool).drop i) = true := by rw [← List.map_drop]; exact bools_names

theorem escrow_Play_loop {fl f : SlF} {l : List Cm} (hl : Fits l) (hc : ∀ c ∈ l, Fits c.ops) : ∀ i, i ≤ l.length → ∀ (s : List Int) (D : List Bool), D.length = i → (svalid s = true → fl = .lst) →
    Run T (Res [.tmp 4, .tmp 5] (.tup [ints fl (playL s (l.drop i)).1, boolsV .lst (D ++ (playL s (l.drop i)).2)])) (.inLoop escrow_Play.b0 :: escrow_Play.k0) (mkE 41 [(6, ints fl s), (7, .ref 0 l.length 0 l.length 1), (19, cms f l), (20, .int .i64 l.length), (21, .int .i64 i)])
      [boolsO (D ++ List.replicate (l.length - i) false)] := by
  refine up_ind ?_ fun i hi ih => ?_
  · intro s D hD hs
    rw [run_round, run_unfold escrow_Play.b0.eq_1]
    rw [List.drop_length, playL, Nat.sub_self, List.replicate_zero]
    simp (maxSteps := 2000000) only [go_sem, Nat.lt_irrefl, run_unfold escrow_Play.c0.eq_1, run_unfold escrow_Play.c1.eq_1, run_unfold escrow_Play.c2.eq_1, run_unfold escrow_Play.c3.eq_1, escrow_Play.k0, List.append_nil, snap_bools hD (show [boolsO D][0]? = _ from rfl)]
  · intro s D hD hs
    have hci := hc _ (List.getElem_mem hi)
    have hw := wrap_succ (n := i) (by unfold Fits at hl; omega)
    rw [List.drop_eq_getElem_cons hi, playL]
    rw [run_round, run_unfold escrow_Play.b0.eq_1]
    cases hp : doP s l[i] with
    | none =>
      have := ih s (D ++ [false]) (by simp [hD]) hs
      rw [rep_same hi]
      simp only [List.append_assoc, List.singleton_append] at this ⊢
      simp (maxSteps := 2000000) only [go_sem, hi, hci, hp, gotA, hw, run_unfold escrow_Play.c2.eq_1, bools_names, AVal.unders, Option.getD_none, Option.isSome_none]
      exact this
    | some y =>
      have hfl : fl = .lst := hs (svalid_good.2 (doP_some hp).1)
      subst hfl
      have := ih y (D ++ [true]) (by simp [hD]) (fun _ => rfl)
      have hlen : i < (D ++ List.replicate (l.length - i) false).length := by simp [hD]; omega
      have hset := rep_set hD hi
      simp only [List.append_assoc, List.singleton_append] at this hset
      have hl2 : (D ++ List.replicate (l.length - i) false).length = l.length := by simp [hD]; omega
      have hob := over_bools (b := true) hlen
      rw [hset] at hob
      simp (maxSteps := 2000000) only [go_sem, hi, hci, hp, gotA, hw, hl2, show i + 1 ≤ l.length by omega, bools_take, bools_drop, hob, run_unfold escrow_Play.c2.eq_1, bools_names, AVal.unders, Option.getD_some, Option.isSome_some]
      exact this

theorem flat_rep {α : Type} (x : α) : ∀ n : Nat, (List.replicate n [x]).flatten = List.replicate n x
  | 0 => rfl
  | n + 1 => by rw [List.replicate_succ, List.flatten_cons, flat_rep x n, List.replicate_succ]; rfl
theorem mk_bools {σ : Sto} {n : Nat} (h : n ≤ 1000000) : mksliceV 1 1 [.bool false] (.int .i64 n) (.int .i64 n) σ = some (.ref σ.length n 0 n 1, σ ++ [boolsO (List.replicate n false)]) := by
  have e : IntKind.i64.max = 9223372036854775807 := by decide
  simp only [mksliceV, e]
  rw [if_pos ⟨by omega, by omega, by simp [maxBytes]; omega, by omega⟩]
  simp [flat_rep]

def flP (s : List Int) : SlF := if svalid s then .lst else .nil
def stP (s : List Int) : List Int := if svalid s then s else []

theorem escrow_Play_spec {f g : SlF} {s : List Int} {l : List Cm} (hl : l.length ≤ 1000000) (hc : ∀ c ∈ l, Fits c.ops) {lv : List Nat} {σ : Sto} {R : Post} : Cw T true i_escrow_Play [ints g s, cms f l] lv σ R ↔ R (.tup [ints (flP s) (playL (stP s) l).1, boolsV .lst (playL (stP s) l).2]) σ := by
  refine cw_intro T_escrow_Play (by simp only [go_sem]) (by simp) ?_; rw [run_unfold escrow_Play.main.eq_1]
  have hf : Fits l := by unfold Fits; omega
  unfold flP stP
  cases hs : svalid s
  · simp (maxSteps := 2000000) only [go_sem, hs, run_unfold escrow_Play.c3.eq_1, mk_bools hl, hl]
    exact escrow_Play_loop (fl := .nil) hf hc 0 (by omega) [] [] rfl (fun h => by cases h)
  · have hG := svalid_good.1 hs
    have hne : s ≠ [] := by intro h; have := hG.len; rw [h] at this; cases this
    simp (maxSteps := 2000000) only [go_sem, hs, callK_of (slices_Clone_int_pure (f := g) hne (by rw [hG.len]; decide)), run_unfold escrow_Play.c3.eq_1, mk_bools hl]
    exact escrow_Play_loop (fl := .lst) hf hc 0 (by omega) s [] rfl (fun _ => rfl)
@[go_sem] theorem escrow_Play_call {f g : SlF} {s : List Int} {l : List Cm} (hl : l.length ≤ 1000000) (hc : ∀ c ∈ l, Fits c.ops) {Q : Post3} {k : List Item} {os : List AOper} {d : Option Nat} {e : Env} {σ : Sto} : CallK T Q k os d e σ true i_escrow_Play [ints g s, cms f l] ↔ Run T Q (.ops os :: k) (put e d (.tup [ints (flP s) (playL (stP s) l).1, boolsV .lst (playL (stP s) l).2])) σ := escrow_Play_spec hl hc


theorem l23_played_spec {f g : SlF} {s : List Int} {l : List Cm} (hl : l.length ≤ 1000000) (hc : ∀ c ∈ l, Fits c.ops) {lv : List Nat} {σ : Sto} {R : Post} : Cw T true i_l23_played [ints g s, cms f l] lv σ R ↔ R (.agg [ints (flP s) (playL (stP s) l).1, boolsV .lst (playL (stP s) l).2]) σ := by
  refine cw_intro T_l23_played (by simp only [go_sem]) (by simp) ?_; rw [run_unfold l23_played.main.eq_1]
  simp (maxSteps := 2000000) only [go_sem, escrow_Play_call hl hc]
@[go_sem] theorem l23_played_call {f g : SlF} {s : List Int} {l : List Cm} (hl : l.length ≤ 1000000) (hc : ∀ c ∈ l, Fits c.ops) {Q : Post3} {k : List Item} {os : List AOper} {d : Option Nat} {e : Env} {σ : Sto} : CallK T Q k os d e σ true i_l23_played [ints g s, cms f l] ↔ Run T Q (.ops os :: k) (put e d (.agg [ints (flP s) (playL (stP s) l).1, boolsV .lst (playL (stP s) l).2])) σ := l23_played_spec hl hc


theorem r23_Alike_spec {f g : SlF} {a b : List Int} {v w : Int} (ha : Fits a) {lv : List Nat} {σ : Sto} {R : Post} : Cw T true i_r23_Alike [.agg [ints f a, .int .i64 v], .agg [ints g b, .int .i64 w]] lv σ R ↔ R (.bool (decide (v = w) && decide (a = b))) σ := by
  refine cw_intro T_r23_Alike (by simp only [go_sem]) (by simp) ?_; rw [run_unfold r23_Alike.main.eq_1]
  by_cases h : v = w
  · simp (maxSteps := 2000000) only [go_sem, h, ha]
  · simp (maxSteps := 2000000) only [go_sem, h, ha, Bool.false_and]
@[go_sem] theorem r23_Alike_call {f g : SlF} {a b : List Int} {v w : Int} (ha : Fits a) {Q : Post3} {k : List Item} {os : List AOper} {d : Option Nat} {e : Env} {σ : Sto} : CallK T Q k os d e σ true i_r23_Alike [.agg [ints f a, .int .i64 v], .agg [ints g b, .int .i64 w]] ↔ Run T Q (.ops os :: k) (put e d (.bool (decide (v = w) && decide (a = b)))) σ := r23_Alike_spec ha

end Go.Abs
