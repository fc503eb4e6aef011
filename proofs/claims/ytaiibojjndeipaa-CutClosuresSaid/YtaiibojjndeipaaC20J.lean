/- Walks of chapter 20: the program's map of names, and its closed cuts. -/
import Derived.Test.YtaiibojjndeipaaC20I
set_option linter.all false
set_option linter.unusedSimpArgs false
set_option linter.unusedVariables false
namespace Go.Abs
open Go

abbrev shN : Shape := .row [(0, 1, false, .int .i64), (1, 1, false, .int .i64)]
theorem eqA_name {a b : Nam} : eqA shN (encN a) (encN b) = some (decide (a = b)) := by
  have : decide (a = b) = (decide (a.st = b.st) && decide (a.seq = b.seq)) := by
    cases a; cases b; simp
  rw [this]
  simp only [eqA, eqParts]
  by_cases h : a.st = b.st
  · by_cases h2 : a.seq = b.seq
    · simp [h, h2]
    · simp [h, h2]
  · simp [h]

/-- names with numbers, as a map holds them -/
abbrev NMap := List (Nam × Nat)
def NMap.get (m : NMap) (n : Nam) : Option Nat := (m.find? fun p => decide (n = p.1)).map (·.2)
abbrev keysA (m : NMap) : List AVal := m.map fun p => encN p.1
abbrev valsA (m : NMap) : List AVal := m.map fun p => .int .i64 ((p.2 : Nat) : Int)

theorem findA_names (m : NMap) (n : Nam) : ∀ i, findA shN (encN n) (keysA m) i = some ((m.findIdx? fun p => decide (n = p.1)).map (· + i)) := by
  induction m with
  | nil => intro i; rfl
  | cons p m ih =>
    intro i
    simp only [List.map_cons, findA, eqA_name, List.findIdx?_cons]
    by_cases h : n = p.1
    · simp [h]
    · simp only [h, decide_false, ih]
      cases m.findIdx? fun p => decide (n = p.1) with
      | none => rfl
      | some j => simp; omega

theorem lookAV_names {m : NMap} {n : Nam} {σ : Sto} : lookAV shN (.int .i64 0) true (encN n) (keysA m) (valsA m) σ = some (match m.get n with
    | some i => .tup [.int .i64 ((i : Nat) : Int), .bool true]
    | none => .tup [.int .i64 0, .bool false], σ) := by
  unfold lookAV
  rw [eqA_name, if_pos (by simp), findA_names]
  simp only [NMap.get]
  cases h : m.findIdx? fun p => decide (n = p.1) with
  | none =>
    have : (m.find? fun p => decide (n = p.1)) = none := by
      rw [List.find?_eq_none]
      rw [List.findIdx?_eq_none_iff] at h
      intro x hx; simp [h x hx]
    simp [this]
  | some j =>
    obtain ⟨hj, hp, hlt⟩ := List.findIdx?_eq_some_iff_getElem.1 h
    have : (m.find? fun p => decide (n = p.1)) = some m[j] := by
      rw [List.find?_eq_some_iff_getElem]
      exact ⟨hp, j, hj, rfl, fun k hk => by simpa using hlt k hk⟩
    simp [this, hj]

abbrev fmapN (m : NMap) : AVal := .fmap (keysA m) (valsA m)
@[go_sem] theorem lookupV_names {m : NMap} {a b : Int} {σ : Sto} : lookupV (.row [(0, 1, false, .int .i64), (1, 1, false, .int .i64)]) (.int .i64 0) true (.fmap (m.map fun p => encN p.1) (m.map fun p => .int .i64 ((p.2 : Nat) : Int))) (.agg [.int .i64 a, .int .i64 b]) σ = some (match m.get ⟨a, b⟩ with
    | some i => .tup [.int .i64 ((i : Nat) : Int), .bool true]
    | none => .tup [.int .i64 0, .bool false], σ) := lookAV_names (n := ⟨a, b⟩)

@[go_sem] theorem lookupV_map {sh : Shape} {z i : AVal} {ok : Bool} {o : Nat} {σ : Sto} : lookupV sh z ok (.map o) i σ = match σ[o]? with
    | some (.map ks vs) => lookAV sh z ok i ks vs σ
    | _ => none := rfl
@[go_sem] theorem lookAV_name {m : NMap} {a b : Int} {σ : Sto} : lookAV (.row [(0, 1, false, .int .i64), (1, 1, false, .int .i64)]) (.int .i64 0) true (.agg [.int .i64 a, .int .i64 b]) (m.map fun p => encN p.1) (m.map fun p => .int .i64 ((p.2 : Nat) : Int)) σ = some (match m.get ⟨a, b⟩ with
    | some i => .tup [.int .i64 ((i : Nat) : Int), .bool true]
    | none => .tup [.int .i64 0, .bool false], σ) := lookAV_names (n := ⟨a, b⟩)
theorem get_none {m : NMap} {n : Nam} (h : m.get n = none) : (m.findIdx? fun p => decide (n = p.1)) = none := by
  unfold NMap.get at h
  rw [Option.map_eq_none_iff, List.find?_eq_none] at h
  rw [List.findIdx?_eq_none_iff]
  intro x hx; simpa using h x hx
theorem mapupV_new {m : NMap} {n : Nam} {i o : Nat} {σ : Sto} (h : m.get n = none) (hσ : σ[o]? = some (.map (keysA m) (valsA m))) : mapupV shN (.map o) (encN n) (.int .i64 ((i : Nat) : Int)) σ = some (.und, σ.set o (.map (keysA (m ++ [(n, i)])) (valsA (m ++ [(n, i)])))) := by
  simp only [mapupV, hσ, eqA_name, decide_true, if_true, findA_names, get_none h, Option.map_none]
  simp
theorem snap_map {m : NMap} {o n : Nat} {σ : Sto} (hσ : σ[o]? = some (.map (keysA m) (valsA m))) : snapA σ (n + 2) (.map o) = some (fmapN m) := by
  have h0 : (AVal.map o).pure = false := by simp [AVal.names]
  rw [snapA, h0]
  simp only [Bool.false_eq_true, if_false, hσ]
  rw [mapM_snapN (v_names_map (fun _ => by simp (maxSteps := 2000000) only [go_sem, ↓reduceIte, Nat.reduceLT, Nat.reduceEqDiff, Nat.reduceLeDiff, Nat.reduceAdd, Nat.reduceSub, Nat.reduceMul, Int.reduceLT, Int.reduceLE, Int.reduceEq, Int.reduceNeg]) m), mapM_snapN (v_names_map (fun _ => by simp (maxSteps := 2000000) only [go_sem, ↓reduceIte, Nat.reduceLT, Nat.reduceEqDiff, Nat.reduceLeDiff, Nat.reduceAdd, Nat.reduceSub, Nat.reduceMul, Int.reduceLT, Int.reduceLE, Int.reduceEq, Int.reduceNeg]) m)]

def nmStep (m : NMap) (c : Com) (i : Nat) : NMap := match m.get c.nam with
  | some _ => m
  | none => m ++ [(c.nam, i)]
def nmFrom (m : NMap) : Nat → List Com → NMap
  | _, [] => m
  | i, c :: l => nmFrom (nmStep m c i) (i + 1) l
def nmap (l : List Com) : NMap := nmFrom [] 0 l

theorem names_keys {m : NMap} {p : Nat → Bool} : AVal.namesL p (m.map fun q => encN q.1) = true := v_names_map (fun _ => by simp (maxSteps := 2000000) only [go_sem, ↓reduceIte, Nat.reduceLT, Nat.reduceEqDiff, Nat.reduceLeDiff, Nat.reduceAdd, Nat.reduceSub, Nat.reduceMul, Int.reduceLT, Int.reduceLE, Int.reduceEq, Int.reduceNeg]) m
theorem names_vals {m : NMap} {p : Nat → Bool} : AVal.namesL p (m.map fun q => AVal.int .i64 ((q.2 : Nat) : Int)) = true := v_names_map (fun _ => by simp (maxSteps := 2000000) only [go_sem, ↓reduceIte, Nat.reduceLT, Nat.reduceEqDiff, Nat.reduceLeDiff, Nat.reduceAdd, Nat.reduceSub, Nat.reduceMul, Int.reduceLT, Int.reduceLE, Int.reduceEq, Int.reduceNeg]) m
attribute [go_sem] names_keys names_vals

theorem cut_indices_loop {f : SlF} {l : List Com} (hl : Fits l) : ∀ i, i ≤ l.length → ∀ m : NMap,
    Run T (Res [.tmp 2] (fmapN (nmFrom m i (l.drop i)))) (.inLoop cut_indices.b0 :: cut_indices.k0) (mkE 31 [(3, .map 0), (9, coms f l), (10, .int .i64 l.length), (11, .int .i64 i)]) [.map (keysA m) (valsA m)] := by
  refine up_ind ?_ fun i hi ih m => ?_
  · intro m
    rw [run_round, run_unfold cut_indices.b0.eq_1]
    rw [List.drop_length, nmFrom]
    simp (maxSteps := 2000000) only [go_sem, ↓reduceIte, Nat.reduceLT, Nat.reduceEqDiff, Nat.reduceLeDiff, Nat.reduceAdd, Nat.reduceSub, Nat.reduceMul, Int.reduceLT, Int.reduceLE, Int.reduceEq, Int.reduceNeg, run_unfold cut_indices.c0.eq_1, run_unfold cut_indices.c1.eq_1, run_unfold cut_indices.c2.eq_1, cut_indices.k0]
    exact snap_map rfl
  · rw [run_round, run_unfold cut_indices.b0.eq_1]
    rw [List.drop_eq_getElem_cons hi, nmFrom]
    cases h : m.get ⟨l[i].st, l[i].seq⟩ with
    | some j =>
      have e : nmStep m l[i] i = m := by unfold nmStep; rw [show l[i].nam = ⟨l[i].st, l[i].seq⟩ from rfl, h]
      simp (maxSteps := 2000000) only [go_sem, ↓reduceIte, Nat.reduceLT, Nat.reduceEqDiff, Nat.reduceLeDiff, Nat.reduceAdd, Nat.reduceSub, Nat.reduceMul, Int.reduceLT, Int.reduceLE, Int.reduceEq, Int.reduceNeg, hi, h, e, run_unfold cut_indices.c0.eq_1, run_unfold cut_indices.c1.eq_1, run_unfold cut_indices.c2.eq_1, cut_indices.k0, wrap_succ (show i < 9223372036854775807 by omega)]
      exact ih m
    | none =>
      have e : nmStep m l[i] i = m ++ [(⟨l[i].st, l[i].seq⟩, i)] := by unfold nmStep; rw [show l[i].nam = ⟨l[i].st, l[i].seq⟩ from rfl, h]
      simp (maxSteps := 2000000) only [go_sem, ↓reduceIte, Nat.reduceLT, Nat.reduceEqDiff, Nat.reduceLeDiff, Nat.reduceAdd, Nat.reduceSub, Nat.reduceMul, Int.reduceLT, Int.reduceLE, Int.reduceEq, Int.reduceNeg, hi, h, e, run_unfold cut_indices.c0.eq_1, run_unfold cut_indices.c1.eq_1, run_unfold cut_indices.c2.eq_1, cut_indices.k0, wrap_succ (show i < 9223372036854775807 by omega)]
      rw [mapupV_new (n := ⟨l[i].st, l[i].seq⟩) h (by rfl)]
      simp (maxSteps := 2000000) only [go_sem, ↓reduceIte, Nat.reduceLT, Nat.reduceEqDiff, Nat.reduceLeDiff, Nat.reduceAdd, Nat.reduceSub, Nat.reduceMul, Int.reduceLT, Int.reduceLE, Int.reduceEq, Int.reduceNeg, hi, h, e, run_unfold cut_indices.c0.eq_1, run_unfold cut_indices.c1.eq_1, run_unfold cut_indices.c2.eq_1, cut_indices.k0, wrap_succ (show i < 9223372036854775807 by omega)]
      exact ih _


theorem cut_indices_spec {f : SlF} {l : List Com} (hl : Fits l) {lv : List Nat} {σ : Sto} {R : Post} : Cw T true i_cut_indices [coms f l] lv σ R ↔ R (fmapN (nmap l)) σ := by
  refine cw_intro T_cut_indices (by simp only [go_sem]) (by simp) ?_; rw [run_unfold cut_indices.main.eq_1]
  simp (maxSteps := 2000000) only [go_sem, ↓reduceIte, Nat.reduceLT, Nat.reduceEqDiff, Nat.reduceLeDiff, Nat.reduceAdd, Nat.reduceSub, Nat.reduceMul, Int.reduceLT, Int.reduceLE, Int.reduceEq, Int.reduceNeg]
  exact cut_indices_loop hl 0 (by omega) []
@[go_sem] theorem cut_indices_call {f : SlF} {l : List Com} (hl : Fits l) {Q : Post3} {k : List Item} {os : List AOper} {d : Option Nat} {e : Env} {σ : Sto} : CallK T Q k os d e σ true i_cut_indices [coms f l] ↔ Run T Q (.ops os :: k) (put e d (fmapN (nmap l))) σ := cut_indices_spec hl


/-- the map has the first index of each name -/
theorem nmFrom_get (m : NMap) (i : Nat) (l : List Com) (n : Nam) : (nmFrom m i l).get n = match m.get n with
    | some j => some j
    | none => (l.findIdx? (isN n)).map (· + i) := by
  induction l generalizing m i with
  | nil => simp only [nmFrom, List.findIdx?_nil, Option.map_none]; cases m.get n <;> rfl
  | cons c l ih =>
    rw [nmFrom, ih, List.findIdx?_cons]
    have happ : ∀ (m : NMap) (a : Nam) (j : Nat), NMap.get (m ++ [(a, j)]) n = match m.get n with
        | some k => some k
        | none => if n = a then some j else none := by
      intro m a j
      simp only [NMap.get, List.find?_append]
      cases m.find? fun p => decide (n = p.1) with
      | some k => rfl
      | none => by_cases h : n = a <;> simp [h]
    have hn : isN n c = decide (n = c.nam) := by
      unfold isN Com.nam
      cases n with
      | mk a b =>
        simp only [Nam.mk.injEq]
        by_cases h1 : c.st = a
        · by_cases h2 : c.seq = b
          · simp [h1, h2]
          · simp [h2, Ne.symm h2]
        · simp [h1, Ne.symm h1]
    unfold nmStep
    cases hc : m.get c.nam with
    | some k =>
      simp only
      cases hm : m.get n with
      | some j => rfl
      | none =>
        simp only
        have hne : ¬ n = c.nam := fun e => by rw [e, hc] at hm; simp at hm
        rw [hn]
        simp only [hne, decide_false, Bool.false_eq_true, if_false]
        cases l.findIdx? (isN n) with
        | none => rfl
        | some j => simp; omega
    | none =>
      simp only
      rw [happ]
      cases hm : m.get n with
      | some j => rfl
      | none =>
        simp only
        rw [hn]
        by_cases h : n = c.nam
        · simp [h]
        · simp only [h, if_false, decide_false, Bool.false_eq_true]
          cases l.findIdx? (isN n) with
          | none => rfl
          | some j => simp; omega

theorem nmap_get (l : List Com) (n : Nam) : (nmap l).get n = l.findIdx? (isN n) := by
  unfold nmap
  rw [nmFrom_get]
  simp [NMap.get]

theorem nmap_cases (l : List Com) (n : Nam) : ((nmap l).get n = none ∧ l.find? (isN n) = none) ∨ ∃ (j : Nat) (h : j < l.length), (nmap l).get n = some j ∧ l.find? (isN n) = some l[j] := by
  rw [nmap_get]
  cases h : l.findIdx? (isN n) with
  | none =>
    left
    refine ⟨rfl, ?_⟩
    rw [List.find?_eq_none]
    rw [List.findIdx?_eq_none_iff] at h
    intro x hx; simp [h x hx]
  | some j =>
    right
    obtain ⟨hj, hp, hlt⟩ := List.findIdx?_eq_some_iff_getElem.1 h
    refine ⟨j, hj, rfl, ?_⟩
    rw [List.find?_eq_some_iff_getElem]
    exact ⟨hp, j, hj, rfl, fun k hk => by simpa using hlt k hk⟩

end Go.Abs
