/- Walks of chapter 20: the names that bytes choose. -/
import Derived.Test.YtaiibojjndeipaaC20R
set_option linter.all false
set_option linter.unusedSimpArgs false
set_option linter.unusedVariables false
namespace Go.Abs
open Go

abbrev noms (f : SlF) (l : List Nam) : AVal := sv 2 f (l.map encN)
abbrev cellsN (n : Nam) : List AVal := [.int .i64 n.st, .int .i64 n.seq]
theorem cellsN_len (n : Nam) : (cellsN n).length = 2 := rfl
theorem cellsN_pure (n : Nam) {p : Nat → Bool} : AVal.namesL p (cellsN n) = true := by simp (maxSteps := 2000000) only [go_sem, ↓reduceIte, Nat.reduceLT, Nat.reduceEqDiff, Nat.reduceLeDiff, Nat.reduceAdd, Nat.reduceSub, Nat.reduceMul, Int.reduceLT, Int.reduceLE, Int.reduceEq, Int.reduceNeg]
@[go_sem] theorem names_noms {p : Nat → Bool} {l : List Nam} : AVal.namesL p (l.flatMap cellsN) = true := v_names_flat (fun c => cellsN_pure c) l
theorem snap_noms {n o : Nat} {l : List Nam} {σ : Sto} (hσ : σ[o]? = some (.cells false (l.flatMap cellsN))) : snapA σ (n + 2) (.ref o (l.length * 2) 0 l.length 2) = some (noms .lst l) := by
  rw [snap_structs (k := 2) (by decide) (by decide) cellsN_len (fun c => cellsN_pure c) hσ]; exact congrArg some (sv_lst _ _).symm

def pick (l : List Com) (n : Nat) : Nam := (l.getD (n % l.length) (mkCom 0 0 [])).nam
def chosen (l : List Com) (b : List Nat) : List Nam := if l.length = 0 then [] else (b.take 6).map (pick l)

theorem l20_chosen_loop {f g : SlF} {l : List Com} {b : List Nat} (hl : Fits l) (h0 : 0 < l.length) (hb : Fits b) (hb8 : ∀ n ∈ b, n < 256) : ∀ i, i ≤ (b.take 6).length → ∀ out : List Nam, out.length = i →
    Run T (Res [.tmp 4] (noms .lst (out ++ ((b.take 6).drop i).map (pick l)))) (.inLoop l20_chosen.b0 :: l20_chosen.k0) (mkE 39 [(0, coms f l), (1, bytesV g b), (5, .ref 0 (i * 2) 0 i 2), (6, .int .i64 i)]) [.cells false (out.flatMap cellsN)] := by
  refine up_ind ?_ fun i hi ih out ho => ?_
  · intro out ho
    rw [run_round, run_unfold l20_chosen.b0.eq_1]
    rw [List.drop_length, List.map_nil, List.append_nil]
    have hlen : (b.take 6).length = min 6 b.length := List.length_take
    by_cases h1 : (b.take 6).length < b.length
    · have h2 : ¬ (((b.take 6).length : Int) < 6) := by omega
      simp (maxSteps := 2000000) only [go_sem, ↓reduceIte, Nat.reduceLT, Nat.reduceEqDiff, Nat.reduceLeDiff, Nat.reduceAdd, Nat.reduceSub, Nat.reduceMul, Int.reduceLT, Int.reduceLE, Int.reduceEq, Int.reduceNeg, h1, h2, run_unfold l20_chosen.c0.eq_1, run_unfold l20_chosen.c1.eq_1, l20_chosen.k0]
      rw [← ho, snap_noms (by rfl)]
    · simp (maxSteps := 2000000) only [go_sem, ↓reduceIte, Nat.reduceLT, Nat.reduceEqDiff, Nat.reduceLeDiff, Nat.reduceAdd, Nat.reduceSub, Nat.reduceMul, Int.reduceLT, Int.reduceLE, Int.reduceEq, Int.reduceNeg, h1, run_unfold l20_chosen.c0.eq_1, run_unfold l20_chosen.c1.eq_1, l20_chosen.k0]
      rw [← ho, snap_noms (by rfl)]
  · rw [run_round, run_unfold l20_chosen.b0.eq_1]
    have hi' : i < b.length ∧ i < 6 := by simp at hi; omega
    rw [List.drop_eq_getElem_cons hi, List.map_cons, List.getElem_take]
    have hlt : ((i : Int) < 6) := by omega
    have hpos : (0 : Int) < (l.length : Int) := by omega
    have hn := hb8 b[i] (List.getElem_mem hi'.1)
    have e1 := wrap_nat (show b[i] < 9223372036854775808 by omega)
    have e2 : Int.tmod (b[i] : Int) (l.length : Int) = ((b[i] % l.length : Nat) : Int) := rfl
    have hk : b[i] % l.length < l.length := Nat.mod_lt _ h0
    have hp : pick l b[i] = l[b[i] % l.length].nam := by unfold pick; rw [List.getD_eq_getElem?_getD, List.getElem?_eq_getElem hk]; rfl
    rw [hp]
    generalize b[i] % l.length = k at e2 hk ⊢
    simp (maxSteps := 2000000) only [go_sem, ↓reduceIte, Nat.reduceLT, Nat.reduceEqDiff, Nat.reduceLeDiff, Nat.reduceAdd, Nat.reduceSub, Nat.reduceMul, Int.reduceLT, Int.reduceLE, Int.reduceEq, Int.reduceNeg, hi'.1, hlt, hpos, h0, e1, e2, hk]
    have hlen : (out.flatMap cellsN).length = i * 2 := by rw [flatMap_len cellsN_len, ho]
    rw [appendV_grow (m := 1) (new := cellsN l[k].nam) (by rfl) (by rfl) hlen rfl rfl (by decide) (by simp (maxSteps := 2000000) only [go_sem, ↓reduceIte, Nat.reduceLT, Nat.reduceEqDiff, Nat.reduceLeDiff, Nat.reduceAdd, Nat.reduceSub, Nat.reduceMul, Int.reduceLT, Int.reduceLE, Int.reduceEq, Int.reduceNeg]) (by unfold maxBytes; omega)]
    have := ih (out ++ [l[k].nam]) (by simp [ho])
    have hX2 : out.flatMap cellsN ++ cellsN l[k].nam = (out ++ [l[k].nam]).flatMap cellsN := by rw [List.flatMap_append]; rfl
    rw [hX2]
    have hXn : AVal.namesL (fun o => decide (o < 1)) ((out ++ [l[k].nam]).flatMap cellsN) = true := names_noms
    generalize (out ++ [l[k].nam]).flatMap cellsN = X at hXn this ⊢
    rw [show (i + 1) * 2 = i * 2 + 2 by omega, List.append_assoc, List.singleton_append] at this
    simp (maxSteps := 2000000) only [go_sem, ↓reduceIte, Nat.reduceLT, Nat.reduceEqDiff, Nat.reduceLeDiff, Nat.reduceAdd, Nat.reduceSub, Nat.reduceMul, Int.reduceLT, Int.reduceLE, Int.reduceEq, Int.reduceNeg, hXn, wrap_succ (show i < 9223372036854775807 by omega), show ¬ ((l.length : Int) = 0) by omega]
    exact this

theorem l20_chosen_spec {f g : SlF} {l : List Com} {b : List Nat} (hl : Fits l) (hb : Fits b) (hb8 : ∀ n ∈ b, n < 256) {lv : List Nat} {σ : Sto} {R : Post} : Cw T true i_l20_chosen [coms f l, bytesV g b] lv σ R ↔ R (noms .lst (chosen l b)) σ := by
  refine cw_intro T_l20_chosen (by simp only [go_sem]) (by simp) ?_; rw [run_unfold l20_chosen.main.eq_1]
  unfold chosen
  by_cases h0 : l.length = 0
  · simp (maxSteps := 2000000) only [go_sem, ↓reduceIte, Nat.reduceLT, Nat.reduceEqDiff, Nat.reduceLeDiff, Nat.reduceAdd, Nat.reduceSub, Nat.reduceMul, Int.reduceLT, Int.reduceLE, Int.reduceEq, Int.reduceNeg]
    rw [run_round, run_unfold l20_chosen.b0.eq_1]
    have hpos : ¬ (0 : Int) < (l.length : Int) := by omega
    rw [if_pos h0]
    by_cases h1 : 0 < b.length
    · simp (maxSteps := 2000000) only [go_sem, ↓reduceIte, Nat.reduceLT, Nat.reduceEqDiff, Nat.reduceLeDiff, Nat.reduceAdd, Nat.reduceSub, Nat.reduceMul, Int.reduceLT, Int.reduceLE, Int.reduceEq, Int.reduceNeg, show (0 : Int) < (b.length : Int) by omega, hpos, run_unfold l20_chosen.c0.eq_1, run_unfold l20_chosen.c1.eq_1, l20_chosen.k0]
      exact snap_noms (l := []) rfl
    · simp (maxSteps := 2000000) only [go_sem, ↓reduceIte, Nat.reduceLT, Nat.reduceEqDiff, Nat.reduceLeDiff, Nat.reduceAdd, Nat.reduceSub, Nat.reduceMul, Int.reduceLT, Int.reduceLE, Int.reduceEq, Int.reduceNeg, show ¬ (0 : Int) < (b.length : Int) by omega, hpos, run_unfold l20_chosen.c0.eq_1, run_unfold l20_chosen.c1.eq_1, l20_chosen.k0]
      exact snap_noms (l := []) rfl
  · simp (maxSteps := 2000000) only [go_sem, ↓reduceIte, Nat.reduceLT, Nat.reduceEqDiff, Nat.reduceLeDiff, Nat.reduceAdd, Nat.reduceSub, Nat.reduceMul, Int.reduceLT, Int.reduceLE, Int.reduceEq, Int.reduceNeg]
    rw [if_neg h0]
    exact l20_chosen_loop (f := f) (g := g) hl (by omega) hb hb8 0 (by omega) [] rfl
@[go_sem] theorem l20_chosen_call {f g : SlF} {l : List Com} {b : List Nat} (hl : Fits l) (hb : Fits b) (hb8 : ∀ n ∈ b, n < 256) {Q : Post3} {k : List Item} {os : List AOper} {d : Option Nat} {e : Env} {σ : Sto} : CallK T Q k os d e σ true i_l20_chosen [coms f l, bytesV g b] ↔ Run T Q (.ops os :: k) (put e d (noms .lst (chosen l b))) σ := l20_chosen_spec hl hb hb8


end Go.Abs
