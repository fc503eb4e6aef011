/- Parts of the proof: C23W, C23X, C23Y, C23Z. -/
import Derived.Test.YtmdkgkhddjhdoaaDoorJC23S
import Derived.Test.YtmdkgkhddjhdoaaDoorJD20H
import Derived.Test.YtmdkgkhddjhdoaaDoorC23H
set_option linter.all false
/- Chapter 23: commits with operations of bytes. -/
set_option linter.unusedSimpArgs false
set_option linter.unusedVariables false
set_option maxRecDepth 10000
set_option maxHeartbeats 4000000
namespace Go.Abs
open Go

def opW (st : Int) (t : Tri) : Opr := if t.a % 2 = 1 ∧ ((t.c % 4 : Nat) : Int) = st then ⟨6, 0, 0, (((t.c % 4 + 1) % 3 : Nat) : Int), .nils, .nils, 2, ((1 + t.b % 5 : Nat) : Int), ⟨#[]⟩, rfl, rfl, rfl, rfl⟩ else opB t
def stepW (c : Cm) (t : Tri) : Cm := if t.c % 5 = 0 then c else ⟨c.st, c.seq, c.pf, c.past, c.ver, .lst, c.ops ++ [opW c.st t]⟩

theorem rem5 (x : Nat) : Int.tmod (x : Int) 5 = ((x % 5 : Nat) : Int) := rfl

@[go_sem] theorem iaddrAF_0 {c m : Nat} {cs : List AVal} {kd : IntKind} {σ : Sto} (h : 0 < c) : iaddrAV c m (.fptr cs) (.int kd 0) σ = some (.fptr (cs.drop (0 * m)), σ) := by simp [iaddrAV, natOf, h]
@[go_sem] theorem iaddrAF_1 {c m : Nat} {cs : List AVal} {kd : IntKind} {σ : Sto} (h : 1 < c) : iaddrAV c m (.fptr cs) (.int kd 1) σ = some (.fptr (cs.drop (1 * m)), σ) := by simp [iaddrAV, natOf, h]
@[go_sem] theorem iaddrAF_2 {c m : Nat} {cs : List AVal} {kd : IntKind} {σ : Sto} (h : 2 < c) : iaddrAV c m (.fptr cs) (.int kd 2) σ = some (.fptr (cs.drop (2 * m)), σ) := by simp [iaddrAV, natOf, h]

def addO (c : Cm) (t : Tri) (o : Opr) : Cm := if t.c % 5 = 0 then c else ⟨c.st, c.seq, c.pf, c.past, c.ver, .lst, c.ops ++ [o]⟩

theorem app_oprs {σ : Sto} {o : Nat} {f : SlF} {X Y : List Opr} (hb : X.length + Y.length ≤ 1000000) (h : σ[o]? = some (.cells false (X.flatMap encO))) :
    appendV 9 112 (.ref o (X.length * 9) 0 X.length 9) (oprs f Y) σ = some (.ref o ((X ++ Y).length * 9) 0 (X ++ Y).length 9, σ.set o (.cells false ((X ++ Y).flatMap encO))) :=
  appendV_structs (g := encO) (by decide) (fun _ => rfl) encO_one h (by unfold maxBytes; omega)

theorem inner_oprs {a0 a1 a2 a3 : AVal} (p0 : a0.pure = true) (p1 : a1.pure = true) (p2 : a2.pure = true) (p3 : a3.pure = true) {A B C : AObj} {X : List Opr} :
    innerV (.ptr 1 5 0) [A, .cells false [a0, a1, a2, a3, .ref 3 (X.length * 9) 0 X.length 9], B, .cells false (X.flatMap encO), C] = some [A, .cells false [a0, a1, a2, a3, oprs .lst X], B, .dead, C] := by
  have hd := deep_structs (n := 62) (o := 3) (k := 9) (g := encO) (l := X) (σ := [A, .cells false [a0, a1, a2, a3, .ref 3 (X.length * 9) 0 X.length 9], B, .cells false (X.flatMap encO), C]) (by decide) (by decide) (fun _ => rfl) encO_pure rfl
  rw [show (62 + 2 : Nat) = snapDepth from rfl] at hd
  unfold innerV
  simp only [List.getElem?_cons_succ, List.getElem?_cons_zero, List.length_cons, List.length_nil, if_true, deepL, deepA_pure' p0, deepA_pure' p1, deepA_pure' p2, deepA_pure' p3, hd, oprs, sv_lst]
  rfl

theorem r23_With_c5 {f g : SlF} {l : List Cm} {b : List Tri} {out : List Cm} {i k n : Nat} {Q : Post3} {K : List Item} {c : Cm} {o : Opr} (hb : Fits b) (hc : c.ops.length ≤ 1000) (h1 : k < b.length) :
    Run T Q (.code r23_With.c5 :: .inBlock 3 :: .inTrunc 2 :: .code r23_With.c4 :: .inLoop r23_With.b1 :: K) (mkE 77 [(0, cms f l), (1, trisV g b), (5, .ref 0 (n * 5) 0 n 5), (6, .int .i64 i), (7, .ptr 1 5 0), (8, .int .i64 k), (9, .ptr 2 9 0)]) [ob out, .cells false (cellsM c), .cells false (encO o)] ↔
    Run T Q (.inLoop r23_With.b1 :: K) (mkE 77 [(0, cms f l), (1, trisV g b), (5, .ref 0 (n * 5) 0 n 5), (6, .int .i64 i), (7, .ptr 1 5 0), (8, .int .i64 ((k + 1 : Nat) : Int))]) [ob out, .cells false (cellsM (addO c b[k] o))] := by
  have w3 := wrap_succ (n := k) (by unfold Fits at hb; omega)
  unfold addO
  by_cases h3 : b[k].c % 5 = 0
  · simp (maxSteps := 2000000) only [go_sem, ↓reduceIte, Nat.reduceLT, Nat.reduceEqDiff, Nat.reduceLeDiff, Nat.reduceAdd, Nat.reduceSub, Nat.reduceMul, Int.reduceLT, Int.reduceLE, Int.reduceEq, Int.reduceNeg, run_unfold r23_With.c5.eq_1, run_unfold r23_With.c4.eq_1, h1, h3, binV_rem, rem5, show ¬ ((5 : Int) = 0) by omega, w3, ob_names, AVal.unders, Int.natCast_zero, Int.ofNat_zero]
  · have g0 : (0 : Int) < ((b[k].c % 5 : Nat) : Int) := by omega
    simp (maxSteps := 2000000) only [go_sem, ↓reduceIte, Nat.reduceLT, Nat.reduceEqDiff, Nat.reduceLeDiff, Nat.reduceAdd, Nat.reduceSub, Nat.reduceMul, Int.reduceLT, Int.reduceLE, Int.reduceEq, Int.reduceNeg, run_unfold r23_With.c5.eq_1, run_unfold r23_With.c4.eq_1, h1, h3, g0, binV_rem, rem5, show ¬ ((5 : Int) = 0) by omega, w3, ob_names, AVal.unders]
    rw [show appendV 9 112 (.ref 3 0 0 0 9) (oprs c.f c.ops) [ob out, .cells false (cellsM c), .cells false (encO o), .cells false []] = some (.ref 3 (c.ops.length * 9) 0 c.ops.length 9, [ob out, .cells false (cellsM c), .cells false (encO o), .cells false (c.ops.flatMap encO)]) from app_oprs (X := []) (by simp; omega) rfl]
    simp (maxSteps := 2000000) only [go_sem, ↓reduceIte, Nat.reduceLT, Nat.reduceEqDiff, Nat.reduceLeDiff, Nat.reduceAdd, Nat.reduceSub, Nat.reduceMul, Int.reduceLT, Int.reduceLE, Int.reduceEq, Int.reduceNeg]
    rw [show appendV 9 112 (.ref 3 (c.ops.length * 9) 0 c.ops.length 9) (.ref 4 9 0 1 9) [ob out, .cells false (cellsM c), .cells false (encO o), .cells false (c.ops.flatMap encO), .cells false (encO o)] = some (.ref 3 ((c.ops ++ [o]).length * 9) 0 (c.ops ++ [o]).length 9, [ob out, .cells false (cellsM c), .cells false (encO o), .cells false ((c.ops ++ [o]).flatMap encO), .cells false (encO o)]) from appendV_struct (g := encO) (by decide) (fun _ => rfl) encO_one rfl rfl (by simp [maxBytes]; omega)]
    simp (maxSteps := 2000000) only [go_sem, ↓reduceIte, Nat.reduceLT, Nat.reduceEqDiff, Nat.reduceLeDiff, Nat.reduceAdd, Nat.reduceSub, Nat.reduceMul, Int.reduceLT, Int.reduceLE, Int.reduceEq, Int.reduceNeg]
    rw [inner_oprs rfl rfl sv_pure rfl]
    simp (maxSteps := 2000000) only [go_sem, ↓reduceIte, Nat.reduceLT, Nat.reduceEqDiff, Nat.reduceLeDiff, Nat.reduceAdd, Nat.reduceSub, Nat.reduceMul, Int.reduceLT, Int.reduceLE, Int.reduceEq, Int.reduceNeg, run_unfold r23_With.c4.eq_1, w3, ob_names, AVal.unders]

theorem r23_With_b1 {f g : SlF} {l : List Cm} {b : List Tri} {out : List Cm} {i k n : Nat} {Q : Post3} {K : List Item} {c : Cm} (hi : i ≤ 1000000) (hb : Fits b) (hc : c.ops.length ≤ 1000) (h1 : k < b.length) (h2 : k < 2 * i + 2) :
    Run T Q (.inLoop r23_With.b1 :: K) (mkE 77 [(0, cms f l), (1, trisV g b), (5, .ref 0 (n * 5) 0 n 5), (6, .int .i64 i), (7, .ptr 1 5 0), (8, .int .i64 k)]) [ob out, .cells false (cellsM c)] ↔
    Run T Q (.inLoop r23_With.b1 :: K) (mkE 77 [(0, cms f l), (1, trisV g b), (5, .ref 0 (n * 5) 0 n 5), (6, .int .i64 i), (7, .ptr 1 5 0), (8, .int .i64 ((k + 1 : Nat) : Int))]) [ob out, .cells false (cellsM (stepW c b[k]))] := by
  have w1 : IntKind.i64.wrap (2 * (i : Int)) = ((2 * i : Nat) : Int) := by rw [wrap_i64 (by omega) (by omega)]; omega
  have w2 : IntKind.i64.wrap (((2 * i : Nat) : Int) + 2) = ((2 * i + 2 : Nat) : Int) := by rw [wrap_i64 (by omega) (by omega)]; omega
  have h2' : (k : Int) < ((2 * i + 2 : Nat) : Int) := by omega
  have e : stepW c b[k] = addO c b[k] (opW c.st b[k]) := rfl
  rw [e, ← r23_With_c5 hb hc h1]
  conv => lhs; rw [run_round, run_unfold r23_With.b1.eq_1]
  unfold opW
  by_cases h4 : b[k].a % 2 = 1
  · by_cases h5 : ((b[k].c % 4 : Nat) : Int) = c.st
    · have w4 : IntKind.i64.wrap (((b[k].c % 4 : Nat) : Int) + 1) = ((b[k].c % 4 + 1 : Nat) : Int) := by
        have : b[k].c % 4 < 4 := Nat.mod_lt _ (by decide)
        rw [wrap_i64 (by omega) (by omega)]; omega
      have w5 : Int.tmod ((b[k].c % 4 + 1 : Nat) : Int) 3 = (((b[k].c % 4 + 1) % 3 : Nat) : Int) := rfl
      simp (maxSteps := 2000000) only [go_sem, ↓reduceIte, Nat.reduceLT, Nat.reduceEqDiff, Nat.reduceLeDiff, Nat.reduceAdd, Nat.reduceSub, Nat.reduceMul, Int.reduceLT, Int.reduceLE, Int.reduceEq, Int.reduceNeg, w1, w2, h1, h2', h4, eq_true h5, opB, w4, w5, binV_rem, show ¬ ((3 : Int) = 0) by omega, and_self]
    · simp (maxSteps := 2000000) only [go_sem, ↓reduceIte, Nat.reduceLT, Nat.reduceEqDiff, Nat.reduceLeDiff, Nat.reduceAdd, Nat.reduceSub, Nat.reduceMul, Int.reduceLT, Int.reduceLE, Int.reduceEq, Int.reduceNeg, w1, w2, h1, h2', h4, eq_false h5, opB, and_false]
  · simp (maxSteps := 2000000) only [go_sem, ↓reduceIte, Nat.reduceLT, Nat.reduceEqDiff, Nat.reduceLeDiff, Nat.reduceAdd, Nat.reduceSub, Nat.reduceMul, Int.reduceLT, Int.reduceLE, Int.reduceEq, Int.reduceNeg, w1, w2, h1, h2', h4, opB, false_and]
end Go.Abs
/- Chapter 23: commits with operations of bytes: all of a list. -/
set_option linter.unusedSimpArgs false
set_option linter.unusedVariables false
set_option maxRecDepth 10000
set_option maxHeartbeats 4000000
namespace Go.Abs
open Go

def withC (i : Nat) (b : List Tri) (c : Cm) : Cm := ((b.drop (2 * i)).take 2).foldl stepW c
def withL : Nat → List Tri → List Cm → List Cm
  | _, _, [] => []
  | i, b, c :: r => withC i b c :: withL (i + 1) b r
theorem withL_len : ∀ (l : List Cm) (i : Nat) (b : List Tri), (withL i b l).length = l.length
  | [], _, _ => rfl
  | c :: r, i, b => by simp [withL, withL_len r]
theorem stepW_ops (c : Cm) (t : Tri) : (stepW c t).ops.length ≤ c.ops.length + 1 := by
  unfold stepW
  split
  · omega
  · simp

theorem r23_With_exit {f g : SlF} {l : List Cm} {b : List Tri} {out : List Cm} {i k n : Nat} {Q : Post3} {K : List Item} {c : Cm} (hi : i ≤ 1000000) (h : k = 2 * i + 2 ∨ b.length ≤ k) :
    Run T Q (.inLoop r23_With.b1 :: .inBlock 2 :: .code (.ghost (.kill [8, 33])) :: K) (mkE 77 [(0, cms f l), (1, trisV g b), (5, .ref 0 (n * 5) 0 n 5), (6, .int .i64 i), (7, .ptr 1 5 0), (8, .int .i64 k)]) [ob out, .cells false (cellsM c)] ↔
    Run T Q K (mkE 77 [(0, cms f l), (1, trisV g b), (5, .ref 0 (n * 5) 0 n 5), (6, .int .i64 i), (7, .ptr 1 5 0)]) [ob out, .cells false (cellsM c)] := by
  have w1 : IntKind.i64.wrap (2 * (i : Int)) = ((2 * i : Nat) : Int) := by rw [wrap_i64 (by omega) (by omega)]; omega
  have w2 : IntKind.i64.wrap (((2 * i : Nat) : Int) + 2) = ((2 * i + 2 : Nat) : Int) := by rw [wrap_i64 (by omega) (by omega)]; omega
  rw [run_round, run_unfold r23_With.b1.eq_1]
  by_cases h1 : (k : Int) < ((2 * i + 2 : Nat) : Int)
  · have h2 : ¬ k < b.length := by omega
    simp (maxSteps := 2000000) only [go_sem, ↓reduceIte, Nat.reduceLT, Nat.reduceEqDiff, Nat.reduceLeDiff, Nat.reduceAdd, Nat.reduceSub, Nat.reduceMul, Int.reduceLT, Int.reduceLE, Int.reduceEq, Int.reduceNeg, w1, w2, h1, h2]
  · simp (maxSteps := 2000000) only [go_sem, ↓reduceIte, Nat.reduceLT, Nat.reduceEqDiff, Nat.reduceLeDiff, Nat.reduceAdd, Nat.reduceSub, Nat.reduceMul, Int.reduceLT, Int.reduceLE, Int.reduceEq, Int.reduceNeg, w1, w2, h1]

theorem r23_With_inner {f g : SlF} {l : List Cm} {b : List Tri} {out : List Cm} {i n : Nat} {Q : Post3} {K : List Item} {c : Cm} (hi : i ≤ 1000000) (hb : Fits b) (hc : c.ops.length ≤ 100) :
    Run T Q (.inLoop r23_With.b1 :: .inBlock 2 :: .code (.ghost (.kill [8, 33])) :: K) (mkE 77 [(0, cms f l), (1, trisV g b), (5, .ref 0 (n * 5) 0 n 5), (6, .int .i64 i), (7, .ptr 1 5 0), (8, .int .i64 ((2 * i : Nat) : Int))]) [ob out, .cells false (cellsM c)] ↔
    Run T Q K (mkE 77 [(0, cms f l), (1, trisV g b), (5, .ref 0 (n * 5) 0 n 5), (6, .int .i64 i), (7, .ptr 1 5 0)]) [ob out, .cells false (cellsM (withC i b c))] := by
  unfold withC
  by_cases h1 : 2 * i < b.length
  · rw [List.drop_eq_getElem_cons h1, List.take_succ_cons, List.foldl_cons, r23_With_b1 hi hb (by omega) h1 (by omega)]
    have hs := stepW_ops c b[2 * i]
    by_cases h2 : 2 * i + 1 < b.length
    · rw [List.drop_eq_getElem_cons h2, List.take_succ_cons, List.foldl_cons, List.take_zero, List.foldl_nil, r23_With_b1 hi hb (by omega) h2 (by omega), r23_With_exit hi (.inl (by omega))]
    · rw [List.drop_of_length_le (by omega), List.take_nil, List.foldl_nil, r23_With_exit hi (.inr (by omega))]
  · rw [List.drop_of_length_le (by omega), List.take_nil, List.foldl_nil, r23_With_exit hi (.inr (by omega))]

theorem r23_With_loop {f g : SlF} {l : List Cm} {b : List Tri} (hl : l.length ≤ 1000) (hb : Fits b) (hc : ∀ c ∈ l, c.ops.length ≤ 100) : ∀ i, i ≤ l.length → ∀ out : List Cm, out.length = i →
    Run T (Res [.tmp 4] (cms .lst (out ++ withL i b (l.drop i)))) (.inLoop r23_With.b0 :: r23_With.k0) (mkE 77 [(0, cms f l), (1, trisV g b), (5, .ref 0 (i * 5) 0 i 5), (6, .int .i64 i)]) [ob out] := by
  refine up_ind ?_ fun i hi ih => ?_
  · intro out ho
    rw [List.drop_length, withL, List.append_nil]
    rw [run_round, run_unfold r23_With.b0.eq_1]
    simp (maxSteps := 2000000) only [go_sem, ↓reduceIte, Nat.reduceLT, Nat.reduceEqDiff, Nat.reduceLeDiff, Nat.reduceAdd, Nat.reduceSub, Nat.reduceMul, Int.reduceLT, Int.reduceLE, Int.reduceEq, Int.reduceNeg, Nat.lt_irrefl, run_unfold r23_With.c0.eq_1, run_unfold r23_With.c1.eq_1, run_unfold r23_With.c2.eq_1, run_unfold r23_With.c3.eq_1, run_unfold r23_With.c4.eq_1, run_unfold r23_With.c5.eq_1, r23_With.k0, r23_With.k1]
    have := snap_structs (n := 62) (o := 0) (k := 5) (g := cellsM) (l := out) (σ := [ob out]) (by decide) (by decide) (fun _ => rfl) cellsM_pureS rfl
    rw [ho] at this
    rw [show (64 : Nat) = 62 + 2 from rfl, this, cms, sv_lst]
  · intro out ho
    have hci := hc _ (List.getElem_mem hi)
    have w1 : IntKind.i64.wrap (2 * (i : Int)) = ((2 * i : Nat) : Int) := by rw [wrap_i64 (by omega) (by omega)]; omega
    have hw := wrap_succ (n := i) (by omega)
    rw [List.drop_eq_getElem_cons hi, withL]
    rw [run_round, run_unfold r23_With.b0.eq_1]
    simp (maxSteps := 2000000) only [go_sem, ↓reduceIte, Nat.reduceLT, Nat.reduceEqDiff, Nat.reduceLeDiff, Nat.reduceAdd, Nat.reduceSub, Nat.reduceMul, Int.reduceLT, Int.reduceLE, Int.reduceEq, Int.reduceNeg, hi, w1]
    rw [r23_With_inner (by omega) hb hci]
    simp (maxSteps := 2000000) only [go_sem, ↓reduceIte, Nat.reduceLT, Nat.reduceEqDiff, Nat.reduceLeDiff, Nat.reduceAdd, Nat.reduceSub, Nat.reduceMul, Int.reduceLT, Int.reduceLE, Int.reduceEq, Int.reduceNeg, run_unfold r23_With.c3.eq_1]
    have ha := appendV_struct (X := out) (y := withC i b l[i]) (o := 0) (o' := 2) (k := 5) (bytes := 72) (g := cellsM) (σ := [ob out, .cells false (cellsM (withC i b l[i])), .cells false (cellsM (withC i b l[i]))]) (by decide) (fun _ => rfl) cellsM_one rfl rfl (by simp [maxBytes]; omega)
    rw [ho] at ha
    refine after_of ha ?_
    have hl1 : (out ++ [withC i b l[i]]).length = i + 1 := by simp [ho]
    have := ih (out ++ [withC i b l[i]]) hl1
    simp only [List.append_assoc, List.singleton_append] at this
    simp (maxSteps := 2000000) only [go_sem, ↓reduceIte, Nat.reduceLT, Nat.reduceEqDiff, Nat.reduceLeDiff, Nat.reduceAdd, Nat.reduceSub, Nat.reduceMul, Int.reduceLT, Int.reduceLE, Int.reduceEq, Int.reduceNeg, run_unfold r23_With.c2.eq_1, hw, hl1, ob_names, AVal.unders]
    exact this

theorem r23_With_spec {f g : SlF} {l : List Cm} {b : List Tri} (hl : l.length ≤ 1000) (hb : Fits b) (hc : ∀ c ∈ l, c.ops.length ≤ 100) {lv : List Nat} {σ : Sto} {R : Post} : Cw T true i_r23_With [cms f l, trisV g b] lv σ R ↔ R (cms .lst (withL 0 b l)) σ := by
  refine cw_intro T_r23_With (by simp only [go_sem]) (by simp) ?_; rw [run_unfold r23_With.main.eq_1]
  simp (maxSteps := 2000000) only [go_sem, ↓reduceIte, Nat.reduceLT, Nat.reduceEqDiff, Nat.reduceLeDiff, Nat.reduceAdd, Nat.reduceSub, Nat.reduceMul, Int.reduceLT, Int.reduceLE, Int.reduceEq, Int.reduceNeg]
  exact r23_With_loop hl hb hc 0 (by omega) [] rfl
@[go_sem] theorem r23_With_call {f g : SlF} {l : List Cm} {b : List Tri} (hl : l.length ≤ 1000) (hb : Fits b) (hc : ∀ c ∈ l, c.ops.length ≤ 100) {Q : Post3} {k : List Item} {os : List AOper} {d : Option Nat} {e : Env} {σ : Sto} : CallK T Q k os d e σ true i_r23_With [cms f l, trisV g b] ↔ Run T Q (.ops os :: k) (put e d (cms .lst (withL 0 b l))) σ := r23_With_spec hl hb hc


def okS (c : Cm) : Bool := decide (c.ops.length ≤ 8) && decide (c.past.length ≤ 9)
theorem l23_short_loop {f : SlF} {l : List Cm} (hl : Fits l) : ∀ i, i ≤ (l.take 17).length →
    Run T (Res [.tmp 2] (.bool (((l.take 17).drop i).all okS && decide (l.length ≤ 16)))) (.inLoop l23_short.b0 :: l23_short.k0) (mkE 33 [(0, cms f l), (3, .int .i64 i)]) [] := by
  refine up_ind ?_ fun i hi ih => ?_
  · have hm : (l.take 17).length = min 17 l.length := List.length_take
    rw [List.drop_length, List.all_nil, Bool.true_and]
    rw [run_round, run_unfold l23_short.b0.eq_1]
    by_cases h1 : l.length < 17
    · rw [show (l.take 17).length = l.length by omega]
      have h2 : l.length ≤ 16 := by omega
      have h3 : (l.length : Int) ≤ 16 := by omega
      simp (maxSteps := 2000000) only [go_sem, ↓reduceIte, Nat.reduceLT, Nat.reduceEqDiff, Nat.reduceLeDiff, Nat.reduceAdd, Nat.reduceSub, Nat.reduceMul, Int.reduceLT, Int.reduceLE, Int.reduceEq, Int.reduceNeg, Nat.lt_irrefl, run_unfold l23_short.c0.eq_1, l23_short.k0, h2, h3]
    · rw [show (l.take 17).length = 17 by omega]
      have h2 : ¬ l.length ≤ 16 := by omega
      have h3 : ¬ (l.length : Int) ≤ 16 := by omega
      by_cases h4 : (17 : Int) < l.length
      · simp (maxSteps := 2000000) only [go_sem, ↓reduceIte, Nat.reduceLT, Nat.reduceEqDiff, Nat.reduceLeDiff, Nat.reduceAdd, Nat.reduceSub, Nat.reduceMul, Int.reduceLT, Int.reduceLE, Int.reduceEq, Int.reduceNeg, run_unfold l23_short.c0.eq_1, l23_short.k0, h2, h3, h4]
      · simp (maxSteps := 2000000) only [go_sem, ↓reduceIte, Nat.reduceLT, Nat.reduceEqDiff, Nat.reduceLeDiff, Nat.reduceAdd, Nat.reduceSub, Nat.reduceMul, Int.reduceLT, Int.reduceLE, Int.reduceEq, Int.reduceNeg, run_unfold l23_short.c0.eq_1, l23_short.k0, h2, h3, h4]
  · have hm : (l.take 17).length = min 17 l.length := List.length_take
    have hi1 : i < l.length := by omega
    have hi2 : (i : Int) < 17 := by omega
    rw [List.drop_eq_getElem_cons hi, List.all_cons, List.getElem_take, okS]
    rw [run_round, run_unfold l23_short.b0.eq_1]
    by_cases h1 : l[i].ops.length ≤ 8
    · by_cases h2 : l[i].past.length ≤ 9
      · simp (maxSteps := 2000000) only [go_sem, ↓reduceIte, Nat.reduceLT, Nat.reduceEqDiff, Nat.reduceLeDiff, Nat.reduceAdd, Nat.reduceSub, Nat.reduceMul, Int.reduceLT, Int.reduceLE, Int.reduceEq, Int.reduceNeg, hi1, hi2, h1, h2, show ¬ (8 : Int) < (l[i].ops.length : Int) by omega, show ¬ (9 : Int) < (l[i].past.length : Int) by omega, wrap_succ (show i < 9223372036854775807 by omega)]
        exact ih
      · simp (maxSteps := 2000000) only [go_sem, ↓reduceIte, Nat.reduceLT, Nat.reduceEqDiff, Nat.reduceLeDiff, Nat.reduceAdd, Nat.reduceSub, Nat.reduceMul, Int.reduceLT, Int.reduceLE, Int.reduceEq, Int.reduceNeg, hi1, hi2, h1, h2, show ¬ (8 : Int) < (l[i].ops.length : Int) by omega, show (9 : Int) < (l[i].past.length : Int) by omega, Bool.false_and, Bool.and_false]
    · simp (maxSteps := 2000000) only [go_sem, ↓reduceIte, Nat.reduceLT, Nat.reduceEqDiff, Nat.reduceLeDiff, Nat.reduceAdd, Nat.reduceSub, Nat.reduceMul, Int.reduceLT, Int.reduceLE, Int.reduceEq, Int.reduceNeg, hi1, hi2, h1, show (8 : Int) < (l[i].ops.length : Int) by omega, Bool.false_and]
theorem l23_short_spec {f : SlF} {l : List Cm} (hl : Fits l) {lv : List Nat} {σ : Sto} {R : Post} : Cw T true i_l23_short [cms f l] lv σ R ↔ R (.bool ((l.take 17).all okS && decide (l.length ≤ 16))) σ := by
  refine cw_intro T_l23_short (by simp only [go_sem]) (by simp) ?_; rw [run_unfold l23_short.main.eq_1]
  simp (maxSteps := 2000000) only [go_sem, ↓reduceIte, Nat.reduceLT, Nat.reduceEqDiff, Nat.reduceLeDiff, Nat.reduceAdd, Nat.reduceSub, Nat.reduceMul, Int.reduceLT, Int.reduceLE, Int.reduceEq, Int.reduceNeg]
  have := l23_short_loop (f := f) hl 0 (by omega)
  rw [List.drop_zero] at this
  exact this
@[go_sem] theorem l23_short_call {f : SlF} {l : List Cm} (hl : Fits l) {Q : Post3} {k : List Item} {os : List AOper} {d : Option Nat} {e : Env} {σ : Sto} : CallK T Q k os d e σ true i_l23_short [cms f l] ↔ Run T Q (.ops os :: k) (put e d (.bool ((l.take 17).all okS && decide (l.length ≤ 16)))) σ := l23_short_spec hl

end Go.Abs
/- Chapter 23: the law of the reference: its loops. -/
set_option linter.unusedSimpArgs false
set_option linter.unusedVariables false
set_option maxRecDepth 100000
set_option maxHeartbeats 4000000
namespace Go.Abs
open Go

theorem alike_G {r : Option (List Int)} (hr : ∀ y, r = some y → Fits y) {Q : Post3} {k : List Item} {os : List AOper} {d : Option Nat} {e : Env} {σ : Sto} : CallK T Q k os d e σ true i_r23_Alike [gotG r, gotG r] ↔ Run T Q (.ops os :: k) (put e d (.bool true)) σ := by
  cases r with
  | none =>
    have := r23_Alike_call (f := .nil) (g := .nil) (a := []) (b := []) (v := 230) (w := 230) (by decide) (Q := Q) (k := k) (os := os) (d := d) (e := e) (σ := σ)
    simp only [decide_true, Bool.and_self] at this
    exact this
  | some y =>
    have := r23_Alike_call (f := .lst) (g := .lst) (a := y) (b := y) (v := 0) (w := 0) (hr y rfl) (Q := Q) (k := k) (os := os) (d := d) (e := e) (σ := σ)
    simp only [decide_true, Bool.and_self] at this
    exact this
theorem same_P {f g fa fb : SlF} {a : List Int} {x : List Bool} (ha : Fits a) (hx : x.length ≤ 1000000) {Q : Post3} {k : List Item} {os : List AOper} {d : Option Nat} {e : Env} {σ : Sto} : CallK T Q k os d e σ true i_r23_Same [.agg [ints f a, boolsV fa x], .agg [ints g a, boolsV fb x]] ↔ Run T Q (.ops os :: k) (put e d (.bool true)) σ := by
  have := r23_Same_call (f := f) (g := g) (fa := fa) (fb := fb) (a := a) (b := a) (x := x) (y := x) ha hx (Q := Q) (k := k) (os := os) (d := d) (e := e) (σ := σ)
  simp only [decide_true, Bool.and_self] at this
  exact this
theorem doP_fits {s y : List Int} {c : Cm} (h : doP s c = some y) : Fits y := (doP_some h).2.2.2.2.fits

abbrev alsV (al : List (SlF × List Cm)) : AVal := sv 1 .lst (al.map fun p => cms p.1 p.2)
abbrev shsV (sh : List (SlF × List Int)) : AVal := sv 1 .lst (sh.map fun p => ints p.1 p.2)

structure OkA (al : List (SlF × List Cm)) : Prop where
  len : ∀ (i : Nat) (h : i < al.length), al[i].2.length ≤ 16
  fit : ∀ (i : Nat) (h : i < al.length), ∀ c ∈ al[i].2, Fits c.ops

theorem namesL_mem' {p : Nat → Bool} : ∀ {xs : List AVal}, AVal.namesL p xs = true → ∀ x ∈ xs, x.names p = true
  | [], _, x, hx => by simp at hx
  | y :: ys, h, x, hx => by
    simp only [AVal.namesL, Bool.and_eq_true] at h
    rcases List.mem_cons.1 hx with rfl | hx
    · exact h.1
    · exact namesL_mem' h.2 x hx

theorem mr_b3 {al : List (SlF × List Cm)} {sh : List (SlF × List Int)} {i k : Nat} {fs : SlF} {s : List Int} {t15 bx : List AVal} (hA : OkA al) (hk : k < al.length) (hk9 : al.length ≤ 9) (hs : Fits s) (hp1 : AVal.pures t15 = true) (hp2 : AVal.pures bx = true)
    (next : Run T (Res [.tmp 6] (.bool true)) (.inLoop l23_EscrowMatchesReference.b2 :: l23_EscrowMatchesReference.k2 4) (mkE 274 [(5, .ptr 0 8 0), (7, .bool true), (11, alsV al), (12, shsV sh), (13, .int .i64 i), (14, ints fs s), (16, .int .i64 ((k + 1 : Nat) : Int))]) [.cells false bx, .dead, .dead, .dead, .cells false t15]) : ∀ j, j ≤ al[k].2.length →
    Run T (Res [.tmp 6] (.bool true)) (.inLoop l23_EscrowMatchesReference.b3 :: l23_EscrowMatchesReference.k3 5 4) (mkE 274 [(5, .ptr 0 8 0), (7, .bool true), (11, alsV al), (12, shsV sh), (13, .int .i64 i), (14, ints fs s), (16, .int .i64 k), (17, .int .i64 j)]) [.cells false bx, .dead, .dead, .dead, .cells false t15] := by
  have hw := wrap_succ (n := k) (by omega)
  have n1 : AVal.namesL (fun o => decide (o < 5)) t15 = true := namesL_memI fun x hx => names_pure _ (namesL_mem' hp1 x hx)
  have n2 : AVal.namesL (fun o => decide (o < 5)) bx = true := namesL_memI fun x hx => names_pure _ (namesL_mem' hp2 x hx)
  refine up_ind ?_ fun j hj ih => ?_
  · rw [run_round, run_unfold l23_EscrowMatchesReference.b3.eq_1]
    simp (maxSteps := 2000000) only [go_sem, ↓reduceIte, Nat.reduceLT, Nat.reduceEqDiff, Nat.reduceLeDiff, Nat.reduceAdd, Nat.reduceSub, Nat.reduceMul, Int.reduceLT, Int.reduceLE, Int.reduceEq, Int.reduceNeg, hk, Nat.lt_irrefl, l23_EscrowMatchesReference.k3, run_unfold l23_EscrowMatchesReference.c4.eq_1, hw, n1, n2, AVal.unders]
    exact next
  · have hAl := hA.len k hk
    have hcj := hA.fit k hk _ (List.getElem_mem hj)
    have hAf := hA.fit k hk
    have hwj := wrap_succ (n := j) (by omega)
    have hgo := fun (Q : Post3) (k' : List Item) (os : List AOper) (d : Option Nat) (e : Env) (σ : Sto) => alike_G (r := doP s al[k].2[j]) (fun y h => doP_fits h) (Q := Q) (k := k') (os := os) (d := d) (e := e) (σ := σ)
    have hcv := fun (Q : Post3) (k' : List Item) (os : List AOper) (d : Option Nat) (e : Env) (σ : Sto) => escrow_Covered_call (f := al[k].1) (g := fs) (s := s) (l := al[k].2) (c := al[k].2[j]) (by omega) hAf hcj (Q := Q) (k := k') (os := os) (d := d) (e := e) (σ := σ)
    have hcr := fun (Q : Post3) (k' : List Item) (os : List AOper) (d : Option Nat) (e : Env) (σ : Sto) => r23_Covered_call (f := al[k].1) (g := fs) (s := s) (l := al[k].2) (c := al[k].2[j]) hs (by omega) hAf hcj (Q := Q) (k := k') (os := os) (d := d) (e := e) (σ := σ)
    rw [run_round, run_unfold l23_EscrowMatchesReference.b3.eq_1]
    simp (maxSteps := 2000000) only [go_sem, ↓reduceIte, Nat.reduceLT, Nat.reduceEqDiff, Nat.reduceLeDiff, Nat.reduceAdd, Nat.reduceSub, Nat.reduceMul, Int.reduceLT, Int.reduceLE, Int.reduceEq, Int.reduceNeg, hk, hj, hs, hcj, hgo, hcv, hcr, hwj, n1, n2, AVal.unders]
    exact ih

theorem mr_b2 {al : List (SlF × List Cm)} {sh : List (SlF × List Int)} {i : Nat} {fs : SlF} {s : List Int} {t15 bx : List AVal} (hA : OkA al) (hk9 : al.length ≤ 9) (hs : Fits s) (hp1 : AVal.pures t15 = true) (hp2 : AVal.pures bx = true) (hi : i < 1000)
    (next : Run T (Res [.tmp 6] (.bool true)) (.inLoop l23_EscrowMatchesReference.b1 :: l23_EscrowMatchesReference.k1) (mkE 274 [(5, .ptr 0 8 0), (7, .bool true), (11, alsV al), (12, shsV sh), (13, .int .i64 ((i + 1 : Nat) : Int))]) [.cells false bx, .dead, .dead, .dead]) : ∀ k, k ≤ al.length →
    Run T (Res [.tmp 6] (.bool true)) (.inLoop l23_EscrowMatchesReference.b2 :: l23_EscrowMatchesReference.k2 4) (mkE 274 [(5, .ptr 0 8 0), (7, .bool true), (11, alsV al), (12, shsV sh), (13, .int .i64 i), (14, ints fs s), (16, .int .i64 k)]) [.cells false bx, .dead, .dead, .dead, .cells false t15] := by
  have hw := wrap_succ (n := i) (by omega)
  have n2 : AVal.namesL (fun o => decide (o < 4)) bx = true := namesL_memI fun x hx => names_pure _ (namesL_mem' hp2 x hx)
  refine up_ind ?_ fun k hk ih => ?_
  · rw [run_round, run_unfold l23_EscrowMatchesReference.b2.eq_1]
    simp (maxSteps := 2000000) only [go_sem, ↓reduceIte, Nat.reduceLT, Nat.reduceEqDiff, Nat.reduceLeDiff, Nat.reduceAdd, Nat.reduceSub, Nat.reduceMul, Int.reduceLT, Int.reduceLE, Int.reduceEq, Int.reduceNeg, Nat.lt_irrefl, l23_EscrowMatchesReference.k2, run_unfold l23_EscrowMatchesReference.c3.eq_1, run_unfold l23_EscrowMatchesReference.c2.eq_1, hw, n2, AVal.unders]
    exact next
  · have hAl := hA.len k hk
    have hAf := hA.fit k hk
    have h3 : Fits (stP s) := by unfold stP; split; exact hs; decide
    have h4 : Fits (playL (stP s) al[k].2).1 := playL_fits h3
    have h5 : (playL (stP s) al[k].2).2.length ≤ 1000000 := by rw [playL_len]; omega
    have hpl := fun (Q : Post3) (k' : List Item) (os : List AOper) (d : Option Nat) (e : Env) (σ : Sto) => l23_played_call (f := al[k].1) (g := fs) (s := s) (l := al[k].2) (by omega) hAf (Q := Q) (k := k') (os := os) (d := d) (e := e) (σ := σ)
    have hpr := fun (Q : Post3) (k' : List Item) (os : List AOper) (d : Option Nat) (e : Env) (σ : Sto) => r23_PlayIn_call (f := al[k].1) (g := fs) (s := s) (l := al[k].2) hs (by omega) hAf (Q := Q) (k := k') (os := os) (d := d) (e := e) (σ := σ)
    rw [run_round, run_unfold l23_EscrowMatchesReference.b2.eq_1]
    simp (maxSteps := 2000000) only [go_sem, ↓reduceIte, Nat.reduceLT, Nat.reduceEqDiff, Nat.reduceLeDiff, Nat.reduceAdd, Nat.reduceSub, Nat.reduceMul, Int.reduceLT, Int.reduceLE, Int.reduceEq, Int.reduceNeg, hk, hpl, hpr, same_P h4 h5]
    exact mr_b3 hA hk hk9 hs hp1 hp2 ih 0 (by omega)

theorem moveP_take {s : List Int} {st v : Int} : moveP s st (-1) v = if svalid s then takeP s st v else none := by unfold moveP; rfl
theorem moveP_grant {s : List Int} {st to v : Int} : (if 0 ≤ to ∧ to < 6 then moveP s st to v else none) = if svalid s then grantP s st to v else none := by
  unfold moveP
  by_cases h : 0 ≤ to ∧ to < 6
  · rw [if_pos h]
    have : ¬ to = -1 := by omega
    rw [if_neg this]
  · rw [if_neg h]
    have : grantP s st to v = none := by unfold grantP; rw [if_neg (by omega)]
    rw [this]; split <;> rfl
theorem moveP_grantN {s : List Int} {st v : Int} {to : Nat} : (if (to : Int) < 6 then moveP s st (to : Int) v else none) = if svalid s then grantP s st (to : Int) v else none := by
  rw [← moveP_grant]
  by_cases h : (to : Int) < 6
  · rw [if_pos h, if_pos ⟨by omega, h⟩]
  · rw [if_neg h, if_neg (by omega)]
theorem take_fits {s y : List Int} {st v : Int} (h : (if svalid s then takeP s st v else none) = some y) : Fits y := by
  split at h
  · rename_i hs; exact (takeP_good (svalid_good.1 hs) h).fits
  · cases h
theorem grant_fits {s y : List Int} {st to v : Int} (h : (if svalid s then grantP s st to v else none) = some y) : Fits y := by
  split at h
  · rename_i hs; exact (grantP_good (svalid_good.1 hs) h).fits
  · cases h
theorem new_fits {y : List Int} {st v : Int} (h : newP st v = some y) : Fits y := by
  unfold newP at h
  split at h
  · cases h; unfold Fits; simp
  · cases h

/-- what is handed in besides -/
structure OddA where
  fS : SlF
  S : List Int
  m1 : Int
  m2 : Int
  m3 : Int
  fL : SlF
  L : List Cm
  k : Tri
abbrev oddC (z : OddA) : List AVal := [ints z.fS z.S, .int .i64 z.m1, .int .i64 z.m2, .int .i64 z.m3, cms z.fL z.L, .int .u8 ((z.k.a : Nat) : Int), .int .u8 ((z.k.b : Nat) : Int), .int .u8 ((z.k.c : Nat) : Int)]
theorem oddC_pure (z : OddA) : AVal.pures (oddC z) = true := by simp only [oddC, AVal.pures, AVal.namesL, AVal.names, sv_pure, Bool.and_self]

theorem rem7 (x : Nat) : IntKind.i64.wrap (Int.tmod (x : Int) 7) = ((x % 7 : Nat) : Int) := by
  have : Int.tmod (x : Int) 7 = ((x % 7 : Nat) : Int) := rfl
  rw [this]
  have : x % 7 < 7 := Nat.mod_lt _ (by decide)
  exact wrap_i64 (by omega) (by omega)

theorem mr_b1 {al : List (SlF × List Cm)} {sh : List (SlF × List Int)} {z : OddA} (hA : OkA al) (hk9 : al.length ≤ 9) (h9 : sh.length ≤ 9) (hsh : ∀ (i : Nat) (h : i < sh.length), Fits sh[i].2) : ∀ i, i ≤ sh.length →
    Run T (Res [.tmp 6] (.bool true)) (.inLoop l23_EscrowMatchesReference.b1 :: l23_EscrowMatchesReference.k1) (mkE 274 [(5, .ptr 0 8 0), (7, .bool true), (11, alsV al), (12, shsV sh), (13, .int .i64 i)]) [.cells false (oddC z), .dead, .dead, .dead] := by
  refine up_ind ?_ fun i hi ih => ?_
  · rw [run_round, run_unfold l23_EscrowMatchesReference.b1.eq_1]
    simp (maxSteps := 2000000) only [go_sem, ↓reduceIte, Nat.reduceLT, Nat.reduceEqDiff, Nat.reduceLeDiff, Nat.reduceAdd, Nat.reduceSub, Nat.reduceMul, Int.reduceLT, Int.reduceLE, Int.reduceEq, Int.reduceNeg, Nat.lt_irrefl, l23_EscrowMatchesReference.k1, run_unfold l23_EscrowMatchesReference.c1.eq_1, run_unfold l23_EscrowMatchesReference.c0.eq_1]
  · have hs := hsh i hi
    have al1 := fun (st v : Int) (Q : Post3) (k' : List Item) (os : List AOper) (d : Option Nat) (e : Env) (σ : Sto) => alike_G (r := if svalid sh[i].2 then takeP sh[i].2 st v else none) (fun y h => take_fits h) (Q := Q) (k := k') (os := os) (d := d) (e := e) (σ := σ)
    have al2 := fun (st to v : Int) (Q : Post3) (k' : List Item) (os : List AOper) (d : Option Nat) (e : Env) (σ : Sto) => alike_G (r := if svalid sh[i].2 then grantP sh[i].2 st to v else none) (fun y h => grant_fits h) (Q := Q) (k := k') (os := os) (d := d) (e := e) (σ := σ)
    rw [run_round, run_unfold l23_EscrowMatchesReference.b1.eq_1]
    simp (maxSteps := 2000000) only [go_sem, ↓reduceIte, Nat.reduceLT, Nat.reduceEqDiff, Nat.reduceLeDiff, Nat.reduceAdd, Nat.reduceSub, Nat.reduceMul, Int.reduceLT, Int.reduceLE, Int.reduceEq, Int.reduceNeg, hi, hs, binV_rem, rem7, rem10, show ¬ ((7 : Int) = 0) by omega, show ¬ ((10 : Int) = 0) by omega, moveP_take, moveP_grant, moveP_grantN, al1, al2, decide_true, eq_self_iff_true]
    exact mr_b2 hA hk9 hs rfl (oddC_pure z) (by omega) ih 0 (by omega)
end Go.Abs
/- Chapter 23: the law of the reference. -/
set_option linter.unusedSimpArgs false
set_option linter.unusedVariables false
set_option maxRecDepth 100000
set_option maxHeartbeats 4000000
namespace Go.Abs
open Go

abbrev oO (k : Tri) : Opr := ⟨((k.a % 9 : Nat) : Int), 0, 0, IntKind.i64.wrap (((k.b % 8 : Nat) : Int) - 1), .nils, .nils, IntKind.i64.wrap (Int.tmod (k.c : Int) 4), IntKind.i64.wrap (IntKind.i64.wrap (Int.tmod (IntKind.u8.wrap (Int.tdiv (k.c : Int) 4)) 5) - 1), ⟨#[]⟩, rfl, rfl, rfl, rfl⟩
def oddL (o : Opr) : List Cm → List Cm
  | [] => []
  | c :: r => ⟨c.st, c.seq, c.pf, c.past, c.ver, .lst, c.ops ++ [o]⟩ :: r

theorem inner_ref {a0 a1 a2 a3 : AVal} (p0 : a0.pure = true) (p1 : a1.pure = true) (p2 : a2.pure = true) (p3 : a3.pure = true) {A C : AObj} {X : List Opr} {r : List Cm} {n g : Nat} (hg : (r.length + 1) * 5 = g) :
    innerV (.ref 1 g 0 n 5) [A, .cells false (a0 :: a1 :: a2 :: a3 :: .ref 2 (X.length * 9) 0 X.length 9 :: r.flatMap cellsM), .cells false (X.flatMap encO), C] = some [A, .cells false (a0 :: a1 :: a2 :: a3 :: oprs .lst X :: r.flatMap cellsM), .dead, C] := by
  have hd := deep_structs (n := 62) (o := 2) (k := 9) (g := encO) (l := X) (σ := [A, .cells false (a0 :: a1 :: a2 :: a3 :: .ref 2 (X.length * 9) 0 X.length 9 :: r.flatMap cellsM), .cells false (X.flatMap encO), C]) (by decide) (by decide) (fun _ => rfl) encO_pure rfl
  rw [show (62 + 2 : Nat) = snapDepth from rfl] at hd
  have hr := fun σ : Sto => deepL_pure (m := 63) (σ := σ) (cs := r.flatMap cellsM) ob_names
  rw [show (63 + 1 : Nat) = snapDepth from rfl] at hr
  have hl : (r.flatMap cellsM).length + 1 + 1 + 1 + 1 + 1 = g := by rw [ob_len]; omega
  unfold innerV
  simp only [List.getElem?_cons_succ, List.getElem?_cons_zero, List.length_cons, hl, if_true, deepL, deepA_pure' p0, deepA_pure' p1, deepA_pure' p2, deepA_pure' p3, hd, hr, List.set_cons_succ, List.set_cons_zero, oprs, sv_lst]

theorem iaddrV_ref0 {o gen off len k : Nat} {kd : IntKind} {σ : Sto} : iaddrV k (.ref o gen off len k) (.int kd 0) σ = match σ[o]? with
      | some (.cells _ cs) => if 0 < len ∧ cs.length = gen then some (.ptr o gen (off + 0 * k), σ) else none
      | _ => none := iaddrV_ref (i := 0)

theorem mr_b0 {Q : Post3} {K : List Item} {z : OddA} {own : List Cm} {f : SlF} {x : List Nat} (h16 : own.length ≤ 16) (hops : ∀ c ∈ own, c.ops.length ≤ 100) :
    Run T Q (.inLoop l23_EscrowMatchesReference.b0 :: .inBlock 0 :: .code (.ghost (.kill [10, 49])) :: K) (mkE 274 [(0, bytesV f x), (5, .ptr 0 8 0), (7, .bool true), (8, cms .lst own), (9, .ref 1 (own.length * 5) 0 own.length 5), (10, .int .i64 0)]) [.cells false (oddC z), ob own] ↔
    Run T Q K (mkE 274 [(0, bytesV f x), (5, .ptr 0 8 0), (7, .bool true), (8, cms .lst own), (9, .ref 1 (own.length * 5) 0 own.length 5)]) [.cells false (oddC z), ob (oddL (oO z.k) own)] := by
  cases own with
  | nil =>
    rw [run_round, run_unfold l23_EscrowMatchesReference.b0.eq_1]
    simp (maxSteps := 2000000) only [go_sem, ↓reduceIte, Nat.reduceLT, Nat.reduceEqDiff, Nat.reduceLeDiff, Nat.reduceAdd, Nat.reduceSub, Nat.reduceMul, Int.reduceLT, Int.reduceLE, Int.reduceEq, Int.reduceNeg, oddL, List.flatMap_nil, List.length_nil]
  | cons c r =>
    have hlen : ((c :: r).flatMap cellsM).length = (c :: r).length * 5 := ob_len _
    have hc := hops c (by simp)
    have e1 : IntKind.i64.wrap (Int.tmod (z.k.a : Int) 9) = ((z.k.a % 9 : Nat) : Int) := by
      have : Int.tmod (z.k.a : Int) 9 = ((z.k.a % 9 : Nat) : Int) := rfl
      rw [this]
      have : z.k.a % 9 < 9 := Nat.mod_lt _ (by decide)
      exact wrap_i64 (by omega) (by omega)
    have e2 : IntKind.i64.wrap (Int.tmod (z.k.b : Int) 8) = ((z.k.b % 8 : Nat) : Int) := by
      have : Int.tmod (z.k.b : Int) 8 = ((z.k.b % 8 : Nat) : Int) := rfl
      rw [this]
      have : z.k.b % 8 < 8 := Nat.mod_lt _ (by decide)
      exact wrap_i64 (by omega) (by omega)
    rw [run_round, run_unfold l23_EscrowMatchesReference.b0.eq_1]
    simp only [List.length_cons] at hlen ⊢
    have hln : (r.flatMap cellsM).length + 1 + 1 + 1 + 1 + 1 = (r.length + 1) * 5 := by rw [ob_len]; omega
    simp (maxSteps := 2000000) only [go_sem, ↓reduceIte, Nat.reduceLT, Nat.reduceEqDiff, Nat.reduceLeDiff, Nat.reduceAdd, Nat.reduceSub, Nat.reduceMul, Int.reduceLT, Int.reduceLE, Int.reduceEq, Int.reduceNeg, iaddrV_ref0, Nat.zero_lt_succ, hlen, hln, show (0 : Int) < ((r.length + 1 : Nat) : Int) by omega, List.flatMap_cons]
    rw [show appendV 9 112 (.ref 2 0 0 0 9) (oprs c.f c.ops) [.cells false (oddC z), ob (c :: r), .cells false []] = some (.ref 2 (c.ops.length * 9) 0 c.ops.length 9, [.cells false (oddC z), ob (c :: r), .cells false (c.ops.flatMap encO)]) from app_oprs (X := []) (by simp; omega) rfl]
    simp (maxSteps := 2000000) only [go_sem, ↓reduceIte, Nat.reduceLT, Nat.reduceEqDiff, Nat.reduceLeDiff, Nat.reduceAdd, Nat.reduceSub, Nat.reduceMul, Int.reduceLT, Int.reduceLE, Int.reduceEq, Int.reduceNeg, iaddrV_ref0, Nat.zero_lt_succ, hlen, hln, List.flatMap_cons, binV_rem, binV_quo, e1, e2, show ¬ ((9 : Int) = 0) by omega, show ¬ ((8 : Int) = 0) by omega, show ¬ ((4 : Int) = 0) by omega, show ¬ ((5 : Int) = 0) by omega]
    rw [show appendV 9 112 (.ref 2 (c.ops.length * 9) 0 c.ops.length 9) (.ref 3 9 0 1 9) [.cells false (oddC z), ob (c :: r), .cells false (c.ops.flatMap encO), .cells false (encO (oO z.k))] = some (.ref 2 ((c.ops ++ [oO z.k]).length * 9) 0 (c.ops ++ [oO z.k]).length 9, [.cells false (oddC z), ob (c :: r), .cells false ((c.ops ++ [oO z.k]).flatMap encO), .cells false (encO (oO z.k))]) from appendV_struct (g := encO) (by decide) (fun _ => rfl) encO_one rfl rfl (by simp [maxBytes]; omega)]
    simp (maxSteps := 2000000) only [go_sem, ↓reduceIte, Nat.reduceLT, Nat.reduceEqDiff, Nat.reduceLeDiff, Nat.reduceAdd, Nat.reduceSub, Nat.reduceMul, Int.reduceLT, Int.reduceLE, Int.reduceEq, Int.reduceNeg, iaddrV_ref0, Nat.zero_lt_succ, hlen, hln, List.flatMap_cons, show 5 ≤ (r.length + 1) * 5 by omega, show 4 + 1 ≤ (r.length + 1) * 5 by omega]
    rw [inner_ref rfl rfl sv_pure rfl rfl]
    simp (maxSteps := 2000000) only [go_sem, ↓reduceIte, Nat.reduceLT, Nat.reduceEqDiff, Nat.reduceLeDiff, Nat.reduceAdd, Nat.reduceSub, Nat.reduceMul, Int.reduceLT, Int.reduceLE, Int.reduceEq, Int.reduceNeg, w01, oddC_pure, ob_names, AVal.unders]
    conv => lhs; rw [run_round, run_unfold l23_EscrowMatchesReference.b0.eq_1]
    by_cases h1 : (1 : Int) < ((r.length + 1 : Nat) : Int)
    · simp (maxSteps := 2000000) only [go_sem, ↓reduceIte, Nat.reduceLT, Nat.reduceEqDiff, Nat.reduceLeDiff, Nat.reduceAdd, Nat.reduceSub, Nat.reduceMul, Int.reduceLT, Int.reduceLE, Int.reduceEq, Int.reduceNeg, hln, h1, oddL, List.flatMap_cons]
      exact Iff.rfl
    · simp (maxSteps := 2000000) only [go_sem, ↓reduceIte, Nat.reduceLT, Nat.reduceEqDiff, Nat.reduceLeDiff, Nat.reduceAdd, Nat.reduceSub, Nat.reduceMul, Int.reduceLT, Int.reduceLE, Int.reduceEq, Int.reduceNeg, hln, h1, oddL, List.flatMap_cons]
      exact Iff.rfl

def toCm (c : Com) : Cm := ⟨c.st, c.seq, c.pf, c.past, c.ver, .nil, []⟩
theorem heads_nils : ∀ (l : List Nat) (x : HS), (∀ c ∈ x.out, c.ops = .nils) → ∀ c ∈ (l.foldl hstep x).out, c.ops = .nils
  | [], x, h => h
  | n :: l, x, h => by
    rw [List.foldl_cons]
    refine heads_nils l _ fun c hc => ?_
    simp only [hstep, hnext, List.mem_append, List.mem_singleton] at hc
    rcases hc with hc | rfl
    · exact h c hc
    · rfl
theorem heads_M (b : List Nat) : coms .lst (headers b) = cms .lst ((headers b).map toCm) := by
  have h : ∀ c ∈ headers b, c.ops = .nils := heads_nils _ _ (by simp)
  unfold coms cms
  rw [List.map_map]
  congr 1
  refine List.map_congr_left fun c hc => ?_
  simp only [Function.comp, encC, encM, cellsM, toCm, h c hc]
  rfl

theorem withC_ops (i : Nat) (b : List Tri) (c : Cm) : (withC i b c).ops.length ≤ c.ops.length + 2 := by
  have : ∀ (l : List Tri) (c : Cm), (l.foldl stepW c).ops.length ≤ c.ops.length + l.length := by
    intro l
    induction l with
    | nil => intro c; simp
    | cons t l ih =>
      intro c
      have h1 := ih (stepW c t)
      have h2 := stepW_ops c t
      simp only [List.foldl_cons, List.length_cons]
      omega
  have h := this ((b.drop (2 * i)).take 2) c
  have h2 : ((b.drop (2 * i)).take 2).length ≤ 2 := List.length_take_le ..
  unfold withC
  omega
theorem withL_ops {m : Nat} : ∀ (l : List Cm) (i : Nat) (b : List Tri), (∀ c ∈ l, c.ops.length ≤ m) → ∀ c ∈ withL i b l, c.ops.length ≤ m + 2
  | [], i, b, _, c, hc => by simp [withL] at hc
  | x :: l, i, b, h, c, hc => by
    simp only [withL, List.mem_cons] at hc
    rcases hc with rfl | hc
    · have := withC_ops i b x; have := h x (by simp); omega
    · exact withL_ops l (i + 1) b (fun c hc => h c (by simp [hc])) c hc
theorem oddL_len (o : Opr) (l : List Cm) : (oddL o l).length = l.length := by cases l <;> rfl
theorem oddL_ops {o : Opr} {m : Nat} {l : List Cm} (h : ∀ c ∈ l, c.ops.length ≤ m) : ∀ c ∈ oddL o l, c.ops.length ≤ m + 1 := by
  cases l with
  | nil => intro c hc; simp [oddL] at hc
  | cons x l =>
    intro c hc
    simp only [oddL, List.mem_cons] at hc
    rcases hc with rfl | hc
    · have := h x (by simp); simp; omega
    · have := h c (by simp [hc]); omega

theorem l23_EscrowMatchesReference_true {f g : SlF} {x : List Nat} {b : List Tri} {z : OddA} (hx : Fits x) (hx8 : ∀ n ∈ x, n < 256) (hb : Fits b) (hL : Fits z.L) (hS : Fits z.S) {lv : List Nat} {σ : Sto} {R : Post} : Cw T true i_l23_EscrowMatchesReference [bytesV f x, trisV g b, .agg (oddC z)] lv σ R ↔ R (.bool true) σ := by
  refine cw_intro T_l23_EscrowMatchesReference (by simp only [go_sem]) (by simp) ?_; rw [run_unfold l23_EscrowMatchesReference.main.eq_1]
  by_cases h1 : ((z.L.take 17).all okS && decide (z.L.length ≤ 16)) = true
  case neg =>
    have h1' : ((z.L.take 17).all okS && decide (z.L.length ≤ 16)) = false := by simpa using h1
    simp (maxSteps := 2000000) only [go_sem, ↓reduceIte, Nat.reduceLT, Nat.reduceEqDiff, Nat.reduceLeDiff, Nat.reduceAdd, Nat.reduceSub, Nat.reduceMul, Int.reduceLT, Int.reduceLE, Int.reduceEq, Int.reduceNeg, hL, h1']
  by_cases h2 : (9 : Int) < z.S.length
  case pos =>
    simp (maxSteps := 2000000) only [go_sem, ↓reduceIte, Nat.reduceLT, Nat.reduceEqDiff, Nat.reduceLeDiff, Nat.reduceAdd, Nat.reduceSub, Nat.reduceMul, Int.reduceLT, Int.reduceLE, Int.reduceEq, Int.reduceNeg, hL, h1, h2]
  have hm := heads_M x
  have hh := headers_fits x
  have hd := fun (Q : Post3) (k' : List Item) (os : List AOper) (d : Option Nat) (e : Env) (σ : Sto) => r20_Headers_call (f := f) (b := x) hx hx8 (Q := Q) (k := k') (os := os) (d := d) (e := e) (σ := σ)
  rw [hm] at hd
  have hop0 : ∀ c ∈ (headers x).map toCm, c.ops.length ≤ 0 := by
    intro c hc
    obtain ⟨d, _, rfl⟩ := List.mem_map.1 hc
    exact Nat.le_refl _
  have hlen : ((headers x).map toCm).length ≤ 12 := by rw [List.length_map]; exact hh
  generalize (headers x).map toCm = hs at hd hop0 hlen
  have hwi := fun (Q : Post3) (k' : List Item) (os : List AOper) (d : Option Nat) (e : Env) (σ : Sto) => r23_With_call (f := .lst) (g := g) (l := hs) (b := b) (by omega) hb (fun c hc => Nat.le_trans (hop0 c hc) (by omega)) (Q := Q) (k := k') (os := os) (d := d) (e := e) (σ := σ)
  have hop := withL_ops hs 0 b hop0
  have hol : (withL 0 b hs).length ≤ 12 := by rw [withL_len]; exact hlen
  generalize withL 0 b hs = own at hwi hop hol
  simp (maxSteps := 2000000) only [go_sem, ↓reduceIte, Nat.reduceLT, Nat.reduceEqDiff, Nat.reduceLeDiff, Nat.reduceAdd, Nat.reduceSub, Nat.reduceMul, Int.reduceLT, Int.reduceLE, Int.reduceEq, Int.reduceNeg, hL, h1, h2, hd, hwi]
  refine after_of (appendV_structs (X := []) (Y := own) (g := cellsM) (by decide) (fun _ => rfl) cellsM_one rfl (by simp [maxBytes]; omega)) ?_
  simp (maxSteps := 2000000) only [go_sem, ↓reduceIte, Nat.reduceLT, Nat.reduceEqDiff, Nat.reduceLeDiff, Nat.reduceAdd, Nat.reduceSub, Nat.reduceMul, Int.reduceLT, Int.reduceLE, Int.reduceEq, Int.reduceNeg]
  refine (mr_b0 (f := f) (x := x) (z := z) (by omega) (fun c hc => Nat.le_trans (hop c hc) (by omega))).2 ?_
  have hop' := oddL_ops (o := oO z.k) hop
  have hol' : (oddL (oO z.k) own).length ≤ 12 := by rw [oddL_len]; exact hol
  have hle : own.length = (oddL (oO z.k) own).length := (oddL_len _ _).symm
  rw [hle]
  generalize oddL (oO z.k) own = odd at hop' hol'
  simp (maxSteps := 2000000) only [go_sem, ↓reduceIte, Nat.reduceLT, Nat.reduceEqDiff, Nat.reduceLeDiff, Nat.reduceAdd, Nat.reduceSub, Nat.reduceMul, Int.reduceLT, Int.reduceLE, Int.reduceEq, Int.reduceNeg, run_unfold l23_EscrowMatchesReference.c5.eq_1]
  refine afterG_of (deep_structs (n := 62) (o := 1) (l := odd) (g := cellsM) (k := 5) (by decide) (by decide) (fun _ => rfl) cellsM_pureS rfl) ?_
  rw [show AVal.list 5 (odd.map fun x => .agg (cellsM x)) = cms .lst odd from (sv_lst _ _).symm]
  simp (maxSteps := 2000000) only [go_sem, ↓reduceIte, Nat.reduceLT, Nat.reduceEqDiff, Nat.reduceLeDiff, Nat.reduceAdd, Nat.reduceSub, Nat.reduceMul, Int.reduceLT, Int.reduceLE, Int.reduceEq, Int.reduceNeg]
  refine afterG_of (deep_ones (n := 62) (o := 2) (l := [(SlF.lst, own), (SlF.lst, odd), (z.fL, z.L)]) (g := fun p => cms p.1 p.2) (fun p => sv_pure) rfl) ?_
  rw [show AVal.list 1 (([(SlF.lst, own), (SlF.lst, odd), (z.fL, z.L)] : List (SlF × List Cm)).map fun p => cms p.1 p.2) = alsV [(SlF.lst, own), (SlF.lst, odd), (z.fL, z.L)] from (sv_lst _ _).symm]
  have hS9 : z.S.length ≤ 9 := by omega
  have hOk : OkA [(SlF.lst, own), (SlF.lst, odd), (z.fL, z.L)] := by
    have h1' := h1
    simp only [Bool.and_eq_true, decide_eq_true_eq, List.all_eq_true] at h1'
    have hz : ∀ c ∈ z.L, Fits c.ops := by
      intro c hc
      have h := h1'.1 c (by rw [List.take_of_length_le (by omega)]; exact hc)
      simp only [okS, Bool.and_eq_true, decide_eq_true_eq] at h
      unfold Fits; omega
    have ho : ∀ c ∈ own, Fits c.ops := fun c hc => by have := hop c hc; unfold Fits; omega
    have ho' : ∀ c ∈ odd, Fits c.ops := fun c hc => by have := hop' c hc; unfold Fits; omega
    constructor
    · intro i h
      rcases i with _ | _ | _ | i
      · exact Nat.le_trans hol (by decide)
      · exact Nat.le_trans hol' (by decide)
      · exact h1'.2
      · simp only [List.length_cons, List.length_nil] at h; omega
    · intro i h
      rcases i with _ | _ | _ | i
      · exact ho
      · exact ho'
      · exact hz
      · simp only [List.length_cons, List.length_nil] at h; omega
  have hA9 : [(SlF.lst, own), (SlF.lst, odd), (z.fL, z.L)].length ≤ 9 := Nat.le_of_ble_eq_true rfl
  generalize [(SlF.lst, own), (SlF.lst, odd), (z.fL, z.L)] = al at hOk hA9
  have hsg : Fits (sharesP x) := (sharesP_good x).fits
  simp (maxSteps := 2000000) only [go_sem, ↓reduceIte, Nat.reduceLT, Nat.reduceEqDiff, Nat.reduceLeDiff, Nat.reduceAdd, Nat.reduceSub, Nat.reduceMul, Int.reduceLT, Int.reduceLE, Int.reduceEq, Int.reduceNeg, hx]
  refine afterG_of (deep_ones (n := 62) (o := 3) (l := [(SlF.lst, sharesP x), (z.fS, z.S)]) (g := fun p => ints p.1 p.2) (fun p => sv_pure) rfl) ?_
  rw [show AVal.list 1 (([(SlF.lst, sharesP x), (z.fS, z.S)] : List (SlF × List Int)).map fun p => ints p.1 p.2) = shsV [(SlF.lst, sharesP x), (z.fS, z.S)] from (sv_lst _ _).symm]
  have hsh : ∀ (i : Nat) (h : i < [(SlF.lst, sharesP x), (z.fS, z.S)].length), Fits ([(SlF.lst, sharesP x), (z.fS, z.S)][i]).2 := by
    intro i h
    rcases i with _ | _ | i
    · exact hsg
    · exact hS
    · simp only [List.length_cons, List.length_nil] at h; omega
  have hs2 : [(SlF.lst, sharesP x), (z.fS, z.S)].length ≤ 9 := Nat.le_of_ble_eq_true rfl
  generalize [(SlF.lst, sharesP x), (z.fS, z.S)] = sh at hsh hs2
  have hgo := fun (Q : Post3) (k' : List Item) (os : List AOper) (d : Option Nat) (e : Env) (σ : Sto) => alike_G (r := newP z.m1 z.m3) (fun y h => new_fits h) (Q := Q) (k := k') (os := os) (d := d) (e := e) (σ := σ)
  simp (maxSteps := 2000000) only [go_sem, ↓reduceIte, Nat.reduceLT, Nat.reduceEqDiff, Nat.reduceLeDiff, Nat.reduceAdd, Nat.reduceSub, Nat.reduceMul, Int.reduceLT, Int.reduceLE, Int.reduceEq, Int.reduceNeg, hgo]
  exact mr_b1 hOk hA9 hs2 hsh 0 (by omega)
end Go.Abs
