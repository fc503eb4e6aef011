/- Which regions may run in any order: what is asked of their text. -/
import Derived.Test.YtaiibojjndeipaaAbsLv
set_option linter.all false
namespace Go.Abs
open Go

/-- operations that look at their operands alone -/
def AOp.isReg : AOp → Bool
  | .mv _ | .pick .. | .build .. | .bin .. | .eqs .. | .un .. | .conv .. | .same _ | .mkif .. | .mkfn .. | .nilck _ | .faddr .. | .field .. | .iaddrA .. | .idxA .. | .idxS .. | .slstr .. | .extr .. | .minmax .. => true
  | _ => false

/-- operations that may change what is there -/
def AOp.isW : AOp → Bool
  | .call p _ _ => !p
  | .callv p _ _ => !p
  | a => !a.isQ

def maskOf (acc : List Nat) (l : List Nat) : Nat := l.foldl (fun m e => m ||| (acc.getD e 0 ||| 1 <<< e)) 0
def ancs (l : List AOper) : List Nat := l.foldl (fun acc o => acc ++ [maskOf acc o.after]) []
def before (anc : List Nat) (i j : Nat) : Bool := if j < i then (anc.getD i 0).testBit j else (anc.getD j 0).testBit i

def AOper.looks (o : AOper) (t : Nat) : Bool := o.reads.contains t || match o.guard with
  | some (some g, _) => g == t
  | _ => false

def drawPair (anc : List Nat) (i j : Nat) (oi oj : AOper) : Bool :=
  (match oj.dst with
    | none => true
    | some t => (match oi.dst with | some t' => !(t == t') | none => true) && (!oi.looks t || before anc i j)) &&
  (!oi.op.isW || oj.op.isReg || before anc i j)

def drawOk (aos : List AOper) : Bool :=
  let anc := ancs aos
  (List.range aos.length).all fun i => match aos[i]? with
    | none => true
    | some oi => oi.after.all (· < i) && (List.range aos.length).all fun j => i == j || match aos[j]? with
      | none => true
      | some oj => drawPair anc i j oi oj

def ACode.plan : ACode → Bool
  | .region d ops => !d || drawOk ops
  | .seq a b => a.plan && b.plan
  | .cond _ a b => a.plan && b.plan
  | .block _ b => b.plan
  | .loop b => b.plan
  | .trunc b => b.plan
  | .scope b => b.plan
  | _ => true

theorem maskOf_bit {acc : List Nat} {j : Nat} : ∀ {l : List Nat} {m : Nat}, (l.foldl (fun m e => m ||| (acc.getD e 0 ||| 1 <<< e)) m).testBit j = true →
    m.testBit j = true ∨ ∃ e ∈ l, (acc.getD e 0).testBit j = true ∨ j = e
  | [], m, h => .inl h
  | e :: l, m, h => by
    simp only [List.foldl_cons] at h
    rcases maskOf_bit h with h | ⟨e', he', h⟩
    · simp only [Nat.testBit_or, Bool.or_eq_true] at h
      rcases h with h | h | h
      · exact .inl h
      · exact .inr ⟨e, by simp, .inl h⟩
      · refine .inr ⟨e, by simp, .inr ?_⟩
        simp only [Nat.one_shiftLeft, Nat.testBit_two_pow, decide_eq_true_eq] at h
        exact h.symm
    · exact .inr ⟨e', by simp [he'], h⟩

theorem ancs_aux : ∀ (l : List AOper) (acc : List Nat), ∃ r, l.foldl (fun acc o => acc ++ [maskOf acc o.after]) acc = acc ++ r ∧ r.length = l.length ∧
    ∀ i o, l[i]? = some o → r[i]? = some (maskOf (acc ++ r.take i) o.after)
  | [], acc => ⟨[], by simp, rfl, fun i o h => by simp at h⟩
  | o :: l, acc => by
    obtain ⟨r, h1, h2, h3⟩ := ancs_aux l (acc ++ [maskOf acc o.after])
    refine ⟨maskOf acc o.after :: r, by simp [h1], by simp [h2], fun i o' h => ?_⟩
    cases i with
    | zero => simp at h; subst h; simp
    | succ i =>
      simp at h
      have := h3 i o' h
      simp [this]

theorem ancs_get {aos : List AOper} {i : Nat} {o : AOper} (h : aos[i]? = some o) : (ancs aos).getD i 0 = maskOf ((ancs aos).take i) o.after := by
  obtain ⟨r, h1, h2, h3⟩ := ancs_aux aos []
  have := h3 i o h
  unfold ancs
  rw [h1]
  simp only [List.nil_append] at this ⊢
  simp [List.getD_eq_getElem?_getD, this]

theorem ancs_closed {aos : List AOper} {S : Nat → Prop} (hS : ∀ (j : Nat) (o : AOper), aos[j]? = some o → S j → ∀ e ∈ o.after, S e) (hlt : ∀ (j : Nat) (o : AOper), aos[j]? = some o → ∀ e ∈ o.after, e < j) :
    ∀ (i : Nat) {o : AOper}, aos[i]? = some o → (∀ e ∈ o.after, S e) → ∀ {j : Nat}, ((ancs aos).getD i 0).testBit j = true → S j := by
  intro i
  induction i using Nat.strongRecOn with
  | _ i ih =>
  intro o ho hall j hj
  rw [ancs_get ho] at hj
  rcases maskOf_bit hj with h | ⟨e, he, h⟩
  · simp at h
  · rcases h with h | rfl
    · have hei := hlt i o ho e he
      have hil : i < aos.length := (List.getElem?_eq_some_iff.1 ho).1
      have hget : ((ancs aos).take i).getD e 0 = (ancs aos).getD e 0 := by
        simp [List.getD_eq_getElem?_getD, List.getElem?_take, hei]
      rw [hget] at h
      exact ih e hei (List.getElem?_eq_getElem (by omega)) (fun e' he' => hS e _ (List.getElem?_eq_getElem (by omega)) (hall e he) e' he') h
    · exact hall _ he

structure DrawOk (aos : List AOper) : Prop where
  lt : ∀ (i : Nat) (o : AOper), aos[i]? = some o → ∀ e ∈ o.after, e < i
  dst : ∀ (i j : Nat) (oi oj : AOper) (t : Nat), aos[i]? = some oi → aos[j]? = some oj → oi.dst = some t → oj.dst = some t → i = j
  read : ∀ (i j : Nat) (oi oj : AOper) (t : Nat), aos[i]? = some oi → aos[j]? = some oj → i ≠ j → oj.dst = some t → oi.looks t = true → before (ancs aos) i j = true
  wr : ∀ (i j : Nat) (oi oj : AOper), aos[i]? = some oi → aos[j]? = some oj → i ≠ j → oi.op.isW = true → oj.op.isReg = false → before (ancs aos) i j = true

theorem drawOk_iff {aos : List AOper} (h : drawOk aos = true) : DrawOk aos := by
  unfold drawOk at h
  have key : ∀ (i : Nat) (oi : AOper), aos[i]? = some oi → (∀ e ∈ oi.after, e < i) ∧ ∀ (j : Nat) (oj : AOper), aos[j]? = some oj → i ≠ j → drawPair (ancs aos) i j oi oj = true := by
    intro i oi hi
    have h1 := List.all_eq_true.1 h i (List.mem_range.2 (List.getElem?_eq_some_iff.1 hi).1)
    simp only [hi, Bool.and_eq_true, List.all_eq_true, decide_eq_true_eq] at h1
    refine ⟨h1.1, fun j oj hj hne => ?_⟩
    have h2 := h1.2 j (List.mem_range.2 (List.getElem?_eq_some_iff.1 hj).1)
    simp only [hj, Bool.or_eq_true, beq_iff_eq] at h2
    exact h2.resolve_left hne
  refine ⟨fun i o hi => (key i o hi).1, fun i j oi oj t hi hj h1 h2 => ?_, fun i j oi oj t hi hj hne h1 h2 => ?_, fun i j oi oj hi hj hne h1 h2 => ?_⟩
  · apply Classical.byContradiction
    intro hne
    have := (key i oi hi).2 j oj hj hne
    simp [drawPair, h1, h2] at this
  · have := (key i oi hi).2 j oj hj hne
    simp only [drawPair, h1, h2, Bool.and_eq_true, Bool.not_true, Bool.false_or] at this
    exact this.1.2
  · have := (key i oi hi).2 j oj hj hne
    simp only [drawPair, h1, h2, Bool.and_eq_true, Bool.not_true, Bool.false_or, Bool.or_false, Bool.or_eq_true] at this
    simpa using this.2

end Go.Abs
