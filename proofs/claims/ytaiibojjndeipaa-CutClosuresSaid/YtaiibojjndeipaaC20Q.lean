/- Plain laws of chapter 20: CutCausal. -/
import Derived.Test.YtaiibojjndeipaaC20P
set_option linter.all false
set_option linter.unusedSimpArgs false
set_option linter.unusedVariables false
namespace Go.Abs
open Go

structure LGood (l : List Com) : Prop where
  coms : ∀ c ∈ l, CGood l c
  nd : l.Pairwise fun a b => ¬ (a.st = b.st ∧ a.seq = b.seq)

theorem headers_lgood (b : List Nat) : LGood (headers b) := ⟨(headers_good b).coms, (headers_good b).nd⟩

theorem nd_eq : ∀ {l : List Com}, (l.Pairwise fun a b => ¬ (a.st = b.st ∧ a.seq = b.seq)) → ∀ {a b : Com}, a ∈ l → b ∈ l → a.st = b.st → a.seq = b.seq → a = b
  | [], _, a, b, ha, _, _, _ => by simp at ha
  | c :: l, h, a, b, ha, hb, e1, e2 => by
    rw [List.pairwise_cons] at h
    rcases List.mem_cons.1 ha with ha' | ha'
    · rcases List.mem_cons.1 hb with hb' | hb'
      · rw [ha', hb']
      · subst ha'; exact absurd ⟨e1, e2⟩ (h.1 b hb')
    · rcases List.mem_cons.1 hb with hb' | hb'
      · subst hb'; exact absurd ⟨e1.symm, e2.symm⟩ (h.1 a ha')
      · exact nd_eq h.2 ha' hb' e1 e2

theorem six {p : List Int} (h : p.length = 6) : ∃ a b c d e f, p = [a, b, c, d, e, f] := by
  match p, h with
  | [a, b, c, d, e, f], _ => exact ⟨a, b, c, d, e, f, rfl⟩

theorem sumW_eq {p : List Int} (h : p.length = 6) (hr : ∀ x ∈ p, 0 ≤ x ∧ x ≤ 12) : sumW p = p.sum := by
  obtain ⟨a, b, c, d, e, f, rfl⟩ := six h
  have ha := hr a (by simp); have hb := hr b (by simp); have hc := hr c (by simp)
  have hd := hr d (by simp); have he := hr e (by simp); have hf := hr f (by simp)
  simp only [sumW, List.foldl_cons, List.foldl_nil, addW]
  rw [wrap_i64 (x := 0 + a) (by omega) (by omega), wrap_i64 (x := 0 + a + b) (by omega) (by omega), wrap_i64 (x := 0 + a + b + c) (by omega) (by omega), wrap_i64 (x := 0 + a + b + c + d) (by omega) (by omega),
    wrap_i64 (x := 0 + a + b + c + d + e) (by omega) (by omega), wrap_i64 (x := 0 + a + b + c + d + e + f) (by omega) (by omega)]
  simp only [List.sum_cons, List.sum_nil]
  omega

theorem CGood.valid {l : List Com} {c : Com} (h : CGood l c) : valid c.past = true := by
  simp only [Go.Abs.valid, Bool.and_eq_true, decide_eq_true_eq, List.all_eq_true]
  refine ⟨h.len, fun x hx => ?_⟩
  have := h.row x hx
  simp only [okSeq, Bool.and_eq_true, decide_eq_true_eq]; omega
theorem CGood.st6 {l : List Com} {c : Com} (h : CGood l c) : c.st.toNat < 6 := by have := h.s0; have := h.s3; omega
theorem CGood.pst {l : List Com} {c : Com} (h : CGood l c) : 0 ≤ c.past.getD c.st.toNat 0 ∧ c.past.getD c.st.toNat 0 ≤ 12 := h.row _ (getD_mem (by rw [h.len]; exact h.st6))
theorem CGood.wf {l : List Com} {c : Com} (h : CGood l c) : wf c = true := by
  have h1 := h.pst
  have h2 := h.seq
  have h3 := h.s0
  have h4 := h.s3
  simp only [Go.Abs.wf, Bool.and_eq_true, decide_eq_true_eq]
  exact ⟨⟨⟨⟨⟨h3, by omega⟩, by omega⟩, by omega⟩, h.valid⟩, by omega⟩

theorem own_get {l : List Com} {c : Com} (h : CGood l c) (t : Nat) : (own c).getD t 0 = if t = c.st.toNat then c.seq else c.past.getD t 0 := getD_set (by rw [h.len]; exact h.st6)

theorem past_le_own {l : List Com} {c : Com} (h : CGood l c) : le c.past (own c) := fun t => by
  rw [own_get h]
  split
  · rename_i e; rw [e]; have := h.seq; omega
  · omega

theorem leq_of_le {a b : List Int} (ha : valid a = true) (hb : valid b = true) (h : le a b) : leq a b = true := by
  obtain ⟨a0, a1, a2, a3, a4, a5, rfl⟩ := six (valid_len ha)
  obtain ⟨b0, b1, b2, b3, b4, b5, rfl⟩ := six (valid_len hb)
  have h0 : a0 ≤ b0 := h 0
  have h1 : a1 ≤ b1 := h 1
  have h2 : a2 ≤ b2 := h 2
  have h3 : a3 ≤ b3 := h 3
  have h4 : a4 ≤ b4 := h 4
  have h5 : a5 ≤ b5 := h 5
  simp [leq, ha, hb, h0, h1, h2, h3, h4, h5]

theorem sum_lt {l : List Com} {a : Com} (h : CGood l a) {p : List Int} (hp : p.length = 6) (hle : le (own a) p) : a.past.sum < p.sum := by
  have hlt : a.past.getD a.st.toNat 0 < p.getD a.st.toNat 0 := by
    have := hle a.st.toNat
    rw [own_get h, if_pos rfl] at this
    have := h.seq; omega
  have hle2 : le a.past p := fun t => Int.le_trans (past_le_own h t) (hle t)
  obtain ⟨a0, a1, a2, a3, a4, a5, hap⟩ := six h.len
  obtain ⟨b0, b1, b2, b3, b4, b5, rfl⟩ := six hp
  rw [hap] at hlt hle2 ⊢
  have h0 : a0 ≤ b0 := hle2 0
  have h1 : a1 ≤ b1 := hle2 1
  have h2 : a2 ≤ b2 := hle2 2
  have h3 : a3 ≤ b3 := hle2 3
  have h4 : a4 ≤ b4 := hle2 4
  have h5 : a5 ≤ b5 := hle2 5
  simp only [List.sum_cons, List.sum_nil]
  have hs : a.st.toNat = 0 ∨ a.st.toNat = 1 ∨ a.st.toNat = 2 := by have := h.s0; have := h.s3; omega
  rcases hs with e | e | e <;> rw [e] at hlt
  · have : a0 < b0 := hlt
    omega
  · have : a1 < b1 := hlt
    omega
  · have : a2 < b2 := hlt
    omega

theorem sees_iff {l : List Com} (h : LGood l) {c a : Com} (hc : c ∈ l) (ha : a ∈ l) : sees c a = true ↔ a.seq ≤ c.past.getD a.st.toNat 0 := by
  simp [sees, (h.coms c hc).wf, (h.coms a ha).wf]

theorem sees_le {l : List Com} (h : LGood l) {c a : Com} (hc : c ∈ l) (ha : a ∈ l) (hs : sees c a = true) : le (own a) c.past := by
  rw [sees_iff h hc ha] at hs
  have ga := h.coms a ha
  have h1 := ga.pst
  have h2 := ga.seq
  obtain ⟨d, hd, e1, e2, e3⟩ := (h.coms c hc).clo a.st.toNat a.seq (by omega) hs
  have := nd_eq h.nd hd ha (by rw [e1]; have := ga.s0; omega) e2
  rw [← this]; exact e3

theorem sees_sum {l : List Com} (h : LGood l) {c a : Com} (hc : c ∈ l) (ha : a ∈ l) (hs : sees c a = true) : sumW a.past < sumW c.past := by
  have gc := h.coms c hc
  have ga := h.coms a ha
  rw [sumW_eq gc.len gc.row, sumW_eq ga.len ga.row]
  exact sum_lt ga gc.len (sees_le h hc ha hs)

theorem before_iff {l : List Com} (h : LGood l) {a b : Com} (ha : a ∈ l) (hb : b ∈ l) : befC a b = decide (cmpC a b < 0) := by
  simp [befC, (h.coms a ha).wf, (h.coms b hb).wf]

theorem before_not {l : List Com} (h : LGood l) {a b : Com} (ha : a ∈ l) (hb : b ∈ l) (hne : ¬ (a.st = b.st ∧ a.seq = b.seq)) : befC b a = !befC a b := by
  rw [before_iff h ha hb, before_iff h hb ha, cmpC_lt, cmpC_lt]
  by_cases h1 : sumW a.past = sumW b.past
  · by_cases h2 : a.st = b.st
    · have h3 : a.seq ≠ b.seq := fun e => hne ⟨h2, e⟩
      simp only [h1, h2, decide_true, if_true]
      by_cases h4 : a.seq < b.seq
      · have : ¬ b.seq < a.seq := by omega
        simp [h4, this]
      · have : b.seq < a.seq := by omega
        simp [h4, this]
    · simp only [h1, decide_true, if_true, h2, Ne.symm h2, decide_false, Bool.false_eq_true, if_false]
      by_cases h4 : a.st < b.st
      · have : ¬ b.st < a.st := by omega
        simp [h4, this]
      · have : b.st < a.st := by omega
        simp [h4, this]
  · simp only [h1, Ne.symm h1, decide_false, Bool.false_eq_true, if_false]
    by_cases h4 : sumW a.past < sumW b.past
    · have : ¬ sumW b.past < sumW a.past := by omega
      simp [h4, this]
    · have : sumW b.past < sumW a.past := by omega
      simp [h4, this]

theorem nmFrom_len : ∀ (l : List Com) (m : NMap) (i : Nat), (l.Pairwise fun a b => ¬ (a.st = b.st ∧ a.seq = b.seq)) → (∀ c ∈ l, m.get c.nam = none) → (nmFrom m i l).length = m.length + l.length
  | [], m, i, _, _ => rfl
  | c :: l, m, i, h, hm => by
    rw [List.pairwise_cons] at h
    have h1 := hm c (by simp)
    rw [nmFrom, show nmStep m c i = m ++ [(c.nam, i)] by unfold nmStep; rw [h1]]
    rw [nmFrom_len l _ _ h.2 fun d hd => ?_]
    · simp; omega
    · have h2 := hm d (by simp [hd])
      have h3 := h.1 d hd
      have h4 : d.nam ≠ c.nam := fun e => h3 ⟨(congrArg Nam.st e).symm, (congrArg Nam.seq e).symm⟩
      unfold NMap.get at h2 ⊢
      rw [Option.map_eq_none_iff] at h2 ⊢
      rw [List.find?_append, h2]
      simp [h4]

theorem known_good {l : List Com} (h : LGood l) {p : List Int} (hv : valid p = true) (hp : Clo l p) : ∀ (qs : List Int) (s : Nat), (∀ (j : Nat) (hj : j < qs.length), qs[j] = p.getD (s + j) 0 ∧ 0 ≤ qs[j]) → knownL l p s qs = true
  | [], s, _ => rfl
  | q :: qs, s, hq => by
    rw [knownL, known_good h hv hp qs (s + 1) (fun j hj => by have := hq (j + 1) (by simp; omega); rw [show s + 1 + j = s + (j + 1) by omega]; simpa using this), Bool.and_true]
    have h0 := hq 0 (by simp)
    simp only [List.getElem_cons_zero, Nat.add_zero] at h0
    split
    · rfl
    · rename_i hne
      obtain ⟨c, hc, e1, e2, e3⟩ := hp s q (by omega) (by omega)
      have hN : isN ⟨s, q⟩ c = true := by simp [isN, e1, e2]
      cases hf : l.find? (isN ⟨s, q⟩) with
      | none => rw [List.find?_eq_none] at hf; exact absurd hN (hf c hc)
      | some d =>
        have hd := List.mem_of_find?_eq_some hf
        have hdN := List.find?_some hf
        simp only [isN, Bool.and_eq_true, decide_eq_true_eq] at hdN
        have := nd_eq h.nd hd hc (by rw [hdN.1, e1]) (by rw [hdN.2, e2])
        subst this
        have gd := h.coms d hd
        exact leq_of_le gd.valid hv fun t => Int.le_trans (past_le_own gd t) (e3 t)

theorem consistent_good {l : List Com} (h : LGood l) : consistentP l = true := by
  simp only [consistentP, Bool.and_eq_true, decide_eq_true_eq, List.all_eq_true]
  refine ⟨⟨?_, fun c hc => (h.coms c hc).wf⟩, fun c hc => ?_⟩
  · have := nmFrom_len l [] 0 h.nd fun c _ => rfl
    simpa [nmap] using this
  · have gc := h.coms c hc
    exact known_good h gc.valid gc.clo c.past 0 fun j hj => ⟨by rw [Nat.zero_add, List.getD_eq_getElem?_getD, List.getElem?_eq_getElem hj]; rfl, (gc.row _ (List.getElem_mem hj)).1⟩

theorem causal_good {l : List Com} (h : LGood l) : Causal l where
  cons := consistent_good h
  wf i hi := (h.coms _ (List.getElem_mem hi)).wf
  irr i hi := by
    have m := List.getElem_mem hi
    cases hs : sees l[i] l[i] with
    | false => rfl
    | true => have := sees_sum h m m hs; omega
  irr' i hi := by
    have m := List.getElem_mem hi
    rw [before_iff h m m, cmpC_lt]
    simp
  tot i j hi hj hij := by
    refine before_not h (List.getElem_mem hi) (List.getElem_mem hj) fun e => ?_
    rcases Nat.lt_or_gt_of_ne hij with hlt | hlt
    · exact (List.pairwise_iff_getElem.1 h.nd i j hi hj hlt) e
    · exact (List.pairwise_iff_getElem.1 h.nd j i hj hi hlt) ⟨e.1.symm, e.2.symm⟩
  see i j hi hj hs := by
    have mi := List.getElem_mem hi
    have mj := List.getElem_mem hj
    have hsum := sees_sum h mi mj hs
    refine ⟨?_, leq_of_le (h.coms _ mj).valid (h.coms _ mi).valid fun t => Int.le_trans (past_le_own (h.coms _ mj) t) (sees_le h mi mj hs t), ?_⟩
    · rw [before_iff h mj mi, cmpC_lt]
      have : ¬ sumW l[j].past = sumW l[i].past := by omega
      simp [this, hsum]
    · cases hs2 : sees l[j] l[i] with
      | false => rfl
      | true => have := sees_sum h mj mi hs2; omega
  trans i j k hi hj hk h1 h2 := by
    have mi := List.getElem_mem hi
    have mj := List.getElem_mem hj
    have mk := List.getElem_mem hk
    rw [sees_iff h mi mk]
    rw [sees_iff h mj mk] at h2
    exact Int.le_trans h2 (Int.le_trans (past_le_own (h.coms _ mj) _) (sees_le h mi mj h1 _))

theorem cutCausal_true {f : SlF} {b : List Nat} (hb : Fits b) (hb8 : ∀ n ∈ b, n < 256) : Cw T false i_l20_CutCausal [bytesV f b] [] [] yes :=
  l20_CutCausal_true hb hb8 (causal_good (headers_lgood b))

end Go.Abs
