/- Closure: what it computes. -/
import Derived.Test.YtaiibojjndeipaaC20V
set_option linter.all false
set_option linter.unusedSimpArgs false
set_option linter.unusedVariables false
set_option maxRecDepth 100000
set_option maxHeartbeats 4000000
namespace Go.Abs
open Go

theorem own_clo {l : List Com} {e : Com} (h : CGood l e) (he : e ∈ l) : Clo l (own e) := by
  intro t q h1 h2
  rw [own_get h] at h2
  have hs := h.seq
  have h0 := h.s0
  by_cases ht : t = e.st.toNat
  · rw [if_pos ht] at h2
    by_cases hq : q = e.seq
    · exact ⟨e, he, by omega, hq.symm, fun _ => Int.le_refl _⟩
    · obtain ⟨c, hc, e1, e2, e3⟩ := h.clo t q h1 (by rw [ht]; omega)
      exact ⟨c, hc, e1, e2, fun u => Int.le_trans (e3 u) (past_le_own h u)⟩
  · rw [if_neg ht] at h2
    obtain ⟨c, hc, e1, e2, e3⟩ := h.clo t q h1 h2
    exact ⟨c, hc, e1, e2, fun u => Int.le_trans (e3 u) (past_le_own h u)⟩

theorem isN_iff {n : Nam} {c : Com} : isN n c = true ↔ c.st = n.st ∧ c.seq = n.seq := by simp [isN]
theorem find_self {l : List Com} (hl : LGood l) {e : Com} (he : e ∈ l) : l.find? (isN e.nam) = some e := by
  cases h : l.find? (isN e.nam) with
  | none =>
    rw [List.find?_eq_none] at h
    exact absurd (by simp [isN, Com.nam]) (h e he)
  | some x =>
    have hx := List.find?_some h
    rw [isN_iff] at hx
    rw [nd_eq hl.nd (List.mem_of_find?_eq_some h) he hx.1 hx.2]

theorem nmap_self {l : List Com} (hl : LGood l) {i : Nat} (hi : i < l.length) : (nmap l).get l[i].nam = some i := by
  rcases nmap_cases l l[i].nam with ⟨_, h⟩ | ⟨j, hj, h1, h2⟩
  · rw [find_self hl (List.getElem_mem hi)] at h; simp at h
  · rw [find_self hl (List.getElem_mem hi)] at h2
    have e := Option.some.inj h2
    rw [h1]
    by_cases hij : i = j
    · rw [hij]
    · exfalso
      have hp := List.pairwise_iff_getElem.1 hl.nd
      rcases Nat.lt_or_gt_of_ne hij with hlt | hlt
      · exact hp i j hi hj hlt ⟨by rw [e], by rw [e]⟩
      · exact hp j i hj hi hlt ⟨by rw [e], by rw [e]⟩

theorem add_ok {f : SlF} {l : List Com} (hf : Fits l) (hl : LGood l) : ∀ N (c : List Int), valid c = true → 6000 - total c < N → ∀ e ∈ l, AddOk f l c e.st.toNat e.seq (maxL c (own e)) := by
  intro N
  induction N with
  | zero => intro c _ h; omega
  | succ N ih =>
    intro c hv hN e he ρ R hρ hR
    obtain ⟨i, hi, rfl⟩ := List.getElem_of_mem he
    have ge := hl.coms _ he
    have hst : ((l[i].st.toNat : Nat) : Int) = l[i].st := by have := ge.s0; omega
    have hget : (nmap l).get ⟨((l[i].st.toNat : Nat) : Int), l[i].seq⟩ = some i := by rw [hst]; exact nmap_self hl hi
    refine add_head hf hv hi ge.wf ge.st6 hget ?_
    have hp : ∀ p, (ρ ++ [AObj.cells false [.int .i64 ((l[i].st.toNat : Nat) : Int), .int .i64 l[i].seq]] ++ [AObj.cells false ((own l[i]).map fun n => AVal.int .i64 n)]).all (AObj.under p) = true := by
      intro p
      simp only [List.all_append, hρ p, List.all_cons, List.all_nil, AObj.under]
      simp (maxSteps := 2000000) only [go_sem, ↓reduceIte, Nat.reduceLT, Nat.reduceEqDiff, Nat.reduceLeDiff, Nat.reduceAdd, Nat.reduceSub, Nat.reduceMul, Int.reduceLT, Int.reduceLE, Int.reduceEq, Int.reduceNeg]
    have v6 := valid_len hv
    have vo := own_valid ge
    refine add_b0 (n := ρ.length + 6) (f := f) hl vo (own_clo ge he) (by simp) hp (fun c => ?_) (ih) hv (by omega) ?_ (x := []) (y := []) 0 (by omega) c ⟨hv, fun _ => Int.le_refl _, le_maxL1 (by rw [v6, valid_len vo])⟩ (fun t h => by omega)
    · simp
    · exact hR _ _

def ownOf (l : List Com) (n : Nam) : List Int := match l.find? (isN n) with
  | some e => own e
  | none => zeros
def cloF (l : List Com) (ns : List Nam) : List Int := ns.foldl (fun c n => maxL c (ownOf l n)) zeros
def Mem (l : List Com) (n : Nam) : Prop := ∃ e ∈ l, e.nam = n

theorem ownOf_mem {l : List Com} (hl : LGood l) {e : Com} (he : e ∈ l) : ownOf l e.nam = own e := by
  unfold ownOf; rw [find_self hl he]

theorem fold_clo {l : List Com} (hl : LGood l) : ∀ (ns : List Nam) (c : List Int), (∀ n ∈ ns, Mem l n) → valid c = true →
    valid (ns.foldl (fun c n => maxL c (ownOf l n)) c) = true ∧ le c (ns.foldl (fun c n => maxL c (ownOf l n)) c) ∧ (∀ n ∈ ns, le (ownOf l n) (ns.foldl (fun c n => maxL c (ownOf l n)) c)) ∧
    ∀ d, valid d = true → le c d → (∀ n ∈ ns, le (ownOf l n) d) → le (ns.foldl (fun c n => maxL c (ownOf l n)) c) d
  | [], c, _, hv => ⟨hv, fun _ => Int.le_refl _, fun n h => by simp at h, fun d _ h _ => h⟩
  | n :: ns, c, hm, hv => by
    obtain ⟨e, he, rfl⟩ := hm n (by simp)
    have vo := own_valid (hl.coms e he)
    have hlen : c.length = (own e).length := by rw [valid_len hv, valid_len vo]
    obtain ⟨h1, h2, h3, h4⟩ := fold_clo hl ns (maxL c (ownOf l e.nam)) (fun n h => hm n (by simp [h])) (by rw [ownOf_mem hl he]; exact valid_maxL hv vo)
    rw [List.foldl_cons]
    rw [ownOf_mem hl he] at h1 h2 h3 h4 ⊢
    refine ⟨h1, fun t => Int.le_trans (le_maxL1 hlen t) (h2 t), fun m hm' => ?_, fun d vd hc hall => h4 d vd (fun t => ?_) fun m hm' => hall m (by simp [hm'])⟩
    · rcases List.mem_cons.1 hm' with rfl | hm'
      · rw [ownOf_mem hl he]; exact fun t => Int.le_trans (le_maxL2 hlen t) (h2 t)
      · exact h3 m hm'
    · rw [getD_maxL hlen]
      have := hall e.nam (by simp)
      rw [ownOf_mem hl he] at this
      have := this t
      have := hc t
      split <;> omega

theorem zeros_valid : valid zeros = true := by decide
structure CloOk (l : List Com) (ns : List Nam) (c : List Int) : Prop where
  v : valid c = true
  has : ∀ n ∈ ns, le (ownOf l n) c
  least : ∀ d, valid d = true → (∀ n ∈ ns, le (ownOf l n) d) → le c d
theorem cloF_ok {l : List Com} (hl : LGood l) {ns : List Nam} (h : ∀ n ∈ ns, Mem l n) : CloOk l ns (cloF l ns) := by
  obtain ⟨h1, h2, h3, h4⟩ := fold_clo hl ns zeros h zeros_valid
  refine ⟨h1, h3, fun d vd hall => h4 d vd (fun t => ?_) hall⟩
  have := ((valid_iff.1 vd).2 t).1
  have hz : zeros.getD t 0 = 0 := by
    rw [List.getD_eq_getElem?_getD]
    match t with
    | 0 | 1 | 2 | 3 | 4 | 5 => rfl
    | t + 6 => rfl
  omega
theorem le_anti {a b : List Int} (ha : valid a = true) (hb : valid b = true) (h1 : le a b) (h2 : le b a) : a = b := ext6 (valid_len ha) (valid_len hb) fun t => by have := h1 t; have := h2 t; omega

theorem clo_append {l : List Com} (hl : LGood l) {m n : List Nam} (hm : ∀ x ∈ m, Mem l x) (hn : ∀ x ∈ n, Mem l x) : maxL (cloF l m) (cloF l n) = cloF l (m ++ n) := by
  have A := cloF_ok hl hm
  have B := cloF_ok hl hn
  have C := cloF_ok hl (ns := m ++ n) (by intro x hx; exact (List.mem_append.1 hx).elim (hm x) (hn x))
  have hlen : (cloF l m).length = (cloF l n).length := by rw [valid_len A.v, valid_len B.v]
  refine le_anti (valid_maxL A.v B.v) C.v (fun t => ?_) (C.least _ (valid_maxL A.v B.v) fun x hx => ?_)
  · have h1 := A.least _ C.v (fun x hx => C.has x (by simp [hx])) t
    have h2 := B.least _ C.v (fun x hx => C.has x (by simp [hx])) t
    rw [getD_maxL hlen]
    split <;> omega
  · rcases List.mem_append.1 hx with h | h
    · exact fun t => Int.le_trans (A.has x h t) (le_maxL1 hlen t)
    · exact fun t => Int.le_trans (B.has x h t) (le_maxL2 hlen t)

theorem clo_clo {l : List Com} (hl : LGood l) {ns : List Nam} (h : ∀ n ∈ ns, Mem l n) : Clo l (cloF l ns) := by
  have key : ∀ (ns : List Nam) (c : List Int), (∀ n ∈ ns, Mem l n) → valid c = true → Clo l c → Clo l (ns.foldl (fun c n => maxL c (ownOf l n)) c) := by
    intro ns
    induction ns with
    | nil => intro c _ _ hc; exact hc
    | cons n ns ih =>
      intro c hm hv hc
      obtain ⟨e, he, rfl⟩ := hm n (by simp)
      have vo := own_valid (hl.coms e he)
      rw [List.foldl_cons]
      refine ih _ (fun n h => hm n (by simp [h])) ?_ ?_
      · rw [ownOf_mem hl he]; exact valid_maxL hv vo
      · rw [ownOf_mem hl he]; exact hc.join (by rw [valid_len hv, valid_len vo]) (own_clo (hl.coms e he) he)
  refine key ns zeros h zeros_valid fun t q h1 h2 => ?_
  have hz : zeros.getD t 0 = 0 := by
    rw [List.getD_eq_getElem?_getD]
    match t with
    | 0 | 1 | 2 | 3 | 4 | 5 => rfl
    | t + 6 => rfl
  omega

/-- in a good list, what is closed by its commits is closed -/
theorem closed_of_clo {l : List Com} (hl : LGood l) {c : List Int} (hv : valid c = true) (h : Clo l c) : closed l c = true := by
  rw [closed_all hv]
  intro s hs j h1 h2
  obtain ⟨e, he, e1, e2, e3⟩ := h s j (by omega) h2
  have hn : (⟨(s : Int), (j : Int)⟩ : Nam) = e.nam := by unfold Com.nam; rw [e1, e2]
  unfold okq
  rw [hn, find_self hl he]
  have ge := hl.coms e he
  simp only [ge.wf, Bool.true_and]
  exact leq_of_le ge.valid hv fun t => Int.le_trans (past_le_own ge t) (e3 t)
theorem clo_of_closed {l : List Com} (hl : LGood l) {c : List Int} (hv : valid c = true) (h : closed l c = true) : Clo l c := by
  intro t q h1 h2
  have ht : t < 6 := by
    by_cases ht : t < 6
    · exact ht
    · have : c.getD t 0 = 0 := by rw [List.getD_eq_getElem?_getD, List.getElem?_eq_none (by rw [valid_len hv]; omega)]; rfl
      omega
  have hk := (closed_all hv).1 h t ht q.toNat (by omega) (by omega)
  have hq : ((q.toNat : Nat) : Int) = q := by omega
  unfold okq at hk
  rw [hq] at hk
  split at hk
  · rename_i e he
    have hx := List.find?_some he
    have hm := List.mem_of_find?_eq_some he
    rw [isN_iff] at hx
    simp only [Bool.and_eq_true] at hk
    have ge := hl.coms e hm
    refine ⟨e, hm, hx.1, hx.2, fun u => ?_⟩
    rw [own_get ge]
    split
    · rename_i hu
      have : u = t := by have h3 : e.st = (t : Int) := hx.1; omega
      rw [this, hx.2]; exact h2
    · exact (leq_iff ge.valid hv).1 hk.2 u
  · simp at hk

theorem has_iff {l : List Com} (hl : LGood l) {c : List Int} (hv : valid c = true) {e : Com} (he : e ∈ l) : has c e.nam = true ↔ e.seq ≤ c.getD e.st.toNat 0 := by
  have ge := hl.coms e he
  have h0 := ge.s0
  have h1 := ge.s3
  have h2 := ge.seq
  have h3 := ge.pst
  have : has c e.nam = true ↔ ((0 ≤ e.st ∧ e.st < 6) ∧ 1 ≤ e.seq) ∧ e.seq ≤ c.getD e.st.toNat 0 := by
    simp only [has, hv, Bool.true_and, Bool.and_eq_true, decide_eq_true_eq]
    exact Iff.rfl
  rw [this]
  exact ⟨fun h => h.2, fun h => ⟨⟨⟨h0, by omega⟩, by omega⟩, h⟩⟩
theorem has_own {l : List Com} (hl : LGood l) {c : List Int} (hv : valid c = true) (hc : Clo l c) {e : Com} (he : e ∈ l) : has c e.nam = true ↔ le (own e) c := by
  rw [has_iff hl hv he]
  have ge := hl.coms e he
  have h2 := ge.seq
  have h3 := ge.pst
  constructor
  · intro h
    obtain ⟨x, hx, e1, e2, e3⟩ := hc e.st.toNat e.seq (by omega) h
    have : x = e := nd_eq hl.nd hx he (by have := ge.s0; omega) e2
    rw [← this]; exact e3
  · intro h
    have := h e.st.toNat
    rw [own_get ge, if_pos rfl] at this
    exact this

/-- the plain law of CutClosures -/
structure Closures (l : List Com) (m n : List Nam) (c : List Int) : Prop where
  va : valid (cloF l m) = true
  vb : valid (cloF l n) = true
  cl : closedP l (cloF l m) = true
  both : maxL (cloF l m) (cloF l n) = cloF l (m ++ n)
  has : ∀ x ∈ m, has (cloF l m) x = true
  leq : leq (cloF l m) c = m.all (Go.Abs.has c)
  all : cloF l ((l.filter fun e => Go.Abs.has c e.nam).map Com.nam) = c

theorem closures_good {l : List Com} (hl : LGood l) {m n : List Nam} (hm : ∀ x ∈ m, Mem l x) (hn : ∀ x ∈ n, Mem l x) {c : List Int} (vc : valid c = true) (cc : closed l c = true) : Closures l m n c := by
  have A := cloF_ok hl hm
  have B := cloF_ok hl hn
  have Cc := clo_of_closed hl vc cc
  refine ⟨A.v, B.v, closedP_of (closed_of_clo hl A.v (clo_clo hl hm)), clo_append hl hm hn, fun x hx => ?_, ?_, ?_⟩
  · obtain ⟨e, he, rfl⟩ := hm x hx
    rw [has_own hl A.v (clo_clo hl hm) he, ← ownOf_mem hl he]
    exact A.has _ hx
  · have : leq (cloF l m) c = true ↔ m.all (Go.Abs.has c) = true := by
      rw [leq_iff A.v vc, List.all_eq_true]
      constructor
      · intro h x hx
        obtain ⟨e, he, rfl⟩ := hm x hx
        rw [has_own hl vc Cc he, ← ownOf_mem hl he]
        exact fun t => Int.le_trans (A.has _ hx t) (h t)
      · intro h
        refine A.least c vc fun x hx => ?_
        obtain ⟨e, he, rfl⟩ := hm x hx
        rw [ownOf_mem hl he, ← has_own hl vc Cc he]
        exact h _ hx
    cases h1 : leq (cloF l m) c <;> cases h2 : m.all (Go.Abs.has c) <;> simp [h1, h2] at this ⊢
  · have hmem : ∀ x ∈ (l.filter fun e => Go.Abs.has c e.nam).map Com.nam, Mem l x := by
      intro x hx
      obtain ⟨e, he, rfl⟩ := List.mem_map.1 hx
      exact ⟨e, (List.mem_filter.1 he).1, rfl⟩
    have D := cloF_ok hl hmem
    refine le_anti D.v vc (D.least c vc fun x hx => ?_) fun t => ?_
    · obtain ⟨e, he, rfl⟩ := List.mem_map.1 hx
      obtain ⟨h1, h2⟩ := List.mem_filter.1 he
      rw [ownOf_mem hl h1]
      exact (has_own hl vc Cc h1).1 h2
    · have h0 := ((valid_iff.1 D.v).2 t).1
      by_cases hq : 1 ≤ c.getD t 0
      · obtain ⟨e, he, e1, e2, e3⟩ := Cc t _ hq (Int.le_refl _)
        have hh := (has_own hl vc Cc he).2 e3
        have := D.has e.nam (List.mem_map.2 ⟨e, List.mem_filter.2 ⟨he, hh⟩, rfl⟩) t
        rw [ownOf_mem hl he, own_get (hl.coms e he), if_pos (by omega), e2] at this
        exact this
      · omega

end Go.Abs
