/- Each operation of the model does what the abstract one says: equality, keys, maps. -/
import Derived.Test.YtaiibojjndeipaaAbsOps3
import Derived.Laws.StructEq
set_option linter.all false
namespace Go.Abs
open Go
section
variable {P : Program} {F : Frz} {L : Lay} {σs : Sto} {w : World}

def eqIdx (d : Nat) (el : TypeId) (n : Nat) (xs ys : Array Value) : List Nat → Sem Bool
  | [] => pure true
  | i :: is => do
    let a ← part el xs (i * n)
    let b ← part el ys (i * n)
    let r ← Op.equalIn d el a b
    if (!r) = true then pure false else eqIdx d el n xs ys is

theorem run_equalIn_array (w : World) (d : Nat) (t : TypeId) (xs ys : Array Value) {len : Nat} {el : TypeId} {n : Nat} (ht : P.underlying t = some (.array len el)) (hn : szOf P el = some n) :
    (Op.equalIn (d + 1) t (.agg xs) (.agg ys)).run P w = (eqIdx d el n xs ys (List.range len)).run P w := by
  simp only [Op.equalIn, Sem.run_bind, run_underlying ht, Result.andThen_ok, run_sizeOf' hn]
  rw [Std.Legacy.Range.forIn_eq_forIn_range']
  simp only [Std.Legacy.Range.size, Nat.sub_zero, Nat.add_sub_cancel, Nat.div_one]
  rw [List.range_eq_range']
  generalize List.range' 0 len 1 = is
  clear ht
  induction is generalizing w with
  | nil => simp [eqIdx]
  | cons i is ih =>
    simp only [List.forIn_cons, eqIdx, Sem.run_bind, Sem.run_ite]
    generalize (part el xs (i * n)).run P w = r1
    cases r1 with
    | ok a w1 =>
      simp only [Result.andThen_ok]
      generalize (part el ys (i * n)).run P w1 = r2
      cases r2 with
      | ok b w2 =>
        simp only [Result.andThen_ok]
        generalize (Op.equalIn d el a b).run P w2 = r3
        cases r3 with
        | ok r w3 =>
          cases r
          · simp only [Result.andThen_ok, Bool.not_false, if_true, Sem.run_pure]
          · simp only [Result.andThen_ok, Bool.not_true, Bool.false_eq_true, if_false, Sem.run_pure]
            exact ih w3
        | halt x w3 => simp [Result.andThen]
      | halt x w2 => simp [Result.andThen]
    | halt x w1 => simp [Result.andThen]

/-- a part, as the comparison takes it -/
theorem run_part' {t : TypeId} {ag : Bool} {n : Nat} (hag : aggT P t = some ag) (hsz : szOf P t = some n) {cs : List AVal} {ca : Array Value} (h : CellsRel F L cs ca.toList) {off : Nat}
    {v : AVal} (hv : (if ag then some (AVal.agg ((cs.drop off).take n)) else cs[off]?) = some v) : ∃ cv, (part t ca off).run P w = .ok cv w ∧ VRel F L v cv := by
  have hl : ca.size = cs.length := by have := h.1; simpa using this
  unfold part
  rw [Sem.run_bind, run_isAgg hag]
  cases ag with
  | true =>
    simp only [if_true] at hv
    obtain rfl := Option.some.inj hv
    refine ⟨.agg (ca.extract off (off + n)), by simp [run_sizeOf' hsz], ?_⟩
    have := CellsRel.agg ((h.drop off).take n)
    have e : ca.extract off (off + n) = ((ca.toList.drop off).take n).toArray := by
      apply Array.ext'
      simp [List.take_drop]
    rw [e]
    exact this
  | false =>
    simp only [Bool.false_eq_true, if_false] at hv
    have hlt := (List.getElem?_eq_some_iff.1 hv).1
    refine ⟨ca.getD off undef, ?_, getD_of_rel h hv⟩
    simp [Array.getD, hl, hlt]

theorem eqA_bool {x y : AVal} {b : Bool} (h : eqA .bool x y = some b) : ∃ a c, x = .bool a ∧ y = .bool c ∧ b = (a == c) := by
  unfold eqA at h; split at h <;> simp_all
theorem eqA_int {k : IntKind} {x y : AVal} {b : Bool} (h : eqA (.int k) x y = some b) : ∃ k' a c, x = .int k' a ∧ y = .int k' c ∧ b = (a == c) := by
  cases x <;> try (simp [eqA] at h; done)
  cases y <;> try (simp [eqA] at h; done)
  simp only [eqA] at h
  split at h
  · rename_i e; subst e
    exact ⟨_, _, _, rfl, rfl, (Option.some.inj h).symm⟩
  · simp at h
theorem eqA_str {x y : AVal} {b : Bool} (h : eqA .str x y = some b) : ∃ a c, x = .str a ∧ y = .str c ∧ b = (a == c) := by
  unfold eqA at h; split at h <;> simp_all
theorem eqA_row {ps : List (Nat × Nat × Bool × Shape)} {x y : AVal} {b : Bool} (h : eqA (.row ps) x y = some b) : ∃ xs ys, x = .agg xs ∧ y = .agg ys ∧ eqParts ps xs ys = some b := by
  unfold eqA at h; split at h <;> simp_all

theorem eq_sound : ∀ (n : Nat) {t : TypeId} {sh : Shape}, shapeOf P n t = some sh → ∀ {d : Nat}, n ≤ d → ∀ {x y : AVal} {cx cy : Value} {b : Bool}, VRel F L x cx → VRel F L y cy →
    eqA sh x y = some b → (Op.equalIn d t cx cy).run P w = .ok b w := by
  intro n
  induction n with
  | zero => intro t sh h; simp [shapeOf] at h
  | succ n ih =>
    intro t sh h d hd x y cx cy b hx hy he
    obtain ⟨d, rfl⟩ : ∃ m, d = m + 1 := ⟨d - 1, by omega⟩
    unfold shapeOf at h
    split at h
    · rename_i hu
      obtain rfl := Option.some.inj h
      obtain ⟨a, c, rfl, rfl, rfl⟩ := eqA_bool he
      cases hx; cases hy
      exact run_equalIn_bool w d t _ _ hu
    · rename_i k hu
      obtain rfl := Option.some.inj h
      obtain ⟨k', a, c, rfl, rfl, rfl⟩ := eqA_int he
      cases hx; cases hy
      exact run_equalIn_int w d t _ _ _ _ hu
    · rename_i hu
      obtain rfl := Option.some.inj h
      obtain ⟨a, c, rfl, rfl, rfl⟩ := eqA_str he
      cases hx; cases hy
      rw [beq_toListBytes]
      exact run_equalIn_string w d t _ _ hu
    · rename_i fields hu
      split at h
      · simp at h
      · rename_i hst
        simp only [Option.map_eq_some_iff] at h
        obtain ⟨ps, hps, rfl⟩ := h
        have he2 := eqA_row he
        clear he
        obtain ⟨xs, ys, rfl, rfl, he⟩ := he2
        obtain ⟨ca, rfl, hca⟩ := CellsRel.ofAgg hx
        obtain ⟨cb, rfl, hcb⟩ := CellsRel.ofAgg hy
        have hfo : P.fieldsOf t = fields := by simp [Program.fieldsOf, hu]
        rw [run_equalIn_struct w d t ca cb (by rw [hfo]; exact hu) (by simpa using hst), hfo]
        clear hu hfo hst
        generalize fields.toList = fs at hps
        induction fs generalizing ps b with
        | nil =>
          simp at hps; subst hps
          simp [eqParts] at he; subst he
          rfl
        | cons f fs ihf =>
          simp only [List.mapM_cons, Option.pure_def, Option.bind_eq_bind, Option.bind_eq_some_iff] at hps
          obtain ⟨p, hp, ps', hps', e⟩ := hps
          obtain rfl := Option.some.inj e
          split at hp
          · simp at hp
          · rename_i hne
            split at hp
            · rename_i i ag sh hi hag hsh
              obtain rfl := Option.some.inj hp
              have hsz : szOf P f.type = some i.size := by simp [szOf, hi]
              simp only [eqParts] at he
              split at he
              · rename_i vx vy hvx hvy
                obtain ⟨ux, h1, h2⟩ := run_part' (P := P) (w := w) hag hsz hca hvx
                obtain ⟨uy, h3, h4⟩ := run_part' (P := P) (w := w) hag hsz hcb hvy
                have hne' : f.name ≠ "_" := by simpa using hne
                simp only [Op.eqFields]
                rw [if_pos hne']
                split at he
                · rename_i hq
                  have := ih hsh (d := d) (by omega) h2 h4 hq
                  simp only [Sem.run_bind, h1, h3, Result.andThen_ok, this]
                  simp only [Bool.not_true, Bool.false_eq_true, if_false]
                  exact ihf _ he hps'
                · rename_i r hnt
                  cases b with
                  | true => exact absurd he hnt
                  | false =>
                    have := ih hsh (d := d) (by omega) h2 h4 he
                    simp only [Sem.run_bind, h1, h3, Result.andThen_ok, this]
                    simp
              · simp at he
            · simp at hp
    · rename_i len el hu
      split at h
      · rename_i i ag sh hi hag hsh
        obtain rfl := Option.some.inj h
        have he2 := eqA_row he
        clear he
        obtain ⟨xs, ys, rfl, rfl, he⟩ := he2
        obtain ⟨ca, rfl, hca⟩ := CellsRel.ofAgg hx
        obtain ⟨cb, rfl, hcb⟩ := CellsRel.ofAgg hy
        have hsz : szOf P el = some i.size := by simp [szOf, hi]
        rw [run_equalIn_array w d t ca cb hu hsz]
        clear hu
        generalize List.range len = is at he
        induction is generalizing b with
        | nil => simp [eqParts] at he; subst he; rfl
        | cons j is ihf =>
          simp only [List.map_cons, eqParts] at he
          split at he
          · rename_i vx vy hvx hvy
            obtain ⟨ux, h1, h2⟩ := run_part' (P := P) (w := w) hag hsz hca hvx
            obtain ⟨uy, h3, h4⟩ := run_part' (P := P) (w := w) hag hsz hcb hvy
            simp only [eqIdx]
            split at he
            · rename_i hq
              have := ih hsh (d := d) (by omega) h2 h4 hq
              simp only [Sem.run_bind, h1, h3, Result.andThen_ok, this]
              simp only [Bool.not_true, Bool.false_eq_true, if_false]
              exact ihf he
            · rename_i r hnt
              cases b with
              | true => exact absurd he hnt
              | false =>
                have := ih hsh (d := d) (by omega) h2 h4 he
                simp only [Sem.run_bind, h1, h3, Result.andThen_ok, this]
                simp
          · simp at he
      · simp at h
    · simp at h

/-! ### Keys -/
def chkIdx (emp : Bool) (d : Nat) (el : TypeId) (n : Nat) (xs : Array Value) : List Nat → Sem Unit
  | [] => pure ()
  | i :: is => do
    Instr.checkKey emp d el (← part el xs (i * n))
    chkIdx emp d el n xs is
def chkFields (emp : Bool) (d : Nat) (xs : Array Value) : List Field → Sem Unit
  | [] => pure ()
  | f :: fs => if f.name ≠ "_" then do
      Instr.checkKey emp d f.type (← part f.type xs f.offset)
      chkFields emp d xs fs
    else chkFields emp d xs fs

theorem run_check_array (w : World) (emp : Bool) (d : Nat) (t : TypeId) (xs : Array Value) {len : Nat} {el : TypeId} {n : Nat} (ht : P.underlying t = some (.array len el)) (hn : szOf P el = some n) :
    (Instr.checkKey emp (d + 1) t (.agg xs)).run P w = (chkIdx emp d el n xs (List.range len)).run P w := by
  simp only [Instr.checkKey, Sem.run_bind, run_underlying ht, Result.andThen_ok]
  rw [Std.Legacy.Range.forIn_eq_forIn_range']
  simp only [Std.Legacy.Range.size, Nat.sub_zero, Nat.add_sub_cancel, Nat.div_one]
  rw [List.range_eq_range']
  generalize List.range' 0 len 1 = is
  clear ht
  induction is generalizing w with
  | nil => simp [chkIdx]
  | cons i is ih =>
    simp only [List.forIn_cons, chkIdx, Sem.run_bind, run_sizeOf' hn, Result.andThen_ok]
    generalize (part el xs (i * n)).run P w = r1
    cases r1 with
    | ok a w1 =>
      simp only [Result.andThen_ok]
      generalize (Instr.checkKey emp d el a).run P w1 = r2
      cases r2 with
      | ok u w2 =>
        simp only [Result.andThen_ok, Sem.run_pure]
        exact ih w2
      | halt x w2 => simp [Result.andThen]
    | halt x w1 => simp [Result.andThen]

theorem run_check_struct (w : World) (emp : Bool) (d : Nat) (t : TypeId) (xs : Array Value) {fields : Array Field} (ht : P.underlying t = some (.struct fields)) :
    (Instr.checkKey emp (d + 1) t (.agg xs)).run P w = (chkFields emp d xs fields.toList).run P w := by
  simp only [Instr.checkKey, Sem.run_bind, run_underlying ht, Result.andThen_ok]
  rw [← Array.forIn_toList]
  generalize fields.toList = fs
  clear ht
  induction fs generalizing w with
  | nil => simp [chkFields]
  | cons f fs ih =>
    simp only [List.forIn_cons, chkFields, Sem.run_bind, Sem.run_ite]
    split
    · generalize (part f.type xs f.offset).run P w = r1
      cases r1 with
      | ok a w1 =>
        simp only [Result.andThen_ok, Sem.run_bind]
        generalize (Instr.checkKey emp d f.type a).run P w1 = r2
        cases r2 with
        | ok u w2 =>
          simp only [Result.andThen_ok, Sem.run_pure]
          exact ih w2
        | halt x w2 => simp [Result.andThen]
      | halt x w1 => simp [Result.andThen]
    · simp only [Sem.run_pure, Result.andThen_ok]
      exact ih w

theorem checkKey_ok : ∀ (n : Nat) {t : TypeId} {sh : Shape}, shapeOf P n t = some sh → ∀ {d : Nat}, n ≤ d → ∀ {x : AVal} {cx : Value} {emp : Bool}, VRel F L x cx →
    eqA sh x x = some true → (Instr.checkKey emp d t cx).run P w = .ok () w := by
  intro n
  induction n with
  | zero => intro t sh h; simp [shapeOf] at h
  | succ n ih =>
    intro t sh h d hd x cx emp hx he
    obtain ⟨d, rfl⟩ : ∃ m, d = m + 1 := ⟨d - 1, by omega⟩
    unfold shapeOf at h
    split at h
    · rename_i hu
      obtain rfl := Option.some.inj h
      obtain ⟨a, c, rfl, _⟩ := eqA_bool he
      cases hx
      simp [Instr.checkKey, run_underlying hu]
    · rename_i k hu
      obtain rfl := Option.some.inj h
      obtain ⟨k', a, c, rfl, _⟩ := eqA_int he
      cases hx
      simp [Instr.checkKey, run_underlying hu]
    · rename_i hu
      obtain rfl := Option.some.inj h
      obtain ⟨a, c, rfl, _⟩ := eqA_str he
      cases hx
      simp [Instr.checkKey, run_underlying hu]
    · rename_i fields hu
      split at h
      · simp at h
      · simp only [Option.map_eq_some_iff] at h
        obtain ⟨ps, hps, rfl⟩ := h
        have he2 := eqA_row he
        clear he
        obtain ⟨xs, ys, rfl, e2, he⟩ := he2
        injection e2 with e2; subst e2
        obtain ⟨ca, rfl, hca⟩ := CellsRel.ofAgg hx
        rw [run_check_struct w emp d t ca hu]
        clear hu
        generalize fields.toList = fs at hps
        induction fs generalizing ps with
        | nil => simp [chkFields]
        | cons f fs ihf =>
          simp only [List.mapM_cons, Option.pure_def, Option.bind_eq_bind, Option.bind_eq_some_iff] at hps
          obtain ⟨p, hp, ps', hps', e⟩ := hps
          obtain rfl := Option.some.inj e
          split at hp
          · simp at hp
          · rename_i hne
            split at hp
            · rename_i i ag sh hi hag hsh
              obtain rfl := Option.some.inj hp
              have hsz : szOf P f.type = some i.size := by simp [szOf, hi]
              simp only [eqParts] at he
              split at he
              · rename_i vx vy hvx hvy
                rw [hvx] at hvy
                obtain rfl := Option.some.inj hvy
                obtain ⟨ux, h1, h2⟩ := run_part' (P := P) (w := w) hag hsz hca hvx
                have hne' : f.name ≠ "_" := by simpa using hne
                simp only [chkFields]
                rw [if_pos hne']
                split at he
                · rename_i hq
                  have := ih hsh (d := d) (by omega) (emp := emp) h2 hq
                  simp only [Sem.run_bind, h1, Result.andThen_ok, this]
                  exact ihf _ he hps'
                · rename_i r hnt
                  exact absurd he hnt
              · simp at he
            · simp at hp
    · rename_i len el hu
      split at h
      · rename_i i ag sh hi hag hsh
        obtain rfl := Option.some.inj h
        have he2 := eqA_row he
        clear he
        obtain ⟨xs, ys, rfl, e2, he⟩ := he2
        injection e2 with e2; subst e2
        obtain ⟨ca, rfl, hca⟩ := CellsRel.ofAgg hx
        have hsz : szOf P el = some i.size := by simp [szOf, hi]
        rw [run_check_array w emp d t ca hu hsz]
        clear hu h
        generalize List.range len = is at he
        induction is with
        | nil => simp [chkIdx]
        | cons j is ihf =>
          simp only [List.map_cons, eqParts] at he
          split at he
          · rename_i vx vy hvx hvy
            rw [hvx] at hvy
            obtain rfl := Option.some.inj hvy
            obtain ⟨ux, h1, h2⟩ := run_part' (P := P) (w := w) hag hsz hca hvx
            simp only [chkIdx]
            split at he
            · rename_i hq
              have := ih hsh (d := d) (by omega) (emp := emp) h2 hq
              simp only [Sem.run_bind, h1, Result.andThen_ok, this]
              exact ihf he
            · rename_i r hnt
              exact absurd he hnt
          · simp at he
      · simp at h
    · simp at h

def FoundAt (es : List MapEntry) (i : Nat) (out : Option (Nat × Value)) : Option Nat → Prop
  | none => out = none
  | some j => i ≤ j ∧ ∃ m, es[j - i]? = some m ∧ out = some (j, m.val)

theorem findAsking_sound {kt : TypeId} {sh : Shape} (hsh : shapeOf P 20 kt = some sh) {k : AVal} {ck : Value} (hk : VRel F L k ck) : ∀ {ks : List AVal} {es : List MapEntry} {i : Nat} {r : Option Nat},
    es.length = ks.length → (∀ (j : Nat) c, ks[j]? = some c → ∃ m, es[j]? = some m ∧ VRel F L c m.key) → findA sh k ks i = some r →
    ∃ out, (Instr.findAsking kt ck es i).run P w = .ok out w ∧ FoundAt es i out r
  | [], [], i, r, _, _, h => by simp [findA] at h; subst h; exact ⟨none, by simp [Instr.findAsking], rfl⟩
  | [], _ :: _, i, r, hl, _, _ => by simp at hl
  | x :: ks, [], i, r, hl, _, _ => by simp at hl
  | x :: ks, m :: es, i, r, hl, hr, h => by
    obtain ⟨m', hm, hv⟩ := hr 0 x rfl
    simp at hm; subst hm
    simp only [findA] at h
    split at h
    · rename_i hq
      obtain rfl := Option.some.inj h
      have := eq_sound (P := P) (w := w) 20 hsh (d := 10000) (by omega) hk hv hq
      exact ⟨some (i, m.val), by simp [Instr.findAsking, Op.equal, Op.maxDepth, this], Nat.le_refl _, m, by simp, rfl⟩
    · rename_i hq
      have := eq_sound (P := P) (w := w) 20 hsh (d := 10000) (by omega) hk hv hq
      obtain ⟨out, h1, h2⟩ := findAsking_sound hsh hk (ks := ks) (es := es) (by simpa using hl) (fun j c hc => hr (j + 1) c (by simpa using hc)) h
      refine ⟨out, by simp [Instr.findAsking, Op.equal, Op.maxDepth, this, h1], ?_⟩
      cases r with
      | none => exact h2
      | some j =>
        obtain ⟨h3, m2, h4, h5⟩ := h2
        exact ⟨by omega, m2, by rw [show j - i = (j - (i + 1)) + 1 by omega]; simpa using h4, h5⟩
    · simp at h

theorem findNow_sound {sh : Shape} {d : TypeDesc} (hd : (d = .bool ∧ sh = .bool) ∨ (∃ k, d = .int k ∧ sh = .int k) ∨ (d = .string ∧ sh = .str)) {k : AVal} {ck : Value} (hk : VRel F L k ck) : ∀ {ks : List AVal} {es : List MapEntry} {i : Nat} {r : Option Nat},
    es.length = ks.length → (∀ (j : Nat) c, ks[j]? = some c → ∃ m, es[j]? = some m ∧ VRel F L c m.key) → findA sh k ks i = some r →
    ∃ out, Instr.findNow d ck es i = some out ∧ FoundAt es i out r
  | [], [], i, r, _, _, h => by simp [findA] at h; subst h; exact ⟨none, rfl, rfl⟩
  | [], _ :: _, i, r, hl, _, _ => by simp at hl
  | x :: ks, [], i, r, hl, _, _ => by simp at hl
  | x :: ks, m :: es, i, r, hl, hr, h => by
    obtain ⟨m', hm, hv⟩ := hr 0 x rfl
    simp at hm; subst hm
    have hnow : ∀ b, eqA sh k x = some b → Instr.sameNow d ck m.key = some b := by
      intro b hb
      rcases hd with ⟨rfl, rfl⟩ | ⟨q, rfl, rfl⟩ | ⟨rfl, rfl⟩
      · obtain ⟨a, c, rfl, rfl, rfl⟩ := eqA_bool hb
        cases hk
        generalize m.key = mk at hv
        cases hv; rfl
      · obtain ⟨k', a, c, rfl, rfl, rfl⟩ := eqA_int hb
        cases hk
        generalize m.key = mk at hv
        cases hv; simp [Instr.sameNow]
      · obtain ⟨a, c, rfl, rfl, rfl⟩ := eqA_str hb
        cases hk
        generalize m.key = mk at hv
        cases hv; rfl
    simp only [findA] at h
    split at h
    · rename_i hq
      obtain rfl := Option.some.inj h
      exact ⟨some (i, m.val), by simp [Instr.findNow, hnow _ hq], Nat.le_refl _, m, by simp, rfl⟩
    · rename_i hq
      obtain ⟨out, h1, h2⟩ := findNow_sound hd hk (ks := ks) (es := es) (by simpa using hl) (fun j c hc => hr (j + 1) c (by simpa using hc)) h
      refine ⟨out, by simp [Instr.findNow, hnow _ hq, h1], ?_⟩
      cases r with
      | none => exact h2
      | some j =>
        obtain ⟨h3, m2, h4, h5⟩ := h2
        exact ⟨by omega, m2, by rw [show j - i = (j - (i + 1)) + 1 by omega]; simpa using h4, h5⟩
    · simp at h

theorem find_sound {kt : TypeId} {sh : Shape} (hsh : shapeOf P 20 kt = some sh) {k : AVal} {ck : Value} (hk : VRel F L k ck) {ks : List AVal} {es : List MapEntry} {r : Option Nat}
    (hl : es.length = ks.length) (hr : ∀ (j : Nat) c, ks[j]? = some c → ∃ m, es[j]? = some m ∧ VRel F L c m.key) (h : findA sh k ks 0 = some r) (hkk : eqA sh k k = some true) :
    ∃ out, (Instr.findKey kt ck es).run P w = .ok out w ∧ FoundAt es 0 out r := by
  have hs := hsh
  unfold shapeOf at hs
  split at hs
  · rename_i hu
    obtain rfl := Option.some.inj hs
    obtain ⟨out, h1, h2⟩ := findNow_sound (.inl ⟨rfl, rfl⟩) hk hl hr h
    exact ⟨out, by simp [Instr.findKey, run_underlying hu, h1], h2⟩
  · rename_i q hu
    obtain rfl := Option.some.inj hs
    obtain ⟨out, h1, h2⟩ := findNow_sound (.inr (.inl ⟨q, rfl, rfl⟩)) hk hl hr h
    exact ⟨out, by simp [Instr.findKey, run_underlying hu, h1], h2⟩
  · rename_i hu
    obtain rfl := Option.some.inj hs
    obtain ⟨out, h1, h2⟩ := findNow_sound (.inr (.inr ⟨rfl, rfl⟩)) hk hl hr h
    exact ⟨out, by simp [Instr.findKey, run_underlying hu, h1], h2⟩
  all_goals
    try (simp at hs; done)
  all_goals
    rename_i hu
    have hrow : ∃ ps, sh = .row ps := by
      split at hs
      all_goals first
        | (simp at hs; done)
        | (simp only [Option.map_eq_some_iff] at hs; obtain ⟨ps, _, rfl⟩ := hs; exact ⟨_, rfl⟩)
        | exact ⟨_, (Option.some.inj hs).symm⟩
    obtain ⟨ps, rfl⟩ := hrow
    obtain ⟨xs, ys, rfl, _, _⟩ := eqA_row hkk
    cases es with
    | nil =>
      obtain rfl : ks = [] := by cases ks with
        | nil => rfl
        | cons _ _ => simp at hl
      simp [findA] at h; subst h
      exact ⟨none, by simp [Instr.findKey, run_underlying hu, Instr.findNow], rfl⟩
    | cons m es =>
      obtain ⟨out, h1, h2⟩ := findAsking_sound (P := P) (w := w) hsh hk hl hr h
      refine ⟨out, ?_, h2⟩
      obtain ⟨ca, rfl, _⟩ := CellsRel.ofAgg hk
      simp [Instr.findKey, run_underlying hu, Instr.findNow, Instr.sameNow, h1]

theorem eqs_sound {neg : Bool} {op : BinOp} (hop : (op = .eql ∧ neg = false) ∨ (op = .neq ∧ neg = true)) {t : TypeId} {sh : Shape} (hsh : shapeOf P 20 t = some sh)
    (hu : P.underlying t = some .bool ∨ (∃ f, P.underlying t = some (.struct f)) ∨ ∃ l e, P.underlying t = some (.array l e)) (hg : P.eqGuardType P.depth t = false)
    {x y : AVal} {cx cy : Value} {ox oy : Operand} {b : Bool} (hx : VRel F L x cx) (hy : VRel F L y cy) (he : eqA sh x y = some b) :
    (do eqGuard op t ox oy cx cy; binOp op t cx cy : Sem Value).run P w = .ok (.bool (if neg then !b else b)) w := by
  have heq := eq_sound (P := P) (w := w) 20 hsh (d := 10000) (by omega) hx hy he
  have hform : (∃ a c, cx = .bool a ∧ cy = .bool c) ∨ ∃ a c, cx = .agg a ∧ cy = .agg c := by
    have hk : sh = .bool ∨ ∃ ps, sh = .row ps := by
      unfold shapeOf at hsh
      rcases hu with hu | ⟨f, hu⟩ | ⟨l, e, hu⟩ <;> rw [hu] at hsh <;> simp only at hsh
      · exact .inl (Option.some.inj hsh).symm
      · split at hsh
        · simp at hsh
        · simp only [Option.map_eq_some_iff] at hsh; obtain ⟨ps, _, rfl⟩ := hsh; exact .inr ⟨_, rfl⟩
      · split at hsh
        · exact .inr ⟨_, (Option.some.inj hsh).symm⟩
        · simp at hsh
    rcases hk with rfl | ⟨ps, rfl⟩
    · obtain ⟨a, c, rfl, rfl, rfl⟩ := eqA_bool he
      cases hx; cases hy; exact .inl ⟨_, _, rfl, rfl⟩
    · obtain ⟨a, c, rfl, rfl, _⟩ := eqA_row he
      cases hx; cases hy; exact .inr ⟨_, _, rfl, rfl⟩
  rcases hform with ⟨a, c, rfl, rfl⟩ | ⟨a, c, rfl, rfl⟩
  · rcases hop with ⟨rfl, rfl⟩ | ⟨rfl, rfl⟩
    · simp [eqGuard_at_bool, binOp, Op.equal, Op.maxDepth, heq]
    · simp [eqGuard_at_bool, binOp, Op.equal, Op.maxDepth, heq]
  · rcases hop with ⟨rfl, rfl⟩ | ⟨rfl, rfl⟩
    · rw [Sem.run_bind, run_eqGuard_agg _ _ _ _ _ _ _ hg, Result.andThen_ok, run_eql_struct, heq]; rfl
    · rw [Sem.run_bind, run_eqGuard_agg _ _ _ _ _ _ _ hg, Result.andThen_ok, run_neq_struct, heq]; rfl

end
end Go.Abs
