/- Parts of the proof: AbsOps4, AbsOps5, AbsOps6. -/
import Derived.Test.YtdiekiajedmaeaaJAbsRel
import Derived.Laws.StructEq
set_option linter.all false
/- Each operation of the model does what the abstract one says: equality, keys, maps. -/
namespace Go.Abs
open Go
variable [Inhabited Glob] [Lps]
section
variable {P : Program} {F : Frz} {L : Lay} {σs : Sto} {w : World}

def Zjk (d : Nat) (el : TypeId) (n : Nat) (xs ys : Array Value) : List Nat → Sem Bool
 | [] => pure true
 | i :: is => do
  let a ← part el xs (i * n)
  let b ← part el ys (i * n)
  let r ← Op.equalIn d el a b
  if (!r) = true then pure false else Zjk d el n xs ys is

theorem ZeM (w : World) (d : Nat) (t : TypeId) (xs ys : Array Value) {len : Nat} {el : TypeId} {n : Nat} (ht : P.underlying t = some (.array len el)) (hn : Z1 P el = some n) :
  (Op.equalIn (d + 1) t (.agg xs) (.agg ys)).run P w = (Zjk d el n xs ys (List.range len)).run P w := by
 simp only [Op.equalIn, Sem.run_bind, run_underlying ht, Result.andThen_ok, Zx hn]
 rw [Std.Legacy.Range.forIn_eq_forIn_range']
 simp only [Std.Legacy.Range.size, Nat.sub_zero, Nat.add_sub_cancel, Nat.div_one]
 rw [List.range_eq_range']
 generalize List.range' 0 len 1 = is
 clear ht
 induction is generalizing w with
 | nil => simp [Zjk]
 | cons i is ih =>
  simp only [List.forIn_cons, Zjk, Sem.run_bind, Sem.run_ite]
  generalize (part el xs (i * n)).run P w = r1
  cases r1 with
  | ok a w1 =>
   simp only [Result.andThen_ok]
   generalize (part el ys (i * n)).run P w1 = r2
   cases r2 with
   | ok b w2 =>
    simp only [Result.andThen_ok]
    generalize (Op.equalIn d el a b).run P w2 = r3
    cases r3 with
    | ok r w3 =>
     cases r
     ·simp only [Result.andThen_ok, Bool.not_false, if_true, Sem.run_pure]
     ·simp only [Result.andThen_ok, Bool.not_true, Bool.false_eq_true, if_false, Sem.run_pure]
      exact ih w3
    | halt x w3 => simp [Result.andThen]
   | halt x w2 => simp [Result.andThen]
  | halt x w1 => simp [Result.andThen]

theorem Zce {t : TypeId} {ag : Bool} {n : Nat} (hag : ZdX P t = some ag) (hsz : Z1 P t = some n) {cs : List AVal} {ca : Array Value} (h : Ze F L cs ca.toList) {off : Nat}
  {v : AVal} (hv : (if ag then some (AVal.agg ((cs.drop off).take n)) else cs[off]?) = some v) : ∃ cv, (part t ca off).run P w = .ok cv w ∧ VRel F L v cv := by
 have hl : ca.size = cs.length := by have := h.1; simpa using this
 unfold part
 rw [Sem.run_bind, Zft hag]
 cases ag with
 | true =>
  simp only [if_true] at hv
  obtain rfl := Option.some.inj hv
  refine ⟨.agg (ca.extract off (off + n)), by simp [Zx hsz], ?_⟩
  have := Ze.agg ((h.drop off).take n)
  have e : ca.extract off (off + n) = ((ca.toList.drop off).take n).toArray := by
   apply Array.ext'
   simp [List.take_drop]
  rw [e]
  exact this
 | false =>
  simp only [Bool.false_eq_true, if_false] at hv
  have hlt := (List.getElem?_eq_some_iff.1 hv).1
  refine ⟨ca.getD off undef, ?_, Zbo h hv⟩
  simp [Array.getD, hl, hlt]

theorem ZeN {x y : AVal} {b : Bool} (h : eqA .bool x y = some b) : ∃ a c, x = .bool a ∧ y = .bool c ∧ b = (a == c) := by
 unfold eqA at h; split at h <;> simp_all
theorem Zis {k : IntKind} {x y : AVal} {b : Bool} (h : eqA (.int k) x y = some b) : ∃ k' a c, x = .int k' a ∧ y = .int k' c ∧ b = (a == c) := by
 cases x <;> try (simp [eqA] at h; done)
 cases y <;> try (simp [eqA] at h; done)
 simp only [eqA] at h
 split at h
 ·rename_i e; subst e
  exact ⟨_, _, _, rfl, rfl, (Option.some.inj h).symm⟩
 ·simp at h
theorem Zit {x y : AVal} {b : Bool} (h : eqA .str x y = some b) : ∃ a c, x = .str a ∧ y = .str c ∧ b = (a == c) := by
 unfold eqA at h; split at h <;> simp_all
theorem ZdQ {ps : List (Nat × Nat × Bool × Shape)} {x y : AVal} {b : Bool} (h : eqA (.row ps) x y = some b) : ∃ xs ys, x = .agg xs ∧ y = .agg ys ∧ eqParts ps xs ys = some b := by
 unfold eqA at h; split at h <;> simp_all

theorem Zgy : ∀ (n : Nat) {t : TypeId} {sh : Shape}, Z5 P n t = some sh → ∀ {d : Nat}, n ≤ d → ∀ {x y : AVal} {cx cy : Value} {b : Bool}, VRel F L x cx → VRel F L y cy →
  eqA sh x y = some b → (Op.equalIn d t cx cy).run P w = .ok b w := by
 intro n
 induction n with
 | zero => intro t sh h; simp [Z5] at h
 | succ n ih =>
  intro t sh h d hd x y cx cy b hx hy he
  obtain ⟨d, rfl⟩ : ∃ m, d = m + 1 := ⟨d - 1, by omega⟩
  unfold Z5 at h
  split at h
  ·rename_i hu
   obtain rfl := Option.some.inj h
   obtain ⟨a, c, rfl, rfl, rfl⟩ := ZeN he
   cases hx; cases hy
   exact run_equalIn_bool w d t _ _ hu
  ·rename_i k hu
   obtain rfl := Option.some.inj h
   obtain ⟨k', a, c, rfl, rfl, rfl⟩ := Zis he
   cases hx; cases hy
   exact run_equalIn_int w d t _ _ _ _ hu
  ·rename_i hu
   obtain rfl := Option.some.inj h
   obtain ⟨a, c, rfl, rfl, rfl⟩ := Zit he
   cases hx; cases hy
   rw [beq_toListBytes]
   exact run_equalIn_string w d t _ _ hu
  ·rename_i fields hu
   split at h
   ·simp at h
   ·rename_i hst
    simp only [Option.map_eq_some_iff] at h
    obtain ⟨ps, hps, rfl⟩ := h
    have he2 := ZdQ he
    clear he
    obtain ⟨xs, ys, rfl, rfl, he⟩ := he2
    obtain ⟨ca, rfl, hca⟩ := Ze.ofAgg hx
    obtain ⟨cb, rfl, hcb⟩ := Ze.ofAgg hy
    have hfo : P.fieldsOf t = fields := by simp [Program.fieldsOf, hu]
    rw [run_equalIn_struct w d t ca cb (by rw [hfo]; exact hu) (by simpa using hst), hfo]
    clear hu hfo hst
    generalize fields.toList = fs at hps
    induction fs generalizing ps b with
    | nil =>
     simp at hps; subst hps
     simp [eqParts] at he; subst he
     rfl
    | cons f fs ihf =>
     simp only [List.mapM_cons, Option.pure_def, Option.bind_eq_bind, Option.bind_eq_some_iff] at hps
     obtain ⟨p, hp, ps', hps', e⟩ := hps
     obtain rfl := Option.some.inj e
     split at hp
     ·simp at hp
     ·rename_i hne
      split at hp
      ·rename_i i ag sh hi hag hsh
       obtain rfl := Option.some.inj hp
       have hsz : Z1 P f.type = some i.size := by simp [Z1, hi]
       simp only [eqParts] at he
       split at he
       ·rename_i vx vy hvx hvy
        obtain ⟨ux, h1, h2⟩ := Zce (P := P) (w := w) hag hsz hca hvx
        obtain ⟨uy, h3, h4⟩ := Zce (P := P) (w := w) hag hsz hcb hvy
        have hne' : f.name ≠ "_" := by simpa using hne
        simp only [Op.eqFields]
        rw [if_pos hne']
        split at he
        ·rename_i hq
         have := ih hsh (d := d) (by omega) h2 h4 hq
         simp only [Sem.run_bind, h1, h3, Result.andThen_ok, this]
         simp only [Bool.not_true, Bool.false_eq_true, if_false]
         exact ihf _ he hps'
        ·rename_i r hnt
         cases b with
         | true => exact absurd he hnt
         | false =>
          have := ih hsh (d := d) (by omega) h2 h4 he
          simp only [Sem.run_bind, h1, h3, Result.andThen_ok, this]
          simp
       ·simp at he
      ·simp at hp
  ·rename_i len el hu
   split at h
   ·rename_i i ag sh hi hag hsh
    obtain rfl := Option.some.inj h
    have he2 := ZdQ he
    clear he
    obtain ⟨xs, ys, rfl, rfl, he⟩ := he2
    obtain ⟨ca, rfl, hca⟩ := Ze.ofAgg hx
    obtain ⟨cb, rfl, hcb⟩ := Ze.ofAgg hy
    have hsz : Z1 P el = some i.size := by simp [Z1, hi]
    rw [ZeM w d t ca cb hu hsz]
    clear hu
    generalize List.range len = is at he
    induction is generalizing b with
    | nil => simp [eqParts] at he; subst he; rfl
    | cons j is ihf =>
     simp only [List.map_cons, eqParts] at he
     split at he
     ·rename_i vx vy hvx hvy
      obtain ⟨ux, h1, h2⟩ := Zce (P := P) (w := w) hag hsz hca hvx
      obtain ⟨uy, h3, h4⟩ := Zce (P := P) (w := w) hag hsz hcb hvy
      simp only [Zjk]
      split at he
      ·rename_i hq
       have := ih hsh (d := d) (by omega) h2 h4 hq
       simp only [Sem.run_bind, h1, h3, Result.andThen_ok, this]
       simp only [Bool.not_true, Bool.false_eq_true, if_false]
       exact ihf he
      ·rename_i r hnt
       cases b with
       | true => exact absurd he hnt
       | false =>
        have := ih hsh (d := d) (by omega) h2 h4 he
        simp only [Sem.run_bind, h1, h3, Result.andThen_ok, this]
        simp
     ·simp at he
   ·simp at h
  ·simp at h

def Zfr (emp : Bool) (d : Nat) (el : TypeId) (n : Nat) (xs : Array Value) : List Nat → Sem Unit
 | [] => pure ()
 | i :: is => do
  Instr.checkKey emp d el (← part el xs (i * n))
  Zfr emp d el n xs is
def ZbK (emp : Bool) (d : Nat) (xs : Array Value) : List Field → Sem Unit
 | [] => pure ()
 | f :: fs => if f.name ≠ "_" then do
   Instr.checkKey emp d f.type (← part f.type xs f.offset)
   ZbK emp d xs fs
  else ZbK emp d xs fs

theorem Zf1 (w : World) (emp : Bool) (d : Nat) (t : TypeId) (xs : Array Value) {len : Nat} {el : TypeId} {n : Nat} (ht : P.underlying t = some (.array len el)) (hn : Z1 P el = some n) :
  (Instr.checkKey emp (d + 1) t (.agg xs)).run P w = (Zfr emp d el n xs (List.range len)).run P w := by
 simp only [Instr.checkKey, Sem.run_bind, run_underlying ht, Result.andThen_ok]
 rw [Std.Legacy.Range.forIn_eq_forIn_range']
 simp only [Std.Legacy.Range.size, Nat.sub_zero, Nat.add_sub_cancel, Nat.div_one]
 rw [List.range_eq_range']
 generalize List.range' 0 len 1 = is
 clear ht
 induction is generalizing w with
 | nil => simp [Zfr]
 | cons i is ih =>
  simp only [List.forIn_cons, Zfr, Sem.run_bind, Zx hn, Result.andThen_ok]
  generalize (part el xs (i * n)).run P w = r1
  cases r1 with
  | ok a w1 =>
   simp only [Result.andThen_ok]
   generalize (Instr.checkKey emp d el a).run P w1 = r2
   cases r2 with
   | ok u w2 =>
    simp only [Result.andThen_ok, Sem.run_pure]
    exact ih w2
   | halt x w2 => simp [Result.andThen]
  | halt x w1 => simp [Result.andThen]

theorem Zfs (w : World) (emp : Bool) (d : Nat) (t : TypeId) (xs : Array Value) {fields : Array Field} (ht : P.underlying t = some (.struct fields)) :
  (Instr.checkKey emp (d + 1) t (.agg xs)).run P w = (ZbK emp d xs fields.toList).run P w := by
 simp only [Instr.checkKey, Sem.run_bind, run_underlying ht, Result.andThen_ok]
 rw [← Array.forIn_toList]
 generalize fields.toList = fs
 clear ht
 induction fs generalizing w with
 | nil => simp [ZbK]
 | cons f fs ih =>
  simp only [List.forIn_cons, ZbK, Sem.run_bind, Sem.run_ite]
  split
  ·generalize (part f.type xs f.offset).run P w = r1
   cases r1 with
   | ok a w1 =>
    simp only [Result.andThen_ok, Sem.run_bind]
    generalize (Instr.checkKey emp d f.type a).run P w1 = r2
    cases r2 with
    | ok u w2 =>
     simp only [Result.andThen_ok, Sem.run_pure]
     exact ih w2
    | halt x w2 => simp [Result.andThen]
   | halt x w1 => simp [Result.andThen]
  ·simp only [Sem.run_pure, Result.andThen_ok]
   exact ih w

theorem Zcu : ∀ (n : Nat) {t : TypeId} {sh : Shape}, Z5 P n t = some sh → ∀ {d : Nat}, n ≤ d → ∀ {x : AVal} {cx : Value} {emp : Bool}, VRel F L x cx →
  eqA sh x x = some true → (Instr.checkKey emp d t cx).run P w = .ok () w := by
 intro n
 induction n with
 | zero => intro t sh h; simp [Z5] at h
 | succ n ih =>
  intro t sh h d hd x cx emp hx he
  obtain ⟨d, rfl⟩ : ∃ m, d = m + 1 := ⟨d - 1, by omega⟩
  unfold Z5 at h
  split at h
  ·rename_i hu
   obtain rfl := Option.some.inj h
   obtain ⟨a, c, rfl, _⟩ := ZeN he
   cases hx
   simp [Instr.checkKey, run_underlying hu]
  ·rename_i k hu
   obtain rfl := Option.some.inj h
   obtain ⟨k', a, c, rfl, _⟩ := Zis he
   cases hx
   simp [Instr.checkKey, run_underlying hu]
  ·rename_i hu
   obtain rfl := Option.some.inj h
   obtain ⟨a, c, rfl, _⟩ := Zit he
   cases hx
   simp [Instr.checkKey, run_underlying hu]
  ·rename_i fields hu
   split at h
   ·simp at h
   ·simp only [Option.map_eq_some_iff] at h
    obtain ⟨ps, hps, rfl⟩ := h
    have he2 := ZdQ he
    clear he
    obtain ⟨xs, ys, rfl, e2, he⟩ := he2
    injection e2 with e2; subst e2
    obtain ⟨ca, rfl, hca⟩ := Ze.ofAgg hx
    rw [Zfs w emp d t ca hu]
    clear hu
    generalize fields.toList = fs at hps
    induction fs generalizing ps with
    | nil => simp [ZbK]
    | cons f fs ihf =>
     simp only [List.mapM_cons, Option.pure_def, Option.bind_eq_bind, Option.bind_eq_some_iff] at hps
     obtain ⟨p, hp, ps', hps', e⟩ := hps
     obtain rfl := Option.some.inj e
     split at hp
     ·simp at hp
     ·rename_i hne
      split at hp
      ·rename_i i ag sh hi hag hsh
       obtain rfl := Option.some.inj hp
       have hsz : Z1 P f.type = some i.size := by simp [Z1, hi]
       simp only [eqParts] at he
       split at he
       ·rename_i vx vy hvx hvy
        rw [hvx] at hvy
        obtain rfl := Option.some.inj hvy
        obtain ⟨ux, h1, h2⟩ := Zce (P := P) (w := w) hag hsz hca hvx
        have hne' : f.name ≠ "_" := by simpa using hne
        simp only [ZbK]
        rw [if_pos hne']
        split at he
        ·rename_i hq
         have := ih hsh (d := d) (by omega) (emp := emp) h2 hq
         simp only [Sem.run_bind, h1, Result.andThen_ok, this]
         exact ihf _ he hps'
        ·rename_i r hnt
         exact absurd he hnt
       ·simp at he
      ·simp at hp
  ·rename_i len el hu
   split at h
   ·rename_i i ag sh hi hag hsh
    obtain rfl := Option.some.inj h
    have he2 := ZdQ he
    clear he
    obtain ⟨xs, ys, rfl, e2, he⟩ := he2
    injection e2 with e2; subst e2
    obtain ⟨ca, rfl, hca⟩ := Ze.ofAgg hx
    have hsz : Z1 P el = some i.size := by simp [Z1, hi]
    rw [Zf1 w emp d t ca hu hsz]
    clear hu h
    generalize List.range len = is at he
    induction is with
    | nil => simp [Zfr]
    | cons j is ihf =>
     simp only [List.map_cons, eqParts] at he
     split at he
     ·rename_i vx vy hvx hvy
      rw [hvx] at hvy
      obtain rfl := Option.some.inj hvy
      obtain ⟨ux, h1, h2⟩ := Zce (P := P) (w := w) hag hsz hca hvx
      simp only [Zfr]
      split at he
      ·rename_i hq
       have := ih hsh (d := d) (by omega) (emp := emp) h2 hq
       simp only [Sem.run_bind, h1, Result.andThen_ok, this]
       exact ihf he
      ·rename_i r hnt
       exact absurd he hnt
     ·simp at he
   ·simp at h
  ·simp at h

def Zc8 (es : List MapEntry) (i : Nat) (out : Option (Nat × Value)) : Option Nat → Prop
 | none => out = none
 | some j => i ≤ j ∧ ∃ m, es[j - i]? = some m ∧ out = some (j, m.val)

theorem ZcN {kt : TypeId} {sh : Shape} (hsh : Z5 P 20 kt = some sh) {k : AVal} {ck : Value} (hk : VRel F L k ck) : ∀ {ks : List AVal} {es : List MapEntry} {i : Nat} {r : Option Nat},
  es.length = ks.length → (∀ (j : Nat) c, ks[j]? = some c → ∃ m, es[j]? = some m ∧ VRel F L c m.key) → Zbm sh k ks i = some r →
  ∃ out, (Instr.findAsking kt ck es i).run P w = .ok out w ∧ Zc8 es i out r
 | [], [], i, r, _, _, h => by simp [Zbm] at h; subst h; exact ⟨none, by simp [Instr.findAsking], rfl⟩
 | [], _ :: _, i, r, hl, _, _ => by simp at hl
 | x :: ks, [], i, r, hl, _, _ => by simp at hl
 | x :: ks, m :: es, i, r, hl, hr, h => by
  obtain ⟨m', hm, hv⟩ := hr 0 x rfl
  simp at hm; subst hm
  simp only [Zbm] at h
  split at h
  ·rename_i hq
   obtain rfl := Option.some.inj h
   have := Zgy (P := P) (w := w) 20 hsh (d := 10000) (by omega) hk hv hq
   exact ⟨some (i, m.val), by simp [Instr.findAsking, Op.equal, Op.maxDepth, this], Nat.le_refl _, m, by simp, rfl⟩
  ·rename_i hq
   have := Zgy (P := P) (w := w) 20 hsh (d := 10000) (by omega) hk hv hq
   obtain ⟨out, h1, h2⟩ := ZcN hsh hk (ks := ks) (es := es) (by simpa using hl) (fun j c hc => hr (j + 1) c (by simpa using hc)) h
   refine ⟨out, by simp [Instr.findAsking, Op.equal, Op.maxDepth, this, h1], ?_⟩
   cases r with
   | none => exact h2
   | some j =>
    obtain ⟨h3, m2, h4, h5⟩ := h2
    exact ⟨by omega, m2, by rw [show j - i = (j - (i + 1)) + 1 by omega]; simpa using h4, h5⟩
  ·simp at h

theorem ZbW {sh : Shape} {d : TypeDesc} (hd : (d = .bool ∧ sh = .bool) ∨ (∃ k, d = .int k ∧ sh = .int k) ∨ (d = .string ∧ sh = .str)) {k : AVal} {ck : Value} (hk : VRel F L k ck) : ∀ {ks : List AVal} {es : List MapEntry} {i : Nat} {r : Option Nat},
  es.length = ks.length → (∀ (j : Nat) c, ks[j]? = some c → ∃ m, es[j]? = some m ∧ VRel F L c m.key) → Zbm sh k ks i = some r →
  ∃ out, Instr.findNow d ck es i = some out ∧ Zc8 es i out r
 | [], [], i, r, _, _, h => by simp [Zbm] at h; subst h; exact ⟨none, rfl, rfl⟩
 | [], _ :: _, i, r, hl, _, _ => by simp at hl
 | x :: ks, [], i, r, hl, _, _ => by simp at hl
 | x :: ks, m :: es, i, r, hl, hr, h => by
  obtain ⟨m', hm, hv⟩ := hr 0 x rfl
  simp at hm; subst hm
  have hnow : ∀ b, eqA sh k x = some b → Instr.sameNow d ck m.key = some b := by
   intro b hb
   rcases hd with ⟨rfl, rfl⟩ | ⟨q, rfl, rfl⟩ | ⟨rfl, rfl⟩
   ·obtain ⟨a, c, rfl, rfl, rfl⟩ := ZeN hb
    cases hk
    generalize m.key = mk at hv
    cases hv; rfl
   ·obtain ⟨k', a, c, rfl, rfl, rfl⟩ := Zis hb
    cases hk
    generalize m.key = mk at hv
    cases hv; simp [Instr.sameNow]
   ·obtain ⟨a, c, rfl, rfl, rfl⟩ := Zit hb
    cases hk
    generalize m.key = mk at hv
    cases hv; rfl
  simp only [Zbm] at h
  split at h
  ·rename_i hq
   obtain rfl := Option.some.inj h
   exact ⟨some (i, m.val), by simp [Instr.findNow, hnow _ hq], Nat.le_refl _, m, by simp, rfl⟩
  ·rename_i hq
   obtain ⟨out, h1, h2⟩ := ZbW hd hk (ks := ks) (es := es) (by simpa using hl) (fun j c hc => hr (j + 1) c (by simpa using hc)) h
   refine ⟨out, by simp [Instr.findNow, hnow _ hq, h1], ?_⟩
   cases r with
   | none => exact h2
   | some j =>
    obtain ⟨h3, m2, h4, h5⟩ := h2
    exact ⟨by omega, m2, by rw [show j - i = (j - (i + 1)) + 1 by omega]; simpa using h4, h5⟩
  ·simp at h

theorem ZbL {kt : TypeId} {sh : Shape} (hsh : Z5 P 20 kt = some sh) {k : AVal} {ck : Value} (hk : VRel F L k ck) {ks : List AVal} {es : List MapEntry} {r : Option Nat}
  (hl : es.length = ks.length) (hr : ∀ (j : Nat) c, ks[j]? = some c → ∃ m, es[j]? = some m ∧ VRel F L c m.key) (h : Zbm sh k ks 0 = some r) (hkk : eqA sh k k = some true) :
  ∃ out, (Instr.findKey kt ck es).run P w = .ok out w ∧ Zc8 es 0 out r := by
 have hs := hsh
 unfold Z5 at hs
 split at hs
 ·rename_i hu
  obtain rfl := Option.some.inj hs
  obtain ⟨out, h1, h2⟩ := ZbW (.inl ⟨rfl, rfl⟩) hk hl hr h
  exact ⟨out, by simp [Instr.findKey, run_underlying hu, h1], h2⟩
 ·rename_i q hu
  obtain rfl := Option.some.inj hs
  obtain ⟨out, h1, h2⟩ := ZbW (.inr (.inl ⟨q, rfl, rfl⟩)) hk hl hr h
  exact ⟨out, by simp [Instr.findKey, run_underlying hu, h1], h2⟩
 ·rename_i hu
  obtain rfl := Option.some.inj hs
  obtain ⟨out, h1, h2⟩ := ZbW (.inr (.inr ⟨rfl, rfl⟩)) hk hl hr h
  exact ⟨out, by simp [Instr.findKey, run_underlying hu, h1], h2⟩
 all_goals
  try (simp at hs; done)
 all_goals
  rename_i hu
  have hrow : ∃ ps, sh = .row ps := by
   split at hs
   all_goals first
    | (simp at hs; done)
    | (simp only [Option.map_eq_some_iff] at hs; obtain ⟨ps, _, rfl⟩ := hs; exact ⟨_, rfl⟩)
    | exact ⟨_, (Option.some.inj hs).symm⟩
  obtain ⟨ps, rfl⟩ := hrow
  obtain ⟨xs, ys, rfl, _, _⟩ := ZdQ hkk
  cases es with
  | nil =>
   obtain rfl : ks = [] := by cases ks with
    | nil => rfl
    | cons _ _ => simp at hl
   simp [Zbm] at h; subst h
   exact ⟨none, by simp [Instr.findKey, run_underlying hu, Instr.findNow], rfl⟩
  | cons m es =>
   obtain ⟨out, h1, h2⟩ := ZcN (P := P) (w := w) hsh hk hl hr h
   refine ⟨out, ?_, h2⟩
   obtain ⟨ca, rfl, _⟩ := Ze.ofAgg hk
   simp [Instr.findKey, run_underlying hu, Instr.findNow, Instr.sameNow, h1]

theorem Zl8 {neg : Bool} {op : BinOp} (hop : (op = .eql ∧ neg = false) ∨ (op = .neq ∧ neg = true)) {t : TypeId} {sh : Shape} (hsh : Z5 P 20 t = some sh)
  (hu : P.underlying t = some .bool ∨ (∃ f, P.underlying t = some (.struct f)) ∨ ∃ l e, P.underlying t = some (.array l e)) (hg : P.eqGuardType P.depth t = false)
  {x y : AVal} {cx cy : Value} {ox oy : Operand} {b : Bool} (hx : VRel F L x cx) (hy : VRel F L y cy) (he : eqA sh x y = some b) :
  (do eqGuard op t ox oy cx cy; binOp op t cx cy : Sem Value).run P w = .ok (.bool (if neg then !b else b)) w := by
 have heq := Zgy (P := P) (w := w) 20 hsh (d := 10000) (by omega) hx hy he
 have hform : (∃ a c, cx = .bool a ∧ cy = .bool c) ∨ ∃ a c, cx = .agg a ∧ cy = .agg c := by
  have hk : sh = .bool ∨ ∃ ps, sh = .row ps := by
   unfold Z5 at hsh
   rcases hu with hu | ⟨f, hu⟩ | ⟨l, e, hu⟩ <;> rw [hu] at hsh <;> simp only at hsh
   ·exact .inl (Option.some.inj hsh).symm
   ·split at hsh
    ·simp at hsh
    ·simp only [Option.map_eq_some_iff] at hsh; obtain ⟨ps, _, rfl⟩ := hsh; exact .inr ⟨_, rfl⟩
   ·split at hsh
    ·exact .inr ⟨_, (Option.some.inj hsh).symm⟩
    ·simp at hsh
  rcases hk with rfl | ⟨ps, rfl⟩
  ·obtain ⟨a, c, rfl, rfl, rfl⟩ := ZeN he
   cases hx; cases hy; exact .inl ⟨_, _, rfl, rfl⟩
  ·obtain ⟨a, c, rfl, rfl, _⟩ := ZdQ he
   cases hx; cases hy; exact .inr ⟨_, _, rfl, rfl⟩
 rcases hform with ⟨a, c, rfl, rfl⟩ | ⟨a, c, rfl, rfl⟩
 ·rcases hop with ⟨rfl, rfl⟩ | ⟨rfl, rfl⟩
  ·simp [eqGuard_at_bool, binOp, Op.equal, Op.maxDepth, heq]
  ·simp [eqGuard_at_bool, binOp, Op.equal, Op.maxDepth, heq]
 ·rcases hop with ⟨rfl, rfl⟩ | ⟨rfl, rfl⟩
  ·rw [Sem.run_bind, run_eqGuard_agg _ _ _ _ _ _ _ hg, Result.andThen_ok, run_eql_struct, heq]; rfl
  ·rw [Sem.run_bind, run_eqGuard_agg _ _ _ _ _ _ _ hg, Result.andThen_ok, run_neq_struct, heq]; rfl

end
end Go.Abs
/- Each operation of the model does what the abstract one says: those that write. -/
namespace Go.Abs
open Go
variable [Inhabited Glob] [Lps]

structure SetB (w : World) (b : Nat) (ob : Obj) (w' : World) : Prop where
  os : w'.os = w.os
  tape : w'.tape = w.tape
  output : w'.output = w.output
  size : w'.heap.size = w.heap.size
  at_ : w'.heap[b]? = some ob
  else_ : ∀ k, k ≠ b → w'.heap[k]? = w.heap[k]?

theorem VRel.ref_ne {F : Frz} {L : Lay} {o gen off len k : Nat} {v : Value} (h : VRel F L (.ref o gen off len k) v) : L o ≠ .un := by cases h; assumption

def Ids (L : Lay) (σ : Sto) (L' : Lay) (σ' : Sto) : Prop := ∀ o, L' o ≠ .un ↔ L o ≠ .un ∨ (σ.length ≤ o ∧ o < σ'.length)
theorem Ids.refl {L : Lay} {σ : Sto} : Ids L σ L σ := fun o => ⟨.inl, fun h => h.elim id fun h => by omega⟩
theorem Ids.set {L : Lay} {σ : Sto} {o : Nat} {ob : AObj} : Ids L σ L (σ.set o ob) := fun o => ⟨.inl, fun h => h.elim id fun h => by rw [List.length_set] at h; omega⟩
theorem Ids.updSet {L : Lay} {σ : Sto} {o : Nat} {ob : AObj} {s : Lst} (h : L o ≠ .un) (hs : s ≠ .un) : Ids L σ (Zaa L o s) (σ.set o ob) := fun i => by
  rw [List.length_set]
  by_cases hi : i = o
  · subst hi; rw [Zk]; exact ⟨fun _ => .inl h, fun _ => hs⟩
  · rw [ZL L s hi]; exact ⟨.inl, fun h => h.elim id fun h => by omega⟩
theorem Ids.full {L L' : Lay} {σ σ' : Sto} (h : Ids L σ L' σ') (hF : ZbN L σ) : ZbN L' σ' := fun o ho => (h o).2 (by
  rcases Nat.lt_or_ge o σ.length with hl | hl
  · exact .inl (hF o hl)
  · exact .inr ⟨hl, ho⟩)

def ZeL (F : Frz) (L : Lay) (σ σ' : Sto) (w : World) (r : Result Next) (v : AVal) : Prop :=
  ∃ w' L', ((∃ cv, r = .ok (.value cv) w' ∧ VRel F L' v cv) ∨ (r = .ok .skip w' ∧ v = .und)) ∧ Inv F L' σ' w' ∧ Adv F L w F L' w' ∧ Ids L σ L' σ'

theorem Zaw.toW {F : Frz} {L : Lay} {σ new : Sto} {w : World} {r : Result Next} {v : AVal} (h : Zaw F L (σ ++ new) w (ZT σ.length new.length) r v) : ZeL F L σ (σ ++ new) w r v := by
  obtain ⟨cv, w', L', h1, h2, h3, h4, h5⟩ := h
  exact ⟨w', L', .inl ⟨cv, h1, h2⟩, h3, h4, fun o => by rw [h5 o, List.length_append]; rfl⟩

theorem Zlf {L : Lay} {o : Nat} {s : Lst} (h : L o = s) : Zaa L o s = L := by
  funext i
  unfold Zaa
  split
  · rename_i e; subst e; exact h.symm
  · rfl

section
variable {P : Program} {F : Frz} {L : Lay} {σ : Sto} {w : World}

theorem Zcg {b off : Nat} {elem : TypeId} : ∀ (vs : List Value) (i : Nat) {w : World} {c : Array Value}, w.heap[b]? = some (.cells c elem (0, 0)) → off + i + vs.length ≤ c.size → (∀ v ∈ vs, v.oneCell' = true) →
    ∃ w', (storeCells ⟨b, off, none⟩ vs i).run P w = .ok () w' ∧ SetB w b (.cells ((vs.zipIdx i).foldl (fun cs (v, j) => cs.setIfInBounds (off + j) v) c) elem (0, 0)) w'
  | [], i, w, c, hw, _, _ => ⟨w, by simp [storeCells], rfl, rfl, rfl, rfl, by simpa using hw, fun _ _ => rfl⟩
  | v :: vs, i, w, c, hw, hle, ho => by
    simp only [List.length_cons] at hle
    have hcell : w.cell? ⟨b, off + i, none⟩ = some (c.getD (off + i) undef) := World.cell_of_heap hw (p := off + i) (by omega)
    have hfr : w.frozen? ⟨b, off + i, none⟩ = false := by simp [World.frozen?, hw]
    have hb : b < w.heap.size := (Array.getElem?_eq_some_iff.1 hw).1
    have hset : (w.setCell ⟨b, off + i, none⟩ v).heap[b]? = some (.cells (c.setIfInBounds (off + i) v) elem (0, 0)) := by
      simp [World.setCell, Array.getElem?_modify, hw]
    have hsz : off + (i + 1) + vs.length ≤ (c.setIfInBounds (off + i) v).size := by rw [Array.size_setIfInBounds]; omega
    obtain ⟨w', h1, h2⟩ := Zcg vs (i + 1) hset hsz (fun u hu => ho u (by simp [hu]))
    refine ⟨w', ?_, ⟨h2.os, h2.tape, h2.output, h2.size.trans (by simp [World.setCell]), ?_, fun k hk => (h2.else_ k hk).trans ?_⟩⟩
    · simp only [storeCells, Sem.run_bind, Addr.add_plain (a := ⟨b, off, none⟩) rfl, run_store P w _ v _ (ho v (by simp)), hcell, hfr]
      simpa using h1
    · rw [h2.at_]; simp
    · simp [World.setCell, Array.getElem?_modify, Ne.symm hk]

theorem Ze.one {cs : List AVal} {vs : List Value} (h : Ze F L cs vs) (ho : ∀ c ∈ cs, c.one = true) : ∀ v ∈ vs, v.oneCell' = true := by
  intro v hv
  obtain ⟨i, hi⟩ := List.getElem?_of_mem hv
  have hlt : i < cs.length := by rw [← h.1]; exact (List.getElem?_eq_some_iff.1 hi).1
  have := h.2 i cs[i] (List.getElem?_eq_getElem hlt)
  rw [List.getD_eq_getElem?_getD, hi] at this
  exact this.one (ho _ (List.getElem_mem hlt))

theorem Inv.store (hI : Inv F L σ w) {o b top gen : Nat} (hL : L o = .live (.blk b top) gen) {nl : Bool} {cs : List AVal} (hσ : σ[o]? = some (.cells nl cs)) {off : Nat} {new : List AVal} {vs : List Value}
    (hrel : Ze F L new vs) (hone : ∀ c ∈ new, c.one = true) (hle : off + new.length ≤ cs.length) :
    ∃ w', (storeCells ⟨b, off, none⟩ vs).run P w = .ok () w' ∧ Inv F L (σ.set o (.cells nl (Zl cs off new))) w' ∧ Adv F L w F L w' ∧ Ids L σ L (σ.set o (.cells nl (Zl cs off new))) := by
  obtain ⟨hg, hone0, hnl, c, elem, hw, hct, hcs, hx⟩ := hI.cells hL hσ
  have hvl := hrel.1
  obtain ⟨w', h1, h2⟩ := Zcg (P := P) (off := off) vs 0 hw (by omega) (hrel.one hone)
  have hlt := (List.getElem?_eq_some_iff.1 hσ).1
  have hov := ZcQ (cs := cs) (new := new) (off := off) hle
  have := hI.change (o := o) (loc := .blk b top) (gen := gen) (ob := .cells nl (Zl cs off new)) (σ' := σ.set o (.cells nl (Zl cs off new))) (w' := w') (by simp)
    (fun i _ hi => by rw [List.getElem?_set, if_neg (Ne.symm hi)]) (by simp [hlt])
    (by rw [hL]; exact ZaA.refl _) h2.os h2.tape h2.output (by rw [h2.size]; exact Nat.le_refl _)
    (fun b' hb' => .inl ⟨_, _, hL, hb'⟩) (fun k _ hk => h2.else_ k (by intro e; subst e; exact hk rfl))
    ⟨by rw [hov]; exact hg, Zd5 hone0 hone, fun h e => by
        have := congrArg List.length e
        rw [hov] at this
        exact hnl h (List.length_eq_zero_iff.1 (by simpa using this)), _, elem, h2.at_, by rw [Zci]; exact hct, by rw [hov]; exact hcs, fun p x hp => by
        rw [Zd4 hle] at hp
        simp only [Array.getD_eq_getD_getElem?, ZbX, Nat.add_zero]
        by_cases q1 : p < off
        · rw [if_pos q1] at hp
          rw [if_neg (by omega), ← Array.getD_eq_getD_getElem?]
          exact hx p x hp
        · rw [if_neg q1] at hp
          by_cases q2 : p < off + new.length
          · rw [if_pos q2] at hp
            rw [if_pos (by omega), ← List.getD_eq_getElem?_getD]
            exact hrel.2 _ x hp
          · rw [if_neg q2] at hp
            rw [if_neg (by omega), ← Array.getD_eq_getD_getElem?]
            exact hx p x hp⟩
  rw [Zlf hL] at this
  exact ⟨w', h1, this.1, this.2, Ids.set⟩

theorem ZpI (hI : Inv F L σ w) {t : TypeId} {n : Nat} (hsz : Z1 P t = some n) {a v : AVal} {ca cv : Value} (ha : VRel F L a ca) (hv : VRel F L v cv) {lv : List Nat} {e : Env} {oa ov : Opd}
    (ea : ev e oa = a) (ev' : ev e ov = v) {u : AVal} {σ' : Sto} (hs : Zc lv (.store n oa ov) e σ = some (u, σ')) :
    ZeL F L σ σ' w (Sem.run P (do Instr.storeAt t ca cv; pure .skip) w) u := by
  simp only [Zc, ea, ev'] at hs
  cases a <;> (try simp only [reduceCtorEq] at hs)
  case ptr o gen off =>
    split at hs
    · rename_i nl cs hσ
      split at hs
      · rename_i hc
        obtain ⟨hg, hle, hf, hlv⟩ := hc
        simp only [Option.some.injEq, Prod.mk.injEq] at hs
        obtain ⟨rfl, rfl⟩ := hs
        obtain ⟨b, top, c, elem, rfl, hL, hw, hct, hcs, hone, hn, hrel⟩ := hI.readPtr ha hσ hg
        have hcr := hv.cellsRel hf
        have hlen := AVal.len_of_fits hf
        obtain ⟨w', h1, h2, h3, h4⟩ := hI.store (P := P) hL hσ (off := off) hcr (AVal.one_of_fits hf) (by omega)
        have hvs : cv.cells.size = n := by have := hcr.1; simp at this; omega
        refine ⟨w', L, .inr ⟨?_, rfl⟩, h2, h3, h4⟩
        simp [Instr.storeAt, Instr.sureAddr, storeVar, Zx hsz, hvs, h1]
      · simp at hs
    · simp at hs

theorem cell?_same {w w' : World} (h : w'.heap = w.heap) (a : Addr) : w'.cell? a = w.cell? a := by simp only [World.cell?, h]

theorem Zgw (hI : Inv F L σ w) {x : AVal} {cx : Value} (hx : VRel F L x cx) {σ0 : Sto} (hσ : ∀ i, i < σ0.length → σ[i]? = σ0[i]?) {m : Nat} {cs : List AVal} (h : Zai σ0 x = some (m, cs)) {k : Nat}
    (hl : cs.length = m * k) : ∃ a cap, cx = .slice a m cap ∧ ∃ vs : List Value, vs.length = m * k ∧ Ze F L cs vs ∧ ∀ n, n ≤ m → ∀ w' : World, w'.heap = w.heap → (Builtin.firstCells k n cx).run P w' = .ok (vs.take (n * k)).toArray w' := by
  unfold Zai at h
  split at h
  · obtain ⟨rfl, rfl⟩ := Prod.mk.inj (Option.some.inj h)
    cases hx
    exact ⟨none, 0, rfl, [], by simp, Ze.nil, fun n hn w' _ => by simp [Builtin.firstCells]⟩
  · obtain ⟨rfl, rfl⟩ := Prod.mk.inj (Option.some.inj h)
    cases hx
    exact ⟨_, 0, rfl, [], by simp, Ze.nil, fun n hn w' _ => by
      have : n = 0 := by omega
      subst this
      simp [Builtin.firstCells, loadCells, loadCellsFrom]⟩
  · rename_i k' xs
    obtain ⟨rfl, rfl⟩ := Prod.mk.inj (Option.some.inj h)
    cases hx with
    | @list _ _ a cap _ fv hs hc hk hf ho hv =>
      refine ⟨some a, cap, rfl, (List.range (xs.length * k)).map fv, by simp, ⟨by rw [List.length_map, List.length_range]; exact hl.symm, fun i c hi => ?_⟩, ?_⟩
      · have hlt : i < xs.length * k := by rw [← hl]; exact (List.getElem?_eq_some_iff.1 hi).1
        simp only [List.getD_eq_getElem?_getD, List.getElem?_map, List.getElem?_range hlt, Option.map_some, Option.getD_some]
        exact (hv i c hi).ofNo L
      · intro n hn w' hw'
        have hnk : n * k ≤ xs.length * k := Nat.mul_le_mul_right k hn
        have := run_loadCells (P := P) w' a (n * k) fv (fun j hj => by
          rw [Addr.add_plain (hs (fun he => by subst he; simp at hn; subst hn; simp at hj)), cell?_same hw']
          have hj' : j < (ZV xs).length := by rw [show (ZV xs).length = xs.length * k from hl]; omega
          exact hI.fz _ _ _ (hf j _ (List.getElem?_eq_getElem hj')))
        rw [← List.map_take, List.take_range, Nat.min_eq_left hnk]
        simpa [Builtin.firstCells] using this
  · rename_i o gen off len k'
    split at h
    · rename_i nl cs' ho
      have ho' := (hσ o (List.getElem?_eq_some_iff.1 ho).1).trans ho
      split at h
      · rename_i hg
        obtain ⟨rfl, rfl⟩ := Prod.mk.inj (Option.some.inj h)
        rcases hI.readRef hx ho' hg with ⟨_, rfl, rfl, rfl, rfl, _⟩ | ⟨b, top, c, elem, cap, rfl, hL, hw, hlc, htop, hgc, hlen, hct, hcs, hone, hn, hrel⟩
        · exact ⟨none, 0, rfl, [], by simp, by simpa using Ze.nil, fun n hn w' _ => by simp [Builtin.firstCells]⟩
        · have hle : off + len * k ≤ cs'.length := by
            rcases Nat.eq_zero_or_pos len with h0 | h0
            · subst h0; simp at hlen ⊢; omega
            · have : ((cs'.drop off).take (len * k')).length = len * k := hl
              simp only [List.length_take, List.length_drop] at this
              have h1 : min (len * k') (cs'.length - off) ≤ cs'.length - off := Nat.min_le_right _ _
              have h2 : off ≤ cs'.length := by omega
              omega
          refine ⟨_, cap, rfl, (List.range (len * k)).map fun j => c.getD (off + j) undef, by simp, ⟨by simp; simpa using hl.symm, fun i x hi => ?_⟩, ?_⟩
          · have hlt : i < len * k := by rw [← hl]; exact (List.getElem?_eq_some_iff.1 hi).1
            simp only [List.getD_eq_getElem?_getD, List.getElem?_map, List.getElem?_range hlt, Option.map_some, Option.getD_some]
            rw [List.getElem?_take] at hi
            split at hi
            · rw [List.getElem?_drop] at hi; exact hrel _ x hi
            · simp at hi
          · intro n hn w' hw'
            have hnk : n * k ≤ len * k := Nat.mul_le_mul_right k hn
            have := run_loadCells (P := P) w' ⟨b, off, none⟩ (n * k) (fun j => c.getD (off + j) undef) (fun j hj => by
              rw [Addr.add_plain rfl, cell?_same hw']
              exact World.cell_of_heap hw (p := off + j) (by omega))
            rw [← List.map_take, List.take_range, Nat.min_eq_left hnk]
            simpa [Builtin.firstCells] using this
      · simp at h
    · simp at h
  · simp at h

theorem Zl7 (hI : Inv F L σ w) {x : AVal} {cx : Value} (hx : VRel F L x cx) {σ0 : Sto} (hσ : ∀ i, i < σ0.length → σ[i]? = σ0[i]?) {m : Nat} {cs : List AVal} (h : Zai σ0 x = some (m, cs)) {k : Nat}
    (hl : cs.length = m * k) : ∃ a cap, cx = .slice a m cap ∧ ∃ vs : List Value, vs.length = m * k ∧ Ze F L cs vs ∧ ∀ w' : World, w'.heap = w.heap → (Builtin.firstCells k m cx).run P w' = .ok vs.toArray w' := by
  obtain ⟨a, cap, rfl, vs, h1, h2, h3⟩ := Zgw (P := P) hI hx hσ h hl
  refine ⟨a, cap, rfl, vs, h1, h2, fun w' hw' => ?_⟩
  have := h3 m (Nat.le_refl _) w' hw'
  rwa [List.take_of_length_le (by omega)] at this

theorem Zd3 {need cap : Nat} (h : cap < need) : Builtin.nextslicecap need cap ≤ 2 * need := by
  unfold Builtin.nextslicecap
  split
  · omega
  · split
    · omega
    · rename_i h1 h2
      -- four rounds from c ≥ 256, each at most c + (c + 768) / 4 ≤ 2 c
      have key : ∀ (r c : Nat), 256 ≤ c → c < need → Builtin.growBy need r c ≤ 2 * need := by
        intro r
        induction r with
        | zero => intro c _ hc; simp [Builtin.growBy]; omega
        | succ r ih =>
          intro c h256 hc
          simp only [Builtin.growBy]
          rw [if_neg (by omega)]
          by_cases h3 : c + (c + 768) / 4 < need
          · exact ih _ (by omega) h3
          · cases r with
            | zero => simp [Builtin.growBy]; omega
            | succ r => simp only [Builtin.growBy]; rw [if_pos (by omega)]; omega
      exact key 4 cap (by omega) h

theorem Zos : ∀ (d : TypeDesc), (∀ k, d ≠ .int k) → (match d with | .int _ => true | _ => false) = false := by
  intro d h
  cases d <;> first | rfl | exact absurd rfl (h _)

section app
variable {ts : Array TypeId} {t0 t1 ty el : TypeId} {i : TypeInfo}

theorem Zgx (h0 : ts[0]? = some t0) (h1 : ts[1]? = some t1) (hu0 : P.underlying t0 = some (.slice el)) {d1 : TypeDesc} (hu1 : P.underlying t1 = some d1) (hd1 : ∀ k, d1 ≠ .int k) (hi : P.info? el = some i)
    {a b : Option Addr} {len cap m mc : Nat} (hfit : len + m ≤ cap) {vs : List Value} (hvs : (Builtin.firstCells i.size m (.slice b m mc)).run P w = .ok vs.toArray w) {w' : World}
    (hst : match a with | some ad => (storeCells (ad.add (len * i.size)) vs).run P w = .ok () w' | none => w' = w) :
    (Builtin.append_ ts ty #[.slice a len cap, .slice b m mc]).run P w = .ok (.slice a (len + m) cap) w' := by
  have hz := Zos d1 hd1
  have hsz : Z1 P el = some i.size := by simp [Z1, hi]
  simp only [Builtin.append_, h0, List.getElem?_toArray, List.getElem?_cons_zero, List.getElem?_cons_succ, Sem.run_bind, h1, run_underlying hu0, run_underlying hu1, Result.andThen_ok, Zx hsz, Sem.run_pure, hz, Bool.false_eq_true, if_false,
    Builtin.lenOf]
  rw [if_pos hfit]
  simp only [Bool.not_false, if_true, Sem.run_bind, hvs, Result.andThen_ok]
  cases a with
  | none => simp only at hst; subst hst; simp
  | some ad => simp only at hst ⊢; simp [hst]

theorem Zf0 (h0 : ts[0]? = some t0) (h1 : ts[1]? = some t1) (hu0 : P.underlying t0 = some (.slice el)) {d1 : TypeDesc} (hu1 : P.underlying t1 = some d1) (hd1 : ∀ k, d1 ≠ .int k) (hi : P.info? el = some i)
    (hb : 0 < i.bytes) {a b : Option Addr} {len cap m mc : Nat} (hgrow : cap < len + m) (hbytes : (len + m) * i.bytes ≤ Zm) {z : List AVal} (hz : ZbD P el = some z) (hzl : z.length = i.size) {vs os : List Value}
    (hvs : ∀ w' : World, w'.heap = w.heap → (Builtin.firstCells i.size m (.slice b m mc)).run P w' = .ok vs.toArray w')
    (hos : ∀ w' : World, w'.heap = w.heap → (Builtin.firstCells i.size len (.slice a len cap)).run P w' = .ok os.toArray w') :
    ∃ (w' : World) (nc : Nat) (rest : List Value), (Builtin.append_ ts ty #[.slice a len cap, .slice b m mc]).run P w = .ok (.slice (some ⟨w.heap.size, 0, none⟩) (len + m) nc) w' ∧ len + m ≤ nc ∧
      w'.heap = w.heap.push (.cells (os ++ vs ++ rest).toArray el (0, 0)) ∧ rest.length = (nc - (len + m)) * i.size ∧ w'.os = w.os ∧ w'.tape = w.tape ∧ w'.output = w.output := by
  have hzz := Zos d1 hd1
  have hsz : Z1 P el = some i.size := by simp [Z1, hi]
  have hneed : len + m ≤ Zm := Nat.le_trans (Nat.le_mul_of_pos_right _ hb) hbytes
  have hnc := Zd3 hgrow
  have hnb : Builtin.nextslicecap (len + m) cap * i.bytes ≤ 2 ^ 48 := by
    have h1 : Builtin.nextslicecap (len + m) cap * i.bytes ≤ 2 * (len + m) * i.bytes := Nat.mul_le_mul_right _ hnc
    have h2 : 2 * (len + m) * i.bytes = 2 * ((len + m) * i.bytes) := by rw [Nat.mul_assoc]
    have h3 : Zm = 140737488355328 := rfl
    omega
  let w1 : World := { w with drawn := w.drawn + 1 }
  obtain ⟨nc, hncv⟩ : ∃ nc, (Question.appendCap (len + m) cap el).cut (w.tape w.drawn (.appendCap (len + m) cap el)) = nc := ⟨_, rfl⟩
  have hnc' : len + m ≤ nc := by rw [← hncv]; simp only [Question.cut]; omega
  obtain ⟨zv, g1, g2, g3⟩ := ZaJ hz w1 ⟨fun _ _ => none, fun _ => none⟩ noL
  have hzs : zv.cells.size = i.size := by have := g2.1; simp at this; omega
  refine ⟨w1.alloc (.cells (os ++ vs ++ (Builtin.zeroCells zv.cells (nc - (len + m))).toList).toArray el), nc, (Builtin.zeroCells zv.cells (nc - (len + m))).toList, ?_, hnc', rfl, by simp [Builtin.zeroCells, hzs], rfl, rfl, rfl⟩
  simp only [Builtin.append_, h0, List.getElem?_toArray, List.getElem?_cons_zero, List.getElem?_cons_succ, Sem.run_bind, h1, run_underlying hu0, run_underlying hu1, Result.andThen_ok, Zx hsz, Sem.run_pure, hzz, Bool.false_eq_true, if_false,
    Builtin.lenOf]
  rw [if_neg (by omega)]
  have hmax : IntKind.i64.max = 9223372036854775807 := rfl
  have h3 : Zm = 140737488355328 := rfl
  have hpan : ¬ (((len + m : Nat) : Int) > IntKind.i64.max ∧ (false = true ∨ i.bytes = 0)) := by rw [hmax]; omega
  simp only [Sem.run_bind, Z6 hi, Result.andThen_ok]
  rw [if_neg (by simpa using hpan)]
  simp only [Sem.run_bind, Z6 hi, Result.andThen_ok, Sem.run_pure]
  rw [if_neg (by omega)]
  simp only [Sem.run_bind, run_choose, Question.forced, Bool.false_eq_true, if_false, Result.andThen_ok, hncv, Z6 hi, run_askRoom, hos w1 rfl, Bool.not_false, if_true, hvs w1 rfl]
  have g1' : (zeroValue el).run P { w with drawn := w.drawn + 1 } = .ok zv w1 := g1
  have hos' := hos { w with drawn := w.drawn + 1 } rfl
  have hvs' := hvs { w with drawn := w.drawn + 1 } rfl
  simp only [hos', hvs', g1', Result.andThen_ok, newRow, Sem.run_bind, run_newObj, Sem.run_pure]
  simp [World.alloc, w1]
  congr 2
  apply Array.ext'
  simp


theorem Zdp {a : Option Addr} {k c : Nat} (w' : World) : (Builtin.firstCells k 0 (.slice a 0 c)).run P w' = .ok ([] : List Value).toArray w' := by
  cases a <;> simp [Builtin.firstCells, loadCells, loadCellsFrom]


theorem Zot {c : Array Value} {cs : List AVal} (hle : cs.length ≤ c.size) (h : ∀ (p : Nat) (x : AVal), cs[p]? = some x → VRel F L x (c.getD p undef)) (n : Nat) (hn : n ≤ cs.length) :
    Ze F L (cs.take n) ((List.range n).map fun j => c.getD j undef) := by
  refine ⟨by simp; omega, fun i x hi => ?_⟩
  rw [List.getElem?_take] at hi
  split at hi
  · rename_i hlt
    simp only [List.getD_eq_getElem?_getD, List.getElem?_map, List.getElem?_range hlt, Option.map_some, Option.getD_some]
    exact h i x hi
  · simp at hi

def Zir (lv : List Nat) (k bytes : Nat) (s : AVal) (m : Nat) (new : List AVal) (σ : Sto) : Option (AVal × Sto) :=
  match s with
  | .nils | .emp => if m = 0 then some (s, σ) else if m * bytes ≤ Zm then some (.ref σ.length (m * k) 0 m k, σ ++ [.cells false new]) else none
  | .ref o gen off len k' =>
    match σ[o]? with
    | some (.cells nl cs) =>
      if cs.length = gen ∧ k = k' ∧ ZbH lv o new then
        if m = 0 then some (s, σ)
        else if off + (len + m) * k ≤ gen then some (.ref o gen off (len + m) k, σ.set o (.cells nl (Zl cs (off + len * k) new)))
        else if off = 0 ∧ (len + m) * bytes ≤ Zm then some (.ref o ((len + m) * k) 0 (len + m) k, σ.set o (.cells nl (cs.take (len * k) ++ new)))
        else none
      else none
    | _ => none
  | _ => none
theorem ZqO (hI : Inv F L σ w) {s : AVal} {cs cx : Value} (hs' : VRel F L s cs) {m : Nat} {new : List AVal} (hnl : new.length = m * i.size) (hk : 0 < i.size) (hone' : ∀ c ∈ new, c.one = true)
    (RF' : ∃ vs, Ze F L new vs ∧ ∀ {a : Option Addr} {len cap : Nat}, len + m ≤ cap → ∀ {w' : World}, (match a with | some ad => (storeCells (ad.add (len * i.size)) vs).run P w = .ok () w' | none => w' = w) →
      (Builtin.append_ ts ty #[.slice a len cap, cx]).run P w = .ok (.slice a (len + m) cap) w')
    (RG' : ∃ ws, Ze F L new ws ∧ ∀ {a : Option Addr} {len cap : Nat} {os : List Value}, cap < len + m → (len + m) * i.bytes ≤ Zm →
      (∀ w' : World, w'.heap = w.heap → (Builtin.firstCells i.size len (.slice a len cap)).run P w' = .ok os.toArray w') →
      ∃ (w' : World) (nc : Nat) (rest : List Value), (Builtin.append_ ts ty #[.slice a len cap, cx]).run P w = .ok (.slice (some ⟨w.heap.size, 0, none⟩) (len + m) nc) w' ∧ len + m ≤ nc ∧
        w'.heap = w.heap.push (.cells (os ++ ws ++ rest).toArray el (0, 0)) ∧ rest.length = (nc - (len + m)) * i.size ∧ w'.os = w.os ∧ w'.tape = w.tape ∧ w'.output = w.output)
    {lv : List Nat} {u : AVal} {σ' : Sto} (hs : Zir lv i.size i.bytes s m new σ = some (u, σ')) :
    ZeL F L σ σ' w (Sem.run P (do pure (Next.value (← Builtin.append_ ts ty #[cs, cx]))) w) u := by
  obtain ⟨vs, hvr, RF⟩ := RF'
  obtain ⟨ws, hwr, RG⟩ := RG'
  have hvl : vs.length = m * i.size := by rw [hvr.1, hnl]
  have hwl : ws.length = m * i.size := by rw [hwr.1, hnl]
  have hstill : ∀ {a : Option Addr} {len cap : Nat}, m = 0 → len ≤ cap → (Builtin.append_ ts ty #[.slice a len cap, cx]).run P w = .ok (.slice a len cap) w := by
    intro a len cap hm hlc
    subst hm
    have hv0 : vs = [] := List.eq_nil_of_length_eq_zero (by rw [hvr.1, hnl, Nat.zero_mul])
    subst hv0
    have := RF (a := a) (len := len) (cap := cap) (by omega) (w' := w) (by cases a <;> simp [storeCells])
    simpa using this
  have hnew : ∀ {a : Option Addr} {len cap : Nat} {osv : List Value} {old : List AVal}, cap < len + m → (len + m) * i.bytes ≤ Zm → old.length = len * i.size → Ze F L old osv → (∀ c ∈ old, c.one = true) →
      (∀ w' : World, w'.heap = w.heap → (Builtin.firstCells i.size len (.slice a len cap)).run P w' = .ok osv.toArray w') →
      ∃ (w' : World) (nc : Nat) (c : Array Value), (Builtin.append_ ts ty #[.slice a len cap, cx]).run P w = .ok (.slice (some ⟨w.heap.size, 0, none⟩) (len + m) nc) w' ∧ len + m ≤ nc ∧
        w'.heap = w.heap.push (.cells c el (0, 0)) ∧ c.size = nc * i.size ∧ w'.os = w.os ∧ w'.tape = w.tape ∧ w'.output = w.output ∧
        ∀ (p : Nat) (x : AVal), (old ++ new)[p]? = some x → VRel F L x (c.getD p undef) := by
    intro a len cap osv old hg hby hol hor ho1 hosrun
    obtain ⟨w', nc, rest, g1, g2, g3, g4, g5, g6, g7⟩ := RG hg hby hosrun
    refine ⟨w', nc, _, g1, g2, g3, ?_, g5, g6, g7, fun p x hp => ?_⟩
    · have e1 : (nc - (len + m)) * i.size = nc * i.size - (len + m) * i.size := Nat.sub_mul _ _ _
      have e2 : (len + m) * i.size = len * i.size + m * i.size := Nat.add_mul _ _ _
      have e3 : (len + m) * i.size ≤ nc * i.size := Nat.mul_le_mul_right _ g2
      have e4 := hor.1
      have e5 := hwr.1
      simp; omega
    · have hr := hor.append hwr
      have hlt := (List.getElem?_eq_some_iff.1 hp).1
      have := hr.2 p x hp
      have e : (osv ++ ws ++ rest).toArray.getD p undef = (osv ++ ws).getD p undef := by
        rw [Array.getD_eq_getD_getElem?, List.getElem?_toArray, List.getElem?_append_left (by rw [hr.1]; exact hlt), List.getD_eq_getElem?_getD]
      rw [e]; exact this
  -- a first row of its own
  have hfirst : ∀ {a : Option Addr}, m ≠ 0 → m * i.bytes ≤ Zm →
      ZeL F L σ (σ ++ [.cells false new]) w (Sem.run P (do pure (Next.value (← Builtin.append_ ts ty #[.slice a 0 0, cx]))) w) (.ref σ.length (m * i.size) 0 m i.size) := by
    intro a hm hby
    obtain ⟨w', nc, c, g1, g2, g3, g4, g5, g6, g7, g8⟩ := hnew (a := a) (len := 0) (cap := 0) (osv := []) (old := []) (by omega) (by simpa using hby) (by simp) Ze.nil (by simp) (fun w' _ => Zdp w')
    have hun : L σ.length = .un := by
      cases hL : L σ.length with
      | un => rfl
      | dead => have := hI.lt σ.length (by rw [hL]; simp); omega
      | live _ _ => have := hI.lt σ.length (by rw [hL]; simp); omega
    have hI' := hI.extend (σ' := σ ++ [.cells false new]) (fun i hi => List.getElem?_append_left hi) (by simp)
    have := ZeQ hI' hun (by simp) hone' g3 g5 g6 g7 (cap := nc) (len := m) (k := i.size) (by omega) g4 (by rw [hnl]; exact Nat.mul_le_mul_right _ (by omega)) (by omega)
      (fun p x hp => g8 p x (by simpa using hp)) (Zv (by simpa using g1))
    rw [hnl] at this
    exact this.toW (new := [.cells false new])
  cases s <;> (simp only [Zir] at hs) <;> (try simp only [reduceCtorEq] at hs)
  case nils =>
    cases hs'
    split at hs
    · rename_i hm
      obtain ⟨rfl, rfl⟩ := Prod.mk.inj (Option.some.inj hs)
      exact ⟨w, L, .inl ⟨_, Zv (hstill hm (Nat.le_refl _)), .nils⟩, hI, Adv.refl F L w, Ids.refl⟩
    · rename_i hm
      split at hs
      · rename_i hby
        obtain ⟨rfl, rfl⟩ := Prod.mk.inj (Option.some.inj hs)
        exact hfirst hm hby
      · simp at hs
  case emp =>
    cases hs' with
    | emp =>
      split at hs
      · rename_i hm
        obtain ⟨rfl, rfl⟩ := Prod.mk.inj (Option.some.inj hs)
        exact ⟨w, L, .inl ⟨_, Zv (hstill hm (Nat.le_refl _)), .emp⟩, hI, Adv.refl F L w, Ids.refl⟩
      · rename_i hm
        split at hs
        · rename_i hby
          obtain ⟨rfl, rfl⟩ := Prod.mk.inj (Option.some.inj hs)
          exact hfirst hm hby
        · simp at hs
  case ref o gen off len k' =>
    split at hs
    case h_2 => simp at hs
    rename_i nl ocs hσ
    split at hs
    case isFalse => simp at hs
    rename_i hcc
    obtain ⟨hg, rfl, hlv⟩ := hcc
    have hlt := (List.getElem?_eq_some_iff.1 hσ).1
    split at hs
    · rename_i hm
      obtain ⟨rfl, rfl⟩ := Prod.mk.inj (Option.some.inj hs)
      rcases hI.readRef hs' hσ hg with ⟨_, _, rfl, rfl, rfl, _⟩ | ⟨b', top, c, elem, cap, rfl, hL, hw, hlc, _⟩
      · exact ⟨w, L, .inl ⟨_, Zv (hstill hm (Nat.le_refl _)), hs'⟩, hI, Adv.refl F L w, Ids.refl⟩
      · exact ⟨w, L, .inl ⟨_, Zv (hstill hm hlc), hs'⟩, hI, Adv.refl F L w, Ids.refl⟩
    · rename_i hm
      have hmk : 0 < m * i.size := Nat.mul_pos (by omega) hk
      have hadd : (len + m) * i.size = len * i.size + m * i.size := Nat.add_mul _ _ _
      split at hs
      · -- within the row
        rename_i hin
        obtain ⟨rfl, rfl⟩ := Prod.mk.inj (Option.some.inj hs)
        rcases hI.readRef hs' hσ hg with ⟨_, rfl, rfl, rfl, rfl, _⟩ | ⟨b', top, c, elem, cap, rfl, hL, hw, hlc, htop, hgc, hlen, hct, hcs, hone0, hn, hrel⟩
        · simp at hg; subst hg; omega
        · have hfit : len + m ≤ cap := by
            have : (len + m) * i.size ≤ cap * i.size := by omega
            exact Nat.le_of_mul_le_mul_right this hk
          obtain ⟨w', g1, g2, g3, g4⟩ := hI.store (P := P) hL hσ (off := off + len * i.size) hvr hone' (by omega)
          have hrun := RF (a := some ⟨b', off, none⟩) (len := len) (cap := cap) hfit (w' := w') (by dsimp only; rw [Addr.add_plain rfl]; exact g1)
          refine ⟨w', L, .inl ⟨_, Zv hrun, ?_⟩, g2, g3, g4⟩
          refine .ref (by rw [hL]; simp) ⟨_, _, _, rfl⟩ (fun loc g hl => ?_) (fun loc hl => ?_)
          · rw [hL] at hl; injection hl with e1 e2; omega
          · rw [hL] at hl; injection hl with e1 e2; subst e1
            exact ⟨cap, rfl, hfit, htop, hgc, hin⟩
      · rename_i hin
        split at hs
        case isFalse => simp at hs
        rename_i hgr
        obtain ⟨rfl, hby⟩ := hgr
        obtain ⟨rfl, rfl⟩ := Prod.mk.inj (Option.some.inj hs)
        simp only [Nat.zero_add] at hin
        -- the object's new state
        have hlen' : ∀ (hlen : len * i.size ≤ gen), (ocs.take (len * i.size) ++ new).length = (len + m) * i.size := by
          intro hlen
          rw [List.length_append, List.length_take, hnl, hg, Nat.min_eq_left hlen]; omega
        have hone2 : (∀ c ∈ ocs, c.one = true) → ∀ c ∈ ocs.take (len * i.size) ++ new, c.one = true := by
          intro h c hc
          rcases List.mem_append.1 hc with hc | hc
          · exact h c (List.mem_of_mem_take hc)
          · exact hone' c hc
        have hne2 : nl = true → ocs.take (len * i.size) ++ new ≠ [] := by
          intro _ he
          have := congrArg List.length he
          rw [List.length_append, hnl] at this
          simp only [List.length_nil] at this
          omega
        have hfin : ∀ {w' : World} {b' top cap : Nat} {c : Array Value} {elem : TypeId}, len * i.size ≤ gen → ZaA (L o) (.live (.blk b' top) ((len + m) * i.size)) → w'.os = w.os → w'.tape = w.tape → w'.output = w.output →
            w.heap.size ≤ w'.heap.size → ((∃ top0 gen0, L o = .live (.blk b' top0) gen0) ∨ w.heap.size ≤ b') → (∀ k, k < w.heap.size → k ≠ b' → w'.heap[k]? = w.heap[k]?) → w'.heap[b']? = some (.cells c elem (0, 0)) →
            c.size = top → (len + m) ≤ cap → cap * i.size ≤ top → (∀ c ∈ ocs, c.one = true) → (∀ (p : Nat) (x : AVal), (ocs.take (len * i.size) ++ new)[p]? = some x → VRel F L x (c.getD p undef)) →
            ∀ {r : Result Next}, r = .ok (.value (.slice (some ⟨b', 0, none⟩) (len + m) cap)) w' →
            ZeL F L σ (σ.set o (.cells nl (ocs.take (len * i.size) ++ new))) w r (.ref o ((len + m) * i.size) 0 (len + m) i.size) := by
          intro w' b' top cap c elem hlen hev e1 e2 e3 e4 hB hw hwb hct hcap htop ho1 hrel r hr
          have := hI.change (o := o) (loc := .blk b' top) (gen := (len + m) * i.size) (ob := .cells nl (ocs.take (len * i.size) ++ new)) (σ' := σ.set o (.cells nl (ocs.take (len * i.size) ++ new))) (w' := w') (by simp)
            (fun i _ hi => by rw [List.getElem?_set, if_neg (Ne.symm hi)]) (by simp [hlt]) hev e1 e2 e3 e4
            (fun b2 hb2 => by
              simp [Loc.block?] at hb2; subst hb2
              rcases hB with ⟨t0, g0, h⟩ | h
              · exact .inl ⟨_, _, h, rfl⟩
              · exact .inr h)
            (fun k hk hk2 => hw k hk (by rintro rfl; exact hk2 rfl))
            ⟨(hlen' hlen).symm, hone2 ho1, hne2, c, elem, hwb, hct, by rw [hlen' hlen]; exact Nat.le_trans (Nat.mul_le_mul_right _ hcap) htop, hrel⟩
          refine ⟨w', _, .inl ⟨_, hr, ?_⟩, this.1, this.2, Ids.updSet hs'.ref_ne (by simp)⟩
          refine .ref (by rw [Zk]; simp) ⟨_, _, _, rfl⟩ (fun loc g hl => ?_) (fun loc hl => ?_)
          · rw [Zk] at hl; injection hl with e1 e2; omega
          · rw [Zk] at hl; injection hl with e1 e2; subst e1
            exact ⟨cap, rfl, hcap, by omega, by have := Nat.mul_le_mul_right i.size hcap; omega, by omega⟩
        rcases hI.readRef hs' hσ hg with ⟨rfl, rfl, rfl, _, rfl, hL⟩ | ⟨b', top, c, elem, cap, rfl, hL, hw, hlc, htop, hgc, hlen, hct, hcs, hone0, hn, hrel⟩
        · simp only [List.length_nil] at hg
          subst hg
          obtain ⟨w', nc, c, g1, g2, g3, g4, g5, g6, g7, g8⟩ := hnew (a := none) (len := 0) (cap := 0) (osv := []) (old := []) (by omega) hby (by simp) Ze.nil (by simp) (fun w' _ => Zdp w')
          exact hfin (b' := w.heap.size) (top := nc * i.size) (cap := nc) (c := c) (elem := el) (by simp) (by rw [hL]; exact .inr (.inr ⟨_, _, _, rfl, by omega, fun r => by simp⟩)) g5 g6 g7 (by rw [g3]; simp)
            (.inr (Nat.le_refl _)) (fun k hk _ => by rw [g3, Array.getElem?_push, if_neg (by omega)]) (by rw [g3]; simp) g4 g2 (Nat.le_refl _) (by simp) (fun p x hp => g8 p x (by simpa using hp)) (Zv g1)
        · have hlen2 : len * i.size ≤ gen := by omega
          have hold := Zot (F := F) (L := L) (by omega) hrel (len * i.size) (by omega)
          by_cases hfit : len + m ≤ cap
          · -- the row has room behind the object
            obtain ⟨w', g1, g2⟩ := Zcg (P := P) (off := len * i.size) vs 0 hw (by
              have := Nat.mul_le_mul_right i.size hfit
              omega) (hvr.one hone')
            have hrun := RF (a := some ⟨b', 0, none⟩) (len := len) (cap := cap) hfit (w' := w') (by dsimp only; rw [Addr.add_plain rfl, Nat.zero_add]; exact g1)
            refine hfin (b' := b') (top := top) (cap := cap) (elem := elem) hlen2 (by rw [hL]; exact .inr (.inr ⟨_, _, _, rfl, by omega, fun r => by simp⟩)) g2.os g2.tape g2.output (by rw [g2.size]; exact Nat.le_refl _)
              (.inl ⟨_, _, hL⟩) (fun k _ hk => g2.else_ k hk) g2.at_ (by rw [Zci]; exact hct) hfit (by omega) hone0 (fun p x hp => ?_) (Zv hrun)
            have htl : (ocs.take (len * i.size)).length = len * i.size := by rw [List.length_take]; omega
            simp only [Array.getD_eq_getD_getElem?, ZbX, Nat.add_zero]
            have hplt := (List.getElem?_eq_some_iff.1 hp).1
            rw [hlen' hlen2] at hplt
            by_cases q : p < len * i.size
            · rw [if_neg (by omega), ← Array.getD_eq_getD_getElem?]
              rw [List.getElem?_append_left (by omega), List.getElem?_take, if_pos q] at hp
              exact hrel p x hp
            · have hcap2 := Nat.mul_le_mul_right i.size hfit
              rw [if_pos (by omega), ← List.getD_eq_getElem?_getD]
              rw [List.getElem?_append_right (by omega), htl] at hp
              exact hvr.2 _ x hp
          · obtain ⟨w', nc, c2, g1, g2, g3, g4, g5, g6, g7, g8⟩ := hnew (a := some ⟨b', 0, none⟩) (len := len) (cap := cap) (osv := (List.range (len * i.size)).map fun j => c.getD j undef) (old := ocs.take (len * i.size)) (by omega) hby
              (by rw [List.length_take]; omega) hold (fun c hc => hone0 c (List.mem_of_mem_take hc)) (fun w' hw' => by
                have := run_loadCells (P := P) w' ⟨b', 0, none⟩ (len * i.size) (fun j => c.getD j undef) (fun j hj => by
                  rw [Addr.add_plain rfl, cell?_same hw', Nat.zero_add]
                  exact World.cell_of_heap hw (p := j) (by omega))
                simpa [Builtin.firstCells] using this)
            exact hfin (b' := w.heap.size) (top := nc * i.size) (cap := nc) (c := c2) (elem := el) hlen2 (by rw [hL]; exact .inr (.inr ⟨_, _, _, rfl, by omega, fun r => by simp⟩)) g5 g6 g7 (by rw [g3]; simp)
              (.inr (Nat.le_refl _)) (fun k hk _ => by rw [g3, Array.getElem?_push, if_neg (by omega)]) (by rw [g3]; simp) g4 g2 (Nat.le_refl _) hone0 g8 (Zv g1)


theorem Zou (hI : Inv F L σ w) (h0 : ts[0]? = some t0) (h1 : ts[1]? = some t1) (hu0 : P.underlying t0 = some (.slice el)) {d1 : TypeDesc} (hu1 : P.underlying t1 = some d1) (hd1 : ∀ k, d1 ≠ .int k)
    (hi : P.info? el = some i) (hb : 0 < i.bytes) {z : List AVal} (hz : ZbD P el = some z) (hzl : z.length = i.size) {s x : AVal} {cs cx : Value} (hs' : VRel F L s cs) (hx : VRel F L x cx) {lv : List Nat} {e : Env} {os ox : Opd}
    (es : ev e os = s) (ex : ev e ox = x) {u : AVal} {σ' : Sto} (hs : Zc lv (.append i.size i.bytes os ox) e σ = some (u, σ')) :
    ZeL F L σ σ' w (Sem.run P (do pure (Next.value (← Builtin.append_ ts ty #[cs, cx]))) w) u := by
  simp only [Zc, es, ex] at hs
  split at hs
  · simp at hs
  rename_i m new hrow
  split at hs
  case isFalse => simp at hs
  rename_i hc
  obtain ⟨hnl, hk, hone⟩ := hc
  have hone' : ∀ c ∈ new, c.one = true := fun c hc => List.all_eq_true.1 hone c hc
  obtain ⟨b, mc, rfl, vs, hvl, hvr, hvrun⟩ := Zl7 (P := P) hI hx (fun _ _ => rfl) hrow hnl
  exact ZqO (lv := lv) hI hs' hnl hk hone' ⟨vs, hvr, fun hfit w' hst => Zgx (P := P) (ty := ty) h0 h1 hu0 hu1 hd1 hi hfit (hvrun w rfl) hst⟩
    ⟨vs, hvr, fun hg hby hos => Zf0 (P := P) (ty := ty) h0 h1 hu0 hu1 hd1 hi hb hg hby hz hzl hvrun hos⟩ (by
      cases s <;> exact hs)

end app

end
end Go.Abs
/- Each operation of the model does what the abstract one says: the rest. -/
namespace Go.Abs
open Go
variable [Inhabited Glob] [Lps]
section
variable {P : Program} {F : Frz} {L : Lay} {σ σs : Sto} {w : World}

theorem Zoo (hI : Inv F L σs w) {t kt el : TypeId} (hu : P.underlying t = some (.map kt el)) {sh : Shape} (hsh : Z5 P 20 kt = some sh) {z : AVal} (hz : ZgA P el = some z) {ok : Bool}
    {m i : AVal} {cm ci : Value} (hm : VRel F L m cm) (hi : VRel F L i ci) {lv : List Nat} {σ : Sto} (hσ : ∀ i, i < σ.length → σs[i]? = σ[i]?) {e : Env} {om oi : Opd} (em : ev e om = m) (ei : ev e oi = i)
    {v : AVal} {σ' : Sto} (hs : Zc lv (.lookup sh z ok om oi) e σ = some (v, σ')) : σ' = σ ∧ Zaw F L σs w (ZT σ.length 0) (Sem.run P (do pure (Next.value (← Instr.lookup t cm ci ok))) w) v := by
  obtain ⟨zv, hzr, hzv⟩ : ∃ zv, (zeroValue el).run P w = .ok zv w ∧ VRel F L z zv := by
    unfold ZgA at hz
    split at hz
    · rename_i inf hinf
      split at hz
      · rename_i zz hzz
        exact ⟨zz, by simp [zeroValue, Z6 hinf, hzz], ZgB hz⟩
      · simp at hz
    · simp at hz
  have key : ∀ {ks vs : List AVal} {es : Array MapEntry}, Zby F L ks vs es.toList → eqA sh i i = some true → ∀ {r : Option Nat}, Zbm sh i ks 0 = some r →
      ((cm = .map none ∧ es = #[]) ∨ ∃ rr cl, cm = .map (some rr) ∧ w.heap[rr]? = some (.map es cl)) →
      ∃ val, (Instr.lookup t cm ci ok).run P w = .ok (if ok then .tuple #[val, .bool r.isSome] else val) w ∧ (match r with | none => val = zv | some j => ∃ me, es.toList[j]? = some me ∧ val = me.val) := by
    intro ks vs es hent hkk r hf hes
    obtain ⟨out, h1, h2⟩ := ZbL (P := P) (w := w) hsh hi hent.1 hent.2.2.1 hf hkk
    have hck := Zcu (P := P) (w := w) 20 hsh (d := 10000) (by omega) (emp := es.isEmpty) hi hkk
    cases r with
    | none =>
      simp only [Zc8] at h2
      subst h2
      refine ⟨zv, ?_, rfl⟩
      rcases hes with ⟨rfl, rfl⟩ | ⟨rr, cl, rfl, hw⟩
      · simp only [Instr.lookup, Sem.run_bind, run_underlying hu, Result.andThen_ok, hck, h1, hzr, Sem.run_pure]
        cases ok <;> rfl
      · simp only [Instr.lookup, Sem.run_bind, run_underlying hu, Result.andThen_ok, getObj, Sem.run, hw, hck, h1, hzr, Sem.run_pure]
        cases ok <;> rfl
    | some j =>
      obtain ⟨_, me, h3, rfl⟩ := h2
      refine ⟨me.val, ?_, me, by simpa using h3, rfl⟩
      rcases hes with ⟨rfl, rfl⟩ | ⟨rr, cl, rfl, hw⟩
      · simp only [Instr.lookup, Sem.run_bind, run_underlying hu, Result.andThen_ok, hck, h1, Sem.run_pure]
        cases ok <;> rfl
      · simp only [Instr.lookup, Sem.run_bind, run_underlying hu, Result.andThen_ok, getObj, Sem.run, hw, hck, h1, Sem.run_pure]
        cases ok <;> rfl
  have fin : ∀ {ks vs : List AVal} {es : Array MapEntry}, Zby F L ks vs es.toList →
      ((cm = .map none ∧ es = #[]) ∨ ∃ rr cl, cm = .map (some rr) ∧ w.heap[rr]? = some (.map es cl)) →
      (if eqA sh i i = some true then
        match Zbm sh i ks 0 with
        | some (some j) => (vs[j]?).map fun v => ((if ok then AVal.tup [v, .bool true] else v), σ)
        | some none => some ((if ok then AVal.tup [z, .bool false] else z), σ)
        | none => none
      else none) = some (v, σ') → σ' = σ ∧ Zaw F L σs w (ZT σ.length 0) (Sem.run P (do pure (Next.value (← Instr.lookup t cm ci ok))) w) v := by
    intro ks vs es hent hes h
    split at h
    case isFalse => simp at h
    rename_i hkk
    split at h
    · rename_i j hf
      simp only [Option.map_eq_some_iff, Prod.mk.injEq] at h
      obtain ⟨u, hu', rfl, rfl⟩ := h
      obtain ⟨val, h1, me, h2, rfl⟩ := key hent hkk hf hes
      obtain ⟨me', h3, h4⟩ := hent.2.2.2 j u hu'
      rw [h2] at h3
      obtain rfl := Option.some.inj h3
      refine ⟨rfl, .still hI (Zv h1) ?_ (Zd _)⟩
      cases ok
      · simpa using h4
      · simp only [if_true]
        exact .tup rfl fun i c hi => by
          rcases i with _ | _ | i
          · simp at hi; subst hi; exact h4
          · simp at hi; subst hi; exact .bool
          · simp at hi
    · rename_i hf
      obtain ⟨rfl, rfl⟩ := Prod.mk.inj (Option.some.inj h)
      obtain ⟨val, h1, rfl⟩ := key hent hkk hf hes
      refine ⟨rfl, .still hI (Zv h1) ?_ (Zd _)⟩
      cases ok
      · simpa using hzv
      · simp only [if_true]
        exact .tup rfl fun i c hi => by
          rcases i with _ | _ | i
          · simp at hi; subst hi; exact hzv
          · simp at hi; subst hi; exact .bool
          · simp at hi
    · simp at h
  simp only [Zc, em, ei] at hs
  cases m <;> (try simp only [reduceCtorEq] at hs)
  case nilm =>
    cases hm
    exact fin (ks := []) (vs := []) (es := #[]) ⟨rfl, rfl, fun i c h => by simp at h, fun i c h => by simp at h⟩ (.inl ⟨rfl, rfl⟩) hs
  case fmap ks vs =>
    cases hm with
    | @fmap _ _ _ r kv kv' hr hp hk hl hkv hvv =>
      obtain ⟨es, cl, hw, he⟩ := hI.fm r kv' hr
      rcases hp with rfl | ⟨k, m, n, u1, u2, hmn, rfl, rfl, rfl⟩
      case inr =>
        obtain ⟨c, d, rfl⟩ : ∃ c d, vs = [c, d] := by
          match vs, hl with
          | [c, d], _ => exact ⟨c, d, rfl⟩
        obtain ⟨e0, e1, hes⟩ : ∃ e0 e1, es.toList = [e0, e1] := by
          match h : es.toList, he with
          | [e0, e1], _ => exact ⟨e0, e1, rfl⟩
          | [], he => simp [h] at he
          | [_], he => simp [h] at he
          | _ :: _ :: _ :: _, he => simp [h] at he
        simp only [hes, List.map_cons, List.map_nil, List.cons.injEq, Prod.mk.injEq, and_true] at he
        obtain ⟨⟨k0, v0⟩, k1, v1⟩ := he
        have hc := hvv 0 c rfl
        have hd := hvv 1 d rfl
        simp only [List.getD_cons_zero, List.getD_cons_succ] at hc hd
        refine fin (ks := [.int k m, .int k n]) (vs := [d, c]) (es := es) ⟨by rw [hes]; rfl, by rw [hes]; rfl, fun i x hx => ?_, fun i x hx => ?_⟩ (.inr ⟨r, cl, rfl, hw⟩) ?_
        · rw [hes]
          rcases i with _ | _ | i
          · simp at hx; subst hx; exact ⟨e0, rfl, by rw [k0]; exact .int⟩
          · simp at hx; subst hx; exact ⟨e1, rfl, by rw [k1]; exact .int⟩
          · simp at hx
        · rw [hes]
          rcases i with _ | _ | i
          · simp at hx; subst hx; exact ⟨e0, rfl, by rw [v0]; exact hd.ofNo L⟩
          · simp at hx; subst hx; exact ⟨e1, rfl, by rw [v1]; exact hc.ofNo L⟩
          · simp at hx
        · rw [← hs]
          cases sh <;> cases i <;> simp only [eqA, Zbm, reduceCtorEq, if_false]
          rename_i k' k2 j
          have hmn' : ¬ n = m := fun h => hmn h.symm
          by_cases hk2 : k2 = k
          · subst hk2
            by_cases h1 : j = m
            · have e2 : (j == n) = false := by simpa [h1] using hmn
              have e1 : (j == m) = true := by simpa using h1
              simp [e1, e2]
            · by_cases h2 : j = n
              · have e1 : (j == m) = false := by simpa using h1
                have e2 : (j == n) = true := by simpa using h2
                simp [e1, e2]
              · have e1 : (j == m) = false := by simpa using h1
                have e2 : (j == n) = false := by simpa using h2
                simp [e1, e2]
          · simp [hk2]
      have hlen : es.toList.length = kv'.length := by rw [← he]; simp
      refine fin (es := es) ⟨hlen.trans hk, hlen.trans hl, fun i c hc => ?_, fun i c hc => ?_⟩ (.inr ⟨r, cl, rfl, hw⟩) hs
      · have hlt : i < es.toList.length := by rw [hlen, hk]; exact (List.getElem?_eq_some_iff.1 hc).1
        refine ⟨es.toList[i], List.getElem?_eq_getElem hlt, ?_⟩
        have := hkv i c hc
        rw [← he, List.getD_eq_getElem?_getD, List.getElem?_map, List.getElem?_eq_getElem hlt] at this
        exact this.ofNo L
      · have hlt : i < es.toList.length := by rw [hlen, hl]; exact (List.getElem?_eq_some_iff.1 hc).1
        refine ⟨es.toList[i], List.getElem?_eq_getElem hlt, ?_⟩
        have := hvv i c hc
        rw [← he, List.getD_eq_getElem?_getD, List.getElem?_map, List.getElem?_eq_getElem hlt] at this
        exact this.ofNo L
  case map o =>
    split at hs
    · rename_i ks vs ho
      have ho' := (hσ o (List.getElem?_eq_some_iff.1 ho).1).trans ho
      obtain ⟨r, es, cl, rfl, hL, hw, hent⟩ := hI.readMap hm ho'
      exact fin hent (.inr ⟨r, cl, rfl, hw⟩) hs
    · simp at hs

theorem Inv.setMap (hI : Inv F L σ w) {o r gen : Nat} (hL : L o = .live (.mp r) gen) {ob : AObj} (hob : σ[o]? = some ob) {ks vs : List AVal} {es : Array MapEntry} {clock : Nat}
    (hent : Zby F L ks vs es.toList) (hst : ZaU es clock) : Inv F L (σ.set o (.map ks vs)) { w with heap := w.heap.setIfInBounds r (.map es clock) } ∧ Adv F L w F L { w with heap := w.heap.setIfInBounds r (.map es clock) } ∧
      Ids L σ L (σ.set o (.map ks vs)) := by
  have hlt := (List.getElem?_eq_some_iff.1 hob).1
  have hr : r < w.heap.size := hI.old ⟨o, _, _, hL, rfl⟩
  have := hI.change (o := o) (loc := .mp r) (gen := gen) (ob := .map ks vs) (σ' := σ.set o (.map ks vs)) (w' := { w with heap := w.heap.setIfInBounds r (.map es clock) }) (by simp)
    (fun i _ hi => by rw [List.getElem?_set, if_neg (Ne.symm hi)]) (by simp [hlt])
    (by rw [hL]; exact ZaA.refl _) rfl rfl rfl (by simp) (fun b' hb' => .inl ⟨_, _, hL, hb'⟩)
    (fun k _ hk => by simp only [Array.getElem?_setIfInBounds]; rw [if_neg (by rintro rfl; exact hk rfl)])
    ⟨r, es, clock, rfl, by simp [hr], hent, hst⟩
  rw [Zlf hL] at this
  exact ⟨this.1, this.2, Ids.set⟩

theorem Zjg {x y : AVal} (h : Zhw x y = true) : x = y := by
  unfold Zhw at h
  split at h
  · simp_all
  · simp_all
  · rename_i a b
    obtain ⟨⟨x⟩⟩ := a
    obtain ⟨⟨y⟩⟩ := b
    have h' : ((⟨x⟩ : Array UInt8) == ⟨y⟩) = true := h
    simp at h'
    subst h'; rfl
  · simp at h

theorem Zgs : ∀ {xs ys : List AVal}, ZeI xs ys = true → xs = ys
  | [], [], _ => rfl
  | x :: xs, y :: ys, h => by
    simp only [ZeI, Bool.and_eq_true] at h
    rw [Zjg h.1, Zgs h.2]
  | [], _ :: _, h => by simp [ZeI] at h
  | _ :: _, [], h => by simp [ZeI] at h

theorem Zgt {x y : AVal} (h : Zhw x y = true) {cx cy : Value} (hx : VRel F L x cx) (hy : VRel F L y cy) (n : Nat) : Instr.sameBits n cx cy = true := by
  unfold Zhw at h
  split at h
  · cases hx; cases hy; simpa [Instr.sameBits] using h
  · cases hx; cases hy; simpa [Instr.sameBits] using h
  · cases hx; cases hy; simpa [Instr.sameBits] using h
  · simp at h

theorem Zgu : ∀ {xs ys : List AVal} {ca cb : List Value}, ZeI xs ys = true → Ze F L xs ca → Ze F L ys cb → ∀ n, (ca.zip cb).all (fun (x, y) => Instr.sameBits n x y) = true
  | [], ys, ca, cb, _, h1, _, n => by
    have : ca = [] := by simpa using h1.1
    subst this; rfl
  | x :: xs, [], ca, cb, h, _, _, _ => by simp [ZeI] at h
  | x :: xs, y :: ys, [], cb, _, h1, _, n => absurd h1.1 (by simp)
  | x :: xs, y :: ys, a :: ca, [], _, _, h2, n => absurd h2.1 (by simp)
  | x :: xs, y :: ys, a :: ca, b :: cb, h, h1, h2, n => by
    simp only [ZeI, Bool.and_eq_true] at h
    have e1 := h1.2 0 x rfl
    have e2 := h2.2 0 y rfl
    simp only [List.zip_cons_cons, List.all_cons, Bool.and_eq_true]
    exact ⟨Zgt h.1 e1 e2 n, Zgu h.2 ⟨by simpa using h1.1, fun i c hc => h1.2 (i + 1) c (by simpa using hc)⟩ ⟨by simpa using h2.1, fun i c hc => h2.2 (i + 1) c (by simpa using hc)⟩ n⟩

theorem Zc7 {x y : AVal} (h : Zhx x y = true) {cx cy : Value} (hx : VRel F L x cx) (hy : VRel F L y cy) (n : Nat) : x = y ∧ Instr.sameBits (n + 1) cx cy = true := by
  unfold Zhx at h
  split at h
  · rename_i xs ys
    obtain ⟨ca, rfl, h1⟩ := Ze.ofAgg hx
    obtain ⟨cb, rfl, h2⟩ := Ze.ofAgg hy
    refine ⟨by rw [Zgs h], ?_⟩
    have e := Zgs h
    subst e
    have hsz : ca.size = cb.size := by have a := h1.1; have b := h2.1; simp at a b; omega
    simp only [Instr.sameBits, Bool.and_eq_true, beq_iff_eq]
    exact ⟨hsz, Zgu h h1 h2 n⟩
  · exact ⟨Zjg h, Zgt h hx hy (n + 1)⟩

theorem ZbI {r : Nat} {es : Array MapEntry} {cl : Nat} (hw : w.heap[r]? = some (.map es cl)) : (getObj r).run P w = .ok (.map es cl) w := by
  simp only [getObj, Sem.run, hw]
theorem ZbJ {r : Nat} {es : Array MapEntry} {cl : Nat} (hw : w.heap[r]? = some (.map es cl)) (o : Obj) : (setObj r o).run P w = .ok () { w with heap := w.heap.setIfInBounds r o } := by
  simp only [setObj, Sem.run, hw]

theorem ZaU.modify {es : Array MapEntry} {cl j : Nat} (h : ZaU es cl) {f : MapEntry → MapEntry} (hf : ∀ m, (f m).born = m.born) : ZaU (es.modify j f) cl := by
  refine ⟨by simp [h.1], fun i m hi => ?_⟩
  rw [Array.getElem?_modify] at hi
  split at hi
  · simp only [Option.map_eq_some_iff] at hi
    obtain ⟨m', h1, rfl⟩ := hi
    rw [hf]; exact h.2 i m' h1
  · exact h.2 i m hi
theorem ZaU.push {es : Array MapEntry} {cl : Nat} (h : ZaU es cl) {m : MapEntry} (hm : m.born = cl) : ZaU (es.push m) (cl + 1) := by
  refine ⟨by simp [h.1], fun i m' hi => ?_⟩
  rw [Array.getElem?_push] at hi
  split at hi
  · rename_i e; obtain rfl := Option.some.inj hi; rw [hm, h.1, e]
  · exact h.2 i m' hi
theorem ZaU.find {es : Array MapEntry} {cl : Nat} (h : ZaU es cl) {j : Nat} (hj : j < es.size) : es.findIdx? (fun e => (e.born : Int) == (j : Int)) = some j := by
  rw [Array.findIdx?_eq_some_iff_getElem]
  refine ⟨hj, ?_, fun i hi => ?_⟩
  · have := h.2 j es[j] (Array.getElem?_eq_getElem hj)
    simp [this]
  · have := h.2 i es[i] (Array.getElem?_eq_getElem (by omega))
    simp only [this, beq_iff_eq]
    omega

theorem Zby.push {ks vs : List AVal} {es : Array MapEntry} (hent : Zby F L ks vs es.toList) {k v : AVal} {ck cv : Value} {cl : Nat} (hk : VRel F L k ck) (hv : VRel F L v cv) : Zby F L (ks ++ [k]) (vs ++ [v]) (es.push { key := ck, val := cv, born := cl }).toList := by
  refine ⟨by have := hent.1; simp at this ⊢; exact this, by have := hent.2.1; simp at this ⊢; exact this, fun i c hc => ?_, fun i c hc => ?_⟩
  · rcases Nat.lt_or_ge i ks.length with h | h
    · rw [List.getElem?_append_left h] at hc
      obtain ⟨mm, g1, g2⟩ := hent.2.2.1 i c hc
      refine ⟨mm, ?_, g2⟩
      rw [Array.toList_push, List.getElem?_append_left (by rw [hent.1]; exact h)]; exact g1
    · rw [List.getElem?_append_right h] at hc
      have hi : i - ks.length = 0 := by have := (List.getElem?_eq_some_iff.1 hc).1; simp at this; omega
      rw [hi] at hc
      simp at hc; subst hc
      refine ⟨{ key := ck, val := cv, born := cl }, ?_, hk⟩
      rw [Array.toList_push, List.getElem?_append_right (by rw [hent.1]; exact h), hent.1, hi]; rfl
  · rcases Nat.lt_or_ge i vs.length with h | h
    · rw [List.getElem?_append_left h] at hc
      obtain ⟨mm, g1, g2⟩ := hent.2.2.2 i c hc
      refine ⟨mm, ?_, g2⟩
      rw [Array.toList_push, List.getElem?_append_left (by rw [hent.2.1]; exact h)]; exact g1
    · rw [List.getElem?_append_right h] at hc
      have hi : i - vs.length = 0 := by have := (List.getElem?_eq_some_iff.1 hc).1; simp at this; omega
      rw [hi] at hc
      simp at hc; subst hc
      refine ⟨{ key := ck, val := cv, born := cl }, ?_, hv⟩
      rw [Array.toList_push, List.getElem?_append_right (by rw [hent.2.1]; exact h), hent.2.1, hi]; rfl

theorem Zle (hI : Inv F L σ w) {t kt el : TypeId} (hu : P.underlying t = some (.map kt el)) {sh : Shape} (hsh : Z5 P 20 kt = some sh)
    {m k v : AVal} {cm ck cv : Value} (hm : VRel F L m cm) (hk : VRel F L k ck) (hv : VRel F L v cv) {lv : List Nat} {e : Env} {om ok ov : Opd} (em : ev e om = m) (ek : ev e ok = k) (ev' : ev e ov = v)
    {u : AVal} {σ' : Sto} (hs : Zc lv (.mapup sh om ok ov) e σ = some (u, σ')) :
    ZeL F L σ σ' w (Sem.run P (do Instr.mapUpdate t cm ck cv; pure .skip) w) u := by
  simp only [Zc, em, ek, ev'] at hs
  cases m <;> (try simp only [reduceCtorEq] at hs)
  case map o =>
    split at hs
    case h_2 => simp at hs
    rename_i ks vs ho
    split at hs
    case isFalse => simp at hs
    rename_i hc
    obtain ⟨_, hkk⟩ := hc
    obtain ⟨r, es, cl, rfl, hL, hw, hent, hst⟩ := hI.readMapS hm ho
    have hck := Zcu (P := P) (w := w) 20 hsh (d := 10000) (by omega) (emp := false) hk hkk
    split at hs
    · rename_i j hf
      split at hs
      case isFalse => simp at hs
      rename_i hsame
      obtain ⟨rfl, rfl⟩ := Prod.mk.inj (Option.some.inj hs)
      obtain ⟨out, h1, _, me, h2, rfl⟩ := ZbL (P := P) (w := w) hsh hk hent.1 hent.2.2.1 hf hkk
      have h2 : es.toList[j]? = some me := by simpa using h2
      have hjlt : j < es.toList.length := (List.getElem?_eq_some_iff.1 h2).1
      have hjk : j < ks.length := by rw [← hent.1]; exact hjlt
      have hkj : ks[j]? = some (ks.getD j .und) := by simp [List.getD_eq_getElem?_getD, List.getElem?_eq_getElem hjk]
      obtain ⟨me', h3, h4⟩ := hent.2.2.1 j _ hkj
      rw [h2] at h3
      obtain rfl := Option.some.inj h3
      obtain ⟨hkeq, hbits⟩ := Zc7 hsame hk h4 9999
      have hbits' : Instr.sameBits 10000 me.key ck = true := by
        rw [← hkeq] at hsame h4
        exact (Zc7 hsame h4 hk 9999).2
      have hent' : Zby F L ks (vs.set j v) (es.modify j fun e => { e with key := ck, val := cv }).toList := by
        refine ⟨by simpa using hent.1, by simpa using hent.2.1, fun i c hc => ?_, fun i c hc => ?_⟩
        · obtain ⟨mm, g1, g2⟩ := hent.2.2.1 i c hc
          by_cases e : i = j
          · subst e
            refine ⟨{ mm with key := ck, val := cv }, ?_, ?_⟩
            · have : es[i]? = some mm := by simpa using g1
              simp [this]
            · rw [hkj] at hc
              obtain rfl := Option.some.inj hc
              rw [← hkeq]; exact hk
          · refine ⟨mm, ?_, g2⟩
            have : es[i]? = some mm := by simpa using g1
            simp [Ne.symm e, this]
        · rw [List.getElem?_set] at hc
          by_cases e : j = i
          · subst e
            rw [if_pos rfl] at hc
            split at hc
            · obtain rfl := Option.some.inj hc
              refine ⟨{ me with key := ck, val := cv }, ?_, hv⟩
              have : es[j]? = some me := by simpa using h2
              simp [this]
            · simp at hc
          · rw [if_neg e] at hc
            obtain ⟨mm, g1, g2⟩ := hent.2.2.2 i c hc
            refine ⟨mm, ?_, g2⟩
            have : es[i]? = some mm := by simpa using g1
            simp [e, this]
      obtain ⟨i1, i2, i3⟩ := hI.setMap hL ho (clock := cl) hent' (hst.modify fun _ => rfl)
      refine ⟨_, L, .inr ⟨?_, rfl⟩, i1, i2, i3⟩
      have hes : es[j]? = some me := by simpa using h2
      have hkt : (Instr.keyThatStays (((es[j]?).map (·.key)).getD ck) ck).run P w = .ok ck w := by
        rw [hes]
        simp only [Option.map_some, Option.getD_some, Instr.keyThatStays, hbits', if_true, Sem.run_pure]
      have hset := ZbJ (P := P) hw (.map (es.modify j fun e => { e with key := ck, val := cv }) cl)
      simp only [Instr.mapUpdate, Sem.run_bind, run_underlying hu, Result.andThen_ok, ZbI hw, hck, h1, hkt, hset, Sem.run_pure]
    · rename_i hf
      obtain ⟨rfl, rfl⟩ := Prod.mk.inj (Option.some.inj hs)
      obtain ⟨out, h1, h2⟩ := ZbL (P := P) (w := w) hsh hk hent.1 hent.2.2.1 hf hkk
      simp only [Zc8] at h2
      subst h2
      have hent' : Zby F L (ks ++ [k]) (vs ++ [v]) (es.push { key := ck, val := cv, born := cl }).toList := by
        refine ⟨by have := hent.1; simp at this ⊢; exact this, by have := hent.2.1; simp at this ⊢; exact this, fun i c hc => ?_, fun i c hc => ?_⟩
        · rcases Nat.lt_or_ge i ks.length with h | h
          · rw [List.getElem?_append_left h] at hc
            obtain ⟨mm, g1, g2⟩ := hent.2.2.1 i c hc
            refine ⟨mm, ?_, g2⟩
            rw [Array.toList_push, List.getElem?_append_left (by rw [hent.1]; exact h)]; exact g1
          · rw [List.getElem?_append_right h] at hc
            have hi : i - ks.length = 0 := by have := (List.getElem?_eq_some_iff.1 hc).1; simp at this; omega
            rw [hi] at hc
            simp at hc; subst hc
            refine ⟨{ key := ck, val := cv, born := cl }, ?_, hk⟩
            rw [Array.toList_push, List.getElem?_append_right (by rw [hent.1]; exact h), hent.1, hi]; rfl
        · rcases Nat.lt_or_ge i vs.length with h | h
          · rw [List.getElem?_append_left h] at hc
            obtain ⟨mm, g1, g2⟩ := hent.2.2.2 i c hc
            refine ⟨mm, ?_, g2⟩
            rw [Array.toList_push, List.getElem?_append_left (by rw [hent.2.1]; exact h)]; exact g1
          · rw [List.getElem?_append_right h] at hc
            have hi : i - vs.length = 0 := by have := (List.getElem?_eq_some_iff.1 hc).1; simp at this; omega
            rw [hi] at hc
            simp at hc; subst hc
            refine ⟨{ key := ck, val := cv, born := cl }, ?_, hv⟩
            rw [Array.toList_push, List.getElem?_append_right (by rw [hent.2.1]; exact h), hent.2.1, hi]; rfl
      obtain ⟨i1, i2, i3⟩ := hI.setMap hL ho (clock := cl + 1) hent' (hst.push rfl)
      refine ⟨_, L, .inr ⟨?_, rfl⟩, i1, i2, i3⟩
      have hset := ZbJ (P := P) hw (.map (es.push { key := ck, val := cv, born := cl }) (cl + 1))
      simp only [Instr.mapUpdate, Sem.run_bind, run_underlying hu, Result.andThen_ok, ZbI hw, hck, h1, hset, Sem.run_pure]
    · simp at hs

theorem Zl6 {o : Nat} {ob : AObj} (h : σ[o]? = some ob) : σ.set o ob = σ := by
  apply List.ext_getElem?
  intro i
  rw [List.getElem?_set]
  split
  · rename_i e; subst e; rw [if_pos (List.getElem?_eq_some_iff.1 h).1, h]
  · rfl

theorem Zop {el : TypeId} {z : AVal} (hz : ZgA P el = some z) (F : Frz) (L : Lay) : ∃ zv, (zeroValue el).run P w = .ok zv w ∧ VRel F L z zv := by
  unfold ZgA at hz
  split at hz
  · rename_i inf hinf
    split at hz
    · rename_i zz hzz
      exact ⟨zz, by simp [zeroValue, Z6 hinf, hzz], ZgB hz⟩
    · simp at hz
  · simp at hz

theorem Zoq (hI : Inv F L σ w) {t kt el : TypeId} (hu : P.underlying t = some (.map kt el)) {sh : Shape} (hsh : Z5 P 20 kt = some sh) {z : AVal} (hz : ZgA P el = some z)
    {m k : AVal} {cm ck : Value} (hm : VRel F L m cm) (hk : VRel F L k ck) {lv : List Nat} {e : Env} {om ok : Opd} (em : ev e om = m) (ek : ev e ok = k)
    {u : AVal} {σ' : Sto} (hs : Zc lv (.mapent sh z om ok) e σ = some (u, σ')) :
    ZeL F L σ σ' w (Sem.run P (do pure (Next.value (← Instr.mapEntry t cm ck))) w) u := by
  obtain ⟨zv, hzr, hzv⟩ := Zop (P := P) (w := w) hz F L
  simp only [Zc, em, ek] at hs
  cases m <;> (try simp only [reduceCtorEq] at hs)
  case map o =>
    split at hs
    case h_2 => simp at hs
    rename_i ks vs ho
    split at hs
    case isFalse => simp at hs
    rename_i hc
    obtain ⟨_, hkk⟩ := hc
    obtain ⟨r, es, cl, rfl, hL, hw, hent, hst⟩ := hI.readMapS hm ho
    have hck := Zcu (P := P) (w := w) 20 hsh (d := 10000) (by omega) (emp := false) hk hkk
    split at hs
    · rename_i j hf
      split at hs
      case isFalse => simp at hs
      rename_i hsame
      simp only [Option.map_eq_some_iff, Prod.mk.injEq] at hs
      obtain ⟨v, hvj, rfl, rfl⟩ := hs
      obtain ⟨out, h1, _, me, h2, rfl⟩ := ZbL (P := P) (w := w) hsh hk hent.1 hent.2.2.1 hf hkk
      have h2 : es.toList[j]? = some me := by simpa using h2
      have hjlt : j < es.toList.length := (List.getElem?_eq_some_iff.1 h2).1
      have hjk : j < ks.length := by rw [← hent.1]; exact hjlt
      have hkj : ks[j]? = some (ks.getD j .und) := by simp [List.getD_eq_getElem?_getD, List.getElem?_eq_getElem hjk]
      obtain ⟨me', h3, h4⟩ := hent.2.2.1 j _ hkj
      rw [h2] at h3
      obtain rfl := Option.some.inj h3
      obtain ⟨hkeq, hbits⟩ := Zc7 hsame hk h4 9999
      have hbits' : Instr.sameBits 10000 me.key ck = true := by
        rw [← hkeq] at hsame h4
        exact (Zc7 hsame h4 hk 9999).2
      have hes : es[j]? = some me := by simpa using h2
      have hent' : Zby F L ks vs (es.modify j fun e => { e with key := ck }).toList := by
        refine ⟨by simpa using hent.1, by simpa using hent.2.1, fun i c hc => ?_, fun i c hc => ?_⟩
        · obtain ⟨mm, g1, g2⟩ := hent.2.2.1 i c hc
          by_cases e : i = j
          · subst e
            refine ⟨{ mm with key := ck }, ?_, ?_⟩
            · have : es[i]? = some mm := by simpa using g1
              simp [this]
            · rw [hkj] at hc
              obtain rfl := Option.some.inj hc
              rw [← hkeq]; exact hk
          · refine ⟨mm, ?_, g2⟩
            have : es[i]? = some mm := by simpa using g1
            simp [Ne.symm e, this]
        · obtain ⟨mm, g1, g2⟩ := hent.2.2.2 i c hc
          have g1' : es[i]? = some mm := by simpa using g1
          by_cases e : i = j
          · subst e
            exact ⟨{ mm with key := ck }, by simp [g1'], g2⟩
          · exact ⟨mm, by simp [Ne.symm e, g1'], g2⟩
      obtain ⟨i1, i2, i3⟩ := hI.setMap hL ho (clock := cl) hent' (hst.modify fun _ => rfl)
      rw [Zl6 ho] at i1 i3
      have hkt : (Instr.keyThatStays (((es[j]?).map (·.key)).getD ck) ck).run P w = .ok ck w := by
        rw [hes]
        simp only [Option.map_some, Option.getD_some, Instr.keyThatStays, hbits', if_true, Sem.run_pure]
      have hset := ZbJ (P := P) hw (.map (es.modify j fun e => { e with key := ck }) cl)
      obtain ⟨me', q1, q2⟩ := hent.2.2.2 j v hvj
      rw [h2] at q1
      obtain rfl := Option.some.inj q1
      have hborn : (((es[j]?).map fun x => (x.born : Int)).getD 0) = (j : Int) := by rw [hes]; simp [hst.2 j me hes]
      refine ⟨_, L, .inl ⟨.tuple #[me.val, .int .i64 j], Zv ?_, ?_⟩, i1, i2, i3⟩
      · simp only [Instr.mapEntry, Sem.run_bind, run_underlying hu, Result.andThen_ok, ZbI hw, hck, h1, hkt, hset, Sem.run_pure, hborn, goInt]
      · refine .tup rfl fun i c hi => ?_
        rcases i with _ | _ | i
        · simp at hi; subst hi; exact q2
        · simp at hi; subst hi; exact .int
        · simp at hi
    · rename_i hf
      obtain ⟨rfl, rfl⟩ := Prod.mk.inj (Option.some.inj hs)
      obtain ⟨out, h1, h2⟩ := ZbL (P := P) (w := w) hsh hk hent.1 hent.2.2.1 hf hkk
      simp only [Zc8] at h2
      subst h2
      have hent' : Zby F L (ks ++ [k]) (vs ++ [z]) (es.push { key := ck, val := zv, born := cl }).toList := hent.push hk hzv
      obtain ⟨i1, i2, i3⟩ := hI.setMap hL ho (clock := cl + 1) hent' (hst.push rfl)
      have hset := ZbJ (P := P) hw (.map (es.push { key := ck, val := zv, born := cl }) (cl + 1))
      have hcl : cl = ks.length := by have := hent.1; simp at this; rw [hst.1]; exact this
      refine ⟨_, L, .inl ⟨.tuple #[zv, .int .i64 ks.length], Zv ?_, ?_⟩, i1, i2, i3⟩
      · simp only [Instr.mapEntry, Sem.run_bind, run_underlying hu, Result.andThen_ok, ZbI hw, hck, h1, hzr, hset, Sem.run_pure, goInt]
        rw [hcl]
      · refine .tup rfl fun i c hi => ?_
        rcases i with _ | _ | i
        · simp at hi; subst hi; exact hzv
        · simp at hi; subst hi; exact .int
        · simp at hi
    · simp at hs

theorem ZpG (hI : Inv F L σ w) {t : TypeId} {m s v : AVal} {cm cs cv : Value} (hm : VRel F L m cm) (hsr : VRel F L s cs) (hv : VRel F L v cv) {lv : List Nat} {e : Env} {om os ov : Opd} (em : ev e om = m) (es' : ev e os = s) (ev' : ev e ov = v)
    {u : AVal} {σ' : Sto} (hs : Zc lv (.entst om os ov) e σ = some (u, σ')) :
    ZeL F L σ σ' w (Sem.run P (do Instr.entryStore t cm cs cv; pure .skip) w) u := by
  simp only [Zc, em, es', ev'] at hs
  split at hs
  case h_2 => simp at hs
  rename_i o j
  split at hs
  case h_2 => simp at hs
  rename_i ks vs ho
  split at hs
  case isFalse => simp at hs
  rename_i hc
  obtain ⟨h0, hlt, _⟩ := hc
  obtain ⟨rfl, rfl⟩ := Prod.mk.inj (Option.some.inj hs)
  obtain ⟨r, es, cl, rfl, hL, hw, hent, hst⟩ := hI.readMapS hm ho
  cases hsr
  have hje : j.toNat < es.size := by have := hent.2.1; simp at this; omega
  have hent' : Zby F L ks (vs.set j.toNat v) (es.modify j.toNat fun e => { e with val := cv }).toList := by
    refine ⟨by simpa using hent.1, by simpa using hent.2.1, fun i c hc => ?_, fun i c hc => ?_⟩
    · obtain ⟨mm, g1, g2⟩ := hent.2.2.1 i c hc
      have g1' : es[i]? = some mm := by simpa using g1
      by_cases e : i = j.toNat
      · subst e
        exact ⟨{ mm with val := cv }, by simp [g1'], g2⟩
      · exact ⟨mm, by simp [Ne.symm e, g1'], g2⟩
    · rw [List.getElem?_set] at hc
      by_cases e : j.toNat = i
      · subst e
        rw [if_pos rfl, if_pos hlt] at hc
        obtain rfl := Option.some.inj hc
        have : es[j.toNat]? = some es[j.toNat] := Array.getElem?_eq_getElem hje
        exact ⟨{ es[j.toNat] with val := cv }, by simp [this], hv⟩
      · rw [if_neg e] at hc
        obtain ⟨mm, g1, g2⟩ := hent.2.2.2 i c hc
        have g1' : es[i]? = some mm := by simpa using g1
        exact ⟨mm, by simp [e, g1'], g2⟩
  obtain ⟨i1, i2, i3⟩ := hI.setMap hL ho (clock := cl) hent' (hst.modify fun _ => rfl)
  refine ⟨_, L, .inr ⟨?_, rfl⟩, i1, i2, i3⟩
  have hset := ZbJ (P := P) hw (.map (es.modify j.toNat fun e => { e with val := cv }) cl)
  have hfind := hst.find hje
  rw [Int.toNat_of_nonneg h0] at hfind
  simp only [Instr.entryStore, Sem.run_bind, Result.andThen_ok, ZbI hw, asInt, asIntOf, Sem.run_pure, hfind, hset]

theorem Zor (hI : Inv F L σ w) {ts : Array TypeId} {t ty kt el : TypeId} (ht : ts[0]? = some t) (hu : P.underlying t = some (.map kt el)) {sh : Shape} (hsh : Z5 P 20 kt = some sh)
    {m k : AVal} {cm ck : Value} (hm : VRel F L m cm) (hk : VRel F L k ck) {lv : List Nat} {e : Env} {om ok : Opd} (em : ev e om = m) (ek : ev e ok = k)
    {u : AVal} {σ' : Sto} (hs : Zc lv (.delete sh om ok) e σ = some (u, σ')) :
    ZeL F L σ σ' w (Sem.run P (do pure (Next.value (← Builtin.delete_ ts ty #[cm, ck]))) w) u := by
  simp only [Zc, em, ek] at hs
  cases m <;> (try simp only [reduceCtorEq] at hs)
  case map o =>
    split at hs
    case h_2 => simp at hs
    rename_i ks vs ho
    split at hs
    case isFalse => simp at hs
    rename_i hkk
    obtain ⟨r, es, cl, rfl, hL, hw, hent⟩ := hI.readMap hm ho
    have hck := Zcu (P := P) (w := w) 20 hsh (d := 10000) (by omega) (emp := es.isEmpty) hk hkk
    split at hs
    · simp at hs
    · rename_i hf
      obtain ⟨rfl, rfl⟩ := Prod.mk.inj (Option.some.inj hs)
      obtain ⟨out, h1, h2⟩ := ZbL (P := P) (w := w) hsh hk hent.1 hent.2.2.1 hf hkk
      simp only [Zc8] at h2
      subst h2
      have hset := ZbJ (P := P) hw (.map es cl)
      have hsame : ({ w with heap := w.heap.setIfInBounds r (.map es cl) } : World) = w := by
        have : w.heap.setIfInBounds r (.map es cl) = w.heap := by
          apply Array.ext_getElem?
          intro i
          rw [Array.getElem?_setIfInBounds]
          split
          · rename_i e; subst e; rw [hw]; simp [(Array.getElem?_eq_some_iff.1 hw).1]
          · rfl
        rw [this]
      rw [hsame] at hset
      refine ⟨w, L, .inl ⟨.tuple #[], Zv ?_, .tup rfl fun i c h => by simp at h⟩, hI, Adv.refl F L w, Ids.refl⟩
      simp only [Builtin.delete_, ht, List.getElem?_toArray, List.getElem?_cons_zero, List.getElem?_cons_succ, Sem.run_bind, run_underlying hu, Result.andThen_ok, ZbI hw, hck, h1, hset, Sem.run_pure]
    · simp at hs

theorem Zjh {x : AVal} {cx : Value} (hx : VRel F L x cx) {m : Nat} {cs : List AVal} (hI : Inv F L σ w) (h : Zai σ x = some (m, cs)) : ∃ a c, cx = .slice a m c := by
  unfold Zai at h
  split at h
  · obtain ⟨rfl, rfl⟩ := Prod.mk.inj (Option.some.inj h); cases hx; exact ⟨_, _, rfl⟩
  · obtain ⟨rfl, rfl⟩ := Prod.mk.inj (Option.some.inj h); cases hx; exact ⟨_, _, rfl⟩
  · obtain ⟨rfl, rfl⟩ := Prod.mk.inj (Option.some.inj h); cases hx; exact ⟨_, _, rfl⟩
  · split at h
    · rename_i nl cs' ho
      split at h
      · rename_i hg
        obtain ⟨rfl, rfl⟩ := Prod.mk.inj (Option.some.inj h)
        rcases hI.readRef hx ho hg with ⟨_, _, rfl, _, rfl, _⟩ | ⟨b, top, c, elem, cap, rfl, _⟩
        · exact ⟨_, _, rfl⟩
        · exact ⟨_, _, rfl⟩
      · simp at h
    · simp at h
  · simp at h

theorem Zgv {o : Nat} {ob : AObj} (h : σ[o]? = some ob) : σ.set o ob = σ := by
  apply List.ext_getElem?
  intro i
  rw [List.getElem?_set]
  split
  · rename_i e; subst e
    split
    · exact h.symm
    · rename_i hlt; rw [List.getElem?_eq_none (by omega)]
  · rfl

theorem Zrn (hI : Inv F L σ w) {ts : Array TypeId} {t ty el : TypeId} (ht : ts[0]? = some t) (hu : P.underlying t = some (.slice el)) {k : Nat} (hk : Z1 P el = some k)
    {d s : AVal} {cd cs : Value} (hd : VRel F L d cd) (hs0 : VRel F L s cs) {lv : List Nat} {e : Env} {od os : Opd} (ed : ev e od = d) (es : ev e os = s)
    {u : AVal} {σ' : Sto} (hs : Zc lv (.copy k od os) e σ = some (u, σ')) :
    ZeL F L σ σ' w (Sem.run P (do pure (Next.value (← Builtin.copy_ ts ty #[cd, cs]))) w) u := by
  have hrun : ∀ {a b : Option Addr} {dl dc m mc : Nat} {vs : List Value} {w' : World}, (Builtin.firstCells k (min m dl) (.slice b m mc)).run P w = .ok vs.toArray w →
      (match a with | some ad => (storeCells ad vs).run P w = .ok () w' | none => w' = w) →
      (Builtin.copy_ ts ty #[.slice a dl dc, .slice b m mc]).run P w = .ok (.int .i64 (min m dl : Nat)) w' := by
    intro a b dl dc m mc vs w' h1 h2
    have h1' : (Builtin.firstCells k (Nat.min m dl) (.slice b m mc)).run P w = .ok vs.toArray w := h1
    simp only [Builtin.copy_, ht, List.getElem?_toArray, List.getElem?_cons_zero, List.getElem?_cons_succ, Sem.run_bind, run_underlying hu, Result.andThen_ok, Builtin.lenOf, Sem.run_pure, Zx hk, h1']
    cases a with
    | none => simp only at h2; subst h2; simp only [Sem.run_pure]; rfl
    | some ad => simp only at h2 ⊢; simp only [Sem.run_bind, h2, Result.andThen_ok, Sem.run_pure]; rfl
  simp only [Zc, ed, es] at hs
  split at hs
  · rename_i mr hrow
    obtain ⟨m, src⟩ := mr
    obtain ⟨rfl, rfl⟩ := Prod.mk.inj (Option.some.inj hs)
    cases hd
    obtain ⟨b, mc, rfl⟩ := Zjh hs0 hI hrow
    have := hrun (a := none) (b := b) (dl := 0) (dc := 0) (m := m) (mc := mc) (vs := []) (w' := w) (by rw [Nat.min_zero]; cases b <;> simp [Builtin.firstCells, loadCells, loadCellsFrom]) rfl
    rw [Nat.min_zero] at this
    exact ⟨w, L, .inl ⟨_, Zv this, .int⟩, hI, Adv.refl F L w, Ids.refl⟩
  · rename_i o gen off len k' m src hrow
    split at hs
    case h_2 => simp at hs
    rename_i nl cs' ho
    split at hs
    case isFalse => simp at hs
    rename_i hc
    obtain ⟨hg, rfl, hsl, hle, hlv, hone⟩ := hc
    obtain ⟨rfl, rfl⟩ := Prod.mk.inj (Option.some.inj hs)
    have hone' : ∀ c ∈ src, c.one = true := fun c hc => List.all_eq_true.1 hone c hc
    obtain ⟨b, mc, rfl, vs, h1, h2, h3⟩ := Zgw (P := P) hI hs0 (fun _ _ => rfl) hrow hsl
    have h4 := h3 (min m len) (Nat.min_le_left _ _) w rfl
    rcases hI.readRef hd ho hg with ⟨rfl, rfl, rfl, rfl, rfl, hL⟩ | ⟨b', top, c, elem, cap, rfl, hL, hw, hlc, htop, hgc, hlen, hct, hcs, hone0, hn, hrel⟩
    · have e0 : Zl [] 0 (List.take (min m 0 * k) src) = [] := by simp [Zl]
      rw [e0, Zgv ho]
      have := hrun (a := none) (dl := 0) (dc := 0) h4 (w' := w) rfl
      exact ⟨w, L, .inl ⟨_, Zv this, .int⟩, hI, Adv.refl F L w, Ids.refl⟩
    · have hmin : min m len * k ≤ len * k := Nat.mul_le_mul_right k (Nat.min_le_right _ _)
      obtain ⟨w', g1, g2, g3, g4⟩ := hI.store (P := P) hL ho (off := off) (h2.take (min m len * k)) (fun c hc => hone' c (List.mem_of_mem_take hc)) (by
        have := List.length_take_le (min m len * k) src
        omega)
      exact ⟨w', L, .inl ⟨_, Zv (hrun (a := some ⟨b', off, none⟩) (dl := len) (dc := cap) h4 g1), .int⟩, g2, g3, g4⟩
  · simp at hs

theorem ZpH (hI : Inv F L σ w) {ts : Array TypeId} {t ty el : TypeId} (ht : ts[0]? = some t) (hu : P.underlying t = some (.slice el)) {z : List AVal} (hz : ZbD P el = some z)
    {x : AVal} {cx : Value} (hx : VRel F L x cx) {lv : List Nat} {e : Env} {ox : Opd} (ex : ev e ox = x) {u : AVal} {σ' : Sto} (hs : Zc lv (.clear z ox) e σ = some (u, σ')) :
    ZeL F L σ σ' w (Sem.run P (do pure (Next.value (← Builtin.clear_ ts ty #[cx]))) w) u := by
  obtain ⟨zv, g1, g2, g3⟩ := ZaJ hz w F L
  have hzs : zv.cells.size = z.length := by have := g2.1; simpa using this
  have hsl0 : ∀ {a : Option Addr} {c : Nat}, (Builtin.clear_ ts ty #[.slice a 0 c]).run P w = .ok (.tuple #[]) w := by
    intro a c
    simp only [Builtin.clear_, ht, List.getElem?_toArray, List.getElem?_cons_zero, Sem.run_bind, run_underlying hu, Result.andThen_ok]
    cases a <;> rfl
  have htup : VRel F L (.tup []) (.tuple #[]) := .tup rfl fun i c h => by simp at h
  simp only [Zc, ex] at hs
  split at hs
  · cases hx; obtain ⟨rfl, rfl⟩ := Prod.mk.inj (Option.some.inj hs)
    exact ⟨w, L, .inl ⟨_, Zv hsl0, htup⟩, hI, Adv.refl F L w, Ids.refl⟩
  · cases hx; obtain ⟨rfl, rfl⟩ := Prod.mk.inj (Option.some.inj hs)
    have : (Builtin.clear_ ts ty #[.map none]).run P w = .ok (.tuple #[]) w := by
      simp only [Builtin.clear_, ht, List.getElem?_toArray, List.getElem?_cons_zero, Sem.run_bind, run_underlying hu, Result.andThen_ok]
      rfl
    exact ⟨w, L, .inl ⟨_, Zv this, htup⟩, hI, Adv.refl F L w, Ids.refl⟩
  · cases hx; obtain ⟨rfl, rfl⟩ := Prod.mk.inj (Option.some.inj hs)
    exact ⟨w, L, .inl ⟨_, Zv hsl0, htup⟩, hI, Adv.refl F L w, Ids.refl⟩
  · obtain ⟨rfl, rfl⟩ := Prod.mk.inj (Option.some.inj hs)
    obtain ⟨a, cap, rfl, _⟩ := hx.listInv
    exact ⟨w, L, .inl ⟨_, Zv hsl0, htup⟩, hI, Adv.refl F L w, Ids.refl⟩
  · rename_i o gen off len k
    split at hs
    case h_2 => simp at hs
    rename_i nl cs ho
    split at hs
    case isFalse => simp at hs
    rename_i hc
    obtain ⟨hg, rfl, hle, _⟩ := hc
    obtain ⟨rfl, rfl⟩ := Prod.mk.inj (Option.some.inj hs)
    rcases hI.readRef hx ho hg with ⟨rfl, rfl, rfl, rfl, rfl, hL⟩ | ⟨b', top, c, elem, cap, rfl, hL, hw, hlc, htop, hgc, hlen, hct, hcs, hone0, hn, hrel⟩
    · have e0 : Zl [] 0 (List.replicate 0 z).flatten = [] := by simp [Zl]
      rw [e0, Zgv ho]
      exact ⟨w, L, .inl ⟨_, Zv hsl0, htup⟩, hI, Adv.refl F L w, Ids.refl⟩
    · rcases Nat.eq_zero_or_pos len with h0 | h0
      · subst h0
        have e0 : Zl cs off (List.replicate 0 z).flatten = cs := by simp [Zl]
        rw [e0, Zgv ho]
        exact ⟨w, L, .inl ⟨_, Zv hsl0, htup⟩, hI, Adv.refl F L w, Ids.refl⟩
      · have hcr : Ze F L (List.replicate len z).flatten (Builtin.zeroCells zv.cells len).toList := by
          have : (Builtin.zeroCells zv.cells len).toList = (List.replicate len zv.cells.toList).flatten := ZcR zv.cells len
          rw [this]; exact g2.replicate len
        obtain ⟨w', q1, q2, q3, q4⟩ := hI.store (P := P) hL ho (off := off) hcr (fun c hc => by
          simp only [List.mem_flatten, List.mem_replicate] at hc
          obtain ⟨l, ⟨_, rfl⟩, hc⟩ := hc
          exact g3 c hc) (by simp; omega)
        refine ⟨w', L, .inl ⟨_, Zv (cv := .tuple #[]) ?_, htup⟩, q2, q3, q4⟩
        obtain ⟨n, rfl⟩ : ∃ n, len = n + 1 := ⟨len - 1, by omega⟩
        simp only [Builtin.clear_, ht, List.getElem?_toArray, List.getElem?_cons_zero, Sem.run_bind, run_underlying hu, Result.andThen_ok, g1, q1, Sem.run_pure]
  · simp at hs

theorem Zji (P : Program) (w : World) : ∀ (rest : List AVal) (cs : List Value) (k : IntKind) (a m : Int), cs.length = rest.length → (∀ (i : Nat) c, rest[i]? = some c → VRel F L c (cs.getD i undef)) → (isMax : Bool) →
    rest.foldlM (fun (m : Int) (v : AVal) => match v with
        | .int _ y => some (if isMax then (if m < y then y else m) else (if y < m then y else m))
        | _ => none) a = some m → (cs.foldlM (if isMax then Builtin.max2 else Builtin.min2) (.int k a)).run P w = .ok (.int k m) w
  | [], [], k, a, m, _, _, isMax, h => by simp at h; subst h; rfl
  | [], _ :: _, k, a, m, hl, _, _, _ => absurd hl (by simp)
  | _ :: _, [], k, a, m, hl, _, _, _ => absurd hl (by simp)
  | x :: rest, c :: cs, k, a, m, hl, hr, isMax, h => by
    have hx := hr 0 x rfl
    simp at hx
    simp only [List.foldlM_cons] at h ⊢
    cases x <;> simp only [Option.bind_eq_bind, Option.bind_none, reduceCtorEq, Option.bind_some] at h
    cases hx
    have ih := Zji P w rest cs k _ m (by simpa using hl) (fun i c hc => by have := hr (i + 1) c (by simpa using hc); simpa using this) isMax h
    cases isMax
    · simpa [Builtin.min2] using ih
    · simpa [Builtin.max2] using ih

theorem Zjj (hI : Inv F L σs w) {isMax : Bool} {ts : Array TypeId} {ty : TypeId} {args : Array Operand} {os : List Opd} (ho : Zdq args = some os) {e : Env} {ρ : Operand → Value} (hr : ∀ x ∈ args.toList, Zaf F L e ρ x)
    {lv : List Nat} {σ : Sto} {v : AVal} {σ' : Sto} (hs : Zc lv (.minmax isMax os) e σ = some (v, σ')) :
    σ' = σ ∧ Zaw F L σs w (ZT σ.length 0) (Sem.run P (do pure (Next.value (← (if isMax then Builtin.max_ ts ty (args.map ρ) else Builtin.min_ ts ty (args.map ρ))))) w) v := by
  obtain ⟨h1, h2⟩ := Za2 ho hr
  simp only [Zc] at hs
  split at hs
  case h_2 => simp at hs
  rename_i k a rest heq
  simp only [Option.map_eq_some_iff, Prod.mk.injEq] at hs
  obtain ⟨m, hm, rfl, rfl⟩ := hs
  rw [heq] at h1 h2
  refine ⟨rfl, .still hI (Zv (cv := .int k m) ?_) .int (Zd _)⟩
  obtain ⟨c, cs, hcs⟩ : ∃ c cs, (args.map ρ).toList = c :: cs := by
    cases hl : (args.map ρ).toList with
    | nil => have : (args.map ρ).size = 0 := by rw [← Array.length_toList, hl]; rfl
             rw [this] at h1; simp at h1
    | cons c cs => exact ⟨c, cs, rfl⟩
  have hget : ∀ i, (args.map ρ).getD i undef = (c :: cs).getD i undef := by
    intro i
    rw [Array.getD_eq_getD_getElem?, ← Array.getElem?_toList, hcs, List.getD_eq_getElem?_getD]
  have h0 := h2 0 _ rfl
  rw [hget] at h0
  simp at h0
  cases h0
  have hlen : cs.length = rest.length := by
    have : (args.map ρ).toList.length = rest.length + 1 := by rw [Array.length_toList]; simpa using h1
    rw [hcs] at this; simpa using this
  have := Zji (F := F) (L := L) P w rest cs k a m hlen (fun i c hc => by
    have := h2 (i + 1) c (by simpa using hc)
    rw [hget] at this
    simpa using this) isMax hm
  cases isMax
  · simp only [Bool.false_eq_true, if_false, Builtin.min_] at this ⊢
    rw [hcs]; exact this
  · simp only [if_true, Builtin.max_] at this ⊢
    rw [hcs]; exact this

end
end Go.Abs
