/- The frame of a walk: temporaries by number, values by what they are. -/
import Derived.Test.YtaiibojjndeipaaAbsRun
set_option linter.all false
namespace Go.Abs
open Go

/-! ### Temporaries -/
def look : List (Nat × AVal) → Nat → AVal
  | [], _ => .und
  | (k, v) :: L, t => if t = k then v else look L t
def ins : List (Nat × AVal) → Nat → AVal → List (Nat × AVal)
  | [], d, v => [(d, v)]
  | (k, w) :: L, d, v => if d < k then (d, v) :: (k, w) :: L else if d = k then (d, v) :: L else (k, w) :: ins L d v
def del : List (Nat × AVal) → Nat → List (Nat × AVal)
  | [], _ => []
  | (k, w) :: L, d => if d = k then del L d else (k, w) :: del L d
def dels : List (Nat × AVal) → List Nat → List (Nat × AVal)
  | L, [] => L
  | L, d :: ds => dels (del L d) ds
def numL : Nat → List AVal → List (Nat × AVal)
  | _, [] => []
  | i, a :: as => (i, a) :: numL (i + 1) as
def sanL (m : Nat) : List (Nat × AVal) → List (Nat × AVal)
  | [] => []
  | (k, v) :: L => (k, if v.under m then v else .und) :: sanL m L
def mkE (n : Nat) (L : List (Nat × AVal)) : Env := (List.range n).map (look L)

theorem mkE_get (n : Nat) (L : List (Nat × AVal)) (t : Nat) : (mkE n L)[t]? = if t < n then some (look L t) else none := by
  simp only [mkE, List.getElem?_map]
  split
  · rename_i h; rw [List.getElem?_range h]; rfl
  · rename_i h; rw [List.getElem?_eq_none (by simpa using h)]; rfl

theorem mkE_getD (n : Nat) (L : List (Nat × AVal)) (t : Nat) : (mkE n L).getD t .und = if t < n then look L t else .und := by
  rw [List.getD_eq_getElem?_getD, mkE_get]; split <;> rfl

theorem ev_tmp (n : Nat) (L : List (Nat × AVal)) (t : Nat) : ev (mkE n L) (.tmp t) = if t < n then look L t else .und := mkE_getD n L t
theorem ev_cst (e : Env) (v : AVal) : ev e (.cst v) = v := rfl

theorem look_ins : ∀ (L : List (Nat × AVal)) (d : Nat) (v : AVal) (t : Nat), look (ins L d v) t = if t = d then v else look L t
  | [], d, v, t => by simp [ins, look]
  | (k, w) :: L, d, v, t => by
    simp only [ins]
    split
    · simp only [look]
    · split
      · rename_i h; subst h; simp only [look]; split <;> rfl
      · simp only [look, look_ins L d v t]
        split <;> split <;> simp_all

theorem look_del : ∀ (L : List (Nat × AVal)) (d t : Nat), look (del L d) t = if t = d then .und else look L t
  | [], d, t => by simp [del, look]
  | (k, w) :: L, d, t => by
    simp only [del]
    split
    · rename_i h; subst h; rw [look_del L]; simp only [look]; split <;> simp_all
    · simp only [look, look_del L d t]
      split <;> split <;> simp_all

theorem mkE_set (n : Nat) (L : List (Nat × AVal)) (d : Nat) (v : AVal) : (mkE n L).set d v = mkE n (ins L d v) := by
  apply List.ext_getElem?
  intro t
  rw [List.getElem?_set, mkE_get, mkE_get, look_ins]
  have hl : (mkE n L).length = n := by simp [mkE]
  rw [hl]
  by_cases h : d = t
  · subst h; simp
  · rw [if_neg h]; simp [Ne.symm h]

theorem mkE_set_und (n : Nat) (L : List (Nat × AVal)) (d : Nat) : (mkE n L).set d .und = mkE n (del L d) := by
  apply List.ext_getElem?
  intro t
  rw [List.getElem?_set, mkE_get, mkE_get, look_del]
  have hl : (mkE n L).length = n := by simp [mkE]
  rw [hl]
  by_cases h : d = t
  · subst h; simp
  · rw [if_neg h]; simp [Ne.symm h]

theorem put_some (n : Nat) (L : List (Nat × AVal)) (d : Nat) (v : AVal) : put (mkE n L) (some d) v = mkE n (ins L d v) := mkE_set n L d v
theorem put_und (n : Nat) (L : List (Nat × AVal)) (d : Nat) : put (mkE n L) (some d) .und = mkE n (del L d) := mkE_set_und n L d
theorem put_none (e : Env) (v : AVal) : put e none v = e := rfl

theorem look_numL : ∀ (as : List AVal) (i t : Nat), look (numL i as) t = if i ≤ t then as.getD (t - i) .und else .und
  | [], i, t => by simp [numL, look]
  | a :: as, i, t => by
    simp only [numL, look, look_numL as (i + 1) t]
    by_cases h : t = i
    · subst h; simp
    · rw [if_neg h]
      by_cases h2 : i ≤ t
      · rw [if_pos h2, if_pos (by omega)]
        obtain ⟨j, hj⟩ : ∃ j, t - i = j + 1 := ⟨t - i - 1, by omega⟩
        rw [show t - (i + 1) = j by omega, hj]; rfl
      · rw [if_neg h2, if_neg (by omega)]

theorem init_mkE (n : Nat) (as : List AVal) (h : as.length ≤ n) : initEnv n as = mkE n (numL 0 as) := by
  apply List.ext_getElem?
  intro t
  rw [mkE_get, look_numL]
  simp only [initEnv, Nat.zero_le, if_true, Nat.sub_zero]
  by_cases ht : t < as.length
  · rw [List.getElem?_append_left ht, if_pos (by omega), List.getD_eq_getElem?_getD, List.getElem?_eq_getElem ht]; rfl
  · rw [List.getElem?_append_right (by omega), List.getElem?_replicate, List.getD_eq_getElem?_getD, List.getElem?_eq_none (by omega)]
    by_cases h2 : t < n
    · rw [if_pos (by omega), if_pos h2]; rfl
    · rw [if_neg (by omega), if_neg h2]

theorem dels_eq : ∀ (ts : List Nat) (n : Nat) (L : List (Nat × AVal)), ts.foldl (fun e t => e.set t .und) (mkE n L) = mkE n (dels L ts)
  | [], _, _ => rfl
  | t :: ts, n, L => by simp only [List.foldl_cons, mkE_set_und, dels, dels_eq ts]

theorem look_sanL (m : Nat) : ∀ (L : List (Nat × AVal)) (t : Nat), look (sanL m L) t = if (look L t).under m then look L t else .und
  | [], t => by simp only [sanL, look]; exact (ite_self _).symm
  | (k, v) :: L, t => by
    simp only [sanL, look, look_sanL m L t]
    split <;> rfl

theorem san_mkE (m n : Nat) (L : List (Nat × AVal)) : sanitize m (mkE n L) = mkE n (sanL m L) := by
  simp only [sanitize, mkE, List.map_map]
  apply List.map_congr_left
  intro t _
  simp only [Function.comp, look_sanL]

/-! ### Operations, by the values of their operands -/
def after (T : FuncId → Option AFunc) (Q : Post3) (k : List Item) (os : List AOper) (d : Option Nat) (e : Env) (r : Option (AVal × Sto)) : Prop :=
  match r with
  | some (v, σ') => Run T Q (.ops os :: k) (put e d v) σ'
  | none => False

section
variable {T : FuncId → Option AFunc} {Q : Post3} {k : List Item} {e : Env} {σ : Sto} {os : List AOper} {d : Option Nat} {n : Nat} {L : List (Nat × AVal)}

@[go_sem] theorem after_some {v : AVal} {σ' : Sto} : after T Q k os d e (some (v, σ')) ↔ Run T Q (.ops os :: k) (put e d v) σ' := Iff.rfl
@[go_sem] theorem after_none : after T Q k os d e none ↔ False := Iff.rfl
@[go_sem] theorem after_ite {c : Prop} [Decidable c] {a b : Option (AVal × Sto)} : after T Q k os d e (if c then a else b) ↔ if c then after T Q k os d e a else after T Q k os d e b := by split <;> rfl

theorem run_unfold {c c' : ACode} (h : c = c') : Run T Q (.code c :: k) e σ ↔ Run T Q (.code c' :: k) e σ := by rw [h]

attribute [go_sem] run_nil run_skip run_region run_regionG gops_nil gops_op gops_gh exit_gops run_seq run_block run_loop run_trunc run_scope run_exit run_ret run_endBlock run_endTrunc exit_code exit_loop exit_ops exit_trunc exit_block ops_nil
  ev_tmp ev_cst look ins del dels sanL put_some put_none san_mkE

@[go_sem] theorem numL_0 : numL 0 [] = [] := rfl
@[go_sem] theorem numL_1 {a : AVal} : numL 0 [a] = [(0, a)] := rfl
@[go_sem] theorem numL_2 {a b : AVal} : numL 0 [a, b] = [(0, a), (1, b)] := rfl
@[go_sem] theorem numL_3 {a b c : AVal} : numL 0 [a, b, c] = [(0, a), (1, b), (2, c)] := rfl
@[go_sem] theorem numL_4 {a b c d : AVal} : numL 0 [a, b, c, d] = [(0, a), (1, b), (2, c), (3, d)] := rfl
@[go_sem] theorem numL_5 {a b c d e : AVal} : numL 0 [a, b, c, d, e] = [(0, a), (1, b), (2, c), (3, d), (4, e)] := rfl
@[go_sem] theorem numL_6 {a b c d e f : AVal} : numL 0 [a, b, c, d, e, f] = [(0, a), (1, b), (2, c), (3, d), (4, e), (5, f)] := rfl
@[go_sem] theorem numL_7 {a b c d e f g : AVal} : numL 0 [a, b, c, d, e, f, g] = [(0, a), (1, b), (2, c), (3, d), (4, e), (5, f), (6, g)] := rfl

@[go_sem] theorem st_mv {x : Opd} {a r : List Nat} : Run T Q (.ops (⟨d, .mv x, none, a, r⟩ :: os) :: k) e σ ↔ Run T Q (.ops os :: k) (put e d (ev e x)) σ := ops_step (by simp) (by simp)

def pickV (c a b : AVal) (σ : Sto) : Option (AVal × Sto) := match c with
  | .bool t => some (if t then a else b, σ)
  | _ => none
@[go_sem] theorem st_pick {c x y : Opd} {a r : List Nat} : Run T Q (.ops (⟨d, .pick c x y, none, a, r⟩ :: os) :: k) e σ ↔ after T Q k os d e (pickV (ev e c) (ev e x) (ev e y) σ) := ops_step (by simp) (by simp)
@[go_sem] theorem pickV_bool {t : Bool} {a b : AVal} : pickV (.bool t) a b σ = some (if t = true then a else b, σ) := by cases t <;> rfl

@[go_sem] theorem st_alloc {z : List AVal} {a r : List Nat} : Run T Q (.ops (⟨d, .alloc z, none, a, r⟩ :: os) :: k) e σ ↔ Run T Q (.ops os :: k) (put e d (.ptr σ.length z.length 0)) (σ ++ [.cells false z]) := ops_step (by simp) (by simp)

def boxV (m : Nat) (v : AVal) (σ : Sto) : Option (AVal × Sto) := if v.fits m then some (.ptr σ.length m 0, σ ++ [.cells false v.cells]) else none
@[go_sem] theorem st_box {m : Nat} {x : Opd} {a r : List Nat} : Run T Q (.ops (⟨d, .box m x, none, a, r⟩ :: os) :: k) e σ ↔ after T Q k os d e (boxV m (ev e x) σ) := ops_step (by simp) (by simp)

def buildV (z : List AVal) (ps : List (Nat × Nat × AVal)) (σ : Sto) : Option (AVal × Sto) := (fillA z ps).map fun cs => (.agg cs, σ)
@[go_sem] theorem st_build {z : List AVal} {ps : List (Nat × Nat × Opd)} {a r : List Nat} : Run T Q (.ops (⟨d, .build z ps, none, a, r⟩ :: os) :: k) e σ ↔ after T Q k os d e (buildV z (ps.map fun (o, s, x) => (o, s, ev e x)) σ) := ops_step (by simp) (by simp)

def bsliceV (m l : Nat) (z : List AVal) (ps : List (Nat × Nat × AVal)) (σ : Sto) : Option (AVal × Sto) := (fillA (List.replicate l z).flatten ps).map fun cs => (.ref σ.length cs.length 0 l m, σ ++ [.cells false cs])
@[go_sem] theorem st_bslice {m l : Nat} {z : List AVal} {ps : List (Nat × Opd)} {a r : List Nat} : Run T Q (.ops (⟨d, .bslice m l z ps, none, a, r⟩ :: os) :: k) e σ ↔ after T Q k os d e (bsliceV m l z (ps.map fun (i, x) => (i * m, m, ev e x)) σ) := ops_step (by simp) (by simp)

def loadV (agg : Bool) (m : Nat) (v : AVal) (σ : Sto) : Option (AVal × Sto) := match v with
  | .fptr cs => (loadA agg m cs).map (·, σ)
  | .ptr o gen off =>
    match σ[o]? with
    | some (.cells _ cs) => if cs.length = gen then (loadA agg m (cs.drop off)).map (·, σ) else none
    | _ => none
  | _ => none
@[go_sem] theorem st_load {g : Bool} {m : Nat} {x : Opd} {a r : List Nat} : Run T Q (.ops (⟨d, .load g m x, none, a, r⟩ :: os) :: k) e σ ↔ after T Q k os d e (loadV g m (ev e x) σ) := ops_step (by simp) (by simp)

def storeV (m : Nat) (p v : AVal) (σ : Sto) : Option (AVal × Sto) := match p with
  | .ptr o gen off =>
    match σ[o]? with
    | some (.cells nl cs) => if cs.length = gen ∧ off + m ≤ gen ∧ v.fits m then some (.und, σ.set o (.cells nl (overwrite cs off v.cells))) else none
    | _ => none
  | _ => none
@[go_sem] theorem st_store {m : Nat} {p x : Opd} {a r : List Nat} : Run T Q (.ops (⟨d, .store m p x, none, a, r⟩ :: os) :: k) e σ ↔ after T Q k os d e (storeV m (ev e p) (ev e x) σ) := by
  rw [ops_step (by simp) (by simp)]
  simp only [stepOp, storeV, lvOk, List.all_nil, and_true]
  rfl

def nilckV (v : AVal) (σ : Sto) : Option (AVal × Sto) := match v with
  | .ptr .. | .fptr _ | .clo (.func _) _ _ => some (v, σ)
  | _ => none
@[go_sem] theorem st_nilck {x : Opd} {a r : List Nat} : Run T Q (.ops (⟨d, .nilck x, none, a, r⟩ :: os) :: k) e σ ↔ after T Q k os d e (nilckV (ev e x) σ) := ops_step (by simp) (by simp)

def binV (op : BinOp) (x y : AVal) (σ : Sto) : Option (AVal × Sto) := (binA op x y).map (·, σ)
@[go_sem] theorem st_bin {op : BinOp} {x y : Opd} {a r : List Nat} : Run T Q (.ops (⟨d, .bin op x y, none, a, r⟩ :: os) :: k) e σ ↔ after T Q k os d e (binV op (ev e x) (ev e y) σ) := ops_step (by simp) (by simp)

def eqsV (neg : Bool) (sh : Shape) (x y : AVal) (σ : Sto) : Option (AVal × Sto) := (eqA sh x y).map fun b => (.bool (if neg then !b else b), σ)
@[go_sem] theorem st_eqs {g : Bool} {sh : Shape} {x y : Opd} {a r : List Nat} : Run T Q (.ops (⟨d, .eqs g sh x y, none, a, r⟩ :: os) :: k) e σ ↔ after T Q k os d e (eqsV g sh (ev e x) (ev e y) σ) := ops_step (by simp) (by simp)

def eqnilV (neg : Bool) (kd : NilK) (x : AVal) (σ : Sto) : Option (AVal × Sto) := match kd, x with
    | .sl, .nils | .pt, .nilp | .mp, .nilm | .fn, .nilf => some (.bool !neg, σ)
    | .sl, .emp | .sl, .list .. | .fn, .clo .. | .pt, .fptr _ | .mp, .fmap .. | .pt, .ptr .. | .mp, .map _ => some (.bool neg, σ)
    | .sl, .ref o gen _ _ _ =>
      match σ[o]? with
      | some (.cells nl cs) => if cs.length = gen then some (.bool (if nl && cs.isEmpty then !neg else neg), σ) else none
      | _ => none
    | _, _ => none
@[go_sem] theorem st_eqnil {g : Bool} {kd : NilK} {x : Opd} {a r : List Nat} : Run T Q (.ops (⟨d, .eqnil g kd x, none, a, r⟩ :: os) :: k) e σ ↔ after T Q k os d e (eqnilV g kd (ev e x) σ) := ops_step (by simp) (by simp)

def unV (op : UnOp) (x : AVal) (σ : Sto) : Option (AVal × Sto) := (unA op x).map (·, σ)
@[go_sem] theorem st_un {op : UnOp} {x : Opd} {a r : List Nat} : Run T Q (.ops (⟨d, .un op x, none, a, r⟩ :: os) :: k) e σ ↔ after T Q k os d e (unV op (ev e x) σ) := ops_step (by simp) (by simp)

def convV (kd : IntKind) (x : AVal) (σ : Sto) : Option (AVal × Sto) := match x with
  | .int _ n => some (.int kd (kd.wrap n), σ)
  | _ => none
@[go_sem] theorem st_conv {kd : IntKind} {x : Opd} {a r : List Nat} : Run T Q (.ops (⟨d, .conv kd x, none, a, r⟩ :: os) :: k) e σ ↔ after T Q k os d e (convV kd (ev e x) σ) := ops_step (by simp) (by simp)
@[go_sem] theorem convV_int {kd j : IntKind} {x : Int} : convV kd (.int j x) σ = some (.int kd (kd.wrap x), σ) := rfl

def sameV (x : AVal) (σ : Sto) : Option (AVal × Sto) := match x with
  | .str s => some (.str s, σ)
  | _ => none
@[go_sem] theorem st_same {x : Opd} {a r : List Nat} : Run T Q (.ops (⟨d, .same x, none, a, r⟩ :: os) :: k) e σ ↔ after T Q k os d e (sameV (ev e x) σ) := ops_step (by simp) (by simp)
@[go_sem] theorem sameV_str {s : ByteArray} : sameV (.str s) σ = some (.str s, σ) := rfl

def mkifV (t : TypeId) (x : AVal) (σ : Sto) : Option (AVal × Sto) := if x.isUnd then none else some (.iface t x, σ)
@[go_sem] theorem st_mkif {t : TypeId} {x : Opd} {a r : List Nat} : Run T Q (.ops (⟨d, .mkif t x, none, a, r⟩ :: os) :: k) e σ ↔ after T Q k os d e (mkifV t (ev e x) σ) := ops_step (by simp) (by simp)

@[go_sem] theorem st_mkfn {f : Fn} {xs ys : List Opd} {a r : List Nat} : Run T Q (.ops (⟨d, .mkfn f xs ys, none, a, r⟩ :: os) :: k) e σ ↔ Run T Q (.ops os :: k) (put e d (.clo f (xs.map (ev e)) (ys.map (ev e)))) σ := ops_step (by simp) (by simp)
@[go_sem] theorem st_mkmap {a r : List Nat} : Run T Q (.ops (⟨d, .mkmap, none, a, r⟩ :: os) :: k) e σ ↔ Run T Q (.ops os :: k) (put e d (.map σ.length)) (σ ++ [.map [] []]) := ops_step (by simp) (by simp)

def mksliceV (m bytes : Nat) (z : List AVal) (l c : AVal) (σ : Sto) : Option (AVal × Sto) := match l, c with
  | .int .i64 l, .int .i64 c =>
    if 0 ≤ l ∧ l ≤ c ∧ bytes * c.toNat ≤ 2 * maxBytes ∧ c ≤ IntKind.i64.max then
      some (.ref σ.length (c.toNat * m) 0 l.toNat m, σ ++ [.cells false (List.replicate c.toNat z).flatten]) else none
  | _, _ => none
@[go_sem] theorem st_mkslice {m b : Nat} {z : List AVal} {x y : Opd} {a r : List Nat} : Run T Q (.ops (⟨d, .mkslice m b z x y, none, a, r⟩ :: os) :: k) e σ ↔ after T Q k os d e (mksliceV m b z (ev e x) (ev e y) σ) := ops_step (by simp) (by simp)

def bnd (x : Option AVal) (d : Nat) : Option Nat := match x with
  | some v => natOf v
  | none => some d
theorem bound_eq (e : Env) (x : Option Opd) (d : Nat) : bound e x d = bnd (x.map (ev e)) d := by cases x <;> rfl
def sliceV (m : Nat) (v : AVal) (lo hi mx : Option AVal) (σ : Sto) : Option (AVal × Sto) := match v with
    | .nils => if bnd lo 0 = some 0 ∧ bnd hi 0 = some 0 ∧ bnd mx 0 = some 0 then some (.nils, σ) else none
    | .list k' xs =>
      match bnd lo 0, bnd hi xs.length, bnd mx xs.length with
      | some l, some h, some x =>
        if l ≤ h ∧ h ≤ x ∧ x ≤ xs.length ∧ m = k' then (if x = 0 ∧ mx.isSome then some (.emp, σ) else some (.list m ((xs.take h).drop l), σ)) else none
      | _, _, _ => none
    | .ref o gen off len k' =>
      match σ[o]? with
      | some (.cells nl cs) =>
        if cs.length = gen ∧ m = k' ∧ 0 < m then
          if nl && cs.isEmpty then
            (if bnd lo 0 = some 0 ∧ bnd hi 0 = some 0 ∧ bnd mx 0 = some 0 then some (.nils, σ) else none)
          else
          match mx with
          | none =>
            match bnd lo 0, bnd hi len with
            | some l, some h => if l ≤ h ∧ off + h * m ≤ gen then (if off + l * m = gen then some (.list m [], σ) else some (.ref o gen (off + l * m) (h - l) m, σ)) else none
            | _, _ => none
          | some _ =>
            match bnd lo 0, bnd hi len, bnd mx 0 with
            | some l, some h, some x => if l ≤ h ∧ h ≤ x ∧ off + x * m ≤ gen then some (if x = 0 then .emp else .und, σ) else none
            | _, _, _ => none
        else none
      | _ => none
    | _ => none
@[go_sem] theorem st_slice {m : Nat} {x : Opd} {lo hi mx : Option Opd} {a r : List Nat} : Run T Q (.ops (⟨d, .slice m x lo hi mx, none, a, r⟩ :: os) :: k) e σ ↔ after T Q k os d e (sliceV m (ev e x) (lo.map (ev e)) (hi.map (ev e)) (mx.map (ev e)) σ) := by
  rw [ops_step (by simp) (by simp)]
  simp only [stepOp, bound_eq]
  cases lo <;> cases hi <;> cases mx <;> rfl

def slstrV (v : AVal) (lo hi : Option AVal) (σ : Sto) : Option (AVal × Sto) := match v with
    | .str s =>
      match bnd lo 0, bnd hi s.size with
      | some l, some h => if l ≤ h ∧ h ≤ s.size then some (.str (s.extract l h), σ) else none
      | _, _ => none
    | _ => none
@[go_sem] theorem st_slstr {x : Opd} {lo hi : Option Opd} {a r : List Nat} : Run T Q (.ops (⟨d, .slstr x lo hi, none, a, r⟩ :: os) :: k) e σ ↔ after T Q k os d e (slstrV (ev e x) (lo.map (ev e)) (hi.map (ev e)) σ) := by
  rw [ops_step (by simp) (by simp)]
  simp only [stepOp, bound_eq]
  rfl

def slarrV (c m : Nat) (v : AVal) (lo hi : Option AVal) (σ : Sto) : Option (AVal × Sto) := match v, bnd lo 0, bnd hi c with
    | .ptr o gen off, some l, some h =>
      match σ[o]? with
      | some (.cells false cs) =>
        if cs.length = gen ∧ l ≤ h ∧ h ≤ c ∧ off + c * m = gen ∧ 0 < m then (if l = c then some (.list m [], σ) else some (.ref o gen (off + l * m) (h - l) m, σ)) else none
      | _ => none
    | .fptr cs, some l, some h => if l ≤ h ∧ h ≤ c ∧ c * m ≤ cs.length ∧ 0 < m then some (.list m (chunk m (h - l) (cs.drop (l * m))), σ) else none
    | _, _, _ => none
@[go_sem] theorem st_slarr {c m : Nat} {x : Opd} {lo hi : Option Opd} {a r : List Nat} : Run T Q (.ops (⟨d, .slarr c m x lo hi, none, a, r⟩ :: os) :: k) e σ ↔ after T Q k os d e (slarrV c m (ev e x) (lo.map (ev e)) (hi.map (ev e)) σ) := by
  rw [ops_step (by simp) (by simp)]
  simp only [stepOp, bound_eq]
  rfl

def faddrV (off : Nat) (x : AVal) (σ : Sto) : Option (AVal × Sto) := match x with
    | .ptr o gen a => some (.ptr o gen (a + off), σ)
    | .fptr cs => some (.fptr (cs.drop off), σ)
    | _ => none
@[go_sem] theorem st_faddr {off : Nat} {x : Opd} {a r : List Nat} : Run T Q (.ops (⟨d, .faddr off x, none, a, r⟩ :: os) :: k) e σ ↔ after T Q k os d e (faddrV off (ev e x) σ) := ops_step (by simp) (by simp)
@[go_sem] theorem faddrV_ptr {off o gen a : Nat} : faddrV off (.ptr o gen a) σ = some (.ptr o gen (a + off), σ) := rfl
@[go_sem] theorem faddrV_fptr {off : Nat} {cs : List AVal} : faddrV off (.fptr cs) σ = some (.fptr (cs.drop off), σ) := rfl

def fieldV (off size : Nat) (agg : Bool) (x : AVal) (σ : Sto) : Option (AVal × Sto) := match x with
    | .agg cs => if off + size ≤ cs.length then (loadA agg size (cs.drop off)).map (·, σ) else none
    | _ => none
@[go_sem] theorem st_field {off s : Nat} {g : Bool} {x : Opd} {a r : List Nat} : Run T Q (.ops (⟨d, .field off s g x, none, a, r⟩ :: os) :: k) e σ ↔ after T Q k os d e (fieldV off s g (ev e x) σ) := ops_step (by simp) (by simp)

def iaddrV (m : Nat) (x i : AVal) (σ : Sto) : Option (AVal × Sto) := match x, natOf i with
    | .list k' xs, some i => if m = k' then (xs[i]?).map fun v => (.fptr v.cells, σ) else none
    | .ref o gen off len k', some i =>
      match σ[o]? with
      | some (.cells _ cs) => if i < len ∧ m = k' ∧ cs.length = gen then some (.ptr o gen (off + i * m), σ) else none
      | _ => none
    | _, _ => none
@[go_sem] theorem st_iaddr {m : Nat} {x i : Opd} {a r : List Nat} : Run T Q (.ops (⟨d, .iaddr m x i, none, a, r⟩ :: os) :: k) e σ ↔ after T Q k os d e (iaddrV m (ev e x) (ev e i) σ) := ops_step (by simp) (by simp)

def iaddrAV (c m : Nat) (x i : AVal) (σ : Sto) : Option (AVal × Sto) := match x, natOf i with
    | .ptr o gen off, some i => if i < c then some (.ptr o gen (off + i * m), σ) else none
    | .fptr cs, some i => if i < c then some (.fptr (cs.drop (i * m)), σ) else none
    | _, _ => none
@[go_sem] theorem st_iaddrA {c m : Nat} {x i : Opd} {a r : List Nat} : Run T Q (.ops (⟨d, .iaddrA c m x i, none, a, r⟩ :: os) :: k) e σ ↔ after T Q k os d e (iaddrAV c m (ev e x) (ev e i) σ) := ops_step (by simp) (by simp)

def idxAV (c m : Nat) (agg : Bool) (x i : AVal) (σ : Sto) : Option (AVal × Sto) := match x, natOf i with
    | .agg cs, some i => if i < c ∧ i * m + m ≤ cs.length then (loadA agg m (cs.drop (i * m))).map (·, σ) else none
    | _, _ => none
@[go_sem] theorem st_idxA {c m : Nat} {g : Bool} {x i : Opd} {a r : List Nat} : Run T Q (.ops (⟨d, .idxA c m g x i, none, a, r⟩ :: os) :: k) e σ ↔ after T Q k os d e (idxAV c m g (ev e x) (ev e i) σ) := ops_step (by simp) (by simp)

def idxSV (x i : AVal) (σ : Sto) : Option (AVal × Sto) := match x, natOf i with
    | .str s, some i => (s[i]?).map fun b => (.int .u8 b.toNat, σ)
    | _, _ => none
@[go_sem] theorem st_idxS {x i : Opd} {a r : List Nat} : Run T Q (.ops (⟨d, .idxS x i, none, a, r⟩ :: os) :: k) e σ ↔ after T Q k os d e (idxSV (ev e x) (ev e i) σ) := ops_step (by simp) (by simp)

def lookAV (sh : Shape) (zero : AVal) (ok : Bool) (i : AVal) (ks vs : List AVal) (σ : Sto) : Option (AVal × Sto) :=
  if eqA sh i i = some true then
    match findA sh i ks 0 with
    | some (some j) => (vs[j]?).map fun v => (if ok then .tup [v, .bool true] else v, σ)
    | some none => some (if ok then .tup [zero, .bool false] else zero, σ)
    | none => none
  else none
def lookupV (sh : Shape) (zero : AVal) (ok : Bool) (m i : AVal) (σ : Sto) : Option (AVal × Sto) := match m with
    | .nilm => lookAV sh zero ok i [] [] σ
    | .fmap ks vs => lookAV sh zero ok i ks vs σ
    | .map o =>
      match σ[o]? with
      | some (.map ks vs) => lookAV sh zero ok i ks vs σ
      | _ => none
    | _ => none
@[go_sem] theorem st_lookup {sh : Shape} {z : AVal} {ok : Bool} {x i : Opd} {a r : List Nat} : Run T Q (.ops (⟨d, .lookup sh z ok x i, none, a, r⟩ :: os) :: k) e σ ↔ after T Q k os d e (lookupV sh z ok (ev e x) (ev e i) σ) := ops_step (by simp) (by simp)

def mapupV (sh : Shape) (m i v : AVal) (σ : Sto) : Option (AVal × Sto) := match m with
    | .map o =>
      match σ[o]? with
      | some (.map ks vs) =>
        if eqA sh i i = some true then
          match findA sh i ks 0 with
          | some (some j) => if sameA i (ks.getD j .und) then some (.und, σ.set o (.map ks (vs.set j v))) else none
          | some none => some (.und, σ.set o (.map (ks ++ [i]) (vs ++ [v])))
          | none => none
        else none
      | _ => none
    | _ => none
@[go_sem] theorem st_mapup {sh : Shape} {m i v : Opd} {a r : List Nat} : Run T Q (.ops (⟨d, .mapup sh m i v, none, a, r⟩ :: os) :: k) e σ ↔ after T Q k os d e (mapupV sh (ev e m) (ev e i) (ev e v) σ) := by
  rw [ops_step (by simp) (by simp)]
  simp only [stepOp, lvOk, List.all_nil, true_and]
  rfl

def extrV (x : AVal) (i : Nat) (σ : Sto) : Option (AVal × Sto) := match x with
    | .tup vs => (vs[i]?).map (·, σ)
    | _ => none
@[go_sem] theorem st_extr {x : Opd} {i : Nat} {a r : List Nat} : Run T Q (.ops (⟨d, .extr x i, none, a, r⟩ :: os) :: k) e σ ↔ after T Q k os d e (extrV (ev e x) i σ) := ops_step (by simp) (by simp)
@[go_sem] theorem extrV_tup {vs : List AVal} {i : Nat} : extrV (.tup vs) i σ = (vs[i]?).map (·, σ) := rfl

def lenV (kd : LenK) (x : AVal) (σ : Sto) : Option (AVal × Sto) := match kd, x with
    | .sl, .nils | .sl, .emp | .mp, .nilm => some (.int .i64 0, σ)
    | .sl, .list _ xs => some (.int .i64 xs.length, σ)
    | .str, .str s => some (.int .i64 s.size, σ)
    | .mp, .fmap ks _ => some (.int .i64 ks.length, σ)
    | .sl, .ref o gen _ len _ =>
      match σ[o]? with
      | some (.cells _ cs) => if cs.length = gen then some (.int .i64 len, σ) else none
      | _ => none
    | .mp, .map o =>
      match σ[o]? with
      | some (.map ks _) => some (.int .i64 ks.length, σ)
      | _ => none
    | _, _ => none
@[go_sem] theorem st_len {kd : LenK} {x : Opd} {a r : List Nat} : Run T Q (.ops (⟨d, .len kd x, none, a, r⟩ :: os) :: k) e σ ↔ after T Q k os d e (lenV kd (ev e x) σ) := ops_step (by simp) (by simp)

def capV (x : AVal) (σ : Sto) : Option (AVal × Sto) := match x with
    | .nils | .emp => some (.int .i64 0, σ)
    | _ => none
@[go_sem] theorem st_cap {x : Opd} {a r : List Nat} : Run T Q (.ops (⟨d, .cap x, none, a, r⟩ :: os) :: k) e σ ↔ after T Q k os d e (capV (ev e x) σ) := ops_step (by simp) (by simp)

def appendV (m bytes : Nat) (s x : AVal) (σ : Sto) : Option (AVal × Sto) := match rowOf σ x with
    | none => none
    | some (c, new) =>
      if new.length = c * m ∧ 0 < m ∧ new.all AVal.one then
        match s with
        | .nils | .emp => if c = 0 then some (s, σ) else if c * bytes ≤ maxBytes then some (.ref σ.length (c * m) 0 c m, σ ++ [.cells false new]) else none
        | .ref o gen off len k' =>
          match σ[o]? with
          | some (.cells nl cs) =>
            if cs.length = gen ∧ m = k' then
              if c = 0 then some (s, σ)
              else if off + (len + c) * m ≤ gen then some (.ref o gen off (len + c) m, σ.set o (.cells nl (overwrite cs (off + len * m) new)))
              else if off = 0 ∧ (len + c) * bytes ≤ maxBytes then some (.ref o ((len + c) * m) 0 (len + c) m, σ.set o (.cells nl (cs.take (len * m) ++ new)))
              else none
            else none
          | _ => none
        | _ => none
      else none
@[go_sem] theorem st_append {m b : Nat} {s x : Opd} {a r : List Nat} : Run T Q (.ops (⟨d, .append m b s x, none, a, r⟩ :: os) :: k) e σ ↔ after T Q k os d e (appendV m b (ev e s) (ev e x) σ) := by
  rw [ops_step (by simp) (by simp)]
  simp only [stepOp, lvOk, List.all_nil, and_true]
  rfl

def appendzV (m bytes : Nat) (zero : List AVal) (s x : AVal) (σ : Sto) : Option (AVal × Sto) := match s, x with
    | .nils, .int .i64 n =>
      if 0 ≤ n ∧ n.toNat * bytes ≤ maxBytes ∧ 0 < m then
        (if n = 0 then some (.nils, σ) else some (.ref σ.length (n.toNat * m) 0 n.toNat m, σ ++ [.cells false (List.replicate n.toNat zero).flatten])) else none
    | _, _ => none
@[go_sem] theorem st_appendz {m b : Nat} {z : List AVal} {s x : Opd} {a r : List Nat} : Run T Q (.ops (⟨d, .appendz m b z s x, none, a, r⟩ :: os) :: k) e σ ↔ after T Q k os d e (appendzV m b z (ev e s) (ev e x) σ) := ops_step (by simp) (by simp)

def copyV (m : Nat) (d s : AVal) (σ : Sto) : Option (AVal × Sto) := match d, rowOf σ s with
    | .nils, some _ => some (.int .i64 0, σ)
    | .ref o gen off len k', some (c, src) =>
      match σ[o]? with
      | some (.cells nl cs) =>
        if cs.length = gen ∧ m = k' ∧ src.length = c * m ∧ off + len * m ≤ gen ∧ src.all AVal.one then
          some (.int .i64 (min c len : Nat), σ.set o (.cells nl (overwrite cs off (src.take (min c len * m))))) else none
      | _ => none
    | _, _ => none
@[go_sem] theorem st_copy {m : Nat} {x y : Opd} {a r : List Nat} : Run T Q (.ops (⟨d, .copy m x y, none, a, r⟩ :: os) :: k) e σ ↔ after T Q k os d e (copyV m (ev e x) (ev e y) σ) := by
  rw [ops_step (by simp) (by simp)]
  simp only [stepOp, lvOk, List.all_nil, true_and]
  rfl

def deleteV (sh : Shape) (m i : AVal) (σ : Sto) : Option (AVal × Sto) := match m with
    | .map o =>
      match σ[o]? with
      | some (.map ks vs) =>
        if eqA sh i i = some true then
          match findA sh i ks 0 with
          | some (some j) => some (.tup [], σ.set o (.map (ks.eraseIdx j) (vs.eraseIdx j)))
          | some none => some (.tup [], σ)
          | none => none
        else none
      | _ => none
    | _ => none
@[go_sem] theorem st_delete {sh : Shape} {m i : Opd} {a r : List Nat} : Run T Q (.ops (⟨d, .delete sh m i, none, a, r⟩ :: os) :: k) e σ ↔ after T Q k os d e (deleteV sh (ev e m) (ev e i) σ) := ops_step (by simp) (by simp)

def minmaxV (isMax : Bool) (xs : List AVal) (σ : Sto) : Option (AVal × Sto) := match xs with
    | .int k a :: rest =>
      (rest.foldlM (fun (m : Int) (v : AVal) => match v with
        | .int _ y => some (if isMax then (if m < y then y else m) else (if y < m then y else m))
        | _ => none) a).map fun m => (.int k m, σ)
    | _ => none
@[go_sem] theorem st_minmax {g : Bool} {xs : List Opd} {a r : List Nat} : Run T Q (.ops (⟨d, .minmax g xs, none, a, r⟩ :: os) :: k) e σ ↔ after T Q k os d e (minmaxV g (xs.map (ev e)) σ) := ops_step (by simp) (by simp)
@[go_sem] theorem minmaxV_two {g : Bool} {kd kd' : IntKind} {x y : Int} : minmaxV g [.int kd x, .int kd' y] σ = some (.int kd (if g = true then (if x < y then y else x) else (if y < x then y else x)), σ) := by cases g <;> rfl

def arrpV (c m : Nat) (x : AVal) (σ : Sto) : Option (AVal × Sto) := match x with
    | .ref o gen off len k' =>
      match σ[o]? with
      | some (.cells false cs) => if cs.length = gen ∧ m = k' ∧ c ≤ len then some (.ptr o gen off, σ) else none
      | _ => none
    | .list k' xs => if c ≤ xs.length ∧ 0 < c ∧ m = k' then some (.fptr ((xs.take c).flatMap AVal.cells), σ) else none
    | _ => none
@[go_sem] theorem st_arrp {c m : Nat} {x : Opd} {a r : List Nat} : Run T Q (.ops (⟨d, .arrp c m x, none, a, r⟩ :: os) :: k) e σ ↔ after T Q k os d e (arrpV c m (ev e x) σ) := ops_step (by simp) (by simp)

/-- a call, with what is to be done behind it -/
def CallK (T : FuncId → Option AFunc) (Q : Post3) (k : List Item) (os : List AOper) (d : Option Nat) (e : Env) (σ : Sto) (p : Bool) (f : FuncId) (args : List AVal) : Prop := Cw T p f args [] σ fun v σ' => Run T Q (.ops os :: k) (put e d v) σ'
@[go_sem] theorem st_call {p : Bool} {f : FuncId} {xs : List Opd} {a r : List Nat} : Run T Q (.ops (⟨d, .call p f xs, none, a, r⟩ :: os) :: k) e σ ↔ CallK T Q k os d e σ p f (xs.map (ev e)) := ops_call
theorem callK_of {f : FuncId} {args : List AVal} {v : AVal} (h : ∀ {lv : List Nat} {σ : Sto} {R : Post}, Cw T true f args lv σ R ↔ R v σ) : CallK T Q k os d e σ true f args ↔ Run T Q (.ops os :: k) (put e d v) σ := h
theorem callK_shared {f : FuncId} {args : List AVal} {v : AVal} {σ' : Sto} (h : ∀ {R : Post}, Cw T false f args [] σ R ↔ R v σ') : CallK T Q k os d e σ false f args ↔ Run T Q (.ops os :: k) (put e d v) σ' := h

def callvX (T : FuncId → Option AFunc) (Q : Post3) (k : List Item) (os : List AOper) (d : Option Nat) (e : Env) (σ : Sto) (p : Bool) (args : List AVal) (x : AVal) : Prop := match x with
  | .clo (.func f) first captured => CallK T Q k os d e σ p f (first ++ args ++ captured)
  | _ => False
@[go_sem] theorem st_callv {p : Bool} {x : Opd} {xs : List Opd} {a r : List Nat} : Run T Q (.ops (⟨d, .callv p x xs, none, a, r⟩ :: os) :: k) e σ ↔ callvX T Q k os d e σ p (xs.map (ev e)) (ev e x) := ops_callv
@[go_sem] theorem callvX_clo {p : Bool} {args first captured : List AVal} {f : FuncId} : callvX T Q k os d e σ p args (.clo (.func f) first captured) ↔ CallK T Q k os d e σ p f (first ++ args ++ captured) := Iff.rfl

/-- a guarded operation -/
def guardX (T : FuncId → Option AFunc) (Q : Post3) (k : List Item) (os : List AOper) (n : Nat) (L : List (Nat × AVal)) (σ : Sto) (d : Option Nat) (o : AOp) (a r : List Nat) (want : Bool) (x : AVal) : Prop := match x with
  | .bool b => if b = want then Run T Q (.ops (⟨d, o, none, a, r⟩ :: os) :: k) (mkE n L) σ else Run T Q (.ops os :: k) (put (mkE n L) d skipped) σ
  | .tup _ => Run T Q (.ops os :: k) (put (mkE n L) d skipped) σ
  | _ => False
@[go_sem] theorem guardX_tup {o : AOp} {want : Bool} {a r : List Nat} {vs : List AVal} : guardX T Q k os n L σ d o a r want (.tup vs) ↔ Run T Q (.ops os :: k) (put (mkE n L) d skipped) σ := Iff.rfl
@[go_sem] theorem st_guard {o : AOp} {g : Nat} {want : Bool} {a r : List Nat} : Run T Q (.ops (⟨d, o, some (some g, want), a, r⟩ :: os) :: k) (mkE n L) σ ↔ guardX T Q k os n L σ d o a r want (if g < n then look L g else .und) := by
  rw [ops_guard, mkE_get]
  by_cases h : g < n
  · rw [if_pos h, if_pos h]
    cases look L g <;> rfl
  · rw [if_neg h, if_neg h]
    exact Iff.rfl
@[go_sem] theorem guardX_bool {o : AOp} {want b : Bool} {a r : List Nat} : guardX T Q k os n L σ d o a r want (.bool b) ↔ if b = want then Run T Q (.ops (⟨d, o, none, a, r⟩ :: os) :: k) (mkE n L) σ else Run T Q (.ops os :: k) (put (mkE n L) d skipped) σ := Iff.rfl

def condX (T : FuncId → Option AFunc) (Q : Post3) (k : List Item) (e : Env) (σ : Sto) (x : ACode) (y : ACode) (c : AVal) : Prop := match c with
  | .bool t => if t = true then Run T Q (.code x :: k) e σ else Run T Q (.code y :: k) e σ
  | _ => False
@[go_sem] theorem st_cond {c : Opd} {x y : ACode} : Run T Q (.code (.cond c x y) :: k) e σ ↔ condX T Q k e σ x y (ev e c) := run_cond
@[go_sem] theorem condX_bool {t : Bool} {x y : ACode} : condX T Q k e σ x y (.bool t) ↔ if t = true then Run T Q (.code x :: k) e σ else Run T Q (.code y :: k) e σ := Iff.rfl

/-! ### Ghosts -/
@[go_sem] theorem st_kill {ts : List Nat} : Run T Q (.code (.ghost (.kill ts)) :: k) (mkE n L) σ ↔ Run T Q k (mkE n (dels L ts)) σ := by
  rw [run_ghost]; simp only [ghostA, dels_eq]

def freezeV (v : AVal) (σ : Sto) : Option (AVal × Sto) := match v with
    | .ref o gen off len k =>
      match σ[o]? with
      | some (.cells nl cs) =>
        if cs.length = gen ∧ off + len * k ≤ gen ∧ 0 < k ∧ AVal.pures cs then
          some (if nl && cs.isEmpty then .nils else .list k (chunk k len ((cs.drop off).take (len * k))), σ.set o .dead)
        else none
      | _ => none
    | .ptr o gen off =>
      match σ[o]? with
      | some (.cells _ cs) => if cs.length = gen ∧ AVal.pures cs then some (.fptr (cs.drop off), σ.set o .dead) else none
      | _ => none
    | .map o =>
      match σ[o]? with
      | some (.map ks vs) => if AVal.pures ks ∧ AVal.pures vs then some (.fmap ks vs, σ.set o .dead) else none
      | _ => none
    | v => if v.pure then some (v, σ) else none

def afterG (T : FuncId → Option AFunc) (Q : Post3) (k : List Item) (n : Nat) (L : List (Nat × AVal)) (t : Nat) (r : Option (AVal × Sto)) : Prop := match r with
  | some (v, σ') => Run T Q k (mkE n (ins L t v)) σ'
  | none => False
@[go_sem] theorem afterG_some {t : Nat} {v : AVal} {σ' : Sto} : afterG T Q k n L t (some (v, σ')) ↔ Run T Q k (mkE n (ins L t v)) σ' := Iff.rfl
@[go_sem] theorem afterG_none {t : Nat} : afterG T Q k n L t none ↔ False := Iff.rfl

theorem mkE_same (n : Nat) (L : List (Nat × AVal)) (t : Nat) : mkE n (ins L t (look L t)) = mkE n L := by
  apply List.ext_getElem?
  intro i
  rw [mkE_get, mkE_get, look_ins]
  split
  · split
    · rename_i h; rw [h]
    · rfl
  · rfl

@[go_sem] theorem st_freeze {t : Nat} : Run T Q (.code (.ghost (.freeze t)) :: k) (mkE n L) σ ↔ if t < n then afterG T Q k n L t (freezeV (look L t) σ) else Run T Q k (mkE n L) σ := by
  rw [run_ghost]
  simp only [ghostA, mkE_getD]
  by_cases h : t < n
  · rw [if_pos h, if_pos h]
    have hsame := mkE_same n L t
    generalize hx : look L t = x at hsame
    cases x <;> simp only [freezeV]
    case ref o gen off len k' =>
      cases σ[o]? with
      | none => exact Iff.rfl
      | some ob =>
        cases ob with
        | cells nl cs =>
          simp only
          by_cases hc : (cs.length = gen ∧ off + len * k' ≤ gen ∧ 0 < k' ∧ AVal.pures cs = true)
          · rw [if_pos hc, if_pos hc]; simp only [afterG_some, mkE_set]
          · rw [if_neg hc, if_neg hc]; simp only [afterG_none]
        | _ => exact Iff.rfl
    case ptr o gen off =>
      cases σ[o]? with
      | none => exact Iff.rfl
      | some ob =>
        cases ob with
        | cells nl cs =>
          simp only
          by_cases hc : (cs.length = gen ∧ AVal.pures cs = true)
          · rw [if_pos hc, if_pos hc]; simp only [afterG_some, mkE_set]
          · rw [if_neg hc, if_neg hc]; simp only [afterG_none]
        | _ => exact Iff.rfl
    case map o =>
      cases σ[o]? with
      | none => exact Iff.rfl
      | some ob =>
        cases ob with
        | map ks vs =>
          simp only
          by_cases hc : (AVal.pures ks = true ∧ AVal.pures vs = true)
          · rw [if_pos hc, if_pos hc]; simp only [afterG_some, mkE_set]
          · rw [if_neg hc, if_neg hc]; simp only [afterG_none]
        | _ => exact Iff.rfl
    all_goals
      split
      · rename_i h; split at h <;> simp_all [afterG]
      · rename_i h; split at h <;> simp_all [afterG]
  · rw [if_neg h, if_neg h]
    simp [AVal.names]

@[go_sem] theorem st_nilref {t m : Nat} : Run T Q (.code (.ghost (.nilref t m)) :: k) (mkE n L) σ ↔ if t < n then (match look L t with
    | .nils => Run T Q k (mkE n (ins L t (.ref σ.length 0 0 0 m))) (σ ++ [.cells true []])
    | _ => False) else False := by
  rw [run_ghost]
  simp only [ghostA, mkE_getD]
  by_cases h : t < n
  · rw [if_pos h, if_pos h]
    cases look L t <;> simp [mkE_set]
  · rw [if_neg h, if_neg h]

@[go_sem] theorem st_dfreeze {t : Nat} : Run T Q (.code (.ghost (.dfreeze t)) :: k) (mkE n L) σ ↔ if t < n then afterG T Q k n L t (deepA snapDepth σ (look L t)) else Run T Q k (mkE n L) σ := by
  rw [run_ghost]
  simp only [ghostA, mkE_getD]
  by_cases h : t < n
  · rw [if_pos h, if_pos h]
    cases deepA snapDepth σ (look L t) with
    | none => exact Iff.rfl
    | some p => obtain ⟨v, τ⟩ := p; simp only [mkE_set, afterG_some]
  · rw [if_neg h, if_neg h]
    have e1 : deepA snapDepth σ AVal.und = some (.und, σ) := by simp [snapDepth, deepA, AVal.names]
    have e2 : (mkE n L).set t .und = mkE n L := List.set_eq_of_length_le (by simp [mkE]; omega)
    simp only [e1, e2]

def innerV (v : AVal) (σ : Sto) : Option Sto := match v with
    | .ref o gen _ _ _ | .ptr o gen _ =>
      match σ[o]? with
      | some (.cells nl cs) =>
        if cs.length = gen then
          match deepL (deepA snapDepth) σ cs with
          | some (cs', σ1) =>
            match σ1[o]? with
            | some (.cells _ _) => some (σ1.set o (.cells nl cs'))
            | _ => none
          | none => none
        else none
      | _ => none
    | _ => none
def afterI (T : FuncId → Option AFunc) (Q : Post3) (k : List Item) (e : Env) (r : Option Sto) : Prop := match r with
  | some σ' => Run T Q k e σ'
  | none => False
@[go_sem] theorem afterI_some {σ' : Sto} : afterI T Q k e (some σ') ↔ Run T Q k e σ' := Iff.rfl
@[go_sem] theorem afterI_none : afterI T Q k e none ↔ False := Iff.rfl
@[go_sem] theorem st_inner {t : Nat} : Run T Q (.code (.ghost (.inner t)) :: k) (mkE n L) σ ↔ afterI T Q k (mkE n L) (innerV (if t < n then look L t else .und) σ) := by
  rw [run_ghost]
  simp only [ghostA, mkE_getD]
  generalize (if t < n then look L t else AVal.und) = x
  unfold innerV
  have key : ∀ (o gen : Nat), (match (match σ[o]? with
      | some (.cells nl cs) =>
        if cs.length = gen then
          match deepL (deepA snapDepth) σ cs with
          | some (cs', σ1) =>
            match σ1[o]? with
            | some (.cells _ _) => some (mkE n L, σ1.set o (.cells nl cs'))
            | _ => none
          | none => none
        else none
      | _ => none) with
    | some (e', σ') => Run T Q k e' σ'
    | none => False) ↔ afterI T Q k (mkE n L) (match σ[o]? with
      | some (.cells nl cs) =>
        if cs.length = gen then
          match deepL (deepA snapDepth) σ cs with
          | some (cs', σ1) =>
            match σ1[o]? with
            | some (.cells _ _) => some (σ1.set o (.cells nl cs'))
            | _ => none
          | none => none
        else none
      | _ => none) := by
    intro o gen
    cases σ[o]? with
    | none => exact Iff.rfl
    | some ob =>
      cases ob with
      | cells nl cs =>
        by_cases hc : cs.length = gen
        · simp only [if_pos hc]
          cases deepL (deepA snapDepth) σ cs with
          | none => exact Iff.rfl
          | some p =>
            obtain ⟨cs', σ1⟩ := p
            simp only
            cases σ1[o]? with
            | none => exact Iff.rfl
            | some ob1 => cases ob1 <;> exact Iff.rfl
        · simp only [if_neg hc]; exact Iff.rfl
      | _ => exact Iff.rfl
  cases x <;> first | exact Iff.rfl | exact key _ _

/-! ### Deep freezing -/
theorem deepA_pure {m : Nat} {v : AVal} (h : v.pure = true) : deepA (m + 1) σ v = some (v, σ) := by simp only [deepA, h, if_true]
@[go_sem] theorem deepA_pure' {v : AVal} (h : v.pure = true) : deepA snapDepth σ v = some (v, σ) := deepA_pure (m := 63) h
theorem deepL_pure {m : Nat} : ∀ {cs : List AVal}, AVal.pures cs = true → deepL (deepA (m + 1)) σ cs = some (cs, σ)
  | [], _ => rfl
  | x :: xs, h => by
    simp only [AVal.pures, AVal.namesL, Bool.and_eq_true] at h
    simp only [deepL, deepA_pure h.1, deepL_pure h.2]
@[go_sem] theorem deepL_pure' {cs : List AVal} (h : AVal.pures cs = true) : deepL (deepA snapDepth) σ cs = some (cs, σ) := deepL_pure (m := 63) h
theorem deepL_append {f : Sto → AVal → Option (AVal × Sto)} : ∀ {σ : Sto} {xs ys : List AVal}, deepL f σ (xs ++ ys) = (match deepL f σ xs with
    | some (xs', σ1) => (match deepL f σ1 ys with
      | some (ys', σ2) => some (xs' ++ ys', σ2)
      | none => none)
    | none => none)
  | σ, [], ys => by
    simp only [List.nil_append, deepL]
    cases deepL f σ ys <;> rfl
  | σ, x :: xs, ys => by
    simp only [List.cons_append, deepL]
    cases f σ x with
    | none => rfl
    | some p =>
      obtain ⟨x', σ1⟩ := p
      simp only [deepL_append (σ := σ1) (xs := xs) (ys := ys)]
      cases deepL f σ1 xs with
      | none => rfl
      | some p =>
        obtain ⟨xs', σ2⟩ := p
        simp only
        cases deepL f σ2 ys <;> rfl

end
end Go.Abs
