/- Values of a walk: numbers, slices, structs; what the operations do to them. -/
import Derived.Test.YtdiekiajedmaeaaJAbsCore
set_option linter.all false
namespace Go.Abs
open Go

inductive SlF where
  | nil | emp | lst
  deriving DecidableEq, Inhabited

def sv (k : Nat) (f : SlF) (xs : List AVal) : AVal :=
  if xs.isEmpty then (match f with | .nil => .nils | .emp => .emp | .lst => .list k xs) else .list k xs

@[go_sem] theorem sv_nil (k : Nat) : sv k .nil [] = .nils := rfl
theorem sv_lst (k : Nat) (xs : List AVal) : sv k .lst xs = .list k xs := by unfold sv; split <;> rfl
theorem sv_cases {p : AVal → Prop} (k : Nat) (f : SlF) (xs : List AVal) (h1 : p (.list k xs)) (h2 : xs = [] → p .nils) (h3 : xs = [] → p .emp) : p (sv k f xs) := by
  unfold sv
  split
  · rename_i h
    have : xs = [] := by simpa using h
    cases f
    · exact h2 this
    · exact h3 this
    · exact h1
  · exact h1

section
variable {σ : Sto} {k : Nat} {f : SlF} {xs : List AVal}

@[go_sem] theorem sv_pure {p : Nat → Bool} : (sv k f xs).names p = true := sv_cases (p := fun v => v.names p = true) k f xs (by simp [AVal.names]) (fun _ => by simp [AVal.names]) (fun _ => by simp [AVal.names])
@[go_sem] theorem sv_one : (sv k f xs).one = true := sv_cases (p := fun v => v.one = true) k f xs rfl (fun _ => rfl) (fun _ => rfl)
@[go_sem] theorem sv_cells : (sv k f xs).cells = [sv k f xs] := sv_cases (p := fun v => v.cells = [v]) k f xs rfl (fun _ => rfl) (fun _ => rfl)
@[go_sem] theorem sv_fits : (sv k f xs).fits 1 = true := sv_cases (p := fun v => v.fits 1 = true) k f xs rfl (fun _ => rfl) (fun _ => rfl)
@[go_sem] theorem sv_isUnd : (sv k f xs).isUnd = false := sv_cases (p := fun v => v.isUnd = false) k f xs rfl (fun _ => rfl) (fun _ => rfl)

@[go_sem] theorem lenV_sv : lenV .sl (sv k f xs) σ = some (.int .i64 (xs.length : Nat), σ) :=
  sv_cases (p := fun v => lenV .sl v σ = some (.int .i64 (xs.length : Nat), σ)) k f xs rfl (fun h => by subst h; rfl) (fun h => by subst h; rfl)
@[go_sem] theorem lenV_list : lenV .sl (.list k xs) σ = some (.int .i64 (xs.length : Nat), σ) := rfl
@[go_sem] theorem lenV_nils : lenV .sl .nils σ = some (.int .i64 0, σ) := rfl
@[go_sem] theorem lenV_str {s : ByteArray} : lenV .str (.str s) σ = some (.int .i64 s.size, σ) := rfl
@[go_sem] theorem lenV_ref {o gen off len : Nat} : lenV .sl (.ref o gen off len k) σ = match σ[o]? with
  | some (.cells _ cs) => if cs.length = gen then some (.int .i64 len, σ) else none
  | _ => none := rfl

theorem natOf_int {kd : IntKind} {n : Int} : natOf (.int kd n) = if 0 ≤ n then some n.toNat else none := rfl
@[go_sem] theorem natOf_nat {kd : IntKind} {n : Nat} : natOf (.int kd (n : Int)) = some n := by simp [natOf]

theorem iaddrV_list {kd : IntKind} {i : Nat} {v : AVal} (h : xs[i]? = some v) : iaddrV k (.list k xs) (.int kd (i : Int)) σ = some (.fptr v.cells, σ) := by
  simp [iaddrV, natOf, h]
theorem iaddrV_sv {kd : IntKind} {i : Nat} {v : AVal} (h : xs[i]? = some v) : iaddrV k (sv k f xs) (.int kd (i : Int)) σ = some (.fptr v.cells, σ) :=
  sv_cases (p := fun s => iaddrV k s (.int kd (i : Int)) σ = some (.fptr v.cells, σ)) k f xs (iaddrV_list h) (fun e => by subst e; simp at h) (fun e => by subst e; simp at h)
@[go_sem] theorem iaddrV_map {α : Type} {g : α → AVal} {l : List α} {kd : IntKind} {i : Nat} (h : i < l.length) : iaddrV k (sv k f (l.map g)) (.int kd (i : Int)) σ = some (.fptr (g l[i]).cells, σ) :=
  iaddrV_sv (by simp [h])
@[go_sem] theorem iaddrV_mapl {α : Type} {g : α → AVal} {l : List α} {kd : IntKind} {i : Nat} (h : i < l.length) : iaddrV k (.list k (l.map g)) (.int kd (i : Int)) σ = some (.fptr (g l[i]).cells, σ) :=
  iaddrV_list (by simp [h])
@[go_sem] theorem iaddrV_ref {o gen off len : Nat} {kd : IntKind} {i : Nat} : iaddrV k (.ref o gen off len k) (.int kd (i : Int)) σ = match σ[o]? with
      | some (.cells _ cs) => if i < len ∧ cs.length = gen then some (.ptr o gen (off + i * k), σ) else none
      | _ => none := by
  simp only [iaddrV, natOf_nat]
  cases σ[o]? with
  | none => rfl
  | some ob => cases ob <;> simp

@[go_sem] theorem loadV_fptr {agg : Bool} {m : Nat} {cs : List AVal} : loadV agg m (.fptr cs) σ = (loadA agg m cs).map (·, σ) := rfl
@[go_sem] theorem loadV_ptr {agg : Bool} {m o gen off : Nat} : loadV agg m (.ptr o gen off) σ = match σ[o]? with
    | some (.cells _ cs) => if cs.length = gen then (loadA agg m (cs.drop off)).map (·, σ) else none
    | _ => none := rfl
@[go_sem] theorem storeV_ptr {m o gen off : Nat} {v : AVal} : storeV m (.ptr o gen off) v σ = match σ[o]? with
    | some (.cells nl cs) => if cs.length = gen ∧ off + m ≤ gen ∧ v.fits m then some (.und, σ.set o (.cells nl (overwrite cs off v.cells))) else none
    | _ => none := rfl
@[go_sem] theorem loadA_head {m : Nat} {c : AVal} {cs : List AVal} : loadA false m (c :: cs) = some c := rfl
@[go_sem] theorem loadA_agg {m : Nat} {cs : List AVal} : loadA true m cs = if m ≤ cs.length then some (.agg (cs.take m)) else none := rfl

@[go_sem] theorem cells_int {kd : IntKind} {n : Int} : (AVal.int kd n).cells = [.int kd n] := rfl
@[go_sem] theorem cells_bool {b : Bool} : (AVal.bool b).cells = [.bool b] := rfl
@[go_sem] theorem cells_str {s : ByteArray} : (AVal.str s).cells = [.str s] := rfl
@[go_sem] theorem cells_agg {cs : List AVal} : (AVal.agg cs).cells = cs := rfl
@[go_sem] theorem cells_list : (AVal.list k xs).cells = [.list k xs] := rfl
@[go_sem] theorem cells_nils : AVal.nils.cells = [.nils] := rfl

@[go_sem] theorem binV_lss {kd : IntKind} {a b : Int} : binV .lss (.int kd a) (.int kd b) σ = some (.bool (decide (a < b)), σ) := by simp [binV, binA, binInt]
@[go_sem] theorem binV_leq {kd : IntKind} {a b : Int} : binV .leq (.int kd a) (.int kd b) σ = some (.bool (decide (a ≤ b)), σ) := by simp [binV, binA, binInt]
@[go_sem] theorem binV_gtr {kd : IntKind} {a b : Int} : binV .gtr (.int kd a) (.int kd b) σ = some (.bool (decide (b < a)), σ) := by simp [binV, binA, binInt]
@[go_sem] theorem binV_geq {kd : IntKind} {a b : Int} : binV .geq (.int kd a) (.int kd b) σ = some (.bool (decide (b ≤ a)), σ) := by simp [binV, binA, binInt]
@[go_sem] theorem binV_eql {kd : IntKind} {a b : Int} : binV .eql (.int kd a) (.int kd b) σ = some (.bool (decide (a = b)), σ) := by simp [binV, binA, binInt]; rfl
@[go_sem] theorem binV_neq {kd : IntKind} {a b : Int} : binV .neq (.int kd a) (.int kd b) σ = some (.bool (!decide (a = b)), σ) := by simp [binV, binA, binInt]; rfl
@[go_sem] theorem binV_add {kd : IntKind} {a b : Int} : binV .add (.int kd a) (.int kd b) σ = some (.int kd (kd.wrap (a + b)), σ) := by simp [binV, binA, binInt]
@[go_sem] theorem binV_sub {kd : IntKind} {a b : Int} : binV .sub (.int kd a) (.int kd b) σ = some (.int kd (kd.wrap (a - b)), σ) := by simp [binV, binA, binInt]
@[go_sem] theorem binV_mul {kd : IntKind} {a b : Int} : binV .mul (.int kd a) (.int kd b) σ = some (.int kd (kd.wrap (a * b)), σ) := by simp [binV, binA, binInt]
@[go_sem] theorem binV_quo {kd : IntKind} {a b : Int} : binV .quo (.int kd a) (.int kd b) σ = if b = 0 then none else some (.int kd (kd.wrap (a.tdiv b)), σ) := by
  simp only [binV, binA, binInt, if_true]; split <;> rfl
@[go_sem] theorem binV_rem {kd : IntKind} {a b : Int} : binV .rem (.int kd a) (.int kd b) σ = if b = 0 then none else some (.int kd (a.tmod b), σ) := by
  simp only [binV, binA, binInt, if_true]; split <;> rfl
@[go_sem] theorem unV_not {b : Bool} : unV .not (.bool b) σ = some (.bool !b, σ) := rfl
@[go_sem] theorem unV_neg {kd : IntKind} {a : Int} : unV .neg (.int kd a) σ = some (.int kd (kd.wrap (0 - a)), σ) := rfl

theorem wrap_i64 {x : Int} (h1 : -9223372036854775808 ≤ x) (h2 : x < 9223372036854775808) : IntKind.i64.wrap x = x := by
  have e1 : (2 : Int) ^ IntKind.i64.bits = 18446744073709551616 := by decide
  have e2 : (2 : Int) ^ (IntKind.i64.bits - 1) = 9223372036854775808 := by decide
  have e3 : IntKind.i64.signed = true := rfl
  simp only [IntKind.wrap, e1, e2, e3, Bool.true_and]
  split
  · rename_i h; simp at h; omega
  · rename_i h; simp at h; omega

def Ret (rs : List ARes) (R : Post) : Post3 := fun x e σ => match x with
  | .exit _ => False
  | _ => match resultsA rs e σ with
    | some u => R u σ
    | none => False
def Res (rs : List ARes) (v : AVal) : Post3 := Ret rs fun u σ' => snapA σ' snapDepth u = some v
theorem retA_eq {n : Nat} {rs : List ARes} {c : ACode} {b : Bool} {R : Post} : (fun x e σ => retA ⟨n, rs, c, b⟩ x e σ R) = Ret rs R := by
  funext x e σ
  cases x <;> rfl

theorem mapM_snap_pure {σ : Sto} : ∀ {args : List AVal}, AVal.pures args = true → args.mapM (snapA σ snapDepth) = some args
  | [], _ => rfl
  | x :: xs, h => by
    simp only [AVal.pures, AVal.namesL, Bool.and_eq_true] at h
    have : snapA σ snapDepth x = some x := by
      unfold snapDepth
      unfold snapA
      rw [if_pos h.1]
    simp only [List.mapM_cons, this, mapM_snap_pure h.2, Option.pure_def, Option.bind_eq_bind, Option.bind_some]

theorem snapA_pure {v : AVal} (h : v.pure = true) : snapA σ snapDepth v = some v := by
  unfold snapDepth
  unfold snapA
  rw [if_pos h]

theorem cw_intro {T : FuncId → Option AFunc} {f : FuncId} {n : Nat} {rs : List ARes} {c : ACode} {args : List AVal} {v : AVal} {b : Bool} (hf : T f = some ⟨n, rs, c, b⟩) (hp : AVal.pures args = true) (hl : args.length ≤ n)
    (h : Run T (Res rs v) [.code c] (mkE n (numL 0 args)) []) {lv : List Nat} {σ : Sto} {R : Post} : Cw T true f args lv σ R ↔ R v σ := by
  have key : ∀ R : Post, R v σ → Cw T true f args lv σ R := by
    intro R hR
    rw [cw_pure hf (mapM_snap_pure hp), init_mkE _ _ hl]
    refine h.mono fun x e σ' hx => ?_
    have e1 := congrFun (congrFun (congrFun (retA_eq (n := n) (rs := rs) (c := c) (b := b) (R := fun u σ'' => match snapA σ'' snapDepth u with | some v' => (AVal.pures args = true ∨ v'.flat = true) ∧ R v' σ | none => False)) x) e) σ'
    refine e1.mpr ?_
    unfold Res Ret at hx
    unfold Ret
    cases x
    case exit => exact hx.elim
    all_goals
      simp only at hx ⊢
      cases hr : resultsA rs e σ' with
      | none => rw [hr] at hx; exact hx.elim
      | some u =>
        rw [hr] at hx
        simp only at hx ⊢
        simp only [hx, hp, true_or, true_and]
        exact hR
  exact Cw.iff_of key

theorem cw_enter {T : FuncId → Option AFunc} {f : FuncId} {n : Nat} {rs : List ARes} {c : ACode} {args : List AVal} {σ : Sto} (hf : T f = some ⟨n, rs, c, false⟩) (hl : args.length ≤ n) {R : Post} :
    Cw T false f args [] σ R ↔ Run T (Ret rs R) [.code c] (mkE n (numL 0 args)) σ := by
  rw [cw_shared hf, init_mkE _ _ hl, retA_eq]; rfl

theorem cw_cut {T : FuncId → Option AFunc} {f : FuncId} {n : Nat} {rs : List ARes} {c : ACode} {args : List AVal} {σ : Sto} (hf : T f = some ⟨n, rs, c, true⟩) (hl : args.length ≤ n) {R : Post} :
    Cw T false f args [] σ R ↔ Run T (Ret rs fun v σ' => v.under σ.length = true ∧ (σ'.take σ.length).all (AObj.under σ.length) = true ∧ R v (σ'.take σ.length)) [.code c] (mkE n (numL 0 args)) σ := by
  rw [cw_shared hf, init_mkE _ _ hl, retA_eq]; rfl

section
variable {rs : List ARes} {v : AVal} {e : Env}
@[go_sem] theorem res_ret : Res rs v .ret e σ ↔ match resultsA rs e σ with
  | some u => snapA σ snapDepth u = some v
  | none => False := Iff.rfl
@[go_sem] theorem ret_ret {R : Post} : Ret rs R .ret e σ ↔ match resultsA rs e σ with
  | some u => R u σ
  | none => False := Iff.rfl
@[go_sem] theorem res_normal : Res rs v .normal e σ ↔ match resultsA rs e σ with
  | some u => snapA σ snapDepth u = some v
  | none => False := Iff.rfl
@[go_sem] theorem ret_normal {R : Post} : Ret rs R .normal e σ ↔ match resultsA rs e σ with
  | some u => R u σ
  | none => False := Iff.rfl
@[go_sem] theorem resultsA_tmp {n t : Nat} {L : List (Nat × AVal)} : resultsA [.tmp t] (mkE n L) σ = some (if t < n then look L t else .und) := by
  simp only [resultsA, resA, mkE_getD, List.mapM_cons, List.mapM_nil, Option.pure_def, Option.bind_eq_bind, Option.bind_some]
@[go_sem] theorem resultsA_two {n t t' : Nat} {L : List (Nat × AVal)} : resultsA [.tmp t, .tmp t'] (mkE n L) σ = some (.tup [if t < n then look L t else .und, if t' < n then look L t' else .und]) := by
  simp only [resultsA, resA, mkE_getD, List.mapM_cons, List.mapM_nil, Option.pure_def, Option.bind_eq_bind, Option.bind_some]
end

theorem up_ind {p : Nat → Prop} {n : Nat} (last : p n) (step : ∀ i, i < n → p (i + 1) → p i) : ∀ i, i ≤ n → p i := by
  intro i hi
  obtain ⟨d, hd⟩ : ∃ d, d = n - i := ⟨_, rfl⟩
  induction d generalizing i with
  | zero => have : i = n := by omega
            subst this; exact last
  | succ d ih => exact step i (by omega) (ih (i + 1) (by omega) (by omega))

theorem wrap_succ {n : Nat} (h : n < 9223372036854775807) : IntKind.i64.wrap ((n : Int) + 1) = ((n + 1 : Nat) : Int) := by
  rw [wrap_i64 (by omega) (by omega)]; omega

@[go_sem] theorem one_int {kd : IntKind} {n : Int} : AVal.one (.int kd n) = true := rfl
@[go_sem] theorem fits_int {kd : IntKind} {n : Int} : AVal.fits 1 (.int kd n) = true := rfl
@[go_sem] theorem isUnd_int {kd : IntKind} {n : Int} : AVal.isUnd (.int kd n) = false := rfl
@[go_sem] theorem one_bool {b : Bool} : AVal.one (.bool b) = true := rfl
@[go_sem] theorem fits_bool {b : Bool} : AVal.fits 1 (.bool b) = true := rfl
@[go_sem] theorem isUnd_bool {b : Bool} : AVal.isUnd (.bool b) = false := rfl
@[go_sem] theorem one_str {s : ByteArray} : AVal.one (.str s) = true := rfl
@[go_sem] theorem fits_str {s : ByteArray} : AVal.fits 1 (.str s) = true := rfl
@[go_sem] theorem isUnd_str {s : ByteArray} : AVal.isUnd (.str s) = false := rfl
@[go_sem] theorem one_nils  : AVal.one .nils = true := rfl
@[go_sem] theorem fits_nils  : AVal.fits 1 .nils = true := rfl
@[go_sem] theorem isUnd_nils  : AVal.isUnd .nils = false := rfl
@[go_sem] theorem one_emp  : AVal.one .emp = true := rfl
@[go_sem] theorem fits_emp  : AVal.fits 1 .emp = true := rfl
@[go_sem] theorem isUnd_emp  : AVal.isUnd .emp = false := rfl
@[go_sem] theorem cells_emp  : AVal.cells .emp = [.emp] := rfl
@[go_sem] theorem one_list {k : Nat} {xs : List AVal} : AVal.one (.list k xs) = true := rfl
@[go_sem] theorem fits_list {k : Nat} {xs : List AVal} : AVal.fits 1 (.list k xs) = true := rfl
@[go_sem] theorem isUnd_list {k : Nat} {xs : List AVal} : AVal.isUnd (.list k xs) = false := rfl
@[go_sem] theorem one_ref {o g f l k : Nat} : AVal.one (.ref o g f l k) = true := rfl
@[go_sem] theorem fits_ref {o g f l k : Nat} : AVal.fits 1 (.ref o g f l k) = true := rfl
@[go_sem] theorem isUnd_ref {o g f l k : Nat} : AVal.isUnd (.ref o g f l k) = false := rfl
@[go_sem] theorem cells_ref {o g f l k : Nat} : AVal.cells (.ref o g f l k) = [(.ref o g f l k)] := rfl
@[go_sem] theorem one_nilp  : AVal.one .nilp = true := rfl
@[go_sem] theorem fits_nilp  : AVal.fits 1 .nilp = true := rfl
@[go_sem] theorem isUnd_nilp  : AVal.isUnd .nilp = false := rfl
@[go_sem] theorem cells_nilp  : AVal.cells .nilp = [.nilp] := rfl
@[go_sem] theorem one_fptr {cs : List AVal} : AVal.one (.fptr cs) = true := rfl
@[go_sem] theorem fits_fptr {cs : List AVal} : AVal.fits 1 (.fptr cs) = true := rfl
@[go_sem] theorem isUnd_fptr {cs : List AVal} : AVal.isUnd (.fptr cs) = false := rfl
@[go_sem] theorem cells_fptr {cs : List AVal} : AVal.cells (.fptr cs) = [(.fptr cs)] := rfl
@[go_sem] theorem one_ptr {o g f : Nat} : AVal.one (.ptr o g f) = true := rfl
@[go_sem] theorem fits_ptr {o g f : Nat} : AVal.fits 1 (.ptr o g f) = true := rfl
@[go_sem] theorem isUnd_ptr {o g f : Nat} : AVal.isUnd (.ptr o g f) = false := rfl
@[go_sem] theorem cells_ptr {o g f : Nat} : AVal.cells (.ptr o g f) = [(.ptr o g f)] := rfl
@[go_sem] theorem one_nilm  : AVal.one .nilm = true := rfl
@[go_sem] theorem fits_nilm  : AVal.fits 1 .nilm = true := rfl
@[go_sem] theorem isUnd_nilm  : AVal.isUnd .nilm = false := rfl
@[go_sem] theorem cells_nilm  : AVal.cells .nilm = [.nilm] := rfl
@[go_sem] theorem one_fmap {a b : List AVal} : AVal.one (.fmap a b) = true := rfl
@[go_sem] theorem fits_fmap {a b : List AVal} : AVal.fits 1 (.fmap a b) = true := rfl
@[go_sem] theorem isUnd_fmap {a b : List AVal} : AVal.isUnd (.fmap a b) = false := rfl
@[go_sem] theorem cells_fmap {a b : List AVal} : AVal.cells (.fmap a b) = [(.fmap a b)] := rfl
@[go_sem] theorem one_map {o : Nat} : AVal.one (.map o) = true := rfl
@[go_sem] theorem fits_map {o : Nat} : AVal.fits 1 (.map o) = true := rfl
@[go_sem] theorem isUnd_map {o : Nat} : AVal.isUnd (.map o) = false := rfl
@[go_sem] theorem cells_map {o : Nat} : AVal.cells (.map o) = [(.map o)] := rfl
@[go_sem] theorem one_nilf  : AVal.one .nilf = true := rfl
@[go_sem] theorem fits_nilf  : AVal.fits 1 .nilf = true := rfl
@[go_sem] theorem isUnd_nilf  : AVal.isUnd .nilf = false := rfl
@[go_sem] theorem cells_nilf  : AVal.cells .nilf = [.nilf] := rfl
@[go_sem] theorem one_clo {f : Fn} {a b : List AVal} : AVal.one (.clo f a b) = true := rfl
@[go_sem] theorem fits_clo {f : Fn} {a b : List AVal} : AVal.fits 1 (.clo f a b) = true := rfl
@[go_sem] theorem isUnd_clo {f : Fn} {a b : List AVal} : AVal.isUnd (.clo f a b) = false := rfl
@[go_sem] theorem cells_clo {f : Fn} {a b : List AVal} : AVal.cells (.clo f a b) = [(.clo f a b)] := rfl
@[go_sem] theorem one_nili  : AVal.one .nili = true := rfl
@[go_sem] theorem fits_nili  : AVal.fits 1 .nili = true := rfl
@[go_sem] theorem isUnd_nili  : AVal.isUnd .nili = false := rfl
@[go_sem] theorem cells_nili  : AVal.cells .nili = [.nili] := rfl
@[go_sem] theorem one_iface {t : TypeId} {v : AVal} : AVal.one (.iface t v) = true := rfl
@[go_sem] theorem fits_iface {t : TypeId} {v : AVal} : AVal.fits 1 (.iface t v) = true := rfl
@[go_sem] theorem isUnd_iface {t : TypeId} {v : AVal} : AVal.isUnd (.iface t v) = false := rfl
@[go_sem] theorem cells_iface {t : TypeId} {v : AVal} : AVal.cells (.iface t v) = [(.iface t v)] := rfl
@[go_sem] theorem fits_agg {m : Nat} {cs : List AVal} : AVal.fits m (.agg cs) = (cs.length == m && cs.all AVal.one) := rfl
@[go_sem] theorem isUnd_agg {cs : List AVal} : AVal.isUnd (.agg cs) = false := rfl
@[go_sem] theorem fits_one {v : AVal} (h : v.one = true) : v.fits 1 = true := by cases v <;> first | rfl | (simp [AVal.one] at h)
@[go_sem] theorem isUnd_und : AVal.isUnd .und = true := rfl
@[go_sem] theorem one_agg {cs : List AVal} : AVal.one (.agg cs) = false := rfl

theorem iaddrV_int {σ : Sto} {k : Nat} {f : SlF} {α : Type} {g : α → AVal} {l : List α} {kd : IntKind} {i : Int} (h0 : 0 ≤ i) (h : i.toNat < l.length) : iaddrV k (sv k f (l.map g)) (.int kd i) σ = some (.fptr (g l[i.toNat]).cells, σ) := by
  obtain ⟨n, rfl⟩ := Int.eq_ofNat_of_zero_le h0
  exact iaddrV_map (by simpa using h)
theorem fieldV_agg {off size : Nat} {g : Bool} {cs : List AVal} : fieldV off size g (.agg cs) σ = if off + size ≤ cs.length then (loadA g size (cs.drop off)).map (·, σ) else none := rfl
theorem boxV_eq {m : Nat} {v : AVal} : boxV m v σ = if v.fits m = true then some (.ptr σ.length m 0, σ ++ [.cells false v.cells]) else none := rfl
theorem buildV_eq {z : List AVal} {ps : List (Nat × Nat × AVal)} : buildV z ps σ = (fillA z ps).map fun cs => (.agg cs, σ) := rfl
theorem bsliceV_eq {m l : Nat} {z : List AVal} {ps : List (Nat × Nat × AVal)} : bsliceV m l z ps σ = (fillA (List.replicate l z).flatten ps).map fun cs => (.ref σ.length cs.length 0 l m, σ ++ [.cells false cs]) := rfl
theorem flistV_eq {m l : Nat} {z : List AVal} {ps : List (Nat × Nat × AVal)} : flistV m l z ps σ = (fillA (List.replicate l z).flatten ps).bind fun cs => if AVal.pures cs = true ∧ cs.length = l * m ∧ 0 < m then some (.list m (chunk m l cs), σ) else none := rfl
theorem fillA_nil {cs : List AVal} : fillA cs [] = some cs := rfl
theorem fillA_cons {cs : List AVal} {off size : Nat} {v : AVal} {rest : List (Nat × Nat × AVal)} : fillA cs ((off, size, v) :: rest) = if (v.fits size && decide (off + size ≤ cs.length)) = true then fillA (overwrite cs off v.cells) rest else none := rfl
@[go_sem] theorem resultsA_nil {e : Env} : resultsA [] e σ = some (.tup []) := rfl
theorem resultsA_one {r : ARes} {e : Env} : resultsA [r] e σ = resA e σ r := by
  simp only [resultsA, List.mapM_cons, List.mapM_nil, Option.pure_def, Option.bind_eq_bind]
  cases resA e σ r <;> rfl
def cellV (g : Bool) (m : Nat) (v : AVal) (σ : Sto) : Option AVal := match v with
    | .ptr o gen off =>
      match σ[o]? with
      | some (.cells _ cs) => if cs.length = gen then loadA g m (cs.drop off) else none
      | _ => none
    | _ => none
@[go_sem] theorem resultsA_cell {n t m : Nat} {g : Bool} {L : List (Nat × AVal)} : resultsA [.cell t g m] (mkE n L) σ = cellV g m (if t < n then look L t else AVal.und) σ := by
  rw [resultsA_one]
  simp only [resA, mkE_getD]
  rfl
@[go_sem] theorem cellV_ptr {g : Bool} {m o gen off : Nat} : cellV g m (.ptr o gen off) σ = match σ[o]? with
      | some (.cells _ cs) => if cs.length = gen then loadA g m (cs.drop off) else none
      | _ => none := rfl

attribute [go_sem] beq_self_eq_true Nat.lt_irrefl Int.lt_irrefl Bool.not_not fieldV_agg boxV_eq buildV_eq bsliceV_eq flistV_eq Option.bind_some fillA_nil fillA_cons overwrite Int.cast_ofNat_Int Int.toNat_natCast Int.natCast_nonneg List.getElem?_cons_zero List.getElem?_cons_succ List.set_cons_zero List.set_cons_succ AObj.under
  List.replicate_succ List.replicate_zero List.flatten_cons List.flatten_nil List.append_nil List.take_nil List.drop_nil List.drop_eq_nil_of_le
attribute [go_sem] AVal.names AVal.namesL Option.map_some Option.map_none decide_eq_true_eq decide_eq_false_iff_not List.length_map Int.ofNat_lt Option.some.injEq AVal.bool.injEq AVal.int.injEq AVal.agg.injEq
  List.length_cons List.length_nil List.cons_append List.nil_append List.drop_zero List.drop_succ_cons List.take_succ_cons List.take_zero List.map_cons List.map_nil List.all_cons List.all_nil
  Bool.not_true Bool.not_false Bool.and_true Bool.true_and Bool.and_false Bool.false_and Bool.or_true Bool.true_or Bool.or_false Bool.false_or Bool.not_eq_true' Bool.not_eq_eq_eq_not Bool.false_eq_true Bool.true_eq_false
  eq_self if_true if_false ite_self and_true true_and and_false false_and not_true_eq_false not_false_eq_true decide_true decide_false

theorem v_names_append {p : Nat → Bool} : ∀ {xs ys : List AVal}, AVal.namesL p (xs ++ ys) = (AVal.namesL p xs && AVal.namesL p ys)
  | [], ys => by simp [AVal.namesL]
  | x :: xs, ys => by simp [AVal.namesL, v_names_append (xs := xs), Bool.and_assoc]
theorem v_names_map {α : Type} {p : Nat → Bool} {g : α → AVal} (h : ∀ x, (g x).names p = true) : ∀ (l : List α), AVal.namesL p (l.map g) = true
  | [] => rfl
  | x :: l => by simp only [List.map_cons, AVal.namesL, h x, v_names_map h l, Bool.and_self]
theorem v_names_flat {α : Type} {p : Nat → Bool} {g : α → List AVal} (h : ∀ x, AVal.namesL p (g x) = true) : ∀ (l : List α), AVal.namesL p (l.flatMap g) = true
  | [] => rfl
  | x :: l => by simp only [List.flatMap_cons, v_names_append, h x, v_names_flat h l, Bool.and_self]
@[go_sem] theorem v_names_ints {p : Nat → Bool} {kd : IntKind} {l : List Int} : AVal.namesL p (l.map fun x => .int kd x) = true := v_names_map (fun _ => rfl) l
attribute [go_sem] v_names_append

@[go_sem] theorem rowOf_ref {o gen off len k : Nat} : rowOf σ (.ref o gen off len k) = match σ[o]? with
    | some (.cells _ cs) => if cs.length = gen then some (len, (cs.drop off).take (len * k)) else none
    | _ => none := rfl
theorem rowOf_list {k : Nat} {xs : List AVal} : rowOf σ (.list k xs) = some (xs.length, xs.flatMap AVal.cells) := rfl
theorem rowOf_sv {k : Nat} {f : SlF} {xs : List AVal} : rowOf σ (sv k f xs) = some (xs.length, xs.flatMap AVal.cells) :=
  sv_cases (p := fun v => rowOf σ v = some (xs.length, xs.flatMap AVal.cells)) k f xs rfl (fun h => by subst h; rfl) (fun h => by subst h; rfl)
theorem flat_one {α : Type} {g : α → AVal} (h : ∀ x, (g x).one = true) : ∀ (l : List α), (l.map g).flatMap AVal.cells = l.map g
  | [] => rfl
  | x :: l => by
    have hx : (g x).cells = [g x] := by
      have := h x
      cases hg : g x <;> simp [hg, AVal.one] at this <;> rfl
    simp only [List.map_cons, List.flatMap_cons, hx, flat_one h l, List.cons_append, List.nil_append]
@[go_sem] theorem rowOf_ints {f : SlF} {c : List Int} : rowOf σ (sv 1 f (c.map fun n => AVal.int .i64 n)) = some (c.length, c.map fun n => AVal.int .i64 n) := by
  rw [rowOf_sv, flat_one (fun _ => rfl), List.length_map]

theorem set_same_v {o : Nat} {ob : AObj} {σ : Sto} (h : σ[o]? = some ob) : σ.set o ob = σ := by
  apply List.ext_getElem?
  intro i
  rw [List.getElem?_set]
  split
  · rename_i e; subst e; rw [h]; simp [(List.getElem?_eq_some_iff.1 h).1]
  · rfl

theorem appendV_grow {o k bytes gen len m : Nat} {nl : Bool} {cs new : List AVal} {x : AVal} (hσ : σ[o]? = some (.cells nl cs)) (hr : rowOf σ x = some (m, new)) (hl : cs.length = gen) (hg : gen = len * k) (hn : new.length = m * k) (hk : 0 < k) (h1 : new.all AVal.one = true)
    (hb : (len + m) * bytes ≤ maxBytes) : appendV k bytes (.ref o gen 0 len k) x σ = some (.ref o (gen + m * k) 0 (len + m) k, σ.set o (.cells nl (cs ++ new))) := by
  have e : (len + m) * k = len * k + m * k := Nat.add_mul ..
  by_cases hm : m = 0
  · subst hm
    have hnew : new = [] := List.eq_nil_of_length_eq_zero (by simpa using hn)
    subst hnew
    simp only [appendV, hr, hσ, hl]
    simp only [List.append_nil, set_same_v hσ, Nat.zero_mul, Nat.add_zero]
    simp [hk]
  · have hpos : 0 < m * k := Nat.mul_pos (by omega) hk
    have hle : ¬ (0 + (len + m) * k ≤ gen) := by omega
    have htake : cs.take (len * k) = cs := List.take_of_length_le (by omega)
    simp only [appendV, hr, hσ, hl, hn, h1, hk, hm, hle, hb, htake, true_and, and_true, if_true, if_false, if_neg hle]
    simp [e, hg]

theorem appendV_push {o o' bytes n : Nat} {nl nl' : Bool} {cs : List AVal} {v : AVal} (hσ : σ[o]? = some (.cells nl cs)) (hx : σ[o']? = some (.cells nl' [v])) (hl : cs.length = n) (h1 : v.one = true) (hb : (n + 1) * bytes ≤ maxBytes) :
    appendV 1 bytes (.ref o n 0 n 1) (.ref o' 1 0 1 1) σ = some (.ref o (n + 1) 0 (n + 1) 1, σ.set o (.cells nl (cs ++ [v]))) := by
  have := appendV_grow (σ := σ) (x := .ref o' 1 0 1 1) (k := 1) (m := 1) (bytes := bytes) (new := [v]) hσ (by simp [rowOf, hx]) hl (by simp) (by simp) (by decide) (by simp [h1]) hb
  simpa using this

theorem chunk_one : ∀ (cs : List AVal), chunk 1 cs.length cs = cs
  | [] => rfl
  | c :: cs => by simp only [List.length_cons, chunk, if_true, List.headD_cons, List.drop_succ_cons, List.drop_zero, chunk_one cs]
theorem chunk_flatMap {α : Type} {k : Nat} (hk : k ≠ 1) {g : α → List AVal} (h : ∀ x, (g x).length = k) : ∀ (l : List α), chunk k l.length (l.flatMap g) = l.map fun x => .agg (g x)
  | [] => rfl
  | x :: l => by
    have e1 : (g x ++ l.flatMap g).take k = g x := by rw [← h x]; simp
    have e2 : (g x ++ l.flatMap g).drop k = l.flatMap g := by rw [← h x]; simp
    simp only [List.length_cons, chunk, if_neg hk, List.flatMap_cons, e1, e2, chunk_flatMap hk h l, List.map_cons]
theorem flatMap_len {α : Type} {k : Nat} {g : α → List AVal} (h : ∀ x, (g x).length = k) : ∀ (l : List α), (l.flatMap g).length = l.length * k
  | [] => by simp
  | x :: l => by simp only [List.flatMap_cons, List.length_append, h x, flatMap_len h l, List.length_cons, Nat.add_mul, Nat.one_mul]; omega

theorem snapA_step {n : Nat} {v : AVal} (h : v.pure = true) : snapA σ (n + 1) v = some v := by unfold snapA; rw [if_pos h]
theorem mapM_snapN {n : Nat} : ∀ {cs : List AVal}, AVal.pures cs = true → cs.mapM (snapA σ (n + 1)) = some cs
  | [], _ => rfl
  | x :: xs, h => by
    simp only [AVal.pures, AVal.namesL, Bool.and_eq_true] at h
    simp only [List.mapM_cons, snapA_step h.1, mapM_snapN h.2, Option.pure_def, Option.bind_eq_bind, Option.bind_some]
theorem snapA_refN {n o gen len k : Nat} {cs : List AVal} (hσ : σ[o]? = some (.cells false cs)) (hl : cs.length = gen) (hg : gen = len * k) (hk : 0 < k) (hp : AVal.pures cs = true) : snapA σ (n + 2) (.ref o gen 0 len k) = some (.list k (chunk k len cs)) := by
  have h0 : (AVal.ref o gen 0 len k).pure = false := by simp [AVal.names]
  rw [snapA, h0]
  have htake : cs.take (len * k) = cs := List.take_of_length_le (by omega)
  simp only [Bool.false_eq_true, if_false, hσ, hl, hk, Nat.zero_add, ← hg, Nat.le_refl, true_and, and_true, if_true, Bool.false_and, List.drop_zero]
  rw [hg, htake, mapM_snapN hp]
  rfl
theorem snapA_agg {n : Nat} {cs : List AVal} : snapA σ (n + 2) (.agg cs) = (cs.mapM (snapA σ (n + 1))).map .agg := by
  by_cases h : AVal.pures cs = true
  · rw [snapA_step (by simpa only [AVal.names] using h), mapM_snapN h]; rfl
  · have h0 : ¬ (AVal.agg cs).pure = true := by simpa only [AVal.names] using h
    rw [snapA, if_neg h0]
theorem snapA_tup {n : Nat} {cs : List AVal} : snapA σ (n + 2) (.tup cs) = (cs.mapM (snapA σ (n + 1))).map .tup := by
  by_cases h : AVal.pures cs = true
  · rw [snapA_step (by simpa only [AVal.names] using h), mapM_snapN h]; rfl
  · have h0 : ¬ (AVal.tup cs).pure = true := by simpa only [AVal.names] using h
    rw [snapA, if_neg h0]
theorem snapDepth_eq : snapDepth = 64 := rfl
theorem mapM_snil {f : AVal → Option AVal} : [].mapM f = some [] := rfl
theorem mapM_scons {f : AVal → Option AVal} {x : AVal} {xs : List AVal} : (x :: xs).mapM f = match f x with
    | some y => (match xs.mapM f with
      | some ys => some (y :: ys)
      | none => none)
    | none => none := by
  simp only [List.mapM_cons, Option.pure_def, Option.bind_eq_bind]
  cases f x with
  | none => rfl
  | some y => simp only [Option.bind_some]; cases xs.mapM f <;> rfl
attribute [go_sem] snapA_agg snapA_tup snapDepth_eq mapM_snil mapM_scons snapA_step
theorem snap_ints {n o : Nat} {c : List Int} (hσ : σ[o]? = some (.cells false (c.map fun n => AVal.int .i64 n))) : snapA σ (n + 2) (.ref o c.length 0 c.length 1) = some (sv 1 .lst (c.map fun n => AVal.int .i64 n)) := by
  rw [snapA_refN hσ (by simp) (by simp) (by decide) v_names_ints, sv_lst]
  have := chunk_one (c.map fun n => AVal.int .i64 n)
  rw [List.length_map] at this
  rw [this]

theorem cw_live {T : FuncId → Option AFunc} {f : FuncId} {n : Nat} {rs : List ARes} {c : ACode} {b : Bool} (hf : T f = some ⟨n, rs, c, b⟩) {args as : List AVal} {v : AVal} (h : ∀ {lv : List Nat} {σ : Sto} {R : Post}, Cw T true f as lv σ R ↔ R v σ) (hs : args.mapM (snapA σ snapDepth) = some as) (hp : AVal.pures as = true) (hv : v.flat = true)
    {lv : List Nat} {R : Post} : Cw T true f args lv σ R ↔ R v σ := by
  refine Cw.iff_of fun R hR => ?_
  rw [cw_pure hf hs]
  have h1 : Cw T true f as lv σ (fun u τ => u = v ∧ τ = σ) := h.2 ⟨rfl, rfl⟩
  rw [cw_pure hf (mapM_snap_pure hp)] at h1
  refine h1.mono fun x e σ' hx => ret_mono (fun u τ hu => ?_) hx
  cases hsn : snapA τ snapDepth u with
  | none => rw [hsn] at hu; exact hu.elim
  | some v' =>
    rw [hsn] at hu
    obtain ⟨_, rfl, _⟩ := hu
    exact ⟨.inr hv, hR⟩
theorem callK_live {T : FuncId → Option AFunc} {Q : Post3} {k : List Item} {os : List AOper} {d : Option Nat} {e : Env} {f : FuncId} {n : Nat} {rs : List ARes} {c : ACode} {b : Bool} (hf : T f = some ⟨n, rs, c, b⟩) {args as : List AVal} {v : AVal} (h : ∀ {lv : List Nat} {σ : Sto} {R : Post}, Cw T true f as lv σ R ↔ R v σ) (hs : args.mapM (snapA σ snapDepth) = some as) (hp : AVal.pures as = true) (hv : v.flat = true) :
    CallK T Q k os d e σ true f args ↔ Run T Q (.ops os :: k) (put e d v) σ := cw_live hf h hs hp hv

theorem get_last {x : AObj} : (σ ++ [x])[σ.length]? = some x := by simp
theorem set_last {x y : AObj} : (σ ++ [x]).set σ.length y = σ ++ [y] := by
  rw [List.set_append_right _ _ (Nat.le_refl _)]; simp
@[go_sem] theorem loadA_drop {α : Type} {m i : Nat} {g : α → AVal} {l : List α} (h : i < l.length) : loadA false m ((l.map g).drop i) = some (g l[i]) := by
  rw [List.drop_eq_getElem_cons (by simpa using h)]
  simp [loadA]
theorem overwrite_map {α : Type} {i : Nat} {g : α → AVal} {l : List α} {v : α} (h : i < l.length) : overwrite (l.map g) i [g v] = (l.set i v).map g := by
  unfold overwrite
  rw [List.map_set, List.set_eq_take_append_cons_drop, if_pos (by simpa using h)]
  simp
@[go_sem] theorem over_ints {i : Nat} {kd : IntKind} {l : List Int} {v : Int} (h : i < l.length) : ((l.map fun n => AVal.int kd n).take i ++ [AVal.int kd v] ++ (l.map fun n => AVal.int kd n).drop (i + 1)) = (l.set i v).map fun n => AVal.int kd n := by
  have := overwrite_map (g := fun n => AVal.int kd n) (l := l) (v := v) h
  simpa [overwrite] using this
theorem eqnilV_sv {g : Bool} {f : SlF} {k : Nat} {xs : List AVal} (h : xs ≠ []) : eqnilV g .sl (sv k f xs) σ = some (.bool g, σ) :=
  sv_cases (p := fun v => eqnilV g .sl v σ = some (.bool g, σ)) k f xs rfl (fun e => absurd e h) (fun e => absurd e h)
attribute [go_sem] Nat.zero_add Nat.mul_one Nat.add_zero ne_eq

theorem appendV_fresh {o k bytes m : Nat} {nl : Bool} {new : List AVal} {x : AVal} (hσ : σ[o]? = some (.cells nl [])) (hr : rowOf σ x = some (m, new)) (hn : new.length = m * k) (hk : 0 < k) (h1 : new.all AVal.one = true)
    (hb : m * bytes ≤ maxBytes) : appendV k bytes (.ref o 0 0 0 k) x σ = some (.ref o (m * k) 0 m k, σ.set o (.cells nl new)) := by
  have := appendV_grow (o := o) (len := 0) (gen := 0) (bytes := bytes) hσ hr rfl (by simp) hn hk h1 (by simpa using hb)
  simpa using this
theorem take_set_succ {α : Type} {v : α} : ∀ {o : List α} {i : Nat}, i < o.length → (o.set i v).take (i + 1) = o.take i ++ [v]
  | [], i, h => by simp at h
  | x :: o, 0, h => by simp
  | x :: o, i + 1, h => by
    simp only [List.set_cons_succ, List.take_succ_cons, List.cons_append]
    rw [take_set_succ (by simpa using h)]
theorem get_of_drop {α : Type} {o a : List α} {i : Nat} (h : o.drop i = a.drop i) (h1 : i < o.length) (h2 : i < a.length) : o[i] = a[i] := by
  have := congrArg (·[0]?) h
  simp only [List.getElem?_drop, Nat.add_zero, List.getElem?_eq_getElem h1, List.getElem?_eq_getElem h2, Option.some.injEq] at this
  exact this

theorem wrap_nat {n : Nat} (h : n < 9223372036854775808) : IntKind.i64.wrap ((n : Nat) : Int) = (n : Int) := wrap_i64 (by omega) (by omega)
theorem wrap_u8 {x : Int} (h1 : 0 ≤ x) (h2 : x < 256) : IntKind.u8.wrap x = x := by
  have e1 : (2 : Int) ^ IntKind.u8.bits = 256 := by decide
  have e3 : IntKind.u8.signed = false := rfl
  simp only [IntKind.wrap, e1, e3, Bool.false_and]
  simp
  omega
theorem rem_u8 {n k : Nat} (hk : k ≠ 0) : binV .rem (.int .u8 (n : Int)) (.int .u8 (k : Int)) σ = some (.int .u8 ((n % k : Nat) : Int), σ) := by
  rw [binV_rem, if_neg (by omega)]
  rfl
theorem quo_u8 {n k : Nat} (hk : k ≠ 0) (hn : n < 256) : binV .quo (.int .u8 (n : Int)) (.int .u8 (k : Int)) σ = some (.int .u8 ((n / k : Nat) : Int), σ) := by
  rw [binV_quo, if_neg (by omega)]
  have : Int.tdiv (n : Int) (k : Int) = ((n / k : Nat) : Int) := rfl
  rw [this, wrap_u8 (Int.natCast_nonneg _) (Int.ofNat_lt.2 (Nat.lt_of_le_of_lt (Nat.div_le_self n k) hn))]

theorem tmod_nat {n k : Nat} : Int.tmod (n : Int) (k : Int) = ((n % k : Nat) : Int) := rfl
theorem wrap_quo {n k : Nat} (hn : n < 256) : IntKind.u8.wrap (Int.tdiv (n : Int) (k : Int)) = ((n / k : Nat) : Int) := by
  have : Int.tdiv (n : Int) (k : Int) = ((n / k : Nat) : Int) := rfl
  rw [this, wrap_u8 (Int.natCast_nonneg _) (Int.ofNat_lt.2 (Nat.lt_of_le_of_lt (Nat.div_le_self n k) hn))]

theorem drop_flat {α : Type} {k : Nat} {g : α → List AVal} (h : ∀ x, (g x).length = k) : ∀ (l : List α) (i : Nat), (l.flatMap g).drop (i * k) = (l.drop i).flatMap g
  | l, 0 => by simp
  | [], i + 1 => by simp
  | x :: l, i + 1 => by
    rw [List.flatMap_cons, Nat.add_mul, Nat.one_mul, Nat.add_comm, ← List.drop_drop, List.drop_succ_cons]
    rw [show (g x ++ l.flatMap g).drop k = l.flatMap g by rw [← h x]; simp]
    exact drop_flat h l i
theorem load_flat {α : Type} {k i : Nat} {g : α → List AVal} {l : List α} (h : ∀ x, (g x).length = k) (hi : i < l.length) : loadA true k ((l.flatMap g).drop (i * k)) = some (.agg (g l[i])) := by
  rw [drop_flat h, List.drop_eq_getElem_cons hi, List.flatMap_cons, loadA_agg, if_pos (by simp [h])]
  congr 2
  rw [← h l[i]]; simp
theorem over_lists {k i : Nat} {f : SlF} {α : Type} {q : α → AVal} {l : List (List α)} {v : List α} (h : i < l.length) : ((l.map fun c => sv k f (c.map q)).take i ++ [sv k f (v.map q)] ++ (l.map fun c => sv k f (c.map q)).drop (i + 1)) = (l.set i v).map fun c => sv k f (c.map q) := by
  have := overwrite_map (g := fun c => sv k f (c.map q)) (l := l) (v := v) h
  simpa [overwrite] using this
theorem snap_structs {α : Type} {n o k : Nat} {g : α → List AVal} {l : List α} (hk : k ≠ 1) (hk0 : 0 < k) (hg : ∀ x, (g x).length = k) (hp : ∀ x, AVal.pures (g x) = true) (hσ : σ[o]? = some (.cells false (l.flatMap g))) : snapA σ (n + 2) (.ref o (l.length * k) 0 l.length k) = some (.list k (l.map fun x => .agg (g x))) := by
  rw [snapA_refN hσ (flatMap_len hg l) rfl hk0 (v_names_flat hp l), chunk_flatMap hk hg]

@[go_sem] theorem eqsV_bool {g a b : Bool} : eqsV g .bool (.bool a) (.bool b) σ = some (.bool (if g = true then !(a == b) else (a == b)), σ) := by cases g <;> rfl
@[go_sem] theorem eqsV_int {g : Bool} {kd : IntKind} {a b : Int} : eqsV g (.int kd) (.int kd a) (.int kd b) σ = some (.bool (if g = true then !(decide (a = b)) else decide (a = b)), σ) := by
  have : eqA (.int kd) (.int kd a) (.int kd b) = some (decide (a = b)) := by simp [eqA]; rfl
  simp only [eqsV, this]
  cases g <;> rfl

theorem deep_refN {n o gen len k : Nat} {cs : List AVal} (hσ : σ[o]? = some (.cells false cs)) (hl : cs.length = gen) (hg : gen = len * k) (hk : 0 < k) (hp : AVal.pures cs = true) : deepA (n + 2) σ (.ref o gen 0 len k) = some (.list k (chunk k len cs), σ.set o .dead) := by
  have h0 : (AVal.ref o gen 0 len k).pure = false := by simp [AVal.names]
  rw [deepA, h0]
  have htake : cs.take (len * k) = cs := List.take_of_length_le (by omega)
  simp only [Bool.false_eq_true, if_false, hσ, hl, hk, Nat.zero_add, ← hg, Nat.le_refl, true_and, and_true, if_true, Bool.false_and, List.drop_zero, deepL_pure hp]
  rw [hg, htake]
theorem deep_structs {α : Type} {n o k : Nat} {g : α → List AVal} {l : List α} (hk : k ≠ 1) (hk0 : 0 < k) (hg : ∀ x, (g x).length = k) (hp : ∀ x, AVal.pures (g x) = true) (hσ : σ[o]? = some (.cells false (l.flatMap g))) : deepA (n + 2) σ (.ref o (l.length * k) 0 l.length k) = some (.list k (l.map fun x => .agg (g x)), σ.set o .dead) := by
  rw [deep_refN hσ (flatMap_len hg l) rfl hk0 (v_names_flat hp l), chunk_flatMap hk hg]
theorem deep_ones {α : Type} {n o : Nat} {g : α → AVal} {l : List α} (hp : ∀ x, (g x).pure = true) (hσ : σ[o]? = some (.cells false (l.map g))) : deepA (n + 2) σ (.ref o l.length 0 l.length 1) = some (.list 1 (l.map g), σ.set o .dead) := by
  rw [deep_refN hσ (by simp) (by simp) (by decide) (v_names_map hp l)]
  have := chunk_one (l.map g)
  rw [List.length_map] at this
  rw [this]
theorem rowOf_structs {α : Type} {k : Nat} {f : SlF} {g : α → List AVal} {l : List α} : rowOf σ (sv k f (l.map fun x => .agg (g x))) = some (l.length, l.flatMap g) := by
  rw [rowOf_sv, List.length_map, List.flatMap_map]; rfl
theorem all_one_flat {α : Type} {g : α → List AVal} (h : ∀ x, (g x).all AVal.one = true) : ∀ (l : List α), (l.flatMap g).all AVal.one = true
  | [] => rfl
  | x :: l => by rw [List.flatMap_cons, List.all_append, h x, all_one_flat h l]; rfl

theorem appendV_structs {α : Type} {o k bytes : Nat} {f : SlF} {g : α → List AVal} {X Y : List α} (hk : 0 < k) (hg : ∀ x, (g x).length = k) (h1 : ∀ x, (g x).all AVal.one = true) (hσ : σ[o]? = some (.cells false (X.flatMap g))) (hb : (X.length + Y.length) * bytes ≤ maxBytes) :
    appendV k bytes (.ref o (X.length * k) 0 X.length k) (sv k f (Y.map fun x => .agg (g x))) σ = some (.ref o ((X ++ Y).length * k) 0 (X ++ Y).length k, σ.set o (.cells false ((X ++ Y).flatMap g))) := by
  rw [appendV_grow hσ rowOf_structs (flatMap_len hg X) rfl (flatMap_len hg Y) hk (all_one_flat h1 Y) hb, List.flatMap_append, List.length_append, Nat.add_mul]
theorem appendV_struct {α : Type} {o o' k bytes : Nat} {g : α → List AVal} {X : List α} {y : α} (hk : 0 < k) (hg : ∀ x, (g x).length = k) (h1 : ∀ x, (g x).all AVal.one = true) (hσ : σ[o]? = some (.cells false (X.flatMap g))) (hσ' : σ[o']? = some (.cells false (g y))) (hb : (X.length + 1) * bytes ≤ maxBytes) :
    appendV k bytes (.ref o (X.length * k) 0 X.length k) (.ref o' k 0 1 k) σ = some (.ref o ((X ++ [y]).length * k) 0 (X ++ [y]).length k, σ.set o (.cells false ((X ++ [y]).flatMap g))) := by
  rw [appendV_grow (m := 1) (new := g y) hσ (by have := List.take_of_length_le (Nat.le_of_eq (hg y)); simp [rowOf, hσ', hg, this]) (flatMap_len hg X) rfl (by simp [hg]) hk (h1 y) hb, List.flatMap_append, List.length_append]
  simp [Nat.add_mul]
theorem appendV_ones {α : Type} {o bytes : Nat} {f : SlF} {g : α → AVal} {X Y : List α} (h1 : ∀ x, (g x).one = true) (hσ : σ[o]? = some (.cells false (X.map g))) (hb : (X.length + Y.length) * bytes ≤ maxBytes) :
    appendV 1 bytes (.ref o X.length 0 X.length 1) (sv 1 f (Y.map g)) σ = some (.ref o (X ++ Y).length 0 (X ++ Y).length 1, σ.set o (.cells false ((X ++ Y).map g))) := by
  have hr : rowOf σ (sv 1 f (Y.map g)) = some (Y.length, Y.map g) := by rw [rowOf_sv, flat_one h1, List.length_map]
  have ha : (Y.map g).all AVal.one = true := by rw [List.all_map]; exact List.all_eq_true.2 fun x _ => h1 x
  rw [appendV_grow hσ hr (List.length_map ..) (by simp) (by simp) (by decide) ha hb, List.map_append, List.length_append]
  simp
theorem appendV_one {α : Type} {o o' bytes : Nat} {g : α → AVal} {X : List α} {y : α} (h1 : ∀ x, (g x).one = true) (hσ : σ[o]? = some (.cells false (X.map g))) (hσ' : σ[o']? = some (.cells false [g y])) (hb : (X.length + 1) * bytes ≤ maxBytes) :
    appendV 1 bytes (.ref o X.length 0 X.length 1) (.ref o' 1 0 1 1) σ = some (.ref o (X ++ [y]).length 0 (X ++ [y]).length 1, σ.set o (.cells false ((X ++ [y]).map g))) := by
  rw [appendV_push hσ hσ' (List.length_map ..) (h1 y) hb, List.map_append, List.length_append]
  rfl

theorem after_of {T : FuncId → Option AFunc} {Q : Post3} {k : List Item} {os : List AOper} {d : Option Nat} {e : Env} {r : Option (AVal × Sto)} {v : AVal} {σ' : Sto} (h : r = some (v, σ')) (h2 : Run T Q (.ops os :: k) (put e d v) σ') : after T Q k os d e r := by
  subst h; exact h2
theorem afterG_of {T : FuncId → Option AFunc} {Q : Post3} {k : List Item} {n t : Nat} {L : List (Nat × AVal)} {r : Option (AVal × Sto)} {v : AVal} {σ' : Sto} (h : r = some (v, σ')) (h2 : Run T Q k (mkE n (ins L t v)) σ') : afterG T Q k n L t r := by
  subst h; exact h2

theorem slice_live {α : Type} {g : α → List AVal} {k o : Nat} {X : List α} {lo hi : Option AVal} {l h : Nat} (hk : 0 < k) (hg : ∀ x, (g x).length = k) (hσ : σ[o]? = some (.cells false (X.flatMap g))) (hl : bnd lo 0 = some l) (hh : bnd hi X.length = some h) (h1 : l ≤ h) (h2 : h ≤ X.length) :
    ∃ v, sliceV k (.ref o (X.length * k) 0 X.length k) lo hi none σ = some (v, σ) ∧ (∀ {τ : Sto}, τ[o]? = σ[o]? → rowOf τ v = some (h - l, ((X.take h).drop l).flatMap g)) ∧ (∀ {p : Nat → Bool}, p o = true → v.names p = true) ∧ v.isUnd = false ∧ v.there = true := by
  have hlen := flatMap_len hg X
  have hle : h * k ≤ X.length * k := Nat.mul_le_mul_right _ h2
  by_cases he : l * k = X.length * k
  · have hlx : l = X.length := Nat.eq_of_mul_eq_mul_right hk he
    refine ⟨.list k [], ?_, fun {τ} ht => ?_, fun _ => by simp [AVal.names], rfl, rfl⟩
    · simp only [sliceV, hσ, hlen, hl, hh, hk, Bool.false_and, and_self, if_true, Nat.zero_add, h1, hle, he, Bool.false_eq_true, if_false]
    · have : h = l := by omega
      rw [this, List.drop_take_self]
      simp [rowOf]
  · refine ⟨.ref o (X.length * k) (l * k) (h - l) k, ?_, fun {τ} ht => ?_, fun hp => by simp [AVal.names, hp], rfl, rfl⟩
    · simp only [sliceV, hσ, hlen, hl, hh, hk, Bool.false_and, and_self, if_true, Nat.zero_add, h1, hle, he, Bool.false_eq_true, if_false]
    · simp only [rowOf, ht, hσ, hlen, if_true]
      rw [drop_flat hg]
      congr 2
      have e1 : (X.drop l).flatMap g = ((X.drop l).take (h - l)).flatMap g ++ ((X.drop l).drop (h - l)).flatMap g := by rw [← List.flatMap_append, List.take_append_drop]
      have e2 : (((X.drop l).take (h - l)).flatMap g).length = (h - l) * k := by rw [flatMap_len hg, List.length_take, List.length_drop]; congr 1; omega
      rw [e1, List.take_append_of_le_length (by omega), List.take_of_length_le (by omega), List.drop_take]

end
end Go.Abs
