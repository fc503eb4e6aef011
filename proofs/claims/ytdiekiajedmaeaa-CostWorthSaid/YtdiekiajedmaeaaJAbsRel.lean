/- Parts of the proof: AbsRel, AbsSnap, AbsComp, AbsOps1, AbsOps2, AbsOps3. -/
import Derived.Test.YtdiekiajedmaeaaJAbsCore
import Derived.Below
import Derived.Orders
import Derived.Tactics
import Derived.WalkKit
set_option linter.all false
/- How an abstract value stands to a value of the model, and an abstract store to a world. -/
namespace Go.Abs
open Go

inductive Loc where
 | blk (b top : Nat)
 | nil
 | mp (r : Nat)

inductive Lst where
 | un
 | dead
 | live (loc : Loc) (gen : Nat)

abbrev Lay := Nat → Lst
def noL : Lay := fun _ => .un

structure Frz where
 cells : Nat → Nat → Option Value
 maps : Nat → Option (List (Value × Value))

structure Frz.Le (F F' : Frz) : Prop where
 cells : ∀ b o v, F.cells b o = some v → F'.cells b o = some v
 maps : ∀ r kv, F.maps r = some kv → F'.maps r = some kv

theorem Frz.Le.refl (F : Frz) : F.Le F := ⟨fun _ _ _ h => h, fun _ _ h => h⟩
theorem Frz.Le.trans {F G H : Frz} (a : F.Le G) (b : G.Le H) : F.Le H :=
 ⟨fun x o v h => b.cells _ _ _ (a.cells x o v h), fun r kv h => b.maps _ _ (a.maps r kv h)⟩

def ZtV (loc : Loc) (gen off len k : Nat) (v : Value) : Prop :=
 match loc with
 | .blk b top => ∃ cap, v = .slice (some ⟨b, off, none⟩) len cap ∧ len ≤ cap ∧ off + cap * k ≤ top ∧ gen ≤ off + cap * k ∧ off + len * k ≤ gen
 | .nil => len = 0 ∧ off = 0 ∧ v = .slice none 0 0
 | .mp _ => False

def ZV (xs : List AVal) : List AVal := xs.flatMap AVal.cells

def Zrv (ks : List AVal) (a b : List (Value × Value)) : Prop := a = b ∨ ∃ (k : IntKind) (m n : Int) (u v : Value), m ≠ n ∧ ks = [.int k n, .int k m] ∧ a = [(.int k m, u), (.int k n, v)] ∧ b = [(.int k n, v), (.int k m, u)]

theorem Zrv.length {ks : List AVal} {a b : List (Value × Value)} (h : Zrv ks a b) : a.length = b.length := by
 rcases h with rfl | ⟨_, _, _, _, _, _, _, rfl, rfl⟩ <;> rfl

inductive VRel (F : Frz) : Lay → AVal → Value → Prop
 | und {L v} : VRel F L .und v
 | bool {L b} : VRel F L (.bool b) (.bool b)
 | int {L k n} : VRel F L (.int k n) (.int k n)
 | str {L s} : VRel F L (.str s) (.string s)
 | nils {L} : VRel F L .nils (.slice none 0 0)
 | emp {L} {a : Addr} : VRel F L .emp (.slice (some a) 0 0)
 | list {L : Lay} {xs : List AVal} {a : Addr} {cap k : Nat} {fv : Nat → Value} (hs : xs ≠ [] → a.spot = none) (hc : xs.length ≤ cap)
   (hk : ∀ x ∈ xs, x.cells.length = k)
   (hf : ∀ p c, (ZV xs)[p]? = some c → F.cells a.block (a.off + p) = some (fv p))
   (ho : ∀ (p : Nat) (c : AVal), (ZV xs)[p]? = some c → c.one = true)
   (hv : ∀ p c, (ZV xs)[p]? = some c → VRel F noL c (fv p)) : VRel F L (.list k xs) (.slice (some a) xs.length cap)
 | ref {L : Lay} {o gen off len k : Nat} {v : Value} (h0 : L o ≠ .un) (h1 : ∃ a l c, v = .slice a l c) (h2 : ∀ loc g, L o = .live loc g → gen ≤ g)
   (h : ∀ loc, L o = .live loc gen → ZtV loc gen off len k v) : VRel F L (.ref o gen off len k) v
 | nilp {L} : VRel F L .nilp (.pointer none)
 | fptr {L : Lay} {cs : List AVal} {a : Addr} {fv : Nat → Value} (hs : a.spot = none)
   (hf : ∀ p c, cs[p]? = some c → F.cells a.block (a.off + p) = some (fv p))
   (ho : ∀ (p : Nat) (c : AVal), cs[p]? = some c → c.one = true)
   (hv : ∀ p c, cs[p]? = some c → VRel F noL c (fv p)) : VRel F L (.fptr cs) (.pointer (some a))
 | ptr {L : Lay} {o gen off : Nat} {v : Value} (h0 : L o ≠ .un) (h1 : ∃ a, v = .pointer (some a)) (h2 : ∀ loc g, L o = .live loc g → gen ≤ g)
   (h : ∀ loc, L o = .live loc gen → ∃ b top, loc = .blk b top ∧ v = .pointer (some ⟨b, off, none⟩)) : VRel F L (.ptr o gen off) v
 | nilm {L} : VRel F L .nilm (.map none)
 | fmap {L : Lay} {ks vs : List AVal} {r : Nat} {kv kv' : List (Value × Value)} (hr : F.maps r = some kv') (hp : Zrv ks kv' kv) (hk : kv.length = ks.length) (hl : kv.length = vs.length)
   (hkv : ∀ (i : Nat) c, ks[i]? = some c → VRel F noL c (kv.getD i (undef, undef)).1)
   (hvv : ∀ (i : Nat) c, vs[i]? = some c → VRel F noL c (kv.getD i (undef, undef)).2) : VRel F L (.fmap ks vs) (.map (some r))
 | map {L : Lay} {o : Nat} {v : Value} (h0 : L o ≠ .un) (h1 : ∃ r, v = .map (some r))
   (h : ∀ loc gen, L o = .live loc gen → ∃ r, loc = .mp r ∧ v = .map (some r)) : VRel F L (.map o) v
 | nilf {L} : VRel F L .nilf .nilFunc
 | clo {L : Lay} {f : Fn} {fs cs : List AVal} {fa ca : Array Value} (hfl : fa.size = fs.length) (hcl : ca.size = cs.length)
   (hf : ∀ (i : Nat) c, fs[i]? = some c → VRel F L c (fa.getD i undef))
   (hc : ∀ (i : Nat) c, cs[i]? = some c → VRel F L c (ca.getD i undef)) (hy : ZeJ f = true) : VRel F L (.clo f fs cs) (.func f fa ca)
 | nili {L} : VRel F L .nili .nilIface
 | iface {L : Lay} {t : TypeId} {v : AVal} {cv : Value} (h : VRel F L v cv) (ho : v ≠ .und) : VRel F L (.iface t v) (.iface t cv)
 | agg {L : Lay} {cs : List AVal} {ca : Array Value} (hl : ca.size = cs.length)
   (hc : ∀ (i : Nat) c, cs[i]? = some c → VRel F L c (ca.getD i undef)) : VRel F L (.agg cs) (.agg ca)
 | tup {L : Lay} {cs : List AVal} {ca : Array Value} (hl : ca.size = cs.length)
   (hc : ∀ (i : Nat) c, cs[i]? = some c → VRel F L c (ca.getD i undef)) : VRel F L (.tup cs) (.tuple ca)
 | yld {L : Lay} {o : Nat} {v : Value} (h0 : L o ≠ .un) (h1 : ∃ r, v = .func (.yield r) #[] #[])
   (h : ∀ loc gen, L o = .live loc gen → ∃ r, loc = .mp r ∧ v = .func (.yield r) #[] #[]) : VRel F L (.yld o) v

def ZaA : Lst → Lst → Prop
 | .un, _ => True
 | .dead, s => s = .dead
 | .live loc gen, s => s = .dead ∨ s = .live loc gen ∨ ∃ b top gen', s = .live (.blk b top) gen' ∧ gen < gen' ∧ ∀ r, loc ≠ .mp r

def Evo (L L' : Lay) : Prop := ∀ o, ZaA (L o) (L' o)

theorem ZaA.refl (s : Lst) : ZaA s s := by cases s <;> simp [ZaA]
theorem ZaA.trans {a b c : Lst} (h : ZaA a b) (k : ZaA b c) : ZaA a c := by
 cases a with
 | un => trivial
 | dead => simp only [ZaA] at h; subst h; exact k
 | live loc gen =>
  rcases h with rfl | rfl | ⟨b1, t1, gen', rfl, hlt, hm⟩
  ·exact .inl k
  ·exact k
  ·rcases k with rfl | rfl | ⟨b2, t2, g2, rfl, h2, _⟩
   ·exact .inl rfl
   ·exact .inr (.inr ⟨_, _, _, rfl, hlt, hm⟩)
   ·exact .inr (.inr ⟨_, _, _, rfl, by omega, hm⟩)
theorem Evo.refl (L : Lay) : Evo L L := fun _ => ZaA.refl _
theorem Evo.trans {a b c : Lay} (h : Evo a b) (k : Evo b c) : Evo a c := fun o => (h o).trans (k o)

theorem ZaA.ne_un {s s' : Lst} (h : ZaA s s') (h0 : s ≠ .un) : s' ≠ .un := by
 cases s with
 | un => exact absurd rfl h0
 | dead => simp only [ZaA] at h; subst h; simp
 | live loc gen => rcases h with rfl | rfl | ⟨b, t, g2, rfl, h2⟩ <;> simp

theorem ZaA.live {s s' : Lst} (h : ZaA s s') (h0 : s ≠ .un) {loc : Loc} {gen : Nat} (hs : s' = .live loc gen) :
  s = .live loc gen ∨ ∃ loc0 gen0 b t, s = .live loc0 gen0 ∧ gen0 < gen ∧ loc = .blk b t ∧ ∀ r, loc0 ≠ .mp r := by
 cases s with
 | un => exact absurd rfl h0
 | dead => simp only [ZaA] at h; subst h; simp at hs
 | live l g =>
  rcases h with rfl | rfl | ⟨b, t, g2, rfl, h2, hm⟩
  ·simp at hs
  ·exact .inl hs
  ·injection hs with e1 e2; subst e1; subst e2; exact .inr ⟨_, _, _, _, rfl, h2, rfl, hm⟩

theorem AVal.namesL_iff {p : Nat → Bool} : ∀ {vs : List AVal}, AVal.namesL p vs = true ↔ ∀ (i : Nat) (v : AVal), vs[i]? = some v → v.names p = true
 | [] => by simp [AVal.namesL]
 | v :: vs => by
  simp only [AVal.namesL, Bool.and_eq_true, AVal.namesL_iff (vs := vs)]
  constructor
  ·rintro ⟨h1, h2⟩ i w hw
   cases i with
   | zero => simp at hw; exact hw ▸ h1
   | succ i => exact h2 i w (by simpa using hw)
  ·intro h
   exact ⟨h 0 v rfl, fun i w hw => h (i + 1) w (by simpa using hw)⟩

theorem VRel.named {F : Frz} {L : Lay} {v : AVal} {cv : Value} (h : VRel F L v cv) {p : Nat → Bool} (hp : ∀ o, L o ≠ .un → p o = true) : v.names p = true := by
 induction h with
 | ref h0 | ptr h0 | map h0 | yld h0 => exact hp _ h0
 | clo hfl hcl hf hc hy ihf ihc =>
  simp only [AVal.names, Bool.and_eq_true, AVal.namesL_iff]
  exact ⟨fun i c h => ihf i c h hp, fun i c h => ihc i c h hp⟩
 | iface h ho ih => exact ih hp
 | agg hl hc ih => simp only [AVal.names, AVal.namesL_iff]; exact fun i c h => ih i c h hp
 | tup hl hc ih => simp only [AVal.names, AVal.namesL_iff]; exact fun i c h => ih i c h hp
 | _ => rfl

theorem VRel.pureNo {F : Frz} {v : AVal} {cv : Value} (h : VRel F noL v cv) : v.names (fun _ => false) = true := h.named fun _ ho => absurd rfl ho

theorem VRel.names {F F' : Frz} (hF : F.Le F') {L : Lay} {v : AVal} {cv : Value} (h : VRel F L v cv) :
  ∀ {L' : Lay} {p : Nat → Bool}, v.names p = true → (∀ o, p o = true → ZaA (L o) (L' o)) → VRel F' L' v cv := by
 induction h with
 | und => intros; exact .und
 | bool => intros; exact .bool
 | int => intros; exact .int
 | str => intros; exact .str
 | nils => intros; exact .nils
 | emp => intros; exact .emp
 | list hs hc hk hf ho hv ih =>
  intro L' p _ _
  exact .list hs hc hk (fun p c h => hF.cells _ _ _ (hf p c h)) ho
   (fun p c h => ih p c h (L' := noL) (hv p c h).pureNo (fun o ho => by simp at ho))
 | ref h0 h1 h2 h =>
  intro L' p hp hE
  have he := hE _ hp
  refine .ref (he.ne_un h0) h1 (fun loc g hl => ?_) (fun loc hl => ?_)
  ·rcases he.live h0 hl with h' | ⟨l0, g0, b, t, h', hlt, _⟩
   ·exact h2 _ _ h'
   ·exact Nat.le_trans (h2 _ _ h') (by omega)
  ·rcases he.live h0 hl with h' | ⟨l0, g0, b, t, h', hlt, _⟩
   ·exact h _ h'
   ·exact absurd (h2 _ _ h') (by omega)
 | nilp => intros; exact .nilp
 | fptr hs hf ho hv ih =>
  intro L' p _ _
  exact .fptr hs (fun p c h => hF.cells _ _ _ (hf p c h)) ho (fun p c h => ih p c h (L' := noL) (hv p c h).pureNo (fun o ho => by simp at ho))
 | ptr h0 h1 h2 h =>
  intro L' p hp hE
  have he := hE _ hp
  refine .ptr (he.ne_un h0) h1 (fun loc g hl => ?_) (fun loc hl => ?_)
  ·rcases he.live h0 hl with h' | ⟨l0, g0, b, t, h', hlt, _⟩
   ·exact h2 _ _ h'
   ·exact Nat.le_trans (h2 _ _ h') (by omega)
  ·rcases he.live h0 hl with h' | ⟨l0, g0, b, t, h', hlt, _⟩
   ·exact h _ h'
   ·exact absurd (h2 _ _ h') (by omega)
 | nilm => intros; exact .nilm
 | fmap hr hp hk hl hkv hvv ihk ihv =>
  intro L' p _ _
  exact .fmap (hF.maps _ _ hr) hp hk hl (fun i c h => ihk i c h (L' := noL) (hkv i c h).pureNo (fun o ho => by simp at ho))
   (fun i c h => ihv i c h (L' := noL) (hvv i c h).pureNo (fun o ho => by simp at ho))
 | map h0 h1 h =>
  intro L' p hp hE
  have he := hE _ hp
  refine .map (he.ne_un h0) h1 (fun loc gen hl => ?_)
  rcases he.live h0 hl with h' | ⟨l0, g0, b, t, h', hlt, hb, hm⟩
  ·exact h _ _ h'
  ·obtain ⟨r, hr, _⟩ := h _ _ h'; exact absurd hr (hm r)
 | nilf => intros; exact .nilf
 | clo hfl hcl hf hc hy ihf ihc =>
  intro L' p hp hE
  simp only [AVal.names, Bool.and_eq_true, AVal.namesL_iff] at hp
  exact .clo hfl hcl (fun i c h => ihf i c h (hp.1 i c h) hE) (fun i c h => ihc i c h (hp.2 i c h) hE) hy
 | nili => intros; exact .nili
 | iface h ho ih => intro L' p hp hE; exact .iface (ih hp hE) ho
 | agg hl hc ih =>
  intro L' p hp hE
  simp only [AVal.names, AVal.namesL_iff] at hp
  exact .agg hl (fun i c h => ih i c h (hp i c h) hE)
 | tup hl hc ih =>
  intro L' p hp hE
  simp only [AVal.names, AVal.namesL_iff] at hp
  exact .tup hl (fun i c h => ih i c h (hp i c h) hE)
 | yld h0 h1 h =>
  intro L' p hp hE
  have he := hE _ hp
  refine .yld (he.ne_un h0) h1 (fun loc gen hl => ?_)
  rcases he.live h0 hl with h' | ⟨l0, g0, b, t, h', hlt, hb, hm⟩
  ·exact h _ _ h'
  ·obtain ⟨r, hr, _⟩ := h _ _ h'; exact absurd hr (hm r)

theorem AVal.names_true : ∀ (v : AVal), v.names (fun _ => true) = true := by
 intro v
 refine AVal.rec (motive_1 := fun v => v.names (fun _ => true) = true) (motive_2 := fun vs => AVal.namesL (fun _ => true) vs = true)
  ?_ ?_ ?_ ?_ ?_ ?_ ?_ ?_ ?_ ?_ ?_ ?_ ?_ ?_ ?_ ?_ ?_ ?_ ?_ ?_ ?_ ?_ ?_ v <;> intros <;> simp_all [AVal.names, AVal.namesL]

theorem VRel.mono {F F' : Frz} (hF : F.Le F') {L L' : Lay} (hE : Evo L L') {v : AVal} {cv : Value} (h : VRel F L v cv) : VRel F' L' v cv :=
 h.names hF v.names_true fun o _ => hE o
theorem VRel.frz {F F' : Frz} (hF : F.Le F') {L : Lay} {v : AVal} {cv : Value} (h : VRel F L v cv) : VRel F' L v cv := h.mono hF (Evo.refl L)
theorem VRel.toPure {F : Frz} {L : Lay} {v : AVal} {cv : Value} (h : VRel F L v cv) (hp : v.pure = true) (L' : Lay) : VRel F L' v cv :=
 h.names (Frz.Le.refl F) hp fun o ho => by simp at ho
theorem VRel.ofNo {F : Frz} {v : AVal} {cv : Value} (h : VRel F noL v cv) (L : Lay) : VRel F L v cv := h.toPure h.pureNo L

theorem VRel.one {F : Frz} {L : Lay} {v : AVal} {cv : Value} (h : VRel F L v cv) (ho : v.one = true) : cv.oneCell' = true := by
 cases h with
 | ref h0 h1 h2 h => obtain ⟨a, l, c, rfl⟩ := h1; rfl
 | ptr h0 h1 h2 h => obtain ⟨a, rfl⟩ := h1; rfl
 | map h0 h1 h => obtain ⟨a, rfl⟩ := h1; rfl
 | yld h0 h1 h => obtain ⟨a, rfl⟩ := h1; rfl
 | _ => first | rfl | (simp [AVal.one] at ho)

theorem Value.cells_of_one {v : Value} (h : v.oneCell' = true) : v.cells = #[v] := by cases v <;> simp_all [Value.oneCell', Value.cells]

def Ze (F : Frz) (L : Lay) (cs : List AVal) (ca : List Value) : Prop :=
 ca.length = cs.length ∧ ∀ (i : Nat) (c : AVal), cs[i]? = some c → VRel F L c (ca.getD i undef)

theorem AVal.one_of_fits {n : Nat} {v : AVal} (h : v.fits n = true) : ∀ c ∈ v.cells, c.one = true := by
 cases v <;> simp_all [AVal.fits, AVal.cells, AVal.one]
theorem AVal.len_of_fits {n : Nat} {v : AVal} (h : v.fits n = true) : v.cells.length = n := by
 cases v <;> simp_all [AVal.fits, AVal.cells]

theorem VRel.cellsRel {F : Frz} {L : Lay} {v : AVal} {cv : Value} {n : Nat} (h : VRel F L v cv) (hf : v.fits n = true) : Ze F L v.cells cv.cells.toList := by
 cases v
 case agg cs =>
  cases h with
  | agg hl hc =>
   refine ⟨by simp [AVal.cells, Value.cells, hl], fun i c hi => ?_⟩
   have := hc i c hi
   simpa [Value.cells, Array.getD_eq_getD_getElem?, List.getD_eq_getElem?_getD] using this
 case und => simp [AVal.fits] at hf
 case tup => simp [AVal.fits] at hf
 all_goals
  have h1 : cv.oneCell' = true := h.one rfl
  refine ⟨by simp [AVal.cells, Value.cells_of_one h1], fun i c hi => ?_⟩
  rw [Value.cells_of_one h1]
  cases i with
  | zero => simp [AVal.cells] at hi; subst hi; simpa using h
  | succ i => simp [AVal.cells] at hi

def Zby (F : Frz) (L : Lay) (ks vs : List AVal) (es : List MapEntry) : Prop :=
 es.length = ks.length ∧ es.length = vs.length ∧
 (∀ (i : Nat) (c : AVal), ks[i]? = some c → ∃ m, es[i]? = some m ∧ VRel F L c m.key) ∧
 (∀ (i : Nat) (c : AVal), vs[i]? = some c → ∃ m, es[i]? = some m ∧ VRel F L c m.val)

def ZaU (es : Array MapEntry) (clock : Nat) : Prop := clock = es.size ∧ ∀ (i : Nat) (m : MapEntry), es[i]? = some m → m.born = i

structure Glob where
 tab : Nat → Option AVal
class Lps where
 lp : ACode → Code → Code → Prop

variable [Inhabited Glob] [Lps]

def Zjs : LSt → Loop → Prop
 | .ready, R => R.state = .ready ∧ R.pending = none
 | .busy, R => R.state = .busy
 | .done .ret, R => R.state = .done ∧ R.pending = some .ret
 | .done (.exit i), R => R.state = .done ∧ R.pending = some (.exit i)
 | .done .normal, _ => False
abbrev glp (b : ACode) (as c : Code) : Prop := Lps.lp b as c

def Zcv (F : Frz) (L : Lay) (w : World) (loc : Loc) (gen : Nat) : AObj → Prop
 | .cells nl cs => gen = cs.length ∧ (∀ c ∈ cs, c.one = true) ∧
  match loc with
  | .blk b top => (nl = true → cs ≠ []) ∧ ∃ c elem, w.heap[b]? = some (.cells c elem (0, 0)) ∧ c.size = top ∧ cs.length ≤ top ∧
    ∀ (p : Nat) (x : AVal), cs[p]? = some x → VRel F L x (c.getD p undef)
  | .nil => nl = true ∧ cs = []
  | .mp _ => False
 | .map ks vs => ∃ r es clock, loc = .mp r ∧ w.heap[r]? = some (.map es clock) ∧ Zby F L ks vs es.toList ∧ ZaU es clock
 | .loop ps body e st => ∃ r R, loc = .mp r ∧ w.heap[r]? = some (.loop R) ∧ Zjs st R ∧ R.params.toList = ps ∧ glp body R.assign R.body ∧ e.length = R.tmps.size ∧
   ∀ (i : Nat) (v : AVal), e[i]? = some v → VRel F L v (R.tmps.getD i undef)
 | .dead => False

def Loc.block? : Loc → Option Nat
 | .blk b _ => some b
 | .mp r => some r
 | .nil => none

def Zap (L : Lay) (b : Nat) : Prop := ∃ o loc gen, L o = .live loc gen ∧ loc.block? = some b

abbrev ZtW (g : Nat) : Option AVal := (default : Glob).tab g

def Ziv (F : Frz) : Prop := ∀ g v, ZtW g = some v → ∃ cv, F.cells g 0 = some cv ∧ VRel F noL v cv ∧ v.one = true

structure Inv (F : Frz) (L : Lay) (σ : Sto) (w : World) : Prop where
 fz : ∀ b off v, F.cells b off = some v → w.cell? ⟨b, off, none⟩ = some v
 fm : ∀ r kv, F.maps r = some kv → ∃ es clock, w.heap[r]? = some (.map es clock) ∧ es.toList.map (fun e => (e.key, e.val)) = kv
 obj : ∀ o loc gen, L o = .live loc gen → ∃ ob, σ[o]? = some ob ∧ Zcv F L w loc gen ob
 lt : ∀ o, L o ≠ .un → o < σ.length
 inj : ∀ o o' loc loc' gen gen' b, L o = .live loc gen → L o' = .live loc' gen' → loc.block? = some b → loc'.block? = some b → o = o'
 sep : ∀ b, Zap L b → (∀ off, F.cells b off = none) ∧ F.maps b = none
 dd : ∀ o, L o = .dead → σ[o]? = some .dead
 gl : Ziv F

theorem Inv.glLe {F F' : Frz} {L : Lay} {σ : Sto} {w : World} (hI : Inv F L σ w) (hF : F.Le F') : Ziv F' := fun g v h =>
 let ⟨cv, h1, h2, h3⟩ := hI.gl g v h
 ⟨cv, hF.cells _ _ _ h1, h2.frz hF, h3⟩

def ZbN (L : Lay) (σ : Sto) : Prop := ∀ o, o < σ.length → L o ≠ .un

structure Adv (F : Frz) (L : Lay) (w : World) (F' : Frz) (L' : Lay) (w' : World) : Prop where
 frz : F.Le F'
 evo : Evo L L'
 os : w'.os = w.os
 tape : w'.tape = w.tape
 output : w'.output = w.output
 size : w.heap.size ≤ w'.heap.size
 own : ∀ b, b < w.heap.size → Zap L' b → Zap L b
 keep : ∀ b, b < w.heap.size → ¬ Zap L b → w'.heap[b]? = w.heap[b]?
 fkeep : ∀ b, b < w.heap.size → ¬ Zap L b → (∀ off, F'.cells b off = F.cells b off) ∧ F'.maps b = F.maps b

theorem Adv.refl (F : Frz) (L : Lay) (w : World) : Adv F L w F L w :=
 ⟨Frz.Le.refl F, Evo.refl L, rfl, rfl, rfl, Nat.le_refl _, fun _ _ h => h, fun _ _ _ => rfl, fun _ _ _ => ⟨fun _ => rfl, rfl⟩⟩

theorem Adv.trans {F F' F'' : Frz} {L L' L'' : Lay} {w w' w'' : World} (h : Adv F L w F' L' w') (k : Adv F' L' w' F'' L'' w'') : Adv F L w F'' L'' w'' where
 frz := h.frz.trans k.frz
 evo := h.evo.trans k.evo
 os := k.os.trans h.os
 tape := k.tape.trans h.tape
 output := k.output.trans h.output
 size := Nat.le_trans h.size k.size
 own := fun b hb ho => h.own b hb (k.own b (Nat.lt_of_lt_of_le hb h.size) ho)
 keep := fun b hb ho => (k.keep b (Nat.lt_of_lt_of_le hb h.size) fun o => ho (h.own b hb o)).trans (h.keep b hb ho)
 fkeep := fun b hb ho =>
  have a := h.fkeep b hb ho
  have c := k.fkeep b (Nat.lt_of_lt_of_le hb h.size) fun o => ho (h.own b hb o)
  ⟨fun off => (c.1 off).trans (a.1 off), c.2.trans a.2⟩

theorem Adv.rel {F F' : Frz} {L L' : Lay} {w w' : World} (h : Adv F L w F' L' w') {v : AVal} {cv : Value} (r : VRel F L v cv) : VRel F' L' v cv := r.mono h.frz h.evo

theorem Zcv.heap {F : Frz} {L : Lay} {w : World} {loc : Loc} {gen : Nat} {ob : AObj} (h : Zcv F L w loc gen ob) {b : Nat} (hb : loc.block? = some b) : b < w.heap.size := by
 cases ob with
 | cells nl cs =>
  obtain ⟨_, _, h3⟩ := h
  cases loc with
  | blk b' top => obtain ⟨_, c, e, hw, _⟩ := h3; simp [Loc.block?] at hb; subst hb; exact (Array.getElem?_eq_some_iff.1 hw).1
  | nil => simp [Loc.block?] at hb
  | mp r => exact h3.elim
 | map ks vs => obtain ⟨r, es, cl, rfl, hw, _⟩ := h; simp [Loc.block?] at hb; subst hb; exact (Array.getElem?_eq_some_iff.1 hw).1
 | loop ps b e st => obtain ⟨r, R, rfl, hw, _⟩ := h; simp [Loc.block?] at hb; subst hb; exact (Array.getElem?_eq_some_iff.1 hw).1
 | dead => exact h.elim

theorem Zcv.mono {F F' : Frz} {L L' : Lay} {w w' : World} {loc : Loc} {gen : Nat} {ob : AObj} (h : Zcv F L w loc gen ob)
  (hF : F.Le F') (hE : Evo L L') (hw : ∀ b, loc.block? = some b → w'.heap[b]? = w.heap[b]?) : Zcv F' L' w' loc gen ob := by
 cases ob with
 | cells nl cs =>
  obtain ⟨h1, h2, h3⟩ := h
  refine ⟨h1, h2, ?_⟩
  cases loc with
  | blk b' top =>
   obtain ⟨h4, c, e, h5, h6, h7, h8⟩ := h3
   exact ⟨h4, c, e, (hw _ rfl).trans h5, h6, h7, fun p x hp => (h8 p x hp).mono hF hE⟩
  | nil => exact h3
  | mp r => exact h3
 | map ks vs =>
  obtain ⟨r, es, cl, rfl, h1, ⟨h2, h3, h4, h5⟩, hst⟩ := h
  exact ⟨r, es, cl, rfl, (hw _ rfl).trans h1, ⟨h2, h3, fun i c hc => let ⟨m, a, b⟩ := h4 i c hc; ⟨m, a, b.mono hF hE⟩, fun i c hc => let ⟨m, a, b⟩ := h5 i c hc; ⟨m, a, b.mono hF hE⟩⟩, hst⟩
 | loop ps b e st =>
  obtain ⟨r, R, rfl, h1, h2, h3, h4, h6, h7⟩ := h
  exact ⟨r, R, rfl, (hw _ rfl).trans h1, h2, h3, h4, h6, fun i v hv => (h7 i v hv).mono hF hE⟩
 | dead => exact h

theorem Inv.old {F : Frz} {L : Lay} {σ : Sto} {w : World} (hI : Inv F L σ w) {b : Nat} (h : Zap L b) : b < w.heap.size := by
 obtain ⟨o, loc, gen, h1, h2⟩ := h
 obtain ⟨ob, _, hk⟩ := hI.obj o loc gen h1
 exact hk.heap h2

def Zaa (L : Lay) (o : Nat) (s : Lst) : Lay := fun i => if i = o then s else L i
theorem Zk (L : Lay) (o : Nat) (s : Lst) : Zaa L o s o = s := by simp [Zaa]
theorem ZL (L : Lay) {o i : Nat} (s : Lst) (h : i ≠ o) : Zaa L o s i = L i := by simp [Zaa, h]
theorem Zjt {L : Lay} {o : Nat} {s : Lst} (h : ZaA (L o) s) : Evo L (Zaa L o s) := by
 intro i
 by_cases e : i = o
 ·subst e; rw [Zk]; exact h
 ·rw [ZL _ _ e]; exact ZaA.refl _

theorem World.cell?_heap {w w' : World} {b off : Nat} (h : w'.heap[b]? = w.heap[b]?) : w'.cell? ⟨b, off, none⟩ = w.cell? ⟨b, off, none⟩ := by
 simp only [World.cell?, h]
theorem World.cell?_lt {w : World} {b off : Nat} {v : Value} (h : w.cell? ⟨b, off, none⟩ = some v) : b < w.heap.size := by
 rcases Nat.lt_or_ge b w.heap.size with h' | h'
 ·exact h'
 ·simp [World.cell?, Array.getElem?_eq_none h'] at h

theorem Inv.change {F : Frz} {L : Lay} {σ σ' : Sto} {w w' : World} (hI : Inv F L σ w) {o : Nat} {loc : Loc} {gen : Nat} {ob : AObj}
  (hlen : σ.length ≤ σ'.length) (hσ : ∀ i, i < σ.length → i ≠ o → σ'[i]? = σ[i]?) (hob : σ'[o]? = some ob)
  (hev : ZaA (L o) (.live loc gen))
  (hos : w'.os = w.os) (htape : w'.tape = w.tape) (hout : w'.output = w.output) (hsize : w.heap.size ≤ w'.heap.size)
  (hB : ∀ b, loc.block? = some b → (∃ loc0 gen0, L o = .live loc0 gen0 ∧ loc0.block? = some b) ∨ w.heap.size ≤ b)
  (hw : ∀ k, k < w.heap.size → loc.block? ≠ some k → w'.heap[k]? = w.heap[k]?)
  (hok : Zcv F L w' loc gen ob) :
  Inv F (Zaa L o (.live loc gen)) σ' w' ∧ Adv F L w F (Zaa L o (.live loc gen)) w' := by
 have hE := Zjt hev
 have hfree : ∀ b, b < w.heap.size → ¬ Zap L b → loc.block? ≠ some b := by
  intro b hb hn hl
  rcases hB b hl with ⟨l0, g0, h1, h2⟩ | h
  ·exact hn ⟨o, l0, g0, h1, h2⟩
  ·omega
 have hown : ∀ b, b < w.heap.size → Zap (Zaa L o (.live loc gen)) b → Zap L b := by
  rintro b hb ⟨i, l, g, h1, h2⟩
  by_cases e : i = o
  ·subst e
   rw [Zk] at h1
   injection h1 with e1 e2; subst e1
   rcases hB b h2 with ⟨l0, g0, h3, h4⟩ | h
   ·exact ⟨_, l0, g0, h3, h4⟩
   ·omega
  ·rw [ZL _ _ e] at h1
   exact ⟨i, l, g, h1, h2⟩
 refine ⟨⟨?_, ?_, ?_, ?_, ?_, ?_, ?_, hI.gl⟩, ⟨Frz.Le.refl F, hE, hos, htape, hout, hsize, hown, fun b hb hn => hw b hb (hfree b hb hn), fun _ _ _ => ⟨fun _ => rfl, rfl⟩⟩⟩
 ·intro b off v hv
  have h1 := hI.fz b off v hv
  have hb := World.cell?_lt h1
  have hn : ¬ Zap L b := fun ho => by have := (hI.sep b ho).1 off; rw [this] at hv; exact absurd hv (by simp)
  rw [World.cell?_heap (hw b hb (hfree b hb hn))]; exact h1
 ·intro r kv hr
  obtain ⟨es, cl, h1, h2⟩ := hI.fm r kv hr
  have hb : r < w.heap.size := (Array.getElem?_eq_some_iff.1 h1).1
  have hn : ¬ Zap L r := fun ho => by have := (hI.sep r ho).2; rw [this] at hr; exact absurd hr (by simp)
  exact ⟨es, cl, (hw r hb (hfree r hb hn)).trans h1, h2⟩
 ·intro i l g hi
  by_cases e : i = o
  ·subst e
   rw [Zk] at hi
   injection hi with e1 e2; subst e1; subst e2
   exact ⟨ob, hob, hok.mono (Frz.Le.refl F) hE fun _ _ => rfl⟩
  ·rw [ZL _ _ e] at hi
   obtain ⟨ob', h1, h2⟩ := hI.obj i l g hi
   have hlt : i < σ.length := (List.getElem?_eq_some_iff.1 h1).1
   refine ⟨ob', (hσ i hlt e).trans h1, h2.mono (Frz.Le.refl F) hE fun b hb => hw b (h2.heap hb) fun hl => ?_⟩
   rcases hB b hl with ⟨l0, g0, h3, h4⟩ | h
   ·exact e (hI.inj _ _ _ _ _ _ b hi h3 hb h4)
   ·have := h2.heap hb; omega
 ·intro i hi
  by_cases e : i = o
  ·subst e; exact (List.getElem?_eq_some_iff.1 hob).1
  ·rw [ZL _ _ e] at hi; exact Nat.lt_of_lt_of_le (hI.lt i hi) hlen
 ·intro i i' l l' g g' b h1 h2 h3 h4
  by_cases e : i = o
  ·by_cases e' : i' = o
   ·omega
   ·subst e
    rw [Zk] at h1
    injection h1 with e1 e2; subst e1
    rw [ZL _ _ e'] at h2
    rcases hB b h3 with ⟨l0, g0, h5, h6⟩ | h
    ·exact hI.inj _ _ _ _ _ _ b h5 h2 h6 h4
    ·have := hI.old ⟨_, _, _, h2, h4⟩; omega
  ·by_cases e' : i' = o
   ·subst e'
    rw [Zk] at h2
    injection h2 with e1 e2; subst e1
    rw [ZL _ _ e] at h1
    rcases hB b h4 with ⟨l0, g0, h5, h6⟩ | h
    ·exact hI.inj _ _ _ _ _ _ b h1 h5 h3 h6
    ·have := hI.old ⟨_, _, _, h1, h3⟩; omega
   ·rw [ZL _ _ e] at h1
    rw [ZL _ _ e'] at h2
    exact hI.inj _ _ _ _ _ _ b h1 h2 h3 h4
 ·intro b hb
  rcases Nat.lt_or_ge b w.heap.size with h | h
  ·exact hI.sep b (hown b h hb)
  ·refine ⟨fun off => ?_, ?_⟩
   ·cases hc : F.cells b off with
    | none => rfl
    | some v => have := World.cell?_lt (hI.fz b off v hc); omega
   ·cases hc : F.maps b with
    | none => rfl
    | some v => obtain ⟨es, cl, h1, _⟩ := hI.fm b v hc; have := (Array.getElem?_eq_some_iff.1 h1).1; omega
 ·intro i hi
  by_cases e : i = o
  ·subst e; rw [Zk] at hi; exact absurd hi (by simp)
  ·rw [ZL _ _ e] at hi
   have h1 := hI.dd i hi
   exact (hσ i (List.getElem?_eq_some_iff.1 h1).1 e).trans h1

theorem Inv.extend {F : Frz} {L : Lay} {σ σ' : Sto} {w : World} (hI : Inv F L σ w) (h : ∀ i, i < σ.length → σ'[i]? = σ[i]?) (hl : σ.length ≤ σ'.length) : Inv F L σ' w :=
 ⟨hI.fz, hI.fm, fun o loc gen ho => let ⟨ob, h1, h2⟩ := hI.obj o loc gen ho; ⟨ob, (h o (List.getElem?_eq_some_iff.1 h1).1).trans h1, h2⟩,
  fun o ho => Nat.lt_of_lt_of_le (hI.lt o ho) hl, hI.inj, hI.sep, fun o ho => (h o (List.getElem?_eq_some_iff.1 (hI.dd o ho)).1).trans (hI.dd o ho), hI.gl⟩

theorem Inv.kill {F : Frz} {L : Lay} {σ σ' : Sto} {w : World} (hI : Inv F L σ w) {o : Nat} (ho : L o ≠ .un)
  (hlen : σ.length ≤ σ'.length) (hσ : ∀ i, i < σ.length → i ≠ o → σ'[i]? = σ[i]?) (hd : σ'[o]? = some .dead) :
  Inv F (Zaa L o .dead) σ' w ∧ Adv F L w F (Zaa L o .dead) w := by
 have hev : ZaA (L o) .dead := by
  cases h : L o with
  | un => exact absurd h ho
  | dead => rfl
  | live l g => exact .inl rfl
 have hE := Zjt hev
 have hne : ∀ i l g, Zaa L o .dead i = .live l g → i ≠ o ∧ L i = .live l g := by
  intro i l g h
  by_cases e : i = o
  ·subst e; rw [Zk] at h; exact absurd h (by simp)
  ·exact ⟨e, by rwa [ZL _ _ e] at h⟩
 have hown : ∀ b, Zap (Zaa L o .dead) b → Zap L b := fun b ⟨i, l, g, h1, h2⟩ => ⟨i, l, g, (hne i l g h1).2, h2⟩
 refine ⟨⟨hI.fz, hI.fm, fun i l g hi => ?_, fun i hi => ?_, fun i i' l l' g g' b h1 h2 => hI.inj _ _ _ _ _ _ b (hne _ _ _ h1).2 (hne _ _ _ h2).2, fun b hb => hI.sep b (hown b hb), fun i hi => ?_, hI.gl⟩,
  ⟨Frz.Le.refl F, hE, rfl, rfl, rfl, Nat.le_refl _, fun b _ hb => hown b hb, fun _ _ _ => rfl, fun _ _ _ => ⟨fun _ => rfl, rfl⟩⟩⟩
 ·obtain ⟨e, hi'⟩ := hne i l g hi
  obtain ⟨ob, h1, h2⟩ := hI.obj i l g hi'
  exact ⟨ob, (hσ i (List.getElem?_eq_some_iff.1 h1).1 e).trans h1, h2.mono (Frz.Le.refl F) hE fun _ _ => rfl⟩
 ·by_cases e : i = o
  ·subst e; exact Nat.lt_of_lt_of_le (hI.lt i ho) hlen
  ·rw [ZL _ _ e] at hi; exact Nat.lt_of_lt_of_le (hI.lt i hi) hlen
 ·by_cases e : i = o
  ·subst e; exact hd
  ·rw [ZL _ _ e] at hi
   have h1 := hI.dd i hi
   exact (hσ i (List.getElem?_eq_some_iff.1 h1).1 e).trans h1

theorem Inv.cells {F : Frz} {L : Lay} {σ : Sto} {w : World} (hI : Inv F L σ w) {o : Nat} {b top gen : Nat} (hL : L o = .live (.blk b top) gen) {nl : Bool} {cs : List AVal}
  (hσ : σ[o]? = some (.cells nl cs)) : gen = cs.length ∧ (∀ c ∈ cs, c.one = true) ∧ (nl = true → cs ≠ []) ∧ ∃ c elem, w.heap[b]? = some (.cells c elem (0, 0)) ∧ c.size = top ∧
   cs.length ≤ top ∧ ∀ (p : Nat) (x : AVal), cs[p]? = some x → VRel F L x (c.getD p undef) := by
 obtain ⟨ob, h1, h2⟩ := hI.obj _ _ _ hL
 rw [hσ] at h1
 obtain rfl := Option.some.inj h1
 obtain ⟨h3, h4, h5, c, e, h6⟩ := h2
 exact ⟨h3, h4, h5, c, e, h6⟩

end Go.Abs
/- Memory read off as trees: what is frozen at a return, and what is lent to a call. -/
namespace Go.Abs
open Go
variable [Inhabited Glob] [Lps]

theorem Z0 (k : Nat) : ∀ (n : Nat) (cs : List AVal), (ZY k n cs).length = n
  | 0, _ => rfl
  | n + 1, cs => by simp [ZY, Z0 k n]

theorem AVal.cells_of_one {c : AVal} (h : c.one = true) : c.cells = [c] := by cases c <;> simp_all [AVal.one, AVal.cells]

theorem Zbf (k : Nat) (hk : 0 < k) : ∀ (n : Nat) (cs : List AVal), cs.length = n * k → (∀ c ∈ cs, c.one = true) → ZV (ZY k n cs) = cs
  | 0, cs, h, _ => by simp at h; subst h; rfl
  | n + 1, cs, h, ho => by
    have hl : k ≤ cs.length := by rw [h, Nat.succ_mul]; omega
    have ih := Zbf k hk n (cs.drop k) (by rw [List.length_drop, h, Nat.succ_mul]; omega) fun c hc => ho c (List.mem_of_mem_drop hc)
    rw [ZY, ZV, List.flatMap_cons, ← ZV, ih]
    split
    · rename_i e
      subst e
      cases cs with
      | nil => simp at hl
      | cons c cs => simp [AVal.cells_of_one (ho c (by simp))]
    · simp [AVal.cells]

theorem ZaT (k : Nat) (hk : 0 < k) : ∀ (n : Nat) (cs : List AVal), cs.length = n * k → (∀ c ∈ cs, c.one = true) → ∀ x ∈ ZY k n cs, x.cells.length = k
  | 0, cs, _, _ => by simp [ZY]
  | n + 1, cs, h, ho => by
    have hl : k ≤ cs.length := by rw [h, Nat.succ_mul]; omega
    have ih := ZaT k hk n (cs.drop k) (by rw [List.length_drop, h, Nat.succ_mul]; omega) fun c hc => ho c (List.mem_of_mem_drop hc)
    intro x hx
    rw [ZY, List.mem_cons] at hx
    rcases hx with rfl | hx
    · split
      · rename_i e
        subst e
        cases cs with
        | nil => simp at hl
        | cons c cs => simp [AVal.cells_of_one (ho c (by simp))]
      · simp [AVal.cells, hl]
    · exact ih x hx

open Classical in
noncomputable def ZX (F : Frz) (L : Lay) (w : World) : Frz where
  cells b off := if Zap L b then w.cell? ⟨b, off, none⟩ else F.cells b off
  maps r := if Zap L r then (match w.heap[r]? with | some (.map es _) => some (es.toList.map fun e => (e.key, e.val)) | _ => none) else F.maps r

theorem Zb8 {F : Frz} {L : Lay} {σ : Sto} {w : World} (hI : Inv F L σ w) : F.Le (ZX F L w) := by
  constructor
  · intro b o v h
    have hn : ¬ Zap L b := fun ho => by have := (hI.sep b ho).1 o; rw [this] at h; exact absurd h (by simp)
    simp only [ZX, if_neg hn]; exact h
  · intro r kv h
    have hn : ¬ Zap L r := fun ho => by have := (hI.sep r ho).2; rw [this] at h; exact absurd h (by simp)
    simp only [ZX, if_neg hn]; exact h

theorem ZaE (b : Nat) : ¬ Zap noL b := fun ⟨_, _, _, h, _⟩ => by simp [noL] at h

theorem Inv.frozen {F : Frz} {L : Lay} {σ : Sto} {w : World} (hI : Inv F L σ w) (σ' : Sto) : Inv (ZX F L w) noL σ' w := by
  refine ⟨?_, ?_, fun o loc gen h => by simp [noL] at h, fun o h => absurd rfl h, fun o o' l l' g g' b h => by simp [noL] at h, fun b hb => absurd hb (ZaE b), fun o h => by simp [noL] at h, hI.glLe (Zb8 hI)⟩
  · intro b off v h
    simp only [ZX] at h
    split at h
    · exact h
    · exact hI.fz b off v h
  · intro r kv h
    simp only [ZX] at h
    split at h
    · split at h
      · rename_i es cl hw
        exact ⟨es, cl, hw, Option.some.inj h⟩
      · exact absurd h (by simp)
    · exact hI.fm r kv h

theorem ZC {α β : Type} (f : α → Option β) : ∀ {l : List α} {l' : List β}, l.mapM f = some l' → l'.length = l.length ∧ ∀ (i : Nat) (x : α), l[i]? = some x → ∃ y, l'[i]? = some y ∧ f x = some y
  | [], l', h => by simp at h; subst h; simp
  | a :: l, l', h => by
    simp only [List.mapM_cons, Option.pure_def, Option.bind_eq_bind, Option.bind_eq_some_iff] at h
    obtain ⟨b, hb, bs, hbs, e⟩ := h
    obtain rfl := Option.some.inj e
    obtain ⟨h1, h2⟩ := ZC f hbs
    refine ⟨by simp [h1], fun i x hi => ?_⟩
    cases i with
    | zero => simp at hi; subst hi; exact ⟨b, rfl, hb⟩
    | succ i => exact h2 i x (by simpa using hi)

theorem ZU {α β : Type} (f : α → Option β) {l : List α} {l' : List β} (h : l.mapM f = some l') {i : Nat} {y : β} (hi : l'[i]? = some y) : ∃ x, l[i]? = some x ∧ f x = some y := by
  obtain ⟨h1, h2⟩ := ZC f h
  have hlt : i < l.length := by rw [← h1]; exact (List.getElem?_eq_some_iff.1 hi).1
  obtain ⟨y', h3, h4⟩ := h2 i l[i] (List.getElem?_eq_getElem hlt)
  rw [hi] at h3
  obtain rfl := Option.some.inj h3
  exact ⟨_, List.getElem?_eq_getElem hlt, h4⟩

theorem ZhB {σ : Sto} {n : Nat} {v v' : AVal} (h : Zn σ n v = some v') (ho : v.one = true) : v'.one = true := by
  cases n with
  | zero => simp [Zn] at h
  | succ n =>
    unfold Zn at h
    split at h
    · obtain rfl := Option.some.inj h; exact ho
    · cases v <;> simp only [Option.map_eq_some_iff, reduceCtorEq] at h
      all_goals first
        | (obtain ⟨_, _, rfl⟩ := h; first | rfl | (simp [AVal.one] at ho))
        | (split at h
           · first
             | (split at h
                · first
                  | (split at h
                     · obtain rfl := Option.some.inj h; rfl
                     · simp only [Option.map_eq_some_iff] at h; obtain ⟨_, _, rfl⟩ := h; rfl)
                  | (simp only [Option.map_eq_some_iff] at h; obtain ⟨_, _, rfl⟩ := h; rfl)
                  | (obtain rfl := Option.some.inj h; rfl)
                · first
                  | (simp at h; done)
                  | (obtain rfl := Option.some.inj h; rfl))
             | (obtain rfl := Option.some.inj h; rfl)
           · simp at h)

theorem Zmd {σ : Sto} {n : Nat} {v v' : AVal} (h : Zn σ n v = some v') (ho : v ≠ .und) : v' ≠ .und := by
  cases n with
  | zero => simp [Zn] at h
  | succ n =>
    unfold Zn at h
    split at h
    · obtain rfl := Option.some.inj h; exact ho
    · cases v <;> simp only [Option.map_eq_some_iff, reduceCtorEq] at h
      all_goals first
        | (obtain ⟨_, _, rfl⟩ := h; simp; done)
        | (split at h
           · first
             | (split at h
                · first
                  | (split at h
                     · obtain rfl := Option.some.inj h; simp
                     · simp only [Option.map_eq_some_iff] at h; obtain ⟨_, _, rfl⟩ := h; simp)
                  | (simp only [Option.map_eq_some_iff] at h; obtain ⟨_, _, rfl⟩ := h; simp)
                  | (obtain rfl := Option.some.inj h; simp)
                · first
                  | (simp at h; done)
                  | (obtain rfl := Option.some.inj h; simp))
             | (obtain rfl := Option.some.inj h; simp)
           · simp at h)

theorem Inv.liveAt {F : Frz} {L : Lay} {σ : Sto} {w : World} (hI : Inv F L σ w) {o : Nat} (h0 : L o ≠ .un) {ob : AObj} (hσ : σ[o]? = some ob) (hd : ob ≠ .dead) :
    ∃ loc gen, L o = .live loc gen ∧ Zcv F L w loc gen ob := by
  cases hL : L o with
  | un => exact absurd hL h0
  | dead => have := hI.dd o hL; rw [hσ] at this; exact absurd (Option.some.inj this) hd
  | live loc gen =>
    obtain ⟨ob', h1, h2⟩ := hI.obj o loc gen hL
    rw [hσ] at h1
    obtain rfl := Option.some.inj h1
    exact ⟨loc, gen, rfl, h2⟩

theorem ZhC {F : Frz} {L : Lay} {σ σs : Sto} {w : World} (hI : Inv F L σs w) (hpre : ∀ i, i < σ.length → σs[i]? = σ[i]?) :
    ∀ (n : Nat) {v v' : AVal} {cv : Value}, Zn σ n v = some v' → VRel F L v cv → VRel (ZX F L w) noL v' cv := by
  have hle := Zb8 hI
  intro n
  induction n with
  | zero => intro v v' cv h; simp [Zn] at h
  | succ n ih =>
    intro v v' cv h hr
    unfold Zn at h
    split at h
    · rename_i hp
      obtain rfl := Option.some.inj h
      exact (hr.toPure hp noL).frz hle
    · rename_i hp
      cases v with
      | ref o gen off len k =>
        simp only at h
        split at h
        · rename_i nl cs hσ
          split at h
          · rename_i hc
            obtain ⟨hc1, hc2, hk⟩ := hc
            have hσ' := (hpre o (List.getElem?_eq_some_iff.1 hσ).1).trans hσ
            cases hr with
            | ref h0 h1 h2 hR =>
              obtain ⟨loc, g, hL, hok⟩ := hI.liveAt h0 hσ' (by simp)
              obtain ⟨hg, hone, hrest⟩ := hok
              obtain rfl : g = gen := by omega
              have hR := hR loc hL
              cases loc with
              | mp r => exact hrest.elim
              | nil =>
                obtain ⟨rfl, rfl⟩ := hrest
                obtain ⟨rfl, rfl, rfl⟩ := hR
                simp at h
                subst h
                exact .nils
              | blk b top =>
                obtain ⟨hnl, c, elem, hw, hct, hcs, hx⟩ := hrest
                obtain ⟨cap, rfl, hlc, htop, hgc, hlen⟩ := hR
                have hbr : (nl && cs.isEmpty) = false := by
                  cases nl with
                  | false => rfl
                  | true => have := hnl rfl; cases cs with
                    | nil => exact absurd rfl this
                    | cons _ _ => rfl
                rw [hbr] at h
                simp only [Bool.false_eq_true, if_false, Option.map_eq_some_iff] at h
                obtain ⟨cs', hcs', rfl⟩ := h
                obtain ⟨hm1, hm2⟩ := ZC _ hcs'
                have hl' : cs'.length = len * k := by rw [hm1, List.length_take, List.length_drop]; omega
                have hone' : ∀ c ∈ cs', c.one = true := by
                  intro x hx
                  obtain ⟨i, hi⟩ := List.getElem?_of_mem hx
                  obtain ⟨y, hy, hs⟩ := ZU _ hcs' hi
                  refine ZhB hs (hone y ?_)
                  rw [List.getElem?_take] at hy
                  split at hy
                  · rw [List.getElem?_drop] at hy; exact List.mem_of_getElem? hy
                  · simp at hy
                have hfl := Zbf k hk len cs' hl' hone'
                have hown : Zap L b := ⟨o, _, _, hL, rfl⟩
                have hcells : ∀ (p : Nat) (x : AVal), cs'[p]? = some x → ∃ y, cs[off + p]? = some y ∧ Zn σ n y = some x ∧ off + p < cs.length := by
                  intro p x hp
                  obtain ⟨y, hy, hs⟩ := ZU _ hcs' hp
                  rw [List.getElem?_take] at hy
                  split at hy
                  · rw [List.getElem?_drop] at hy; exact ⟨y, hy, hs, (List.getElem?_eq_some_iff.1 hy).1⟩
                  · simp at hy
                have hlen2 := Z0 k len cs'
                have := VRel.list (F := ZX F L w) (L := noL) (xs := ZY k len cs') (a := ⟨b, off, none⟩) (cap := cap) (k := k) (fv := fun p => c.getD (off + p) undef)
                  (fun _ => rfl) (by omega) (ZaT k hk len cs' hl' hone')
                  (fun p x hp => by
                    rw [hfl] at hp
                    obtain ⟨y, hy, hs, hlt⟩ := hcells p x hp
                    simp only [ZX, if_pos hown, World.cell?, hw]
                    simp only [Option.isSome_none, Bool.false_eq_true, if_false]
                    rw [Array.getElem?_eq_getElem (by omega)]
                    simp [Array.getD, show off + p < c.size by omega])
                  (fun p x hp => by rw [hfl] at hp; exact hone' x (List.mem_of_getElem? hp))
                  (fun p x hp => by
                    rw [hfl] at hp
                    obtain ⟨y, hy, hs, hlt⟩ := hcells p x hp
                    exact ih hs (hx _ _ hy))
                rwa [hlen2] at this
          · simp at h
        · simp at h
      | ptr o gen off =>
        simp only at h
        split at h
        · rename_i nl cs hσ
          split at h
          · rename_i hc
            simp only [Option.map_eq_some_iff] at h
            obtain ⟨cs', hcs', rfl⟩ := h
            have hσ' := (hpre o (List.getElem?_eq_some_iff.1 hσ).1).trans hσ
            cases hr with
            | ptr h0 h1 h2 hR =>
              obtain ⟨loc, g, hL, hok⟩ := hI.liveAt h0 hσ' (by simp)
              obtain ⟨hg, hone, hrest⟩ := hok
              obtain rfl : g = gen := by omega
              obtain ⟨b, top, rfl, rfl⟩ := hR loc hL
              obtain ⟨hnl, c, elem, hw, hct, hcs, hx⟩ := hrest
              have hown : Zap L b := ⟨o, _, _, hL, rfl⟩
              have hcells : ∀ (p : Nat) (x : AVal), cs'[p]? = some x → ∃ y, cs[off + p]? = some y ∧ Zn σ n y = some x ∧ off + p < cs.length := by
                intro p x hp
                obtain ⟨y, hy, hs⟩ := ZU _ hcs' hp
                rw [List.getElem?_drop] at hy
                exact ⟨y, hy, hs, (List.getElem?_eq_some_iff.1 hy).1⟩
              exact VRel.fptr (fv := fun p => c.getD (off + p) undef) rfl
                (fun p x hp => by
                  obtain ⟨y, hy, hs, hlt⟩ := hcells p x hp
                  simp only [ZX, if_pos hown, World.cell?, hw]
                  simp only [Option.isSome_none, Bool.false_eq_true, if_false]
                  rw [Array.getElem?_eq_getElem (by omega)]
                  simp [Array.getD, show off + p < c.size by omega])
                (fun p x hp => by
                  obtain ⟨y, hy, hs, hlt⟩ := hcells p x hp
                  exact ZhB hs (hone y (List.mem_of_getElem? hy)))
                (fun p x hp => by
                  obtain ⟨y, hy, hs, hlt⟩ := hcells p x hp
                  exact ih hs (hx _ _ hy))
          · simp at h
        · simp at h
      | map o =>
        simp only at h
        split at h
        · rename_i ks vs hσ
          split at h
          · rename_i ks' vs' hks hvs
            obtain rfl := Option.some.inj h
            have hσ' := (hpre o (List.getElem?_eq_some_iff.1 hσ).1).trans hσ
            cases hr with
            | map h0 h1 hR =>
              obtain ⟨loc, g, hL, hok⟩ := hI.liveAt h0 hσ' (by simp)
              obtain ⟨r, es, cl, rfl, hw, ⟨hl1, hl2, hkr, hvr⟩, _⟩ := hok
              obtain ⟨r', hr', rfl⟩ := hR _ _ hL
              injection hr' with e
              subst e
              have hown : Zap L r := ⟨o, _, _, hL, rfl⟩
              obtain ⟨k1, k2⟩ := ZC _ hks
              obtain ⟨v1, v2⟩ := ZC _ hvs
              refine VRel.fmap (kv := es.toList.map fun e => (e.key, e.val)) (by simp only [ZX, if_pos hown, hw]) (.inl rfl) (by simp; simpa [k1] using hl1) (by simp; simpa [v1] using hl2) ?_ ?_
              · intro i x hi
                obtain ⟨y, hy, hs⟩ := ZU _ hks hi
                obtain ⟨m, hm, hv⟩ := hkr i y hy
                simp only [List.getD_eq_getElem?_getD, List.getElem?_map, hm, Option.map_some, Option.getD_some]
                exact ih hs hv
              · intro i x hi
                obtain ⟨y, hy, hs⟩ := ZU _ hvs hi
                obtain ⟨m, hm, hv⟩ := hvr i y hy
                simp only [List.getD_eq_getElem?_getD, List.getElem?_map, hm, Option.map_some, Option.getD_some]
                exact ih hs hv
          · simp at h
        · simp at h
      | clo f a b =>
        simp only at h
        split at h
        · rename_i a' b' ha hb
          obtain rfl := Option.some.inj h
          obtain ⟨a1, a2⟩ := ZC _ ha
          obtain ⟨b1, b2⟩ := ZC _ hb
          cases hr with
          | clo hfl hcl hf hc hy =>
            refine .clo (hfl.trans a1.symm) (hcl.trans b1.symm) (fun i x hi => ?_) (fun i x hi => ?_) hy
            · obtain ⟨y, hy, hs⟩ := ZU _ ha hi
              exact ih hs (hf i y hy)
            · obtain ⟨y, hy, hs⟩ := ZU _ hb hi
              exact ih hs (hc i y hy)
        · simp at h
      | iface t v =>
        simp only [Option.map_eq_some_iff] at h
        obtain ⟨v1, h1, rfl⟩ := h
        cases hr with
        | iface hv ho =>
          refine .iface (ih h1 hv) ?_
          exact Zmd h1 ho
      | agg cs =>
        simp only [Option.map_eq_some_iff] at h
        obtain ⟨cs', h1, rfl⟩ := h
        obtain ⟨a1, a2⟩ := ZC _ h1
        cases hr with
        | agg hl hc =>
          exact .agg (hl.trans a1.symm) fun i x hi => by
            obtain ⟨y, hy, hs⟩ := ZU _ h1 hi
            exact ih hs (hc i y hy)
      | tup cs =>
        simp only [Option.map_eq_some_iff] at h
        obtain ⟨cs', h1, rfl⟩ := h
        obtain ⟨a1, a2⟩ := ZC _ h1
        cases hr with
        | tup hl hc =>
          exact .tup (hl.trans a1.symm) fun i x hi => by
            obtain ⟨y, hy, hs⟩ := ZU _ h1 hi
            exact ih hs (hc i y hy)
      | yld o => simp at h
      | _ => simp [AVal.names] at hp

end Go.Abs
/- The model's operations, read as the abstract machine's. -/
namespace Go.Abs
open Go
variable [Inhabited Glob] [Lps]

def Ziu : Value → Option AVal
 | .bool b => some (.bool b)
 | .int k n => some (.int k n)
 | .string s => some (.str s)
 | .slice none 0 0 => some .nils
 | .pointer none => some .nilp
 | .map none => some .nilm
 | .nilFunc => some .nilf
 | .nilIface => some .nili
 | _ => none

def ZpU (v : Value) : Option AVal :=
 match v with
 | .agg cs => (cs.toList.mapM Ziu).map .agg
 | v => Ziu v

def ZR : Operand → Option Opd
 | .tmp t => some (.tmp t)
 | .const v => (ZpU v).map .cst
 | .func f => if ZeJ (.func f) = true then some (.cst (.clo (.func f) [] [])) else none
 | .global g => (ZtW g).map fun v => .cst (.fptr [v])

def Z1 (P : Program) (t : TypeId) : Option Nat := (P.info? t).map (·.size)
def Zru : TypeDesc → Bool
 | .struct _ | .array _ _ => true
 | _ => false
def ZdX (P : Program) (t : TypeId) : Option Bool := (P.underlying t).map Zru
def ZbD (P : Program) (t : TypeId) : Option (List AVal) :=
 match P.info? t with
 | some i => match i.zero with
  | some z => z.cells.toList.mapM Ziu
  | none => none
 | none => none
def ZgA (P : Program) (t : TypeId) : Option AVal :=
 match P.info? t with
 | some i => match i.zero with
  | some z => ZpU z
  | none => none
 | none => none

def Z5 (P : Program) : Nat → TypeId → Option Shape
 | 0, _ => none
 | n + 1, t =>
  match P.underlying t with
  | some .bool => some .bool
  | some (.int k) => some (.int k)
  | some .string => some .str
  | some (.struct fields) =>
   if P.stoodInHeld t then none else
   (fields.toList.mapM fun (f : Field) =>
    if f.name == "_" then none else
    match P.info? f.type, ZdX P f.type, Z5 P n f.type with
    | some i, some ag, some sh => some (f.offset, i.size, ag, sh)
    | _, _, _ => none).map .row
  | some (.array len elem) =>
   match P.info? elem, ZdX P elem, Z5 P n elem with
   | some i, some ag, some sh => some (.row ((List.range len).map fun j => (j * i.size, i.size, ag, sh)))
   | _, _, _ => none
  | _ => none

def ZcS : NilK → Operand → Bool
 | .sl, .const (.slice none 0 0) => true
 | .pt, .const (.pointer none) => true
 | .mp, .const (.map none) => true
 | .fn, .const .nilFunc => true
 | _, _ => false

def ZbY : TypeDesc → Option NilK
 | .slice _ => some .sl
 | .map _ _ => some .mp
 | .func _ _ _ => some .fn
 | .pointer _ => some .pt
 | _ => none

def Zdq (xs : Array Operand) : Option (List Opd) := xs.toList.mapM ZR
def ZdA : Option Operand → Option (Option Opd)
 | none => some none
 | some x => (ZR x).map some

def cEq (P : Program) (neg : Bool) (op : BinOp) (t : TypeId) (x y : Operand) : Option AOp :=
 match P.underlying t with
 | some (.int _) | some .string => match ZR x, ZR y with | some a, some b => some (.bin op a b) | _, _ => none
 | some .bool | some (.struct _) | some (.array _ _) =>
  match Z5 P 20 t, ZR x, ZR y with
  | some sh, some a, some b => if P.eqGuardType P.depth t then none else some (.eqs neg sh a b)
  | _, _, _ => none
 | some d =>
  match ZbY d with
  | some kd => if ZcS kd x then (ZR y).map (.eqnil neg kd) else if ZcS kd y then (ZR x).map (.eqnil neg kd) else
   match d with
   | .pointer el => match Z1 P el, ZR x, ZR y with | some (_ + 1), some a, some b => some (.eqp neg a b) | _, _, _ => none
   | _ => none
  | none => none
 | none => none

def ZcT (P : Program) (b : Builtin) (ts : Array TypeId) (args : List Opd) : Option AOp :=
 match b, args with
 | .len, [x] =>
  match (ts[0]?).bind P.underlying with
  | some .string => some (.len .str x)
  | some (.slice _) => some (.len .sl x)
  | some (.map _ _) => some (.len .mp x)
  | _ => none
 | .cap, [x] =>
  match (ts[0]?).bind P.underlying with
  | some (.slice _) => some (.cap x)
  | _ => none
 | .append, [s, x] =>
  match (ts[0]?).bind P.underlying, (ts[1]?).bind P.underlying with
  | some (.slice e), some (.slice _) =>
   match P.info? e, ZbD P e with
   | some i, some z => if z.length = i.size ∧ 0 < i.bytes then some (.append i.size i.bytes s x) else none
   | _, _ => none
  | some (.slice e), some (.int _) =>
   match P.info? e, ZbD P e with
   | some i, some z => if z.length = i.size ∧ 0 < i.bytes then some (.appendz i.size i.bytes z s x) else none
   | _, _ => none
  | _, _ => none
 | .copy, [d, s] =>
  match (ts[0]?).bind P.underlying with
  | some (.slice e) => (Z1 P e).map fun k => .copy k d s
  | _ => none
 | .clear, [x] =>
  match (ts[0]?).bind P.underlying with
  | some (.slice e) => (ZbD P e).map fun z => .clear z x
  | _ => none
 | .delete, [m, k] =>
  match (ts[0]?).bind P.underlying with
  | some (.map kt _) => (Z5 P 20 kt).map fun sh => .delete sh m k
  | _ => none
 | .min, xs => some (.minmax false xs)
 | .max, xs => some (.minmax true xs)
 | _, _ => none

def Zoz (P : Program) (fields : Array Field) (p : Nat × Operand) : Option (Nat × Nat × Opd) :=
 match fields[p.1]? with
 | some f => match Z1 P f.type, ZR p.2 with
  | some n, some x => some (f.offset, n, x)
  | _, _ => none
 | none => none
def Zkx (n : Nat) (p : Nat × Operand) : Option (Nat × Nat × Opd) := (ZR p.2).map fun x => (p.1 * n, n, x)
def Zky (p : Nat × Operand) : Option (Nat × Opd) := (ZR p.2).map fun x => (p.1, x)

def cOp (P : Program) (o : Oper) : Option AOp :=
 match o.op with
 | .move x | .assign x => (ZR x).map .mv
 | .pick c a b =>
  match ZR c, ZR a, ZR b with
  | some c, some a, some b => some (.pick c a b)
  | _, _, _ => none
 | .alloc t => (ZbD P t).map .alloc
 | .box t x =>
  match Z1 P t, ZR x with
  | some n, some x => some (.box n x)
  | _, _ => none
 | .build t parts =>
  match ZbD P t, P.underlying t with
  | some z, some (.struct fields) =>
   if fields.toList.all (fun (f : Field) => (P.info? f.type).isSome) then
    (parts.toList.mapM (Zoz P fields)).map (.build z)
   else none
  | some z, some (.array _ e) =>
   match Z1 P e with
   | some n => (parts.toList.mapM (Zkx n)).map (.build z)
   | none => none
  | _, _ => none
 | .buildSlice t len parts =>
  match P.underlying t with
  | some (.slice e) =>
   match Z1 P e, ZbD P e with
   | some k, some z =>
    if len * k ≤ 2 ^ 24 ∧ z.length = k ∧ 0 < k then
     (parts.toList.mapM Zky).map (.bslice k len z)
    else none
   | _, _ => none
  | _ => none
 | .load t x =>
  match ZdX P t, Z1 P t, ZR x with
  | some ag, some n, some x => some (.load ag n x)
  | _, _, _ => none
 | .store t a v =>
  match Z1 P t, ZR a, ZR v with
  | some n, some a, some v => some (.store n a v)
  | _, _, _ => none
 | .nilCheck x => (ZR x).map .nilck
 | .binOp op t x y _ =>
  match op with
  | .eql => cEq P false op t x y
  | .neq => cEq P true op t x y
  | _ => match ZR x, ZR y with
   | some a, some b => some (.bin op a b)
   | _, _ => none
 | .unOp op _ x => (ZR x).map (.un op)
 | .convert src dst x =>
  match P.underlying src, P.underlying dst, ZR x with
  | some (.int _), some (.int k), some x => some (.conv k x)
  | some .string, some .string, some x => some (.same x)
  | _, _, _ => none
 | .sliceToArrayPointer arr x =>
  match P.underlying arr, ZR x with
  | some (.array n e), some x => (Z1 P e).map fun k => .arrp n k x
  | _, _ => none
 | .makeInterface t x =>
  match P.underlying t, ZR x with
  | some (.interface _), _ => none
  | some _, some x => some (.mkif t x)
  | _, _ => none
 | .makeFunc fn first captured =>
  match Zdq first, Zdq captured with
  | some a, some b => if ZeJ fn = true then some (.mkfn fn a b) else none
  | _, _ => none
 | .makeMap _ none => some .mkmap
 | .makeSlice t l c =>
  match P.underlying t with
  | some (.slice e) =>
   match P.info? e, ZbD P e, ZR l, ZR c with
   | some i, some z, some l, some c => if z.length = i.size then some (.mkslice i.size i.bytes z l c) else none
   | _, _, _, _ => none
  | _ => none
 | .slice t x lo hi mx =>
  match P.underlying t, ZR x, ZdA lo, ZdA hi, ZdA mx with
  | some .string, some x, some lo, some hi, some none => some (.slstr x lo hi)
  | some (.slice e), some x, some lo, some hi, some mx =>
   if mx.isSome && hi.isNone then none else (Z1 P e).map fun k => .slice k x lo hi mx
  | some (.array n e), some x, some lo, some hi, some none => (Z1 P e).map fun k => .slarr n k x lo hi
  | _, _, _, _, _ => none
 | .fieldAddr t x f =>
  match P.underlying t, ZR x with
  | some (.struct fields), some x =>
   match fields[f]? with
   | some fd => match Z1 P fd.type with
    | some n => if n = 0 then none else some (.faddr fd.offset x)
    | none => none
   | none => none
  | _, _ => none
 | .field t x f =>
  match P.underlying t, ZR x with
  | some (.struct fields), some x =>
   match fields[f]? with
   | some fd => match Z1 P fd.type, ZdX P fd.type with
    | some n, some ag => if n = 0 then none else some (.field fd.offset n ag x)
    | _, _ => none
   | none => none
  | _, _ => none
 | .indexAddr t x i =>
  match P.underlying t, ZR x, ZR i with
  | some (.slice e), some x, some i => (Z1 P e).map fun k => .iaddr k x i
  | some (.array n e), some x, some i => (Z1 P e).map fun k => .iaddrA n k x i
  | _, _, _ => none
 | .index t x i =>
  match P.underlying t, ZR x, ZR i with
  | some (.array n e), some x, some i =>
   match Z1 P e, ZdX P e with
   | some k, some ag => if k = 0 then none else some (.idxA n k ag x i)
   | _, _ => none
  | some .string, some x, some i => some (.idxS x i)
  | _, _, _ => none
 | .lookup t m i ok =>
  match P.underlying t, ZR m, ZR i with
  | some (.map kt e), some m, some i =>
   match Z5 P 20 kt, ZgA P e with
   | some sh, some z => some (.lookup sh z ok m i)
   | _, _ => none
  | _, _, _ => none
 | .mapUpdate t m k v | .insert t m k v =>
  match P.underlying t, ZR m, ZR k, ZR v with
  | some (.map kt _), some m, some k, some v => (Z5 P 20 kt).map fun sh => .mapup sh m k v
  | _, _, _, _ => none
 | .extract t i => (ZR t).map fun x => .extr x i
 | .mapEntry t m k =>
  match P.underlying t, ZR m, ZR k with
  | some (.map kt e), some m, some k =>
   match Z5 P 20 kt, ZgA P e with
   | some sh, some z => some (.mapent sh z m k)
   | _, _ => none
  | _, _, _ => none
 | .entryStore _ m s x =>
  match ZR m, ZR s, ZR x with
  | some m, some s, some x => some (.entst m s x)
  | _, _, _ => none
 | .call c =>
  match Zdq c.args, c.callee with
  | some args, .builtin b => ZcT P b c.argTypes args
  | some args, .value (.func f) => if ZeJ (.func f) = true then some (.call true f args) else none
  | some args, .value x => (ZR x).map fun x => .callv true x args
  | _, _ => none
 | _ => none

theorem Zjr {F : Frz} {L : Lay} {v : Value} {a : AVal} (h : Ziu v = some a) : VRel F L a v := by
 unfold Ziu at h
 split at h <;> first
  | (obtain rfl := Option.some.inj h; constructor; done)
  | simp at h

theorem ZoA {v : Value} {a : AVal} (h : Ziu v = some a) : a.one = true := by
 unfold Ziu at h
 split at h <;> first
  | (obtain rfl := Option.some.inj h; rfl)
  | simp at h

theorem ZhA {F : Frz} {L : Lay} {cs : List Value} {as : List AVal} (h : cs.mapM Ziu = some as) : Ze F L as cs := by
 obtain ⟨h1, _⟩ := ZC _ h
 refine ⟨h1.symm, fun i c hi => ?_⟩
 obtain ⟨v, hv, hs⟩ := ZU _ h hi
 simp only [List.getD_eq_getElem?_getD, hv, Option.getD_some]
 exact Zjr hs

theorem Zmc {cs : List Value} {as : List AVal} (h : cs.mapM Ziu = some as) : ∀ c ∈ as, c.one = true := by
 intro c hc
 obtain ⟨i, hi⟩ := List.getElem?_of_mem hc
 obtain ⟨v, hv, hs⟩ := ZU _ h hi
 exact ZoA hs

theorem ZgB {F : Frz} {L : Lay} {v : Value} {a : AVal} (h : ZpU v = some a) : VRel F L a v := by
 unfold ZpU at h
 split at h
 ·rename_i cs
  simp only [Option.map_eq_some_iff] at h
  obtain ⟨as, h1, rfl⟩ := h
  obtain ⟨h2, h3⟩ := ZhA (F := F) (L := L) h1
  exact .agg (by simpa using h2) fun i c hi => by have := h3 i c hi; simpa [Array.getD_eq_getD_getElem?, List.getD_eq_getElem?_getD] using this
 ·exact Zjr h

def Zaf (F : Frz) (L : Lay) (e : Env) (ρ : Operand → Value) (x : Operand) : Prop := ∀ y, ZR x = some y → VRel F L (ev e y) (ρ x)

def ZI (F : Frz) (L : Lay) (e : Env) (tmps : Array Value) : Prop := e.length = tmps.size ∧ ∀ (t : Nat) (v : AVal), e[t]? = some v → VRel F L v (tmps.getD t undef)

theorem ZI.reads {F : Frz} {L : Lay} {e : Env} {a : Act} (h : ZI F L e a.tmps) (hg : Ziv F) (x : Operand) : Zaf F L e a.eval x := by
 intro y hy
 cases x with
 | tmp t =>
  simp only [ZR] at hy
  obtain rfl := Option.some.inj hy
  show VRel F L (e.getD t .und) (a.tmps.getD t undef)
  cases he : e[t]? with
  | none => simp only [List.getD_eq_getElem?_getD, he, Option.getD_none]; exact .und
  | some v => simp only [List.getD_eq_getElem?_getD, he, Option.getD_some]; exact h.2 t v he
 | const v =>
  simp only [ZR, Option.map_eq_some_iff] at hy
  obtain ⟨a', h1, rfl⟩ := hy
  exact ZgB h1
 | global g =>
  simp only [ZR, Option.map_eq_some_iff] at hy
  obtain ⟨v, h1, rfl⟩ := hy
  obtain ⟨cv, h2, h3, h4⟩ := hg g v h1
  show VRel F L (.fptr [v]) (.pointer (some ⟨g, 0, none⟩))
  refine .fptr (fv := fun _ => cv) rfl (fun p c hc => ?_) (fun p c hc => ?_) (fun p c hc => ?_)
  all_goals
   rcases p with _ | p
   ·simp only [List.getElem?_cons_zero, Option.some.injEq] at hc
    subst hc
    first | exact h2 | exact h4 | exact h3
   ·simp at hc
 | func f =>
  simp only [ZR] at hy
  split at hy
  case isFalse => simp at hy
  rename_i hfn
  obtain rfl := Option.some.inj hy
  exact .clo rfl rfl (fun i c hi => by simp at hi) (fun i c hi => by simp at hi) hfn

theorem ZI.put {F : Frz} {L : Lay} {e : Env} {a : Act} (h : ZI F L e a.tmps) {dst : Option Tmp} {v : AVal} {cv : Value} (hv : VRel F L v cv) :
  ZI F L (Abs.put e dst v) (a.put dst cv).tmps := by
 cases dst with
 | none => exact h
 | some d =>
  refine ⟨by simp [Abs.put, Act.put, h.1], fun t u hu => ?_⟩
  simp only [Abs.put, Act.put] at hu ⊢
  rw [List.getElem?_set] at hu
  by_cases hd : d = t
  ·subst hd
   simp at hu
   obtain ⟨hlt, rfl⟩ := hu
   have hlt' : d < a.tmps.size := by rw [← h.1]; exact hlt
   simpa [Array.getD_eq_getD_getElem?, Array.getElem?_setIfInBounds, hlt'] using hv
  ·rw [if_neg hd] at hu
   have := h.2 t u hu
   simpa [Array.getD_eq_getD_getElem?, Array.getElem?_setIfInBounds, hd] using this

theorem ZI.mono {F F' : Frz} {L L' : Lay} {e : Env} {tmps : Array Value} (h : ZI F L e tmps) (hF : F.Le F') (hE : Evo L L') : ZI F' L' e tmps :=
 ⟨h.1, fun t v hv => (h.2 t v hv).mono hF hE⟩

end Go.Abs
/- Each operation of the model does what the abstract one says: those that write nothing. -/
namespace Go.Abs
open Go
variable [Inhabited Glob] [Lps]

def Zaw (F : Frz) (L : Lay) (σs : Sto) (w : World) (ids : Nat → Prop) (r : Result Next) (v : AVal) : Prop :=
 ∃ cv w' L', r = .ok (.value cv) w' ∧ VRel F L' v cv ∧ Inv F L' σs w' ∧ Adv F L w F L' w' ∧ ∀ i, L' i ≠ .un ↔ L i ≠ .un ∨ ids i

theorem Zaw.still {F : Frz} {L : Lay} {σs : Sto} {w : World} {r : Result Next} {v : AVal} {cv : Value} (hI : Inv F L σs w) (hr : r = .ok (.value cv) w) (hv : VRel F L v cv)
  {ids : Nat → Prop} (hid : ∀ i, ¬ ids i) : Zaw F L σs w ids r v :=
 ⟨cv, w, L, hr, hv, hI, Adv.refl F L w, fun i => ⟨.inl, fun h => h.resolve_right (hid i)⟩⟩

theorem Zv {P : Program} {w w' : World} {cv : Value} {s : Sem Value} (h : s.run P w = .ok cv w') : (do pure (Next.value (← s)) : Sem Next).run P w = .ok (.value cv) w' := by
 simp [h]

theorem Addr.add_plain {a : Addr} (h : a.spot = none) (n : Nat) : a.add n = ⟨a.block, a.off + n, none⟩ := by
 unfold Addr.add
 split
 ·rename_i e; subst e; cases a; simp_all
 ·rfl

theorem Zft {P : Program} {t : TypeId} {b : Bool} (h : ZdX P t = some b) (w : World) : (isAgg t).run P w = .ok b w := by
 unfold ZdX at h
 cases hu : P.underlying t with
 | none => rw [hu] at h; simp at h
 | some d =>
  rw [hu] at h
  simp only [Option.map_some, Option.some.injEq] at h
  subst h
  unfold isAgg
  rw [Sem.run_bind, run_underlying hu]
  cases d <;> rfl

theorem Z6 {P : Program} {t : TypeId} {i : TypeInfo} (h : P.info? t = some i) (w : World) : (typeInfo t).run P w = .ok i w := by
 simp [typeInfo, h]

theorem Zx {P : Program} {t : TypeId} {n : Nat} (h : Z1 P t = some n) (w : World) : (sizeOf t).run P w = .ok n w := by
 unfold Z1 at h
 simp only [Option.map_eq_some_iff] at h
 obtain ⟨i, hi, rfl⟩ := h
 simp [sizeOf, Z6 hi]

theorem ZaJ {P : Program} {t : TypeId} {z : List AVal} (h : ZbD P t = some z) (w : World) (F : Frz) (L : Lay) :
  ∃ zv, (zeroValue t).run P w = .ok zv w ∧ Ze F L z zv.cells.toList ∧ ∀ c ∈ z, c.one = true := by
 unfold ZbD at h
 split at h
 ·rename_i i hi
  split at h
  ·rename_i zv hz
   exact ⟨zv, by simp [zeroValue, Z6 hi, hz], ZhA h, Zmc h⟩
  ·simp at h
 ·simp at h

theorem Ze.mono {F F' : Frz} {L L' : Lay} {cs : List AVal} {ca : List Value} (h : Ze F L cs ca) (hF : F.Le F') (hE : Evo L L') : Ze F' L' cs ca :=
 ⟨h.1, fun i c hc => (h.2 i c hc).mono hF hE⟩

theorem Ze.append {F : Frz} {L : Lay} {xs ys : List AVal} {xa ya : List Value} (h : Ze F L xs xa) (k : Ze F L ys ya) : Ze F L (xs ++ ys) (xa ++ ya) := by
 refine ⟨by simp [h.1, k.1], fun i c hc => ?_⟩
 rcases Nat.lt_or_ge i xs.length with hi | hi
 ·rw [List.getElem?_append_left hi] at hc
  have := h.2 i c hc
  rwa [List.getD_eq_getElem?_getD, List.getElem?_append_left (by rw [h.1]; exact hi), ← List.getD_eq_getElem?_getD]
 ·rw [List.getElem?_append_right hi] at hc
  have := k.2 _ c hc
  rwa [List.getD_eq_getElem?_getD, List.getElem?_append_right (by rw [h.1]; exact hi), h.1, ← List.getD_eq_getElem?_getD]

theorem Ze.take {F : Frz} {L : Lay} {xs : List AVal} {xa : List Value} (h : Ze F L xs xa) (n : Nat) : Ze F L (xs.take n) (xa.take n) := by
 refine ⟨by simp [h.1], fun i c hc => ?_⟩
 rw [List.getElem?_take] at hc
 split at hc
 ·rename_i hi
  rw [List.getD_eq_getElem?_getD, List.getElem?_take, if_pos hi, ← List.getD_eq_getElem?_getD]
  exact h.2 i c hc
 ·simp at hc

theorem Ze.drop {F : Frz} {L : Lay} {xs : List AVal} {xa : List Value} (h : Ze F L xs xa) (n : Nat) : Ze F L (xs.drop n) (xa.drop n) := by
 refine ⟨by simp [h.1], fun i c hc => ?_⟩
 rw [List.getElem?_drop] at hc
 rw [List.getD_eq_getElem?_getD, List.getElem?_drop, ← List.getD_eq_getElem?_getD]
 exact h.2 _ c hc

theorem Ze.nil {F : Frz} {L : Lay} : Ze F L [] [] := ⟨rfl, fun i c h => by simp at h⟩

theorem Ze.replicate {F : Frz} {L : Lay} {xs : List AVal} {xa : List Value} (h : Ze F L xs xa) : ∀ n, Ze F L (List.replicate n xs).flatten (List.replicate n xa).flatten
 | 0 => Ze.nil
 | n + 1 => by
  simp only [List.replicate_succ, List.flatten_cons]
  exact h.append (Ze.replicate h n)

theorem Ze.agg {F : Frz} {L : Lay} {xs : List AVal} {xa : List Value} (h : Ze F L xs xa) : VRel F L (.agg xs) (.agg xa.toArray) :=
 .agg (by simpa using h.1) fun i c hc => by
  have := h.2 i c hc
  simpa [Array.getD_eq_getD_getElem?, List.getD_eq_getElem?_getD] using this

theorem Ze.ofAgg {F : Frz} {L : Lay} {xs : List AVal} {v : Value} (h : VRel F L (.agg xs) v) : ∃ xa, v = .agg xa ∧ Ze F L xs xa.toList := by
 cases h with
 | agg hl hc => exact ⟨_, rfl, by simpa using hl, fun i c hi => by have := hc i c hi; simpa [Array.getD_eq_getD_getElem?, List.getD_eq_getElem?_getD] using this⟩

theorem ZfJ {P : Program} {F : Frz} {L : Lay} {w : World} {t : TypeId} {ag : Bool} {n : Nat} (hag : ZdX P t = some ag) (hsz : Z1 P t = some n) {a : Addr} {cs : List AVal}
  {fv : Nat → Value} (hcell : ∀ j c, cs[j]? = some c → w.cell? (a.add j) = some (fv j)) (hrel : ∀ j c, cs[j]? = some c → VRel F L c (fv j)) {v : AVal} (hv : ZaM ag n cs = some v) :
  ∃ cv, (loadVar t a).run P w = .ok cv w ∧ VRel F L v cv := by
 unfold ZaM at hv
 unfold loadVar
 rw [Sem.run_bind, Zft hag]
 cases ag with
 | true =>
  simp only [if_true] at hv
  split at hv
  ·rename_i hn
   obtain rfl := Option.some.inj hv
   have hld := run_loadCells_list (P := P) w a ((List.range n).map fv) (fun j u hj => by
    simp only [List.getElem?_map] at hj
    rcases Nat.lt_or_ge j n with h | h
    ·rw [List.getElem?_range h] at hj
     simp at hj
     subst hj
     exact hcell j cs[j] (List.getElem?_eq_getElem (by omega))
    ·simp [h] at hj)
   rw [List.length_map, List.length_range] at hld
   refine ⟨.agg ((List.range n).map fv).toArray, ?_, Ze.agg ⟨by simp; omega, fun i c hi => ?_⟩⟩
   ·simp [Zx hsz, hld]
   ·rw [List.getElem?_take] at hi
    split at hi
    ·rename_i hin
     simp [hin]
     exact hrel i c hi
    ·simp at hi
  ·simp at hv
 | false =>
  simp only [Bool.false_eq_true, if_false] at hv
  have h0 : cs[0]? = some v := by rw [← List.head?_eq_getElem?]; exact hv
  have hc := hcell 0 v h0
  refine ⟨fv 0, ?_, hrel 0 v h0⟩
  have ha : a.add 0 = a := rfl
  rw [ha] at hc
  simp [hc]

theorem Inv.readPtr {F : Frz} {L : Lay} {σ : Sto} {w : World} (hI : Inv F L σ w) {o gen off : Nat} {cv : Value} (h : VRel F L (.ptr o gen off) cv) {nl : Bool} {cs : List AVal}
  (hσ : σ[o]? = some (.cells nl cs)) (hg : cs.length = gen) : ∃ b top c elem, cv = .pointer (some ⟨b, off, none⟩) ∧ L o = .live (.blk b top) gen ∧ w.heap[b]? = some (.cells c elem (0, 0)) ∧
   c.size = top ∧ cs.length ≤ top ∧ (∀ c ∈ cs, c.one = true) ∧ (nl = true → cs ≠ []) ∧ ∀ (p : Nat) (x : AVal), cs[p]? = some x → VRel F L x (c.getD p undef) := by
 cases h with
 | ptr h0 h1 h2 h =>
  cases hL : L o with
  | un => exact absurd hL h0
  | dead => have := hI.dd o hL; rw [hσ] at this; simp at this
  | live loc g =>
   obtain ⟨ob, h3, h4⟩ := hI.obj o loc g hL
   rw [hσ] at h3
   obtain rfl := Option.some.inj h3
   obtain rfl : g = gen := h4.1.trans hg
   obtain ⟨b, top, rfl, rfl⟩ := h loc hL
   obtain ⟨h5, h6, h7, h8⟩ := hI.cells hL hσ
   obtain ⟨c, elem, h9, h10, h11, h12⟩ := h8
   exact ⟨b, top, c, elem, rfl, rfl, h9, h10, h11, h6, h7, h12⟩

theorem World.cell_of_heap {w : World} {b : Nat} {c : Array Value} {elem : TypeId} {fr : Nat × Nat} (h : w.heap[b]? = some (.cells c elem fr)) {p : Nat} (hp : p < c.size) :
  w.cell? ⟨b, p, none⟩ = some (c.getD p undef) := by
 simp [World.cell?, h, Array.getD, hp]

theorem Zlh {P : Program} {F : Frz} {L : Lay} {σ : Sto} {w : World} (hI : Inv F L σ w) {t : TypeId} {ag : Bool} {n : Nat} (hag : ZdX P t = some ag) (hsz : Z1 P t = some n)
  {o gen off : Nat} {cv : Value} (h : VRel F L (.ptr o gen off) cv) {nl : Bool} {cs : List AVal} (hσ : σ[o]? = some (.cells nl cs)) (hg : cs.length = gen) {v : AVal}
  (hv : ZaM ag n (cs.drop off) = some v) : ∃ u, (Instr.loadAt t cv).run P w = .ok u w ∧ VRel F L v u := by
 obtain ⟨b, top, c, elem, rfl, hL, hw, hct, hle, hone, hnl, hrel⟩ := hI.readPtr h hσ hg
 obtain ⟨u, h1, h2⟩ := ZfJ (P := P) (F := F) (L := L) (w := w) hag hsz (a := ⟨b, off, none⟩) (cs := cs.drop off) (fv := fun j => c.getD (off + j) undef)
  (fun j x hj => by
   rw [List.getElem?_drop] at hj
   have := (List.getElem?_eq_some_iff.1 hj).1
   rw [Addr.add_plain rfl]
   exact World.cell_of_heap hw (p := off + j) (by omega))
  (fun j x hj => by rw [List.getElem?_drop] at hj; exact hrel _ _ hj) hv
 exact ⟨u, by simp [Instr.loadAt, Instr.sureAddr, h1], h2⟩

theorem Zow {P : Program} {F : Frz} {L : Lay} {σ : Sto} {w : World} (hI : Inv F L σ w) {t : TypeId} {ag : Bool} {n : Nat} (hag : ZdX P t = some ag) (hsz : Z1 P t = some n)
  {cs : List AVal} {cv : Value} (h : VRel F L (.fptr cs) cv) {v : AVal} (hv : ZaM ag n cs = some v) : ∃ u, (Instr.loadAt t cv).run P w = .ok u w ∧ VRel F L v u := by
 cases h with
 | fptr hs hf ho hr =>
  rename_i a fv
  obtain ⟨u, h1, h2⟩ := ZfJ (P := P) (F := F) (L := L) (w := w) hag hsz (a := a) (cs := cs) (fv := fv)
   (fun j x hj => by rw [Addr.add_plain hs]; exact hI.fz _ _ _ (hf j x hj)) (fun j x hj => (hr j x hj).ofNo L) hv
  exact ⟨u, by simp [Instr.loadAt, Instr.sureAddr, h1], h2⟩

def ZT (n k : Nat) : Nat → Prop := fun i => n ≤ i ∧ i < n + k
theorem Zd (n i : Nat) : ¬ ZT n 0 i := by unfold ZT; omega

theorem Inv.fresh {F : Frz} {L : Lay} {σs : Sto} {w w' : World} (hI : Inv F L σs w) {n : Nat} (hun : L n = .un) {cs : List AVal} (hn : σs[n]? = some (.cells false cs))
  (hone : ∀ c ∈ cs, c.one = true) {c : Array Value} {elem : TypeId} (hheap : w'.heap = w.heap.push (.cells c elem (0, 0))) (hos : w'.os = w.os) (htape : w'.tape = w.tape)
  (hout : w'.output = w.output) (hle : cs.length ≤ c.size) (hrel : ∀ (p : Nat) (x : AVal), cs[p]? = some x → VRel F L x (c.getD p undef)) :
  Inv F (Zaa L n (.live (.blk w.heap.size c.size) cs.length)) σs w' ∧ Adv F L w F (Zaa L n (.live (.blk w.heap.size c.size) cs.length)) w' ∧
   ∀ i, Zaa L n (.live (.blk w.heap.size c.size) cs.length) i ≠ .un ↔ L i ≠ .un ∨ ZT n 1 i := by
 have := hI.change (o := n) (loc := .blk w.heap.size c.size) (gen := cs.length) (ob := .cells false cs) (σ' := σs) (w' := w') (Nat.le_refl _) (fun _ _ _ => rfl) hn
  (by rw [hun]; trivial) hos htape hout (by rw [hheap]; simp) (fun b hb => by simp [Loc.block?] at hb; subst hb; exact .inr (Nat.le_refl _))
  (fun k hk _ => by rw [hheap, Array.getElem?_push, if_neg (by omega)])
  ⟨rfl, hone, fun h => by simp at h, c, elem, by rw [hheap]; simp, rfl, hle, hrel⟩
 refine ⟨this.1, this.2, fun i => ?_⟩
 by_cases e : i = n
 ·subst e
  rw [Zk]
  simp [ZT]
 ·rw [ZL _ _ e]
  have : ¬ ZT n 1 i := by unfold ZT; omega
  simp [this]

theorem Zbo {F : Frz} {L : Lay} {cs : List AVal} {ca : Array Value} (h : Ze F L cs ca.toList) {p : Nat} {x : AVal} (hp : cs[p]? = some x) : VRel F L x (ca.getD p undef) := by
 have := h.2 p x hp
 simpa [Array.getD_eq_getD_getElem?, List.getD_eq_getElem?_getD] using this

theorem Zjo {F : Frz} {L : Lay} {σs : Sto} {w w' : World} (hI : Inv F L σs w) {n : Nat} (hun : L n = .un) {cs : List AVal} (hn : σs[n]? = some (.cells false cs))
  (hone : ∀ c ∈ cs, c.one = true) {c : Array Value} {elem : TypeId} (hw' : w' = w.alloc (.cells c elem)) (hrel : Ze F L cs c.toList)
  {r : Result Next} (hr : r = .ok (.value (.pointer (some ⟨w.heap.size, 0, none⟩))) w') : Zaw F L σs w (ZT n 1) r (.ptr n cs.length 0) := by
 obtain ⟨h1, h2, h3⟩ := hI.fresh (w' := w') hun hn hone (c := c) (elem := elem) (by subst hw'; rfl) (by subst hw'; rfl) (by subst hw'; rfl) (by subst hw'; rfl)
  (by have := hrel.1; simp at this; omega) (fun p x hp => Zbo hrel hp)
 refine ⟨_, w', _, hr, ?_, h1, h2, h3⟩
 refine .ptr (by rw [Zk]; simp) ⟨_, rfl⟩ (fun loc g hl => ?_) (fun loc hl => ?_)
 ·rw [Zk] at hl; injection hl with e1 e2; omega
 ·rw [Zk] at hl; injection hl with e1 e2; subst e1; exact ⟨_, _, rfl, rfl⟩

theorem ZeQ {F : Frz} {L : Lay} {σs : Sto} {w w' : World} (hI : Inv F L σs w) {n : Nat} (hun : L n = .un) {cs : List AVal} (hn : σs[n]? = some (.cells false cs))
  (hone : ∀ c ∈ cs, c.one = true) {c : Array Value} {elem : TypeId} (hheap : w'.heap = w.heap.push (.cells c elem (0, 0))) (hos : w'.os = w.os) (htape : w'.tape = w.tape)
  (hout : w'.output = w.output) {len cap k : Nat} (hle : len ≤ cap) (hcap : c.size = cap * k) (hgc : cs.length ≤ cap * k) (hlen : len * k ≤ cs.length)
  (hrel : ∀ (p : Nat) (x : AVal), cs[p]? = some x → VRel F L x (c.getD p undef))
  {r : Result Next} (hr : r = .ok (.value (.slice (some ⟨w.heap.size, 0, none⟩) len cap)) w') : Zaw F L σs w (ZT n 1) r (.ref n cs.length 0 len k) := by
 obtain ⟨h1, h2, h3⟩ := hI.fresh (w' := w') hun hn hone (c := c) (elem := elem) hheap hos htape hout (by omega) hrel
 refine ⟨_, w', _, hr, ?_, h1, h2, h3⟩
 refine .ref (by rw [Zk]; simp) ⟨_, _, _, rfl⟩ (fun loc g hl => ?_) (fun loc hl => ?_)
 ·rw [Zk] at hl; injection hl with e1 e2; omega
 ·rw [Zk] at hl; injection hl with e1 e2; subst e1
  exact ⟨cap, rfl, hle, by omega, by omega, by omega⟩

theorem ZtT {P : Program} {F : Frz} {L : Lay} {σs : Sto} {w : World} (hI : Inv F L σs w) {e : Env} {ρ : Operand → Value} {x : Operand} {y : Opd} (hx : ZR x = some y)
  (hr : Zaf F L e ρ x) (n : Nat) : Zaw F L σs w (ZT n 0) (Sem.run P (pure (Next.value (ρ x))) w) (ev e y) :=
 .still hI (by simp) (hr y hx) (Zd n)

theorem ZpR {P : Program} {F : Frz} {L : Lay} {σs : Sto} {w : World} (hI : Inv F L σs w) {t : TypeId} {z : List AVal} (hz : ZbD P t = some z) {n : Nat} (hun : L n = .un)
  (hn : σs[n]? = some (.cells false z)) : Zaw F L σs w (ZT n 1) (Sem.run P (do pure (Next.value (← Instr.alloc t true (.tuple #[])))) w) (.ptr n z.length 0) := by
 obtain ⟨zv, h1, h2, h3⟩ := ZaJ hz w F L
 exact Zjo hI hun hn h3 (elem := t) rfl h2 (Zv (by simp [Instr.alloc, h1, newVar, newRow]))

theorem ZtU {P : Program} {F : Frz} {L : Lay} {σs : Sto} {w : World} (hI : Inv F L σs w) {t : TypeId} {v : AVal} {cv : Value} {k : Nat} (hv : VRel F L v cv) (hf : v.fits k = true) {n : Nat}
  (hun : L n = .un) (hn : σs[n]? = some (.cells false v.cells)) : Zaw F L σs w (ZT n 1) (Sem.run P (do pure (Next.value (← Instr.box t cv))) w) (.ptr n k 0) := by
 have h2 := hv.cellsRel hf
 have h4 := AVal.len_of_fits hf
 rw [← h4]
 exact Zjo hI hun hn (AVal.one_of_fits hf) (elem := t) rfl h2 (Zv (by simp [Instr.box, newVar, newRow]))

theorem ZcQ {cs new : List AVal} {off : Nat} (h : off + new.length ≤ cs.length) : (Zl cs off new).length = cs.length := by
 simp [Zl]; omega

theorem Zd4 {cs new : List AVal} {off : Nat} (h : off + new.length ≤ cs.length) (p : Nat) :
  (Zl cs off new)[p]? = if p < off then cs[p]? else if p < off + new.length then new[p - off]? else cs[p]? := by
 unfold Zl
 by_cases h1 : p < off
 ·rw [if_pos h1, List.append_assoc, List.getElem?_append_left (by simp; omega), List.getElem?_take, if_pos h1]
 ·rw [if_neg h1, List.append_assoc, List.getElem?_append_right (by simp; omega)]
  have : (cs.take off).length = off := by simp; omega
  rw [this]
  by_cases h2 : p < off + new.length
  ·rw [if_pos h2, List.getElem?_append_left (by omega)]
  ·rw [if_neg h2, List.getElem?_append_right (by omega), List.getElem?_drop]
   congr 1; omega

theorem Zd5 {cs new : List AVal} {off : Nat} (h1 : ∀ c ∈ cs, c.one = true) (h2 : ∀ c ∈ new, c.one = true) : ∀ c ∈ Zl cs off new, c.one = true := by
 intro c hc
 simp only [Zl, List.mem_append] at hc
 rcases hc with (hc | hc) | hc
 ·exact h1 c (List.mem_of_mem_take hc)
 ·exact h2 c hc
 ·exact h1 c (List.mem_of_mem_drop hc)

theorem Zci (l : List (Value × Nat)) (off : Nat) : ∀ (cs : Array Value), (l.foldl (fun cs (c, j) => cs.setIfInBounds (off + j) c) cs).size = cs.size := by
 induction l with
 | nil => intro cs; rfl
 | cons a l ih => intro cs; simp only [List.foldl_cons]; rw [ih]; simp

theorem ZbX (off : Nat) : ∀ (vs : List Value) (k : Nat) (cs : Array Value) (p : Nat),
  ((vs.zipIdx k).foldl (fun cs (c, j) => cs.setIfInBounds (off + j) c) cs)[p]? = if off + k ≤ p ∧ p < off + k + vs.length ∧ p < cs.size then vs[p - (off + k)]? else cs[p]?
 | [], k, cs, p => by simp; intro h1 h2; omega
 | v :: vs, k, cs, p => by
  rw [List.zipIdx_cons, List.foldl_cons, ZbX off vs (k + 1)]
  simp only [Array.size_setIfInBounds, List.length_cons, Array.getElem?_setIfInBounds]
  by_cases h1 : off + (k + 1) ≤ p ∧ p < off + (k + 1) + vs.length ∧ p < cs.size
  ·rw [if_pos h1, if_pos (by omega), show p - (off + k) = (p - (off + (k + 1))) + 1 by omega, List.getElem?_cons_succ]
  ·rw [if_neg h1]
   by_cases h2 : off + k = p
   ·subst h2
    by_cases h3 : off + k < cs.size
    ·rw [if_pos rfl, if_pos h3, if_pos (by omega)]; simp
    ·rw [if_pos rfl, if_neg h3, if_neg (by omega)]; simp; omega
   ·rw [if_neg h2, if_neg (by omega)]

theorem ZpS (vs : Array Value) (off : Nat) (cs : Array Value) :
  vs.zipIdx.foldl (fun cs (x : Value × Nat) => cs.setIfInBounds (off + x.2) x.1) cs = (vs.toList.zipIdx 0).foldl (fun cs (c, j) => cs.setIfInBounds (off + j) c) cs := by
 rw [← Array.foldl_toList]
 simp

theorem Zc9 {F : Frz} {L : Lay} : ∀ (ps : List (Nat × Nat × AVal)) (vs : List (Nat × Value)) (place : Nat → Option (Nat × Nat)) {cells out : List AVal} {ca : Array Value},
  vs.length = ps.length → (∀ (i : Nat) off size v, ps[i]? = some (off, size, v) → ∃ j cv, vs[i]? = some (j, cv) ∧ place j = some (off, size) ∧ VRel F L v cv) →
  Ze F L cells ca.toList → (∀ c ∈ cells, c.one = true) → Zbw cells ps = some out → ∃ oa, Instr.fill place ca vs = some oa ∧ Ze F L out oa.toList ∧ (∀ c ∈ out, c.one = true) ∧ out.length = cells.length
 | [], vs, place, cells, out, ca, hl, _, hr, ho, h => by
  simp [Zbw] at h
  subst h
  obtain rfl : vs = [] := by simpa using hl
  exact ⟨ca, rfl, hr, ho, rfl⟩
 | (off, size, v) :: ps, [], place, cells, out, ca, hl, _, hr, ho, h => by simp at hl
 | (off, size, v) :: ps, (j', cv') :: vs, place, cells, out, ca, hl, hp, hr, ho, h => by
  obtain ⟨j, cv, h1, h2, h3⟩ := hp 0 off size v rfl
  simp at h1
  obtain ⟨rfl, rfl⟩ := h1
  simp only [Zbw] at h
  split at h
  ·rename_i hc
   simp only [Bool.and_eq_true, decide_eq_true_eq] at hc
   obtain ⟨hf, hle⟩ := hc
   have hlen := AVal.len_of_fits hf
   obtain ⟨k1, k2⟩ := h3.cellsRel hf
   have hsz : cv'.cells.size = size := by rw [← hlen, ← k1]; simp
   have hcs : ca.size = cells.length := by have := hr.1; simpa using this
   have hov := ZcQ (cs := cells) (new := v.cells) (off := off) (by omega)
   simp only [Instr.fill, h2]
   rw [if_neg (by simp [hsz]; omega), ZpS]
   have hr' : Ze F L (Zl cells off v.cells) ((cv'.cells.toList.zipIdx 0).foldl (fun cs (c, j) => cs.setIfInBounds (off + j) c) ca).toList := by
    refine ⟨by rw [Array.length_toList, Zci, hov, hcs], fun i c hi => ?_⟩
    rw [Zd4 (by omega)] at hi
    rw [List.getD_eq_getElem?_getD, Array.getElem?_toList, ZbX]
    simp only [Nat.add_zero, Array.length_toList]
    by_cases q1 : i < off
    ·rw [if_pos q1] at hi
     rw [if_neg (by omega), ← Array.getElem?_toList, ← List.getD_eq_getElem?_getD]
     exact hr.2 i c hi
    ·rw [if_neg q1] at hi
     by_cases q2 : i < off + v.cells.length
     ·rw [if_pos q2] at hi
      rw [if_pos (by omega), ← List.getD_eq_getElem?_getD]
      exact k2 _ c hi
     ·rw [if_neg q2] at hi
      rw [if_neg (by omega), ← Array.getElem?_toList, ← List.getD_eq_getElem?_getD]
      exact hr.2 i c hi
   obtain ⟨oa, g1, g2, g3, g4⟩ := Zc9 ps vs place (by simpa using hl) (fun i off size v hi => hp (i + 1) off size v (by simpa using hi)) hr' (Zd5 ho (AVal.one_of_fits hf)) h
   exact ⟨oa, g1, g2, g3, g4.trans hov⟩
  ·simp at h

theorem Zjp {α β : Type} {P : Program} {w : World} (f : α → Sem β) (g : α → β) : ∀ (l : List α), (∀ x ∈ l, (f x).run P w = .ok (g x) w) → (l.mapM f).run P w = .ok (l.map g) w
 | [], _ => by simp
 | a :: l, h => by
  simp only [List.mapM_cons, Sem.run_bind, h a (by simp), Result.andThen_ok, Zjp f g l (fun x hx => h x (by simp [hx]))]
  simp

theorem Zjq {α β : Type} {P : Program} {w : World} (f : α → Sem β) (g : α → β) (l : Array α) (h : ∀ x ∈ l.toList, (f x).run P w = .ok (g x) w) : (l.mapM f).run P w = .ok (l.map g) w := by
 rw [← Array.toArray_toList (xs := l)]
 simp only [List.mapM_toArray, Sem.run_map, Zjp f g l.toList h, Result.andThen_ok, List.map_toArray]

theorem ZpT {P : Program} {F : Frz} {L : Lay} {σs : Sto} {w : World} (hI : Inv F L σs w) {t : TypeId} {z : List AVal} (hz : ZbD P t = some z) {fields : Array Field}
  (hu : P.underlying t = some (.struct fields)) (hall : fields.toList.all (fun (f : Field) => (P.info? f.type).isSome) = true) {parts : Array (Nat × Operand)} {e : Env} {ρ : Operand → Value}
  {ps : List (Nat × Nat × Opd)} (hps : parts.toList.mapM (Zoz P fields) = some ps) (hr : ∀ p ∈ parts.toList, Zaf F L e ρ p.2) {cs : List AVal}
  (hf : Zbw z (ps.map fun (o, s, x) => (o, s, ev e x)) = some cs) (n : Nat) :
  Zaw F L σs w (ZT n 0) (Sem.run P (do pure (Next.value (← Instr.build t (parts.map fun (i, x) => (i, ρ x))))) w) (.agg cs) := by
 obtain ⟨zv, h1, h2, h3⟩ := ZaJ hz w F L
 let place (f : Field) : Nat × Nat := (f.offset, (((P.info? f.type).map fun i => i.size) : Option Nat).getD 0)
 have hplaces : (fields.mapM fun (f : Field) => do pure (f.offset, ← sizeOf f.type)).run P w = .ok (fields.map place) w := by
  refine Zjq _ place fields fun f hf => ?_
  have := List.all_eq_true.1 hall f hf
  obtain ⟨i, hi⟩ := Option.isSome_iff_exists.1 this
  simp [Zx (show Z1 P f.type = some i.size by simp [Z1, hi]), place, hi]
 obtain ⟨m1, m2⟩ := ZC _ hps
 obtain ⟨oa, g1, g2, g3, g4⟩ := Zc9 (F := F) (L := L) (ps.map fun (o, s, x) => (o, s, ev e x)) (parts.toList.map fun (i, x) => (i, ρ x)) ((fields.map place)[·]?) (cells := z) (out := cs) (ca := zv.cells)
  (by simp [m1]) (fun i off size v hi => by
   simp only [List.getElem?_map, Option.map_eq_some_iff] at hi
   obtain ⟨⟨o1, s1, x1⟩, hi1, hi2⟩ := hi
   obtain ⟨⟨j, y⟩, hj, hc⟩ := ZU _ hps hi1
   simp only [Prod.mk.injEq] at hi2
   obtain ⟨rfl, rfl, rfl⟩ := hi2
   unfold Zoz at hc
   split at hc
   ·rename_i f hfj
    split at hc
    ·rename_i sz x hsz hx
     simp only [Option.some.injEq, Prod.mk.injEq] at hc
     obtain ⟨rfl, rfl, rfl⟩ := hc
     refine ⟨j, ρ y, by simp [hj], ?_, hr _ (List.mem_of_getElem? hj) _ hx⟩
     unfold Z1 at hsz
     simp [place, hfj, hsz]
    ·simp at hc
   ·simp at hc) h2 h3 hf
 refine .still hI (Zv (cv := .agg oa) ?_) (by simpa using Ze.agg g2) (Zd n)
 simp only [Instr.build, Sem.run_bind, h1, Result.andThen_ok, run_underlying hu, hplaces, Array.toList_map]
 rw [g1]
 rfl

theorem Zox {P : Program} {F : Frz} {L : Lay} {σs : Sto} {w : World} (hI : Inv F L σs w) {t : TypeId} {z : List AVal} (hz : ZbD P t = some z) {len : Nat} {el : TypeId}
  (hu : P.underlying t = some (.array len el)) {k : Nat} (hk : Z1 P el = some k) {parts : Array (Nat × Operand)} {e : Env} {ρ : Operand → Value}
  {ps : List (Nat × Nat × Opd)} (hps : parts.toList.mapM (Zkx k) = some ps) (hr : ∀ p ∈ parts.toList, Zaf F L e ρ p.2) {cs : List AVal}
  (hf : Zbw z (ps.map fun (o, s, x) => (o, s, ev e x)) = some cs) (n : Nat) :
  Zaw F L σs w (ZT n 0) (Sem.run P (do pure (Next.value (← Instr.build t (parts.map fun (i, x) => (i, ρ x))))) w) (.agg cs) := by
 obtain ⟨zv, h1, h2, h3⟩ := ZaJ hz w F L
 obtain ⟨m1, m2⟩ := ZC _ hps
 obtain ⟨oa, g1, g2, g3, g4⟩ := Zc9 (F := F) (L := L) (ps.map fun (o, s, x) => (o, s, ev e x)) (parts.toList.map fun (i, x) => (i, ρ x)) (fun i => some (i * k, k)) (cells := z) (out := cs) (ca := zv.cells)
  (by simp [m1]) (fun i off size v hi => by
   simp only [List.getElem?_map, Option.map_eq_some_iff] at hi
   obtain ⟨⟨o1, s1, x1⟩, hi1, hi2⟩ := hi
   obtain ⟨⟨j, y⟩, hj, hc⟩ := ZU _ hps hi1
   simp only [Prod.mk.injEq] at hi2
   obtain ⟨rfl, rfl, rfl⟩ := hi2
   simp only [Zkx, Option.map_eq_some_iff, Prod.mk.injEq] at hc
   obtain ⟨x, hx, rfl, rfl, rfl⟩ := hc
   exact ⟨j, ρ y, by simp [hj], rfl, hr _ (List.mem_of_getElem? hj) _ hx⟩) h2 h3 hf
 refine .still hI (Zv (cv := .agg oa) ?_) (by simpa using Ze.agg g2) (Zd n)
 simp only [Instr.build, Sem.run_bind, h1, Result.andThen_ok, run_underlying hu, Zx hk, Array.toList_map]
 rw [g1]
 rfl

theorem ZcR (z : Array Value) (len : Nat) : ((Array.range (len * z.size)).map (z[· % z.size]!)).toList = (List.replicate len z.toList).flatten := by
 induction len with
 | zero => simp
 | succ n ih =>
  have hh : ∀ (m : Nat), (List.range (m * z.size)).map (fun x => z[x % z.size]!) = (List.replicate m z.toList).flatten → (List.range ((m + 1) * z.size)).map (fun x => z[x % z.size]!) = (List.replicate (m + 1) z.toList).flatten := by
   intro m hm
   rw [Nat.succ_mul, List.range_add, List.map_append, hm, List.replicate_succ', List.flatten_append]
   congr 1
   simp only [List.flatten_cons, List.flatten_nil, List.append_nil, List.map_map]
   apply List.ext_getElem?
   intro i
   rcases Nat.lt_or_ge i z.size with h | h
   ·simp [Nat.mul_add_mod_self_right, Nat.mod_eq_of_lt h, h]
   ·simp [h]
  have := hh n (by simpa using ih)
  simpa using this

theorem Zoy {P : Program} {F : Frz} {L : Lay} {σs : Sto} {w : World} (hI : Inv F L σs w) {t el : TypeId} (hu : P.underlying t = some (.slice el)) {k : Nat} (hk : Z1 P el = some k)
  {z : List AVal} (hz : ZbD P el = some z) {len : Nat} (hb : len * k ≤ 2 ^ 24) (hzk : z.length = k) (hk0 : 0 < k) {parts : Array (Nat × Operand)} {e : Env} {ρ : Operand → Value}
  {ps : List (Nat × Opd)} (hps : parts.toList.mapM Zky = some ps) (hr : ∀ p ∈ parts.toList, Zaf F L e ρ p.2) {cs : List AVal}
  (hf : Zbw (List.replicate len z).flatten (ps.map fun (i, x) => (i * k, k, ev e x)) = some cs) {n : Nat} (hun : L n = .un) (hn : σs[n]? = some (.cells false cs)) :
  Zaw F L σs w (ZT n 1) (Sem.run P (do pure (Next.value (← Instr.buildSlice t len (parts.map fun (i, x) => (i, ρ x))))) w) (.ref n cs.length 0 len k) := by
 obtain ⟨zv, h1, h2, h3⟩ := ZaJ hz w F L
 obtain ⟨m1, m2⟩ := ZC _ hps
 have hzs : zv.cells.size = k := by have := h2.1; simp at this; omega
 have hrep := ZcR zv.cells len
 rw [hzs] at hrep
 obtain ⟨oa, g1, g2, g3, g4⟩ := Zc9 (F := F) (L := L) (ps.map fun (i, x) => (i * k, k, ev e x)) (parts.toList.map fun (i, x) => (i, ρ x)) (fun i => some (i * k, k)) (cells := (List.replicate len z).flatten)
  (out := cs) (ca := (Array.range (len * k)).map (zv.cells[· % k]!))
  (by simp [m1]) (fun i off size v hi => by
   simp only [List.getElem?_map, Option.map_eq_some_iff] at hi
   obtain ⟨⟨j1, x1⟩, hi1, hi2⟩ := hi
   obtain ⟨⟨j, y⟩, hj, hc⟩ := ZU _ hps hi1
   simp only [Prod.mk.injEq] at hi2
   obtain ⟨rfl, rfl, rfl⟩ := hi2
   simp only [Zky, Option.map_eq_some_iff, Prod.mk.injEq] at hc
   obtain ⟨x, hx, rfl, rfl⟩ := hc
   exact ⟨j, ρ y, by simp [hj], rfl, hr _ (List.mem_of_getElem? hj) _ hx⟩) (by rw [hrep]; exact h2.replicate len)
   (fun c hc => by
    simp only [List.mem_flatten, List.mem_replicate] at hc
    obtain ⟨l, ⟨_, rfl⟩, hc⟩ := hc
    exact h3 c hc) hf
 have hcl : cs.length = len * k := by rw [g4]; simp [hzk]
 have hos : oa.size = len * k := by have := g2.1; simp at this; omega
 refine ZeQ hI hun hn g3 (w' := w.alloc (.cells oa el)) (c := oa) (elem := el) rfl rfl rfl rfl (cap := len) (Nat.le_refl _) hos (by omega) (by omega) (fun p x hp => Zbo g2 hp) (Zv ?_)
 have hg1 : Instr.fill (fun i => some (i * k, k)) ((Array.range (len * k)).map (zv.cells[· % k]!)) (List.map (fun (x : Nat × Operand) => (x.1, ρ x.2)) parts.toList) = some oa := by simpa using g1
 simp only [Instr.buildSlice, Sem.run_bind, run_underlying hu, Result.andThen_ok, Zx hk, Array.toList_map]
 rw [if_neg (by omega)]
 by_cases h0 : len * k = 0
 ·have hl0 : len = 0 := by
   rcases Nat.mul_eq_zero.1 h0 with h | h
   ·exact h
   ·omega
  subst hl0
  rw [if_pos h0]
  have e0 : Array.range (0 * k) = #[] := by simp
  simp only [e0, List.map_toArray, List.map_nil] at hg1
  simp only [Sem.run_bind, Sem.run_pure, Result.andThen_ok, e0, List.map_toArray, List.map_nil]
  rw [hg1]
  simp [newRow]
 ·rw [if_neg h0]
  simp only [Sem.run_bind, h1, Result.andThen_ok, Sem.run_pure, hzs]
  rw [hg1]
  simp [newRow]

end Go.Abs
/- Each operation of the model does what the abstract one says: the second part. -/
namespace Go.Abs
open Go
variable [Inhabited Glob] [Lps]
section
variable {P : Program} {F : Frz} {L : Lay} {σs : Sto} {w : World}

theorem ZbM {x : AVal} {cx : Value} {i : Nat} (h : VRel F L x cx) (hn : Zbn x = some i) : ∃ (k : IntKind) (z : Int), cx = .int k z ∧ 0 ≤ z ∧ z.toNat = i := by
  unfold Zbn at hn
  split at hn
  · rename_i k z
    split at hn
    · cases h with
      | int => exact ⟨k, z, rfl, by assumption, Option.some.inj hn⟩
    · simp at hn
  · simp at hn

theorem Zrt (hI : Inv F L σs w) {t : TypeId} {ag : Bool} {n : Nat} (hag : ZdX P t = some ag) (hsz : Z1 P t = some n) {x : AVal} {cx : Value} (hx : VRel F L x cx)
    {lv : List Nat} {σ : Sto} (hσ : ∀ i, i < σ.length → σs[i]? = σ[i]?) {e : Env} {y : Opd} (hy : ev e y = x) {v : AVal} {σ' : Sto} (hs : Zc lv (.load ag n y) e σ = some (v, σ')) :
    σ' = σ ∧ Zaw F L σs w (ZT σ.length 0) (Sem.run P (do pure (Next.value (← Instr.loadAt t cx))) w) v := by
  simp only [Zc, hy] at hs
  cases x <;> (try simp only [reduceCtorEq] at hs)
  case fptr cs =>
    simp only [Option.map_eq_some_iff, Prod.mk.injEq] at hs
    obtain ⟨u, h1, rfl, rfl⟩ := hs
    obtain ⟨c, h2, h3⟩ := Zow (P := P) hI hag hsz hx h1
    exact ⟨rfl, .still hI (Zv h2) h3 (Zd _)⟩
  case ptr o gen off =>
    split at hs
    · rename_i nl cs ho
      split at hs
      · rename_i hg
        simp only [Option.map_eq_some_iff, Prod.mk.injEq] at hs
        obtain ⟨u, h1, rfl, rfl⟩ := hs
        have ho' := (hσ o (List.getElem?_eq_some_iff.1 ho).1).trans ho
        obtain ⟨c, h2, h3⟩ := Zlh (P := P) hI hag hsz hx ho' hg h1
        exact ⟨rfl, .still hI (Zv h2) h3 (Zd _)⟩
      · simp at hs
    · simp at hs

theorem ZpM {x : AVal} {cx : Value} (hx : VRel F L x cx) {lv : List Nat} {σ : Sto} {e : Env} {y : Opd} (hy : ev e y = x) {v : AVal} {σ' : Sto}
    (hs : Zc lv (.nilck y) e σ = some (v, σ')) : v = x ∧ ((∃ a, cx = .pointer (some a)) ∨ ∃ f a b, cx = .func (.func f) a b) := by
  simp only [Zc, hy] at hs
  cases x <;> (try simp only [reduceCtorEq] at hs)
  case fptr cs =>
    simp only [Option.some.injEq, Prod.mk.injEq] at hs
    obtain ⟨rfl, rfl⟩ := hs
    cases hx; exact ⟨rfl, .inl ⟨_, rfl⟩⟩
  case ptr o gen off =>
    simp only [Option.some.injEq, Prod.mk.injEq] at hs
    obtain ⟨rfl, rfl⟩ := hs
    cases hx with
    | ptr h0 h1 h2 h => obtain ⟨a, rfl⟩ := h1; exact ⟨rfl, .inl ⟨_, rfl⟩⟩
  case clo f a b =>
    cases f <;> (try simp only [reduceCtorEq] at hs)
    simp only [Option.some.injEq, Prod.mk.injEq] at hs
    obtain ⟨rfl, rfl⟩ := hs
    cases hx; exact ⟨rfl, .inr ⟨_, _, _, rfl⟩⟩

theorem Zel {op : BinOp} {t : TypeId} {x y : AVal} {cx cy : Value} (hx : VRel F L x cx) (hy : VRel F L y cy) {v : AVal} (h : ZcE op x y = some v) :
    ∃ cv, (binOp op t cx cy).run P w = .ok cv w ∧ VRel F L v cv := by
  unfold ZcE at h
  split at h
  · rename_i k a yk b
    cases hx; cases hy
    split at h
    · split at h
      · simp at h
      · rename_i hb
        obtain rfl := Option.some.inj h
        exact ⟨_, by simp [binOp, Op.shift, hb], .int⟩
    · split at h
      · simp at h
      · rename_i hb
        obtain rfl := Option.some.inj h
        exact ⟨_, by simp [binOp, Op.shift, hb], .int⟩
    · rename_i n1 n2
      split at h
      · rename_i hk
        subst hk
        unfold Zbe at h
        cases op <;> simp only [reduceCtorEq] at h n1 n2 <;> first
          | (exact absurd rfl n1)
          | (exact absurd rfl n2)
          | (obtain rfl := Option.some.inj h
             first | refine ⟨_, ?_, .int⟩ | refine ⟨_, ?_, .bool⟩
             first
             | (simp [binOp, Op.intArith]; done)
             | (simp [binOp, Op.intCmp]; done)
             | (simp only [binOp, ne_eq, not_true_eq_false, if_false]; rfl))
          | (split at h
             · simp at h
             · rename_i hb
               obtain rfl := Option.some.inj h
               refine ⟨_, ?_, .int⟩
               simp [binOp, Op.intDiv, hb])
      · simp at h
  · rename_i a b
    cases hx; cases hy
    unfold Zoj at h
    cases op <;> simp only [reduceCtorEq] at h <;> first
      | (obtain rfl := Option.some.inj h
         exact ⟨_, by simp [binOp, Op.stringOp], .bool⟩)
      | (split at h
         · rename_i hb
           obtain rfl := Option.some.inj h
           refine ⟨.string (a ++ b), ?_, .str⟩
           simp only [binOp, Op.stringOp]
           rw [if_neg (by omega)]
           rfl
         · simp at h)
  · simp at h

theorem Zma {op : UnOp} {x : AVal} {cx : Value} (hx : VRel F L x cx) {v : AVal} (h : unA op x = some v) : ∃ cv, (Op.unary op cx).run P w = .ok cv w ∧ VRel F L v cv := by
  unfold unA at h
  split at h
  · cases hx; obtain rfl := Option.some.inj h; exact ⟨_, by simp [Op.unary, Op.intArith], .int⟩
  · cases hx; obtain rfl := Option.some.inj h; exact ⟨_, rfl, .int⟩
  · cases hx; obtain rfl := Option.some.inj h; exact ⟨_, by simp [Op.unary], .bool⟩
  · simp at h

def Zdz (ρ : Operand → Value) (lo : Option Operand) (l d : Nat) : Prop :=
  match lo with
  | none => l = d
  | some x => ∃ (k : IntKind) (z : Int), ρ x = .int k z ∧ 0 ≤ z ∧ z.toNat = l

theorem Zjl {e : Env} {ρ : Operand → Value} {lo : Option Operand} {lo' : Option Opd} (h : ZdA lo = some lo') (hr : ∀ x ∈ lo, Zaf F L e ρ x) {l d : Nat} (hb : Zam e lo' d = some l) :
    Zdz ρ lo l d := by
  cases lo with
  | none => simp [ZdA] at h; subst h; simp [Zam] at hb; exact hb.symm
  | some x =>
    simp only [ZdA, Option.map_eq_some_iff] at h
    obtain ⟨y, hy, rfl⟩ := h
    exact ZbM (hr x rfl y hy) hb

theorem ZcP {lo : Option Operand} {lo' : Option Opd} (h : ZdA lo = some lo') : lo = none ↔ lo' = none := by
  cases lo <;> simp [ZdA] at h
  · subst h; simp
  · obtain ⟨y, _, rfl⟩ := h; simp

theorem ZaD {k : IntKind} {z : Int} {y : Nat} {code : BoundsCode} (h0 : 0 ≤ z) (h1 : z.toNat ≤ y) : (Instr.sliceBound (.int k z) y code).run P w = .ok z.toNat w := by
  have : 0 ≤ z ∧ z ≤ y := ⟨h0, by omega⟩
  simp [Instr.sliceBound, asIntOf, this]

theorem Zgz {ρ : Operand → Value} {lo hi : Option Operand} {isS : Bool} {len cap l h : Nat} (hl : Zdz ρ lo l 0) (hh : Zdz ρ hi h len) (h1 : l ≤ h) (h2 : h ≤ cap) :
    (Instr.sliceBounds isS len cap (lo.map ρ) (hi.map ρ) none).run P w = .ok (l, h, cap) w := by
  unfold Instr.sliceBounds
  cases hi with
  | none =>
    simp only [Zdz] at hh
    subst hh
    cases lo with
    | none => simp only [Zdz] at hl; subst hl; simp
    | some x =>
      obtain ⟨k, z, e, h0, rfl⟩ := hl
      simp [e, ZaD h0 h1]
  | some y =>
    obtain ⟨k', z', e', h0', rfl⟩ := hh
    cases lo with
    | none => simp only [Zdz] at hl; subst hl; simp [e', ZaD h0' h2]
    | some x =>
      obtain ⟨k, z, e, h0, rfl⟩ := hl
      simp [e, e', ZaD h0 h1, ZaD h0' h2]

theorem Zjm {ρ : Operand → Value} {lo : Option Operand} {hi mx : Operand} {len cap l h m : Nat} (hl : Zdz ρ lo l 0) (hh : Zdz ρ (some hi) h len) (hm : Zdz ρ (some mx) m cap)
    (h1 : l ≤ h) (h2 : h ≤ m) (h3 : m ≤ cap) : (Instr.sliceBounds true len cap (lo.map ρ) (some (ρ hi)) (some (ρ mx))).run P w = .ok (l, h, m) w := by
  unfold Instr.sliceBounds
  obtain ⟨k', z', e', h0', rfl⟩ := hh
  obtain ⟨k2, z2, e2, h02, rfl⟩ := hm
  cases lo with
  | none => simp only [Zdz] at hl; subst hl; simp [e', e2, ZaD h0' h2, ZaD h02 h3]
  | some x =>
    obtain ⟨k, z, e, h0, rfl⟩ := hl
    simp [e, e', e2, ZaD h0 h1, ZaD h0' h2, ZaD h02 h3]

theorem ZaS {t el : TypeId} {k : Nat} (hu : P.underlying t = some (.slice el)) (hk : Z1 P el = some k) {a : Option Addr} {len cap l h m : Nat} {lo hi mx : Option Value}
    (hb : (Instr.sliceBounds true len cap lo hi mx).run P w = .ok (l, h, m) w) :
    (Instr.sliceAt t (.slice a len cap) lo hi mx).run P w = .ok (.slice (if m = l then a else a.map (·.add (l * k))) (h - l) (m - l)) w := by
  simp [Instr.sliceAt, run_underlying hu, Instr.slice, hb, Zx hk]

theorem ZeO (xs ys : List AVal) : ZV (xs ++ ys) = ZV xs ++ ZV ys := by simp [ZV]

theorem ZeP {xs : List AVal} {k : Nat} (h : ∀ x ∈ xs, x.cells.length = k) : (ZV xs).length = xs.length * k := by
  induction xs with
  | nil => simp [ZV]
  | cons x xs ih =>
    have := ih fun y hy => h y (by simp [hy])
    simp only [ZV, List.flatMap_cons, List.length_append, List.length_cons] at this ⊢
    rw [this, h x (by simp), Nat.succ_mul]; omega

theorem VRel.sub {L' : Lay} {k : Nat} {xs : List AVal} {a : Addr} {len cap : Nat} (h : VRel F L (.list k xs) (.slice (some a) len cap)) {l hh m : Nat}
    (h1 : l ≤ hh) (h2 : hh ≤ xs.length) (hm : hh ≤ m) {a' : Addr} (ha : l < hh → a'.spot = none) (hb : l < hh → a'.block = a.block ∧ a'.off = a.off + l * k) :
    VRel F L' (.list k ((xs.take hh).drop l)) (.slice (some a') (hh - l) (m - l)) := by
  cases h with
  | list hs hc hk hf ho hv =>
    rename_i fv
    have hlen : ((xs.take hh).drop l).length = hh - l := by simp; omega
    have hsub : ∀ p c, (ZV ((xs.take hh).drop l))[p]? = some c → (ZV xs)[l * k + p]? = some c ∧ l < hh := by
      intro p c hp
      have e1 : xs = xs.take l ++ ((xs.take hh).drop l ++ xs.drop hh) := by
        conv => lhs; rw [← List.take_append_drop hh xs]
        rw [← List.append_assoc]
        congr 1
        conv => lhs; rw [← List.take_append_drop l (xs.take hh)]
        rw [List.take_take, Nat.min_eq_left h1]
      have hl : (ZV (xs.take l)).length = l * k := by
        rw [ZeP fun x hx => hk x (List.mem_of_mem_take hx), List.length_take, Nat.min_eq_left (by omega)]
      have hp' := (List.getElem?_eq_some_iff.1 hp).1
      refine ⟨?_, ?_⟩
      · rw [e1, ZeO, ZeO, List.getElem?_append_right (by omega), hl, Nat.add_sub_cancel_left, List.getElem?_append_left hp']
        exact hp
      · rcases Nat.lt_or_ge l hh with h | h
        · exact h
        · have : (xs.take hh).drop l = [] := List.drop_eq_nil_of_le (by simp; omega)
          rw [this] at hp'; simp [ZV] at hp'
    have := VRel.list (F := F) (L := L') (xs := (xs.take hh).drop l) (a := a') (cap := m - l) (k := k) (fv := fun p => fv (l * k + p)) (fun hne => ha (by
        rcases Nat.lt_or_ge l hh with h | h
        · exact h
        · exact absurd (List.drop_eq_nil_of_le (by simp; omega)) hne)) (by omega)
      (fun x hx => hk x (List.mem_of_mem_take (List.mem_of_mem_drop hx)))
      (fun p c hp => by
        obtain ⟨h3, h4⟩ := hsub p c hp
        obtain ⟨h5, h6⟩ := hb h4
        have := hf _ c h3
        rw [h5, h6, Nat.add_assoc]; exact this)
      (fun p c hp => ho _ c (hsub p c hp).1) (fun p c hp => hv _ c (hsub p c hp).1)
    rwa [hlen] at this

theorem VRel.listInv {k : Nat} {xs : List AVal} {cx : Value} (h : VRel F L (.list k xs) cx) : ∃ a cap, cx = .slice (some a) xs.length cap ∧ (xs ≠ [] → a.spot = none) ∧ xs.length ≤ cap ∧ ∀ x ∈ xs, x.cells.length = k := by
  cases h with
  | list hs hc hk => exact ⟨_, _, rfl, hs, hc, hk⟩

theorem VRel.empty {k : Nat} {a : Addr} {cap : Nat} : VRel F L (.list k []) (.slice (some a) 0 cap) :=
  .list (fv := fun _ => undef) (fun h => absurd rfl h) (Nat.zero_le _) (fun x hx => by simp at hx) (fun p c h => by simp [ZV] at h) (fun p c h => by simp [ZV] at h) (fun p c h => by simp [ZV] at h)

theorem Inv.readRef (hI : Inv F L σs w) {o gen off len k : Nat} {cv : Value} (h : VRel F L (.ref o gen off len k) cv) {nl : Bool} {cs : List AVal}
    (hσ : σs[o]? = some (.cells nl cs)) (hg : cs.length = gen) : (nl = true ∧ cs = [] ∧ len = 0 ∧ off = 0 ∧ cv = .slice none 0 0 ∧ L o = .live .nil gen) ∨
      ∃ b top c elem cap, cv = .slice (some ⟨b, off, none⟩) len cap ∧ L o = .live (.blk b top) gen ∧ w.heap[b]? = some (.cells c elem (0, 0)) ∧ len ≤ cap ∧ off + cap * k ≤ top ∧ gen ≤ off + cap * k ∧
      off + len * k ≤ gen ∧ c.size = top ∧ cs.length ≤ top ∧ (∀ c ∈ cs, c.one = true) ∧ (nl = true → cs ≠ []) ∧ ∀ (p : Nat) (x : AVal), cs[p]? = some x → VRel F L x (c.getD p undef) := by
  cases h with
  | ref h0 h1 h2 h =>
    cases hL : L o with
    | un => exact absurd hL h0
    | dead => have := hI.dd o hL; rw [hσ] at this; simp at this
    | live loc g =>
      obtain ⟨ob, h3, h4⟩ := hI.obj o loc g hL
      rw [hσ] at h3
      obtain rfl := Option.some.inj h3
      obtain rfl : g = gen := h4.1.trans hg
      have hR := h loc hL
      cases loc with
      | mp r => exact hR.elim
      | nil =>
        obtain ⟨_, _, rfl, rfl⟩ := h4
        obtain ⟨rfl, rfl, rfl⟩ := hR
        exact .inl ⟨rfl, rfl, rfl, rfl, rfl, rfl⟩
      | blk b top =>
        obtain ⟨cap, rfl, h5, h6, h7, h8⟩ := hR
        obtain ⟨h9, h10, h11, c, elem, h12, h13, h14, h15⟩ := hI.cells hL hσ
        exact .inr ⟨b, top, c, elem, cap, rfl, rfl, h12, h5, h6, h7, h8, h13, h14, h10, h11, h15⟩

theorem ZpN (hI : Inv F L σs w) {t el : TypeId} {k : Nat} (hu : P.underlying t = some (.slice el)) (hk : Z1 P el = some k) {x : AVal} {cx : Value} (hx : VRel F L x cx)
    {lv : List Nat} {σ : Sto} (hσ : ∀ i, i < σ.length → σs[i]? = σ[i]?) {e : Env} {y : Opd} (hy : ev e y = x) {ρ : Operand → Value}
    {lo hi mx : Option Operand} {lo' hi' mx' : Option Opd} (hlo : ZdA lo = some lo') (hhi : ZdA hi = some hi') (hmx : ZdA mx = some mx') (hmh : (mx'.isSome && hi'.isNone) = false)
    (rlo : ∀ x ∈ lo, Zaf F L e ρ x) (rhi : ∀ x ∈ hi, Zaf F L e ρ x) (rmx : ∀ x ∈ mx, Zaf F L e ρ x)
    {v : AVal} {σ' : Sto} (hs : Zc lv (.slice k y lo' hi' mx') e σ = some (v, σ')) :
    σ' = σ ∧ Zaw F L σs w (ZT σ.length 0) (Sem.run P (do pure (Next.value (← Instr.sliceAt t cx (lo.map ρ) (hi.map ρ) (mx.map ρ)))) w) v := by
  -- the bounds, as the model reckons them
  have bnds : ∀ {len cap l h m d1 d2 : Nat}, Zam e lo' 0 = some l → Zam e hi' d1 = some h → Zam e mx' d2 = some m → d1 = len → l ≤ h → (mx' = none → h ≤ cap) → (mx'.isSome → h ≤ m ∧ m ≤ cap) →
      (Instr.sliceBounds true len cap (lo.map ρ) (hi.map ρ) (mx.map ρ)).run P w = .ok (l, h, if mx'.isSome then m else cap) w := by
    intro len cap l h m d1 d2 h1 h2 h3 hd h4 h5 h6
    subst hd
    have b1 := Zjl (F := F) (L := L) hlo rlo h1
    have b2 := Zjl (F := F) (L := L) hhi rhi h2
    cases hm : mx with
    | none =>
      obtain rfl : mx' = none := (ZcP hmx).1 hm
      simp only [Option.map_none, Option.isSome_none, Bool.false_eq_true, if_false]
      exact Zgz b1 b2 h4 (h5 rfl)
    | some mm =>
      have hms : mx'.isSome = true := by
        cases mx' with
        | none => exact absurd ((ZcP hmx).2 rfl) (by simp [hm])
        | some _ => rfl
      have b3 := Zjl (F := F) (L := L) hmx rmx h3
      rw [hm] at b3
      obtain ⟨h7, h8⟩ := h6 hms
      rw [if_pos hms]
      cases hh : hi with
      | none =>
        obtain rfl : hi' = none := (ZcP hhi).1 hh
        simp [hms] at hmh
      | some hv =>
        rw [hh] at b2
        have b2' : Zdz ρ (some hv) h cap := b2
        exact Zjm b1 b2' b3 h4 h7 h8
  simp only [Zc, hy] at hs
  cases x <;> (try simp only [reduceCtorEq] at hs)
  case nils =>
    cases hx
    split at hs
    · rename_i hc
      obtain ⟨h1, h2, h3⟩ := hc
      simp only [Option.some.injEq, Prod.mk.injEq] at hs
      obtain ⟨rfl, rfl⟩ := hs
      have := bnds (len := 0) (cap := 0) h1 h2 h3 rfl (Nat.le_refl _) (fun _ => Nat.le_refl _) (fun _ => ⟨Nat.le_refl _, Nat.le_refl _⟩)
      refine ⟨rfl, .still hI (Zv (ZaS hu hk this)) ?_ (Zd _)⟩
      simp; exact .nils
    · simp at hs
  case list k' xs =>
    obtain ⟨a, cap, rfl, hsp, hcap, hk0⟩ := hx.listInv
    split at hs
    · rename_i l h m h1 h2 h3
      split at hs
      · rename_i hc
        obtain ⟨c1, c2, c3, rfl⟩ := hc
        have := bnds (len := xs.length) (cap := cap) h1 h2 h3 rfl c1 (fun _ => by omega) (fun _ => ⟨c2, by omega⟩)
        split at hs
        · rename_i hz
          obtain ⟨rfl, hms⟩ := hz
          simp only [Option.some.injEq, Prod.mk.injEq] at hs
          obtain ⟨rfl, rfl⟩ := hs
          refine ⟨rfl, .still hI (Zv (ZaS hu hk this)) ?_ (Zd _)⟩
          obtain rfl : h = 0 := by omega
          obtain rfl : l = 0 := by omega
          simp [hms]; exact .emp
        · simp only [Option.some.injEq, Prod.mk.injEq] at hs
          obtain ⟨rfl, rfl⟩ := hs
          refine ⟨rfl, .still hI (Zv (ZaS hu hk this)) ?_ (Zd _)⟩
          generalize hM' : (if mx'.isSome then m else cap) = M
          have hM : h ≤ M := by rw [← hM']; split <;> omega
          have hne : l < h → a.spot = none := fun hlt => hsp (fun he => by subst he; simp at c2 c3; omega)
          split
          · exact hx.sub c1 (by omega) hM hne (fun h => by omega)
          · exact hx.sub c1 (by omega) hM (a' := a.add (l * k)) (fun hlt => by rw [Addr.add_plain (hne hlt)]) (fun hlt => by rw [Addr.add_plain (hne hlt)]; exact ⟨rfl, rfl⟩)
      · simp at hs
    · simp at hs
  case ref o gen off len k' =>
    split at hs
    · rename_i nl cs ho
      have ho' := (hσ o (List.getElem?_eq_some_iff.1 ho).1).trans ho
      split at hs
      · rename_i hc
        obtain ⟨hg, rfl, hk0⟩ := hc
        split at hs
        · rename_i hne
          simp only [Bool.and_eq_true, List.isEmpty_iff] at hne
          obtain ⟨rfl, rfl⟩ := hne
          rcases hI.readRef hx ho' hg with ⟨_, _, rfl, rfl, rfl, hL⟩ | ⟨b, top, c, elem, cap, _, _, _, _, _, _, _, _, _, _, hn, _⟩
          · split at hs
            · rename_i hb
              obtain ⟨h1, h2, h3⟩ := hb
              simp only [Option.some.injEq, Prod.mk.injEq] at hs
              obtain ⟨rfl, rfl⟩ := hs
              have := bnds (len := 0) (cap := 0) h1 h2 h3 rfl (Nat.le_refl _) (fun _ => Nat.le_refl _) (fun _ => ⟨Nat.le_refl _, Nat.le_refl _⟩)
              refine ⟨rfl, .still hI (Zv (ZaS hu hk this)) ?_ (Zd _)⟩
              simp; exact .nils
            · simp at hs
          · exact absurd rfl (hn rfl)
        · rename_i hne
          rcases hI.readRef hx ho' hg with ⟨rfl, rfl, _⟩ | ⟨b, top, c, elem, cap, rfl, hL, hw, hlc, htop, hgc, hlen, hct, hcs, hone, hn, hrel⟩
          · simp at hne
          · have hcapk : ∀ h, off + h * k ≤ gen → h ≤ cap := by
              intro h hh
              have : h * k ≤ cap * k := by omega
              exact Nat.le_of_mul_le_mul_right this hk0
            split at hs
            · split at hs
              · rename_i l h h1 h2
                split at hs
                · rename_i hb
                  obtain ⟨c1, c2⟩ := hb
                  have := bnds (len := len) (cap := cap) (m := 0) (d2 := 0) h1 h2 rfl rfl c1 (fun _ => hcapk h c2) (fun h => by simp at h)
                  simp only [Option.isSome_none, Bool.false_eq_true, if_false] at this
                  split at hs
                  · rename_i hend
                    simp only [Option.some.injEq, Prod.mk.injEq] at hs
                    obtain ⟨rfl, rfl⟩ := hs
                    refine ⟨rfl, .still hI (Zv (ZaS hu hk this)) ?_ (Zd _)⟩
                    have hh : h = l := by
                      have : h * k ≤ l * k := by omega
                      have := Nat.le_of_mul_le_mul_right this hk0
                      omega
                    subst hh
                    rw [Nat.sub_self]
                    split
                    · exact .empty
                    · exact .empty
                  · rename_i hend
                    simp only [Option.some.injEq, Prod.mk.injEq] at hs
                    obtain ⟨rfl, rfl⟩ := hs
                    refine ⟨rfl, .still hI (Zv (ZaS hu hk this)) ?_ (Zd _)⟩
                    have hlk : l * k ≤ h * k := Nat.mul_le_mul_right k c1
                    have hne' : cap ≠ l := by
                      rintro rfl
                      omega
                    rw [if_neg hne']
                    have hsub1 : (h - l) * k = h * k - l * k := Nat.sub_mul h l k
                    have hsub2 : (cap - l) * k = cap * k - l * k := Nat.sub_mul cap l k
                    refine .ref (by rw [hL]; simp) ⟨_, _, _, rfl⟩ (fun loc g hl => ?_) (fun loc hl => ?_)
                    · rw [hL] at hl; injection hl with e1 e2; omega
                    · rw [hL] at hl; injection hl with e1 e2; subst e1
                      have := hcapk h c2
                      exact ⟨cap - l, by simp [Addr.add_plain], by omega, by omega, by omega, by omega⟩
                · simp at hs
              · simp at hs
            · rename_i mo
              split at hs
              · rename_i l h m h1 h2 h3
                split at hs
                · rename_i hb
                  obtain ⟨c1, c2, c3⟩ := hb
                  have := bnds (len := len) (cap := cap) h1 h2 h3 rfl c1 (fun h => by simp at h) (fun _ => ⟨c2, hcapk m c3⟩)
                  simp only [Option.isSome_some, if_true] at this
                  simp only [Option.some.injEq, Prod.mk.injEq] at hs
                  obtain ⟨rfl, rfl⟩ := hs
                  refine ⟨rfl, .still hI (Zv (ZaS hu hk this)) ?_ (Zd _)⟩
                  split
                  · rename_i hm0
                    subst hm0
                    obtain rfl : h = 0 := by omega
                    obtain rfl : l = 0 := by omega
                    exact .emp
                  · exact .und
                · simp at hs
              · simp at hs
      · simp at hs
    · simp at hs

theorem Zlg {e : Env} {ρ : Operand → Value} {lo hi : Option Operand} {lo' hi' : Option Opd} (hlo : ZdA lo = some lo') (hhi : ZdA hi = some hi')
    (rlo : ∀ x ∈ lo, Zaf F L e ρ x) (rhi : ∀ x ∈ hi, Zaf F L e ρ x) {isS : Bool} {len cap l h : Nat} (h1 : Zam e lo' 0 = some l) (h2 : Zam e hi' len = some h) (h3 : l ≤ h) (h4 : h ≤ cap) :
    (Instr.sliceBounds isS len cap (lo.map ρ) (hi.map ρ) none).run P w = .ok (l, h, cap) w :=
  Zgz (Zjl (F := F) (L := L) hlo rlo h1) (Zjl (F := F) (L := L) hhi rhi h2) h3 h4

theorem ZpO (hI : Inv F L σs w) {t : TypeId} (hu : P.underlying t = some .string) {x : AVal} {cx : Value} (hx : VRel F L x cx)
    {lv : List Nat} {σ : Sto} {e : Env} {y : Opd} (hy : ev e y = x) {ρ : Operand → Value}
    {lo hi : Option Operand} {lo' hi' : Option Opd} (hlo : ZdA lo = some lo') (hhi : ZdA hi = some hi')
    (rlo : ∀ x ∈ lo, Zaf F L e ρ x) (rhi : ∀ x ∈ hi, Zaf F L e ρ x)
    {v : AVal} {σ' : Sto} (hs : Zc lv (.slstr y lo' hi') e σ = some (v, σ')) :
    σ' = σ ∧ Zaw F L σs w (ZT σ.length 0) (Sem.run P (do pure (Next.value (← Instr.sliceAt t cx (lo.map ρ) (hi.map ρ) none))) w) v := by
  simp only [Zc, hy] at hs
  cases x <;> (try simp only [reduceCtorEq] at hs)
  case str s =>
    cases hx
    split at hs
    · rename_i l h h1 h2
      split at hs
      · rename_i hc
        simp only [Option.some.injEq, Prod.mk.injEq] at hs
        obtain ⟨rfl, rfl⟩ := hs
        have := Zlg (P := P) (w := w) (isS := false) hlo hhi rlo rhi h1 h2 hc.1 hc.2
        exact ⟨rfl, .still (cv := .string (s.extract l h)) hI (Zv (by simp [Instr.sliceAt, run_underlying hu, Instr.slice, this])) .str (Zd _)⟩
      · simp at hs
    · simp at hs

theorem Zmb {k : Nat} (hk : 0 < k) {n : Nat} {cs : List AVal} (h : n * k ≤ cs.length) : ZY k n cs = ZY k n (cs.take (n * k)) := by
  induction n generalizing cs with
  | zero => rfl
  | succ n ih =>
    have h' : n * k + k ≤ cs.length := by rw [← Nat.succ_mul]; exact h
    rw [ZY, ZY, ih (by simp; omega), Nat.succ_mul]
    congr 1
    · split
      · cases cs with
        | nil => simp
        | cons c cs => rename_i e; subst e; simp
      · rw [List.take_take, Nat.min_eq_left (by omega)]
    · congr 1
      rw [List.drop_take]
      congr 1; omega

theorem ZpP (hI : Inv F L σs w) {t el : TypeId} {n k : Nat} (hu : P.underlying t = some (.array n el)) (hk : Z1 P el = some k) {x : AVal} {cx : Value} (hx : VRel F L x cx)
    {lv : List Nat} {σ : Sto} (hσ : ∀ i, i < σ.length → σs[i]? = σ[i]?) {e : Env} {y : Opd} (hy : ev e y = x) {ρ : Operand → Value}
    {lo hi : Option Operand} {lo' hi' : Option Opd} (hlo : ZdA lo = some lo') (hhi : ZdA hi = some hi')
    (rlo : ∀ x ∈ lo, Zaf F L e ρ x) (rhi : ∀ x ∈ hi, Zaf F L e ρ x)
    {v : AVal} {σ' : Sto} (hs : Zc lv (.slarr n k y lo' hi') e σ = some (v, σ')) :
    σ' = σ ∧ Zaw F L σs w (ZT σ.length 0) (Sem.run P (do pure (Next.value (← Instr.sliceAt t cx (lo.map ρ) (hi.map ρ) none))) w) v := by
  have hrun : ∀ {a : Addr} {l h : Nat}, Zam e lo' 0 = some l → Zam e hi' n = some h → l ≤ h → h ≤ n →
      (Instr.sliceAt t (.pointer (some a)) (lo.map ρ) (hi.map ρ) none).run P w = .ok (.slice (some (if n = l then a else a.add (l * k))) (h - l) (n - l)) w := by
    intro a l h h1 h2 h3 h4
    have := Zlg (P := P) (w := w) (isS := false) hlo hhi rlo rhi h1 h2 h3 h4
    simp [Instr.sliceAt, run_underlying hu, Instr.sureAddr, this, Zx hk]
  simp only [Zc, hy] at hs
  split at hs
  · rename_i o gen off l h h1 h2
    split at hs
    · rename_i cs ho
      have ho' := (hσ o (List.getElem?_eq_some_iff.1 ho).1).trans ho
      split at hs
      · rename_i hc
        obtain ⟨hg, c1, c2, c3, hk0⟩ := hc
        obtain ⟨b, top, c, elem, rfl, hL, hw, hct, hcs, hone, hn, hrel⟩ := hI.readPtr hx ho' hg
        split at hs
        · rename_i hln
          simp only [Option.some.injEq, Prod.mk.injEq] at hs
          obtain ⟨rfl, rfl⟩ := hs
          refine ⟨rfl, .still hI (Zv (hrun h1 h2 c1 c2)) ?_ (Zd _)⟩
          subst hln
          obtain rfl : h = l := by omega
          simp; exact .empty
        · rename_i hln
          simp only [Option.some.injEq, Prod.mk.injEq] at hs
          obtain ⟨rfl, rfl⟩ := hs
          refine ⟨rfl, .still hI (Zv (hrun h1 h2 c1 c2)) ?_ (Zd _)⟩
          rw [if_neg (Ne.symm hln), Addr.add_plain rfl]
          have e1 : (n - l) * k = n * k - l * k := Nat.sub_mul n l k
          have e2 : (h - l) * k = h * k - l * k := Nat.sub_mul h l k
          have e3 : l * k ≤ n * k := Nat.mul_le_mul_right k (by omega)
          have e4 : h * k ≤ n * k := Nat.mul_le_mul_right k c2
          refine .ref (by rw [hL]; simp) ⟨_, _, _, rfl⟩ (fun loc g hl => ?_) (fun loc hl => ?_)
          · rw [hL] at hl; injection hl with e1 e2; omega
          · rw [hL] at hl; injection hl with e5 e6; subst e5
            exact ⟨n - l, rfl, by omega, by omega, by omega, by omega⟩
      · simp at hs
    · simp at hs
  · rename_i cs l h h1 h2
    split at hs
    · rename_i hc
      obtain ⟨c1, c2, c3, hk0⟩ := hc
      simp only [Option.some.injEq, Prod.mk.injEq] at hs
      obtain ⟨rfl, rfl⟩ := hs
      cases hx with
      | fptr hsp hf ho hr =>
        rename_i a fv
        refine ⟨rfl, .still hI (Zv (hrun h1 h2 c1 c2)) ?_ (Zd _)⟩
        have e4 : h * k ≤ n * k := Nat.mul_le_mul_right k c2
        have e2 : (h - l) * k = h * k - l * k := Nat.sub_mul h l k
        have e5 : l * k ≤ h * k := Nat.mul_le_mul_right k c1
        have hl' : (h - l) * k ≤ (cs.drop (l * k)).length := by rw [List.length_drop]; omega
        have hone : ∀ c ∈ cs, c.one = true := fun c hc => by obtain ⟨i, hi⟩ := List.getElem?_of_mem hc; exact ho i c hi
        have hone' : ∀ c ∈ (cs.drop (l * k)).take ((h - l) * k), c.one = true := fun c hc => hone c (List.mem_of_mem_drop (List.mem_of_mem_take hc))
        have hll : ((cs.drop (l * k)).take ((h - l) * k)).length = (h - l) * k := by rw [List.length_take]; omega
        rw [Zmb hk0 hl']
        have hfl := Zbf k hk0 (h - l) _ hll hone'
        have hget : ∀ p c, (ZV (ZY k (h - l) ((cs.drop (l * k)).take ((h - l) * k))))[p]? = some c → cs[l * k + p]? = some c ∧ l < h := by
          intro p c hp
          rw [hfl, List.getElem?_take] at hp
          split at hp
          · rename_i hlt
            rw [List.getElem?_drop] at hp
            refine ⟨hp, ?_⟩
            rcases Nat.lt_or_ge l h with h' | h'
            · exact h'
            · rw [Nat.sub_eq_zero_of_le h'] at hlt; simp at hlt
          · simp at hp
        have := VRel.list (F := F) (L := L) (xs := ZY k (h - l) ((cs.drop (l * k)).take ((h - l) * k))) (a := if n = l then a else a.add (l * k)) (cap := n - l) (k := k) (fv := fun p => fv (l * k + p))
          (fun _ => by split; · exact hsp
                       · rw [Addr.add_plain hsp]) (by rw [Z0]; omega) (ZaT k hk0 _ _ hll hone')
          (fun p c hp => by
            obtain ⟨h3, h4⟩ := hget p c hp
            rw [if_neg (by omega), Addr.add_plain hsp]
            have := hf _ c h3
            simp only [Nat.add_assoc]; exact this)
          (fun p c hp => ho _ c (hget p c hp).1) (fun p c hp => hr _ c (hget p c hp).1)
        rwa [Z0] at this
    · simp at hs
  · simp at hs

theorem VRel.fptrDrop {cs : List AVal} {a : Addr} (h : VRel F L (.fptr cs) (.pointer (some a))) (n : Nat) : VRel F L (.fptr (cs.drop n)) (.pointer (some (a.add n))) := by
  cases h with
  | fptr hs hf ho hr =>
    rename_i fv
    rw [Addr.add_plain hs]
    exact .fptr (fv := fun p => fv (n + p)) rfl (fun p c hp => by rw [List.getElem?_drop] at hp; have := hf _ c hp; simp only [Nat.add_assoc]; exact this)
      (fun p c hp => by rw [List.getElem?_drop] at hp; exact ho _ c hp) (fun p c hp => by rw [List.getElem?_drop] at hp; exact hr _ c hp)

theorem VRel.ptrAdd {o gen off : Nat} {cv : Value} (h : VRel F L (.ptr o gen off) cv) (n : Nat) : ∃ a, cv = .pointer (some a) ∧ VRel F L (.ptr o gen (off + n)) (.pointer (some (a.add n))) := by
  cases h with
  | ptr h0 h1 h2 h =>
    obtain ⟨a, rfl⟩ := h1
    refine ⟨a, rfl, .ptr h0 ⟨_, rfl⟩ h2 fun loc hl => ?_⟩
    obtain ⟨b, top, hb, e⟩ := h loc hl
    injection e with e; injection e with e; subst e
    exact ⟨b, top, hb, by rw [Addr.add_plain rfl]⟩

theorem ZpQ (hI : Inv F L σs w) {t : TypeId} {fields : Array Field} (hu : P.underlying t = some (.struct fields)) {i : Nat} {fd : Field} (hfd : fields[i]? = some fd) {n : Nat} (hn : Z1 P fd.type = some n)
    (hn0 : n ≠ 0) {x : AVal} {cx : Value} (hx : VRel F L x cx) {lv : List Nat} {σ : Sto} {e : Env} {y : Opd} (hy : ev e y = x) {v : AVal} {σ' : Sto} (hs : Zc lv (.faddr fd.offset y) e σ = some (v, σ')) :
    σ' = σ ∧ Zaw F L σs w (ZT σ.length 0) (Sem.run P (do pure (Next.value (← Instr.fieldAt t cx i))) w) v := by
  have hrun : ∀ (a : Addr), (Instr.fieldAt t (.pointer (some a)) i).run P w = .ok (.pointer (some (a.add fd.offset))) w := by
    intro a
    simp [Instr.fieldAt, run_underlying hu, hfd, Instr.sureAddr, fieldPlace, Zx hn, hn0]
  simp only [Zc, hy] at hs
  cases x <;> (try simp only [reduceCtorEq] at hs)
  case ptr o gen a =>
    simp only [Option.some.injEq, Prod.mk.injEq] at hs
    obtain ⟨rfl, rfl⟩ := hs
    obtain ⟨ad, rfl, h⟩ := hx.ptrAdd fd.offset
    exact ⟨rfl, .still hI (Zv (hrun ad)) h (Zd _)⟩
  case fptr cs =>
    simp only [Option.some.injEq, Prod.mk.injEq] at hs
    obtain ⟨rfl, rfl⟩ := hs
    obtain ⟨ad, rfl⟩ : ∃ a, cx = .pointer (some a) := by cases hx; exact ⟨_, rfl⟩
    exact ⟨rfl, .still hI (Zv (hrun ad)) (hx.fptrDrop _) (Zd _)⟩

theorem Zjn {t : TypeId} {ag : Bool} {n : Nat} (hag : ZdX P t = some ag) (hsz : Z1 P t = some n) {cs : List AVal} {ca : Array Value} (h : Ze F L cs ca.toList) {off : Nat}
    (hle : off + n ≤ cs.length) {v : AVal} (hv : ZaM ag n (cs.drop off) = some v) : ∃ cv, (part t ca off).run P w = .ok cv w ∧ VRel F L v cv := by
  have hl : ca.size = cs.length := by have := h.1; simpa using this
  unfold ZaM at hv
  unfold part
  rw [Sem.run_bind, Zft hag]
  cases ag with
  | true =>
    simp only [if_true] at hv
    split at hv
    · obtain rfl := Option.some.inj hv
      refine ⟨.agg (ca.extract off (off + n)), by simp [Zx hsz], ?_⟩
      have := Ze.agg ((h.drop off).take n)
      have e : ca.extract off (off + n) = ((ca.toList.drop off).take n).toArray := by
        apply Array.ext'
        simp [List.take_drop]
      rw [e]
      exact this
    · simp at hv
  | false =>
    simp only [Bool.false_eq_true, if_false] at hv
    rw [List.head?_eq_getElem?, List.getElem?_drop] at hv
    have hlt := (List.getElem?_eq_some_iff.1 hv).1
    simp only [Nat.add_zero] at hv hlt
    refine ⟨ca.getD off undef, ?_, Zbo h hv⟩
    simp [Array.getD, hl, hlt]

end
end Go.Abs
/- Each operation of the model does what the abstract one says: the third part. -/
namespace Go.Abs
open Go
variable [Inhabited Glob] [Lps]
section
variable {P : Program} {F : Frz} {L : Lay} {σs : Sto} {w : World}

theorem ZpJ (hI : Inv F L σs w) {t : TypeId} {fields : Array Field} (hu : P.underlying t = some (.struct fields)) {i : Nat} {fd : Field} (hfd : fields[i]? = some fd) {n : Nat} {ag : Bool}
  (hn : Z1 P fd.type = some n) (hag : ZdX P fd.type = some ag) {x : AVal} {cx : Value} (hx : VRel F L x cx) {lv : List Nat} {σ : Sto} {e : Env} {y : Opd} (hy : ev e y = x) {v : AVal} {σ' : Sto}
  (hs : Zc lv (.field fd.offset n ag y) e σ = some (v, σ')) : σ' = σ ∧ Zaw F L σs w (ZT σ.length 0) (Sem.run P (do pure (Next.value (← Instr.field t cx i))) w) v := by
 simp only [Zc, hy] at hs
 cases x <;> (try simp only [reduceCtorEq] at hs)
 case agg cs =>
  split at hs
  ·rename_i hle
   simp only [Option.map_eq_some_iff, Prod.mk.injEq] at hs
   obtain ⟨u, h1, rfl, rfl⟩ := hs
   obtain ⟨ca, rfl, hr⟩ := Ze.ofAgg hx
   obtain ⟨cv, h2, h3⟩ := Zjn (P := P) (w := w) hag hn hr hle h1
   exact ⟨rfl, .still hI (Zv (by simp [Instr.field, run_underlying hu, hfd, asAgg, h2])) h3 (Zd _)⟩
  ·simp at hs

theorem ZcO {k : Nat} : ∀ {xs : List AVal} (_ : ∀ x ∈ xs, x.cells.length = k) {i : Nat} {x : AVal}, xs[i]? = some x → ∀ {p : Nat} {c : AVal}, x.cells[p]? = some c → (ZV xs)[i * k + p]? = some c
 | [], _, i, x, h, p, c, _ => by simp at h
 | y :: xs, hk, 0, x, h, p, c, hp => by
  simp at h; subst h
  simp only [ZV, List.flatMap_cons, Nat.zero_mul, Nat.zero_add]
  rw [List.getElem?_append_left (List.getElem?_eq_some_iff.1 hp).1]; exact hp
 | y :: xs, hk, i + 1, x, h, p, c, hp => by
  have ih := ZcO (xs := xs) (fun x hx => hk x (by simp [hx])) (i := i) (x := x) (by simpa using h) hp
  have hy : y.cells.length = k := hk y (by simp)
  simp only [ZV, List.flatMap_cons] at ih ⊢
  rw [List.getElem?_append_right (by rw [hy, Nat.succ_mul]; omega), hy, Nat.succ_mul, show i * k + k + p - k = i * k + p by omega]
  exact ih

theorem VRel.elem {k : Nat} {xs : List AVal} {a : Addr} {len cap : Nat} (h : VRel F L (.list k xs) (.slice (some a) len cap)) {i : Nat} {x : AVal} (hi : xs[i]? = some x) :
  VRel F L (.fptr x.cells) (.pointer (some (a.add (i * k)))) := by
 cases h with
 | list hs hc hk hf ho hv =>
  rename_i fv
  rw [Addr.add_plain (hs (fun he => by subst he; simp at hi))]
  exact .fptr (fv := fun p => fv (i * k + p)) rfl (fun p c hp => by have := hf _ c (ZcO hk hi hp); simp only [Nat.add_assoc]; exact this)
   (fun p c hp => ho _ c (ZcO hk hi hp)) (fun p c hp => hv _ c (ZcO hk hi hp))

theorem ZpK (hI : Inv F L σs w) {t el : TypeId} {k : Nat} (hu : P.underlying t = some (.slice el)) (hk : Z1 P el = some k) {x j : AVal} {cx cj : Value} (hx : VRel F L x cx) (hj : VRel F L j cj)
  {lv : List Nat} {σ : Sto} (hσ : ∀ i, i < σ.length → σs[i]? = σ[i]?) {e : Env} {y z : Opd} (hy : ev e y = x) (hz : ev e z = j) {v : AVal} {σ' : Sto}
  (hs : Zc lv (.iaddr k y z) e σ = some (v, σ')) : σ' = σ ∧ Zaw F L σs w (ZT σ.length 0) (Sem.run P (do pure (Next.value (← Instr.indexAt t cx cj))) w) v := by
 have hrun : ∀ {a : Addr} {len cap i : Nat} {q : IntKind} {zi : Int}, 0 ≤ zi → zi.toNat = i → i < len →
   (Instr.indexAt t (.slice (some a) len cap) (.int q zi)).run P w = .ok (.pointer (some (a.add (i * k)))) w := by
  intro a len cap i q zi h0 h1 h2
  have : zi < (len : Int) := by omega
  simp [Instr.indexAt, asIntOf, run_underlying hu, h0, this, Zx hk, h1]
 simp only [Zc, hy, hz] at hs
 split at hs
 ·rename_i k' xs i hi
  obtain ⟨q, zi, rfl, h0, h1⟩ := ZbM hj hi
  split at hs
  ·rename_i hkk
   subst hkk
   simp only [Option.map_eq_some_iff, Prod.mk.injEq] at hs
   obtain ⟨u, h2, rfl, rfl⟩ := hs
   obtain ⟨a, cap, rfl, hsp, hcap, hk0⟩ := hx.listInv
   exact ⟨rfl, .still hI (Zv (hrun h0 h1 (List.getElem?_eq_some_iff.1 h2).1)) (hx.elem h2) (Zd _)⟩
  ·simp at hs
 ·rename_i o gen off len k' i hi
  obtain ⟨q, zi, rfl, h0, h1⟩ := ZbM hj hi
  split at hs
  ·rename_i nl cs ho
   have ho' := (hσ o (List.getElem?_eq_some_iff.1 ho).1).trans ho
   split at hs
   ·rename_i hc
    obtain ⟨c1, rfl, hg⟩ := hc
    simp only [Option.some.injEq, Prod.mk.injEq] at hs
    obtain ⟨rfl, rfl⟩ := hs
    rcases hI.readRef hx ho' hg with ⟨_, _, rfl, _⟩ | ⟨b, top, c, elem, cap, rfl, hL, hw, hlc, htop, hgc, hlen, hct, hcs, hone, hn, hrel⟩
    ·omega
    ·refine ⟨rfl, .still hI (Zv (hrun h0 h1 c1)) ?_ (Zd _)⟩
     refine .ptr (by rw [hL]; simp) ⟨_, rfl⟩ (fun loc g hl => ?_) (fun loc hl => ?_)
     ·rw [hL] at hl; injection hl with e1 e2; omega
     ·rw [hL] at hl; injection hl with e1 e2; subst e1
      exact ⟨b, top, rfl, by rw [Addr.add_plain rfl]⟩
   ·simp at hs
  ·simp at hs
 ·simp at hs

theorem Zov (hI : Inv F L σs w) {t el : TypeId} {n k : Nat} (hu : P.underlying t = some (.array n el)) (hk : Z1 P el = some k) {x j : AVal} {cx cj : Value} (hx : VRel F L x cx) (hj : VRel F L j cj)
  {lv : List Nat} {σ : Sto} {e : Env} {y z : Opd} (hy : ev e y = x) (hz : ev e z = j) {v : AVal} {σ' : Sto}
  (hs : Zc lv (.iaddrA n k y z) e σ = some (v, σ')) : σ' = σ ∧ Zaw F L σs w (ZT σ.length 0) (Sem.run P (do pure (Next.value (← Instr.indexAt t cx cj))) w) v := by
 have hrun : ∀ {a : Addr} {i : Nat} {q : IntKind} {zi : Int}, 0 ≤ zi → zi.toNat = i → i < n →
   (Instr.indexAt t (.pointer (some a)) (.int q zi)).run P w = .ok (.pointer (some (a.add (i * k)))) w := by
  intro a i q zi h0 h1 h2
  have : zi < (n : Int) := by omega
  simp [Instr.indexAt, asIntOf, run_underlying hu, Instr.sureAddr, h0, this, Zx hk, h1]
 simp only [Zc, hy, hz] at hs
 split at hs
 ·rename_i o gen off i hi
  obtain ⟨q, zi, rfl, h0, h1⟩ := ZbM hj hi
  split at hs
  ·rename_i hc
   simp only [Option.some.injEq, Prod.mk.injEq] at hs
   obtain ⟨rfl, rfl⟩ := hs
   obtain ⟨ad, rfl, h⟩ := hx.ptrAdd (i * k)
   exact ⟨rfl, .still hI (Zv (hrun h0 h1 hc)) h (Zd _)⟩
  ·simp at hs
 ·rename_i cs i hi
  obtain ⟨q, zi, rfl, h0, h1⟩ := ZbM hj hi
  split at hs
  ·rename_i hc
   simp only [Option.some.injEq, Prod.mk.injEq] at hs
   obtain ⟨rfl, rfl⟩ := hs
   obtain ⟨ad, rfl⟩ : ∃ a, cx = .pointer (some a) := by cases hx; exact ⟨_, rfl⟩
   exact ⟨rfl, .still hI (Zv (hrun h0 h1 hc)) (hx.fptrDrop _) (Zd _)⟩
  ·simp at hs
 ·simp at hs

theorem Zro (hI : Inv F L σs w) {t el : TypeId} {n k : Nat} {ag : Bool} (hu : P.underlying t = some (.array n el)) (hk : Z1 P el = some k) (hag : ZdX P el = some ag) {x j : AVal} {cx cj : Value}
  (hx : VRel F L x cx) (hj : VRel F L j cj) {lv : List Nat} {σ : Sto} {e : Env} {y z : Opd} (hy : ev e y = x) (hz : ev e z = j) {v : AVal} {σ' : Sto}
  (hs : Zc lv (.idxA n k ag y z) e σ = some (v, σ')) : σ' = σ ∧ Zaw F L σs w (ZT σ.length 0) (Sem.run P (do pure (Next.value (← Instr.index t cx cj))) w) v := by
 simp only [Zc, hy, hz] at hs
 split at hs
 ·rename_i cs i hi
  obtain ⟨q, zi, rfl, h0, h1⟩ := ZbM hj hi
  split at hs
  ·rename_i hc
   simp only [Option.map_eq_some_iff, Prod.mk.injEq] at hs
   obtain ⟨u, h2, rfl, rfl⟩ := hs
   obtain ⟨ca, rfl, hr⟩ := Ze.ofAgg hx
   obtain ⟨cv, h3, h4⟩ := Zjn (P := P) (w := w) hag hk hr hc.2 h2
   have : zi < (n : Int) := by omega
   exact ⟨rfl, .still hI (Zv (by simp [Instr.index, asIntOf, run_underlying hu, h0, this, Zx hk, h1, h3])) h4 (Zd _)⟩
  ·simp at hs
 ·simp at hs

theorem Zrp (hI : Inv F L σs w) {t : TypeId} (hu : P.underlying t = some .string) {x j : AVal} {cx cj : Value}
  (hx : VRel F L x cx) (hj : VRel F L j cj) {lv : List Nat} {σ : Sto} {e : Env} {y z : Opd} (hy : ev e y = x) (hz : ev e z = j) {v : AVal} {σ' : Sto}
  (hs : Zc lv (.idxS y z) e σ = some (v, σ')) : σ' = σ ∧ Zaw F L σs w (ZT σ.length 0) (Sem.run P (do pure (Next.value (← Instr.index t cx cj))) w) v := by
 simp only [Zc, hy, hz] at hs
 split at hs
 ·rename_i s i hi
  obtain ⟨q, zi, rfl, h0, rfl⟩ := ZbM hj hi
  simp only [Option.map_eq_some_iff, Prod.mk.injEq] at hs
  obtain ⟨u, h2, rfl, rfl⟩ := hs
  cases hx
  exact ⟨rfl, .still hI (Zv (cv := .int .u8 u.toNat) (by simp [Instr.index, asIntOf, run_underlying hu, h0, h2])) .int (Zd _)⟩
 ·simp at hs

theorem Zrq (hI : Inv F L σs w) {i : Nat} {x : AVal} {cx : Value} (hx : VRel F L x cx) {lv : List Nat} {σ : Sto} {e : Env} {y : Opd} (hy : ev e y = x) {v : AVal} {σ' : Sto}
  (hs : Zc lv (.extr y i) e σ = some (v, σ')) : σ' = σ ∧ Zaw F L σs w (ZT σ.length 0) (Sem.run P (do pure (Next.value (← Instr.extract cx i))) w) v := by
 simp only [Zc, hy] at hs
 cases x <;> (try simp only [reduceCtorEq] at hs)
 case tup vs =>
  simp only [Option.map_eq_some_iff, Prod.mk.injEq] at hs
  obtain ⟨u, h2, rfl, rfl⟩ := hs
  cases hx with
  | tup hl hc =>
   rename_i ca
   have hlt : i < ca.size := by rw [hl]; exact (List.getElem?_eq_some_iff.1 h2).1
   have := hc i u h2
   simp only [Array.getD_eq_getD_getElem?, Array.getElem?_eq_getElem hlt, Option.getD_some] at this
   exact ⟨rfl, .still hI (Zv (by simp [Instr.extract, hlt])) this (Zd _)⟩

theorem Inv.readMapS (hI : Inv F L σs w) {o : Nat} {cv : Value} (h : VRel F L (.map o) cv) {ks vs : List AVal} (hσ : σs[o]? = some (.map ks vs)) :
  ∃ r es clock, cv = .map (some r) ∧ L o = .live (.mp r) (match L o with | .live _ g => g | _ => 0) ∧ w.heap[r]? = some (.map es clock) ∧ Zby F L ks vs es.toList ∧ ZaU es clock := by
 cases h with
 | map h0 h1 h =>
  cases hL : L o with
  | un => exact absurd hL h0
  | dead => have := hI.dd o hL; rw [hσ] at this; simp at this
  | live loc g =>
   obtain ⟨ob, h3, h4⟩ := hI.obj o loc g hL
   rw [hσ] at h3
   obtain rfl := Option.some.inj h3
   obtain ⟨r, es, cl, rfl, h5, h6⟩ := h4
   obtain ⟨r', hr', rfl⟩ := h _ _ hL
   injection hr' with e; subst e
   exact ⟨r, es, cl, rfl, rfl, h5, h6⟩
theorem Inv.readMap (hI : Inv F L σs w) {o : Nat} {cv : Value} (h : VRel F L (.map o) cv) {ks vs : List AVal} (hσ : σs[o]? = some (.map ks vs)) :
  ∃ r es clock, cv = .map (some r) ∧ L o = .live (.mp r) (match L o with | .live _ g => g | _ => 0) ∧ w.heap[r]? = some (.map es clock) ∧ Zby F L ks vs es.toList := by
 obtain ⟨r, es, cl, h1, h2, h3, h4, _⟩ := hI.readMapS h hσ
 exact ⟨r, es, cl, h1, h2, h3, h4⟩

theorem ZtR (hI : Inv F L σs w) {ts : Array TypeId} {t0 ty : TypeId} (ht : ts[0]? = some t0) {d : TypeDesc} (hu : P.underlying t0 = some d) {kd : LenK}
  (hd : match kd with | .str => d = .string | .sl => ∃ e, d = .slice e | .mp => ∃ k e, d = .map k e) {x : AVal} {cx : Value} (hx : VRel F L x cx)
  {lv : List Nat} {σ : Sto} (hσ : ∀ i, i < σ.length → σs[i]? = σ[i]?) {e : Env} {y : Opd} (hy : ev e y = x) {v : AVal} {σ' : Sto}
  (hs : Zc lv (.len kd y) e σ = some (v, σ')) : σ' = σ ∧ Zaw F L σs w (ZT σ.length 0) (Sem.run P (do pure (Next.value (← Builtin.len_ ts ty #[cx]))) w) v := by
 have hsl : ∀ {a : Option Addr} {n c : Nat} {el : TypeId}, d = .slice el → (Builtin.len_ ts ty #[.slice a n c]).run P w = .ok (.int .i64 n) w := by
  intro a n c el hd
  subst hd
  simp [Builtin.len_, ht, run_underlying hu, goInt]
 simp only [Zc, hy] at hs
 split at hs
 ·cases hx
  obtain ⟨el, hd⟩ := hd
  simp only [Option.some.injEq, Prod.mk.injEq] at hs
  obtain ⟨rfl, rfl⟩ := hs
  exact ⟨rfl, .still hI (Zv (hsl hd)) .int (Zd _)⟩
 ·cases hx
  obtain ⟨el, hd⟩ := hd
  simp only [Option.some.injEq, Prod.mk.injEq] at hs
  obtain ⟨rfl, rfl⟩ := hs
  exact ⟨rfl, .still hI (Zv (hsl hd)) .int (Zd _)⟩
 ·cases hx
  obtain ⟨k, el, rfl⟩ := hd
  simp only [Option.some.injEq, Prod.mk.injEq] at hs
  obtain ⟨rfl, rfl⟩ := hs
  exact ⟨rfl, .still hI (Zv (cv := .int .i64 0) (by simp [Builtin.len_, ht, run_underlying hu, goInt])) .int (Zd _)⟩
 ·rename_i k xs
  obtain ⟨a, cap, rfl, hsp, hcap, hk0⟩ := hx.listInv
  obtain ⟨el, hd⟩ := hd
  simp only [Option.some.injEq, Prod.mk.injEq] at hs
  obtain ⟨rfl, rfl⟩ := hs
  exact ⟨rfl, .still hI (Zv (hsl hd)) .int (Zd _)⟩
 ·rename_i s
  cases hx
  simp only at hd
  subst hd
  simp only [Option.some.injEq, Prod.mk.injEq] at hs
  obtain ⟨rfl, rfl⟩ := hs
  exact ⟨rfl, .still hI (Zv (cv := .int .i64 s.size) (by simp [Builtin.len_, ht, run_underlying hu, goInt])) .int (Zd _)⟩
 ·rename_i ks vs
  obtain ⟨k, el, rfl⟩ := hd
  simp only [Option.some.injEq, Prod.mk.injEq] at hs
  obtain ⟨rfl, rfl⟩ := hs
  cases hx with
  | @fmap _ _ _ r kv kv' hr hp hk hl hkv hvv =>
   obtain ⟨es, cl, hw, he⟩ := hI.fm r kv' hr
   have hlen : es.size = ks.length := by rw [← hk, ← hp.length, ← he]; simp
   exact ⟨rfl, .still hI (Zv (cv := .int .i64 ks.length) (by simp [Builtin.len_, ht, run_underlying hu, goInt, getObj, Sem.run, hw, hlen])) .int (Zd _)⟩
 ·rename_i o gen off len k
  split at hs
  ·rename_i nl cs ho
   have ho' := (hσ o (List.getElem?_eq_some_iff.1 ho).1).trans ho
   split at hs
   ·rename_i hg
    simp only [Option.some.injEq, Prod.mk.injEq] at hs
    obtain ⟨rfl, rfl⟩ := hs
    obtain ⟨el, hd⟩ := hd
    rcases hI.readRef hx ho' hg with ⟨_, _, rfl, _, rfl, _⟩ | ⟨b, top, c, elem, cap, rfl, _⟩
    ·exact ⟨rfl, .still hI (Zv (hsl hd)) .int (Zd _)⟩
    ·exact ⟨rfl, .still hI (Zv (hsl hd)) .int (Zd _)⟩
   ·simp at hs
  ·simp at hs
 ·rename_i o
  split at hs
  ·rename_i ks vs ho
   have ho' := (hσ o (List.getElem?_eq_some_iff.1 ho).1).trans ho
   simp only [Option.some.injEq, Prod.mk.injEq] at hs
   obtain ⟨rfl, rfl⟩ := hs
   obtain ⟨k, el, rfl⟩ := hd
   obtain ⟨r, es, cl, rfl, hL, hw, hent⟩ := hI.readMap hx ho'
   have hlen : es.size = ks.length := by simpa using hent.1
   exact ⟨rfl, .still hI (Zv (cv := .int .i64 ks.length) (by simp [Builtin.len_, ht, run_underlying hu, goInt, getObj, Sem.run, hw, hlen])) .int (Zd _)⟩
  ·simp at hs
 ·simp at hs

theorem ZtS (hI : Inv F L σs w) {ts : Array TypeId} {t0 ty el : TypeId} (ht : ts[0]? = some t0) (hu : P.underlying t0 = some (.slice el)) {x : AVal} {cx : Value} (hx : VRel F L x cx)
  {lv : List Nat} {σ : Sto} {e : Env} {y : Opd} (hy : ev e y = x) {v : AVal} {σ' : Sto}
  (hs : Zc lv (.cap y) e σ = some (v, σ')) : σ' = σ ∧ Zaw F L σs w (ZT σ.length 0) (Sem.run P (do pure (Next.value (← Builtin.cap_ ts ty #[cx]))) w) v := by
 have hsl : ∀ {a : Option Addr} {n c : Nat}, (Builtin.cap_ ts ty #[.slice a n c]).run P w = .ok (.int .i64 c) w := by
  intro a n c
  simp [Builtin.cap_, ht, run_underlying hu, goInt]
 simp only [Zc, hy] at hs
 cases x <;> (try simp only [reduceCtorEq] at hs)
 all_goals
  cases hx
  simp only [Option.some.injEq, Prod.mk.injEq] at hs
  obtain ⟨rfl, rfl⟩ := hs
  exact ⟨rfl, .still hI (Zv hsl) .int (Zd _)⟩

theorem Zrr (hI : Inv F L σs w) {t : TypeId} {d : TypeDesc} (hu : P.underlying t = some d) (hd : ∀ m, d ≠ .interface m) {x : AVal} {cx : Value} (hx : VRel F L x cx) (hne : x ≠ .und) (n : Nat) :
  Zaw F L σs w (ZT n 0) (Sem.run P (do pure (Next.value (← Instr.makeInterface t cx))) w) (.iface t x) := by
 refine .still hI (Zv (cv := .iface t cx) ?_) (.iface hx hne) (Zd _)
 simp only [Instr.makeInterface, Sem.run_bind, run_underlying hu, Result.andThen_ok]
 cases d <;> first | rfl | exact absurd rfl (hd _)

theorem Za2 {e : Env} {ρ : Operand → Value} {xs : Array Operand} {ys : List Opd} (h : Zdq xs = some ys) (hr : ∀ x ∈ xs.toList, Zaf F L e ρ x) :
  (xs.map ρ).size = (ys.map (ev e)).length ∧ ∀ (i : Nat) (c : AVal), (ys.map (ev e))[i]? = some c → VRel F L c ((xs.map ρ).getD i undef) := by
 obtain ⟨h1, h2⟩ := ZC _ h
 refine ⟨by simp [h1], fun i c hc => ?_⟩
 simp only [List.getElem?_map, Option.map_eq_some_iff] at hc
 obtain ⟨y, hy, rfl⟩ := hc
 obtain ⟨x, hx, ho⟩ := ZU _ h hy
 have hlt := (List.getElem?_eq_some_iff.1 hx)
 obtain ⟨hl, hxe⟩ := hlt
 have hl' : i < xs.size := by simpa using hl
 have : (xs.map ρ).getD i undef = ρ x := by
  simp only [Array.getD_eq_getD_getElem?, Array.getElem?_map, Array.getElem?_eq_getElem hl', Option.map_some, Option.getD_some]
  rw [← hxe]; simp
 rw [this]
 exact hr x (List.mem_of_getElem? hx) y ho

theorem Zrs (hI : Inv F L σs w) {f : Fn} {first captured : Array Operand} {fs cs : List Opd} (hy : ZeJ f = true) (hf : Zdq first = some fs) (hc : Zdq captured = some cs) {e : Env} {ρ : Operand → Value}
  (rf : ∀ x ∈ first.toList, Zaf F L e ρ x) (rc : ∀ x ∈ captured.toList, Zaf F L e ρ x) (n : Nat) :
  Zaw F L σs w (ZT n 0) (Sem.run P (do pure (Next.value (← Instr.makeFunc f (first.map ρ) (captured.map ρ)))) w) (.clo f (fs.map (ev e)) (cs.map (ev e))) := by
 obtain ⟨h1, h2⟩ := Za2 hf rf
 obtain ⟨h3, h4⟩ := Za2 hc rc
 exact .still hI (Zv (by simp [Instr.makeFunc])) (.clo h1 h3 h2 h4 hy) (Zd _)

theorem ZpL (hI : Inv F L σs w) {t : TypeId} {n : Nat} (hun : L n = .un) (hn : σs[n]? = some (.map [] [])) :
  Zaw F L σs w (ZT n 1) (Sem.run P (do pure (Next.value (← Instr.makeMap t none))) w) (.map n) := by
 have hok : Zcv F L (w.alloc (.map #[] 0)) (.mp w.heap.size) 0 (.map [] []) :=
  ⟨w.heap.size, #[], 0, rfl, by show (w.heap.push _)[w.heap.size]? = _; simp, ⟨rfl, rfl, fun i c h => by simp at h, fun i c h => by simp at h⟩, rfl, fun i m h => by simp at h⟩
 have := hI.change (o := n) (loc := .mp w.heap.size) (gen := 0) (ob := .map [] []) (σ' := σs) (w' := w.alloc (.map #[] 0)) (Nat.le_refl _) (fun _ _ _ => rfl) hn
  (by rw [hun]; trivial) rfl rfl rfl (by show w.heap.size ≤ (w.heap.push _).size; simp) (fun b hb => by simp [Loc.block?] at hb; subst hb; exact .inr (Nat.le_refl _))
  (fun k hk _ => by show (w.heap.push _)[k]? = _; rw [Array.getElem?_push, if_neg (by omega)]) hok
 refine ⟨.map (some w.heap.size), w.alloc (.map #[] 0), Zaa L n (.live (.mp w.heap.size) 0), Zv (by simp [Instr.makeMap]), ?_, this.1, this.2, fun i => ?_⟩
 ·exact .map (by rw [Zk]; simp) ⟨_, rfl⟩ (fun loc gen hl => by rw [Zk] at hl; injection hl with e1 e2; subst e1; exact ⟨_, rfl, rfl⟩)
 ·by_cases e : i = n
  ·subst e; rw [Zk]; simp [ZT]
  ·rw [ZL _ _ e]
   have : ¬ ZT n 1 i := by unfold ZT; omega
   simp [this]

theorem Zch {n : Int} (h0 : 0 ≤ n) (h1 : n ≤ IntKind.i64.max) : IntKind.i64.wrap n = n := by
 have e1 : IntKind.i64.max = 9223372036854775807 := rfl
 rw [e1] at h1
 exact IntWalk.i64_in n (by omega)

theorem Zl9 (hI : Inv F L σs w) {t el : TypeId} (hu : P.underlying t = some (.slice el)) {i : TypeInfo} (hi : P.info? el = some i) {z : List AVal} (hz : ZbD P el = some z) (hzl : z.length = i.size)
  {x y : AVal} {cx cy : Value} (hx : VRel F L x cx) (hy : VRel F L y cy) {lv : List Nat} {σ : Sto} {e : Env} {ox oy : Opd} (ex : ev e ox = x) (ey : ev e oy = y) {v : AVal} {σ' : Sto}
  (hs : Zc lv (.mkslice i.size i.bytes z ox oy) e σ = some (v, σ')) : ∃ ob, σ' = σ ++ [ob] ∧ (L σ.length = .un → σs[σ.length]? = some ob →
   Zaw F L σs w (ZT σ.length 1) (Sem.run P (do pure (Next.value (← Instr.makeSlice t cx cy))) w) v) := by
 simp only [Zc, ex, ey] at hs
 split at hs
 ·rename_i kl l kc c
  cases hx; cases hy
  split at hs
  ·rename_i hc
   obtain ⟨h0, h1, h2, h3⟩ := hc
   simp only [Option.some.injEq, Prod.mk.injEq] at hs
   obtain ⟨rfl, rfl⟩ := hs
   refine ⟨_, rfl, fun hun hn => ?_⟩
   obtain ⟨zv, g1, g2, g3⟩ := ZaJ hz w F L
   have hzs : zv.cells.size = i.size := by have := g2.1; simp at this; omega
   have hrep := ZcR zv.cells c.toNat
   rw [hzs] at hrep
   have hcr : Ze F L (List.replicate c.toNat z).flatten ((Array.range (c.toNat * i.size)).map (zv.cells[· % i.size]!)).toList := by rw [hrep]; exact g2.replicate _
   have hlen : (List.replicate c.toNat z).flatten.length = c.toNat * i.size := by simp [hzl]
   rw [← hlen]
   have hwl := Zch h0 (Int.le_trans h1 h3)
   have hwc := Zch (Int.le_trans h0 h1) h3
   refine ZeQ hI hun hn (fun x hx => ?_) (w' := w.alloc (.cells ((Array.range (c.toNat * i.size)).map (zv.cells[· % i.size]!)) el)) (c := (Array.range (c.toNat * i.size)).map (zv.cells[· % i.size]!)) (elem := el)
    rfl rfl rfl rfl (cap := c.toNat) (by omega) (by simp) (by omega) (by rw [hlen]; exact Nat.mul_le_mul_right _ (by omega)) (fun p x hp => Zbo hcr hp) (Zv ?_)
   ·simp only [List.mem_flatten, List.mem_replicate] at hx
    obtain ⟨l', ⟨_, rfl⟩, hx⟩ := hx
    exact g3 x hx
   ·have htl : (decide (c < 0) || decide ((i.bytes : Int) * c > 2 ^ 48)) = false := by
     have e1 : (c.toNat : Int) = c := Int.toNat_of_nonneg (by omega)
     have h2' : (i.bytes : Int) * c ≤ 2 ^ 48 := by
      have h4 : ((i.bytes * c.toNat : Nat) : Int) ≤ ((2 * Zm : Nat) : Int) := by exact_mod_cast h2
      rw [Int.natCast_mul, e1] at h4
      simpa [Zm] using h4
     simp; omega
    simp only [Instr.makeSlice, Sem.run_bind, run_underlying hu, Result.andThen_ok, asInt, asIntOf, Sem.run_map, Sem.run_pure, Z6 hi, hwl, hwc, htl]
    have hcond : (false || decide (l < 0) || decide (l > c)) = false := by simp; omega
    simp only [hcond, Bool.false_eq_true, if_false, Sem.run_bind, run_askRoom, Result.andThen_ok, Zx (show Z1 P el = some i.size by simp [Z1, hi])]
    by_cases hz0 : c.toNat * i.size = 0
    ·rw [if_pos hz0]
     have e0 : Array.range (c.toNat * i.size) = #[] := by simp [hz0]
     simp [newRow, e0]
    ·rw [if_neg hz0]
     simp [g1, newRow, hzs]
  ·simp at hs
 ·simp at hs

end
end Go.Abs
