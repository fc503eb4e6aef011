/- How an abstract value stands to a value of the model, and an abstract store to a world. -/
import Derived.Test.YtaiibojjndeipaaAbsCore
import Derived.Below
import Derived.Orders
import Derived.Tactics
import Derived.WalkKit
set_option linter.all false
namespace Go.Abs
open Go

inductive Loc where
  | blk (b top : Nat)
  | nil
  | mp (r : Nat)

inductive Lst where
  | un
  | dead
  | live (loc : Loc) (gen : Nat)

abbrev Lay := Nat → Lst
def noL : Lay := fun _ => .un

structure Frz where
  cells : Nat → Nat → Option Value
  maps : Nat → Option (List (Value × Value))

structure Frz.Le (F F' : Frz) : Prop where
  cells : ∀ b o v, F.cells b o = some v → F'.cells b o = some v
  maps : ∀ r kv, F.maps r = some kv → F'.maps r = some kv

theorem Frz.Le.refl (F : Frz) : F.Le F := ⟨fun _ _ _ h => h, fun _ _ h => h⟩
theorem Frz.Le.trans {F G H : Frz} (a : F.Le G) (b : G.Le H) : F.Le H :=
  ⟨fun x o v h => b.cells _ _ _ (a.cells x o v h), fun r kv h => b.maps _ _ (a.maps r kv h)⟩

def RefOk (loc : Loc) (gen off len k : Nat) (v : Value) : Prop :=
  match loc with
  | .blk b top => ∃ cap, v = .slice (some ⟨b, off, none⟩) len cap ∧ len ≤ cap ∧ off + cap * k ≤ top ∧ gen ≤ off + cap * k ∧ off + len * k ≤ gen
  | .nil => len = 0 ∧ off = 0 ∧ v = .slice none 0 0
  | .mp _ => False

def flatC (xs : List AVal) : List AVal := xs.flatMap AVal.cells

inductive VRel (F : Frz) : Lay → AVal → Value → Prop
  | und {L v} : VRel F L .und v
  | bool {L b} : VRel F L (.bool b) (.bool b)
  | int {L k n} : VRel F L (.int k n) (.int k n)
  | str {L s} : VRel F L (.str s) (.string s)
  | nils {L} : VRel F L .nils (.slice none 0 0)
  | emp {L} {a : Addr} : VRel F L .emp (.slice (some a) 0 0)
  | list {L : Lay} {xs : List AVal} {a : Addr} {cap k : Nat} {fv : Nat → Value} (hs : xs ≠ [] → a.spot = none) (hc : xs.length ≤ cap)
      (hk : ∀ x ∈ xs, x.cells.length = k)
      (hf : ∀ p c, (flatC xs)[p]? = some c → F.cells a.block (a.off + p) = some (fv p))
      (ho : ∀ (p : Nat) (c : AVal), (flatC xs)[p]? = some c → c.one = true)
      (hv : ∀ p c, (flatC xs)[p]? = some c → VRel F noL c (fv p)) : VRel F L (.list k xs) (.slice (some a) xs.length cap)
  | ref {L : Lay} {o gen off len k : Nat} {v : Value} (h0 : L o ≠ .un) (h1 : ∃ a l c, v = .slice a l c) (h2 : ∀ loc g, L o = .live loc g → gen ≤ g)
      (h : ∀ loc, L o = .live loc gen → RefOk loc gen off len k v) : VRel F L (.ref o gen off len k) v
  | nilp {L} : VRel F L .nilp (.pointer none)
  | fptr {L : Lay} {cs : List AVal} {a : Addr} {fv : Nat → Value} (hs : a.spot = none)
      (hf : ∀ p c, cs[p]? = some c → F.cells a.block (a.off + p) = some (fv p))
      (ho : ∀ (p : Nat) (c : AVal), cs[p]? = some c → c.one = true)
      (hv : ∀ p c, cs[p]? = some c → VRel F noL c (fv p)) : VRel F L (.fptr cs) (.pointer (some a))
  | ptr {L : Lay} {o gen off : Nat} {v : Value} (h0 : L o ≠ .un) (h1 : ∃ a, v = .pointer (some a)) (h2 : ∀ loc g, L o = .live loc g → gen ≤ g)
      (h : ∀ loc, L o = .live loc gen → ∃ b top, loc = .blk b top ∧ v = .pointer (some ⟨b, off, none⟩)) : VRel F L (.ptr o gen off) v
  | nilm {L} : VRel F L .nilm (.map none)
  | fmap {L : Lay} {ks vs : List AVal} {r : Nat} {kv : List (Value × Value)} (hr : F.maps r = some kv) (hk : kv.length = ks.length) (hl : kv.length = vs.length)
      (hkv : ∀ (i : Nat) c, ks[i]? = some c → VRel F noL c (kv.getD i (undef, undef)).1)
      (hvv : ∀ (i : Nat) c, vs[i]? = some c → VRel F noL c (kv.getD i (undef, undef)).2) : VRel F L (.fmap ks vs) (.map (some r))
  | map {L : Lay} {o : Nat} {v : Value} (h0 : L o ≠ .un) (h1 : ∃ r, v = .map (some r))
      (h : ∀ loc gen, L o = .live loc gen → ∃ r, loc = .mp r ∧ v = .map (some r)) : VRel F L (.map o) v
  | nilf {L} : VRel F L .nilf .nilFunc
  | clo {L : Lay} {f : Fn} {fs cs : List AVal} {fa ca : Array Value} (hfl : fa.size = fs.length) (hcl : ca.size = cs.length)
      (hf : ∀ (i : Nat) c, fs[i]? = some c → VRel F L c (fa.getD i undef))
      (hc : ∀ (i : Nat) c, cs[i]? = some c → VRel F L c (ca.getD i undef)) : VRel F L (.clo f fs cs) (.func f fa ca)
  | nili {L} : VRel F L .nili .nilIface
  | iface {L : Lay} {t : TypeId} {v : AVal} {cv : Value} (h : VRel F L v cv) (ho : v ≠ .und) : VRel F L (.iface t v) (.iface t cv)
  | agg {L : Lay} {cs : List AVal} {ca : Array Value} (hl : ca.size = cs.length)
      (hc : ∀ (i : Nat) c, cs[i]? = some c → VRel F L c (ca.getD i undef)) : VRel F L (.agg cs) (.agg ca)
  | tup {L : Lay} {cs : List AVal} {ca : Array Value} (hl : ca.size = cs.length)
      (hc : ∀ (i : Nat) c, cs[i]? = some c → VRel F L c (ca.getD i undef)) : VRel F L (.tup cs) (.tuple ca)

def EvoSt : Lst → Lst → Prop
  | .un, _ => True
  | .dead, s => s = .dead
  | .live loc gen, s => s = .dead ∨ s = .live loc gen ∨ ∃ b top gen', s = .live (.blk b top) gen' ∧ gen < gen' ∧ ∀ r, loc ≠ .mp r

def Evo (L L' : Lay) : Prop := ∀ o, EvoSt (L o) (L' o)

theorem EvoSt.refl (s : Lst) : EvoSt s s := by cases s <;> simp [EvoSt]
theorem EvoSt.trans {a b c : Lst} (h : EvoSt a b) (k : EvoSt b c) : EvoSt a c := by
  cases a with
  | un => trivial
  | dead => simp only [EvoSt] at h; subst h; exact k
  | live loc gen =>
    rcases h with rfl | rfl | ⟨b1, t1, gen', rfl, hlt, hm⟩
    · exact .inl k
    · exact k
    · rcases k with rfl | rfl | ⟨b2, t2, g2, rfl, h2, _⟩
      · exact .inl rfl
      · exact .inr (.inr ⟨_, _, _, rfl, hlt, hm⟩)
      · exact .inr (.inr ⟨_, _, _, rfl, by omega, hm⟩)
theorem Evo.refl (L : Lay) : Evo L L := fun _ => EvoSt.refl _
theorem Evo.trans {a b c : Lay} (h : Evo a b) (k : Evo b c) : Evo a c := fun o => (h o).trans (k o)

theorem EvoSt.ne_un {s s' : Lst} (h : EvoSt s s') (h0 : s ≠ .un) : s' ≠ .un := by
  cases s with
  | un => exact absurd rfl h0
  | dead => simp only [EvoSt] at h; subst h; simp
  | live loc gen => rcases h with rfl | rfl | ⟨b, t, g2, rfl, h2⟩ <;> simp

theorem EvoSt.live {s s' : Lst} (h : EvoSt s s') (h0 : s ≠ .un) {loc : Loc} {gen : Nat} (hs : s' = .live loc gen) :
    s = .live loc gen ∨ ∃ loc0 gen0 b t, s = .live loc0 gen0 ∧ gen0 < gen ∧ loc = .blk b t ∧ ∀ r, loc0 ≠ .mp r := by
  cases s with
  | un => exact absurd rfl h0
  | dead => simp only [EvoSt] at h; subst h; simp at hs
  | live l g =>
    rcases h with rfl | rfl | ⟨b, t, g2, rfl, h2, hm⟩
    · simp at hs
    · exact .inl hs
    · injection hs with e1 e2; subst e1; subst e2; exact .inr ⟨_, _, _, _, rfl, h2, rfl, hm⟩

theorem AVal.namesL_iff {p : Nat → Bool} : ∀ {vs : List AVal}, AVal.namesL p vs = true ↔ ∀ (i : Nat) (v : AVal), vs[i]? = some v → v.names p = true
  | [] => by simp [AVal.namesL]
  | v :: vs => by
    simp only [AVal.namesL, Bool.and_eq_true, AVal.namesL_iff (vs := vs)]
    constructor
    · rintro ⟨h1, h2⟩ i w hw
      cases i with
      | zero => simp at hw; exact hw ▸ h1
      | succ i => exact h2 i w (by simpa using hw)
    · intro h
      exact ⟨h 0 v rfl, fun i w hw => h (i + 1) w (by simpa using hw)⟩

theorem VRel.named {F : Frz} {L : Lay} {v : AVal} {cv : Value} (h : VRel F L v cv) {p : Nat → Bool} (hp : ∀ o, L o ≠ .un → p o = true) : v.names p = true := by
  induction h with
  | ref h0 | ptr h0 | map h0 => exact hp _ h0
  | clo hfl hcl hf hc ihf ihc =>
    simp only [AVal.names, Bool.and_eq_true, AVal.namesL_iff]
    exact ⟨fun i c h => ihf i c h hp, fun i c h => ihc i c h hp⟩
  | iface h ho ih => exact ih hp
  | agg hl hc ih => simp only [AVal.names, AVal.namesL_iff]; exact fun i c h => ih i c h hp
  | tup hl hc ih => simp only [AVal.names, AVal.namesL_iff]; exact fun i c h => ih i c h hp
  | _ => rfl

theorem VRel.pureNo {F : Frz} {v : AVal} {cv : Value} (h : VRel F noL v cv) : v.names (fun _ => false) = true := h.named fun _ ho => absurd rfl ho

/-- A value stands as it stood while the objects that it names go on. -/
theorem VRel.names {F F' : Frz} (hF : F.Le F') {L : Lay} {v : AVal} {cv : Value} (h : VRel F L v cv) :
    ∀ {L' : Lay} {p : Nat → Bool}, v.names p = true → (∀ o, p o = true → EvoSt (L o) (L' o)) → VRel F' L' v cv := by
  induction h with
  | und => intros; exact .und
  | bool => intros; exact .bool
  | int => intros; exact .int
  | str => intros; exact .str
  | nils => intros; exact .nils
  | emp => intros; exact .emp
  | list hs hc hk hf ho hv ih =>
    intro L' p _ _
    exact .list hs hc hk (fun p c h => hF.cells _ _ _ (hf p c h)) ho
      (fun p c h => ih p c h (L' := noL) (hv p c h).pureNo (fun o ho => by simp at ho))
  | ref h0 h1 h2 h =>
    intro L' p hp hE
    have he := hE _ hp
    refine .ref (he.ne_un h0) h1 (fun loc g hl => ?_) (fun loc hl => ?_)
    · rcases he.live h0 hl with h' | ⟨l0, g0, b, t, h', hlt, _⟩
      · exact h2 _ _ h'
      · exact Nat.le_trans (h2 _ _ h') (by omega)
    · rcases he.live h0 hl with h' | ⟨l0, g0, b, t, h', hlt, _⟩
      · exact h _ h'
      · exact absurd (h2 _ _ h') (by omega)
  | nilp => intros; exact .nilp
  | fptr hs hf ho hv ih =>
    intro L' p _ _
    exact .fptr hs (fun p c h => hF.cells _ _ _ (hf p c h)) ho (fun p c h => ih p c h (L' := noL) (hv p c h).pureNo (fun o ho => by simp at ho))
  | ptr h0 h1 h2 h =>
    intro L' p hp hE
    have he := hE _ hp
    refine .ptr (he.ne_un h0) h1 (fun loc g hl => ?_) (fun loc hl => ?_)
    · rcases he.live h0 hl with h' | ⟨l0, g0, b, t, h', hlt, _⟩
      · exact h2 _ _ h'
      · exact Nat.le_trans (h2 _ _ h') (by omega)
    · rcases he.live h0 hl with h' | ⟨l0, g0, b, t, h', hlt, _⟩
      · exact h _ h'
      · exact absurd (h2 _ _ h') (by omega)
  | nilm => intros; exact .nilm
  | fmap hr hk hl hkv hvv ihk ihv =>
    intro L' p _ _
    exact .fmap (hF.maps _ _ hr) hk hl (fun i c h => ihk i c h (L' := noL) (hkv i c h).pureNo (fun o ho => by simp at ho))
      (fun i c h => ihv i c h (L' := noL) (hvv i c h).pureNo (fun o ho => by simp at ho))
  | map h0 h1 h =>
    intro L' p hp hE
    have he := hE _ hp
    refine .map (he.ne_un h0) h1 (fun loc gen hl => ?_)
    rcases he.live h0 hl with h' | ⟨l0, g0, b, t, h', hlt, hb, hm⟩
    · exact h _ _ h'
    · obtain ⟨r, hr, _⟩ := h _ _ h'; exact absurd hr (hm r)
  | nilf => intros; exact .nilf
  | clo hfl hcl hf hc ihf ihc =>
    intro L' p hp hE
    simp only [AVal.names, Bool.and_eq_true, AVal.namesL_iff] at hp
    exact .clo hfl hcl (fun i c h => ihf i c h (hp.1 i c h) hE) (fun i c h => ihc i c h (hp.2 i c h) hE)
  | nili => intros; exact .nili
  | iface h ho ih => intro L' p hp hE; exact .iface (ih hp hE) ho
  | agg hl hc ih =>
    intro L' p hp hE
    simp only [AVal.names, AVal.namesL_iff] at hp
    exact .agg hl (fun i c h => ih i c h (hp i c h) hE)
  | tup hl hc ih =>
    intro L' p hp hE
    simp only [AVal.names, AVal.namesL_iff] at hp
    exact .tup hl (fun i c h => ih i c h (hp i c h) hE)

theorem AVal.names_true : ∀ (v : AVal), v.names (fun _ => true) = true := by
  intro v
  refine AVal.rec (motive_1 := fun v => v.names (fun _ => true) = true) (motive_2 := fun vs => AVal.namesL (fun _ => true) vs = true)
    ?_ ?_ ?_ ?_ ?_ ?_ ?_ ?_ ?_ ?_ ?_ ?_ ?_ ?_ ?_ ?_ ?_ ?_ ?_ ?_ ?_ ?_ v <;> intros <;> simp_all [AVal.names, AVal.namesL]

theorem VRel.mono {F F' : Frz} (hF : F.Le F') {L L' : Lay} (hE : Evo L L') {v : AVal} {cv : Value} (h : VRel F L v cv) : VRel F' L' v cv :=
  h.names hF v.names_true fun o _ => hE o
theorem VRel.frz {F F' : Frz} (hF : F.Le F') {L : Lay} {v : AVal} {cv : Value} (h : VRel F L v cv) : VRel F' L v cv := h.mono hF (Evo.refl L)
theorem VRel.toPure {F : Frz} {L : Lay} {v : AVal} {cv : Value} (h : VRel F L v cv) (hp : v.pure = true) (L' : Lay) : VRel F L' v cv :=
  h.names (Frz.Le.refl F) hp fun o ho => by simp at ho
theorem VRel.ofNo {F : Frz} {v : AVal} {cv : Value} (h : VRel F noL v cv) (L : Lay) : VRel F L v cv := h.toPure h.pureNo L

/-! ### Cells -/
theorem VRel.one {F : Frz} {L : Lay} {v : AVal} {cv : Value} (h : VRel F L v cv) (ho : v.one = true) : cv.oneCell' = true := by
  cases h with
  | ref h0 h1 h2 h => obtain ⟨a, l, c, rfl⟩ := h1; rfl
  | ptr h0 h1 h2 h => obtain ⟨a, rfl⟩ := h1; rfl
  | map h0 h1 h => obtain ⟨a, rfl⟩ := h1; rfl
  | _ => first | rfl | (simp [AVal.one] at ho)

theorem Value.cells_of_one {v : Value} (h : v.oneCell' = true) : v.cells = #[v] := by cases v <;> simp_all [Value.oneCell', Value.cells]

/-- the cells of a value, one by one -/
def CellsRel (F : Frz) (L : Lay) (cs : List AVal) (ca : List Value) : Prop :=
  ca.length = cs.length ∧ ∀ (i : Nat) (c : AVal), cs[i]? = some c → VRel F L c (ca.getD i undef)

theorem AVal.one_of_fits {n : Nat} {v : AVal} (h : v.fits n = true) : ∀ c ∈ v.cells, c.one = true := by
  cases v <;> simp_all [AVal.fits, AVal.cells, AVal.one]
theorem AVal.len_of_fits {n : Nat} {v : AVal} (h : v.fits n = true) : v.cells.length = n := by
  cases v <;> simp_all [AVal.fits, AVal.cells]

theorem VRel.cellsRel {F : Frz} {L : Lay} {v : AVal} {cv : Value} {n : Nat} (h : VRel F L v cv) (hf : v.fits n = true) : CellsRel F L v.cells cv.cells.toList := by
  cases v
  case agg cs =>
    cases h with
    | agg hl hc =>
      refine ⟨by simp [AVal.cells, Value.cells, hl], fun i c hi => ?_⟩
      have := hc i c hi
      simpa [Value.cells, Array.getD_eq_getD_getElem?, List.getD_eq_getElem?_getD] using this
  case und => simp [AVal.fits] at hf
  case tup => simp [AVal.fits] at hf
  all_goals
    have h1 : cv.oneCell' = true := h.one rfl
    refine ⟨by simp [AVal.cells, Value.cells_of_one h1], fun i c hi => ?_⟩
    rw [Value.cells_of_one h1]
    cases i with
    | zero => simp [AVal.cells] at hi; subst hi; simpa using h
    | succ i => simp [AVal.cells] at hi

/-! ### The store and the world -/
def EntRel (F : Frz) (L : Lay) (ks vs : List AVal) (es : List MapEntry) : Prop :=
  es.length = ks.length ∧ es.length = vs.length ∧
  (∀ (i : Nat) (c : AVal), ks[i]? = some c → ∃ m, es[i]? = some m ∧ VRel F L c m.key) ∧
  (∀ (i : Nat) (c : AVal), vs[i]? = some c → ∃ m, es[i]? = some m ∧ VRel F L c m.val)

def ObjOk (F : Frz) (L : Lay) (w : World) (loc : Loc) (gen : Nat) : AObj → Prop
  | .cells nl cs => gen = cs.length ∧ (∀ c ∈ cs, c.one = true) ∧
    match loc with
    | .blk b top => (nl = true → cs ≠ []) ∧ ∃ c elem, w.heap[b]? = some (.cells c elem (0, 0)) ∧ c.size = top ∧ cs.length ≤ top ∧
        ∀ (p : Nat) (x : AVal), cs[p]? = some x → VRel F L x (c.getD p undef)
    | .nil => nl = true ∧ cs = []
    | .mp _ => False
  | .map ks vs => ∃ r es clock, loc = .mp r ∧ w.heap[r]? = some (.map es clock) ∧ EntRel F L ks vs es.toList
  | .dead => False

def Loc.block? : Loc → Option Nat
  | .blk b _ => some b
  | .mp r => some r
  | .nil => none

/-- the blocks that live objects lie in -/
def Owns (L : Lay) (b : Nat) : Prop := ∃ o loc gen, L o = .live loc gen ∧ loc.block? = some b

structure Inv (F : Frz) (L : Lay) (σ : Sto) (w : World) : Prop where
  fz : ∀ b off v, F.cells b off = some v → w.cell? ⟨b, off, none⟩ = some v
  fm : ∀ r kv, F.maps r = some kv → ∃ es clock, w.heap[r]? = some (.map es clock) ∧ es.toList.map (fun e => (e.key, e.val)) = kv
  obj : ∀ o loc gen, L o = .live loc gen → ∃ ob, σ[o]? = some ob ∧ ObjOk F L w loc gen ob
  lt : ∀ o, L o ≠ .un → o < σ.length
  inj : ∀ o o' loc loc' gen gen' b, L o = .live loc gen → L o' = .live loc' gen' → loc.block? = some b → loc'.block? = some b → o = o'
  sep : ∀ b, Owns L b → (∀ off, F.cells b off = none) ∧ F.maps b = none
  dd : ∀ o, L o = .dead → σ[o]? = some .dead

/-- every object is known -/
def Full (L : Lay) (σ : Sto) : Prop := ∀ o, o < σ.length → L o ≠ .un

/-- one step, or many -/
structure Adv (F : Frz) (L : Lay) (w : World) (F' : Frz) (L' : Lay) (w' : World) : Prop where
  frz : F.Le F'
  evo : Evo L L'
  os : w'.os = w.os
  tape : w'.tape = w.tape
  output : w'.output = w.output
  size : w.heap.size ≤ w'.heap.size
  own : ∀ b, b < w.heap.size → Owns L' b → Owns L b
  keep : ∀ b, b < w.heap.size → ¬ Owns L b → w'.heap[b]? = w.heap[b]?
  fkeep : ∀ b, b < w.heap.size → ¬ Owns L b → (∀ off, F'.cells b off = F.cells b off) ∧ F'.maps b = F.maps b

theorem Adv.refl (F : Frz) (L : Lay) (w : World) : Adv F L w F L w :=
  ⟨Frz.Le.refl F, Evo.refl L, rfl, rfl, rfl, Nat.le_refl _, fun _ _ h => h, fun _ _ _ => rfl, fun _ _ _ => ⟨fun _ => rfl, rfl⟩⟩

theorem Adv.trans {F F' F'' : Frz} {L L' L'' : Lay} {w w' w'' : World} (h : Adv F L w F' L' w') (k : Adv F' L' w' F'' L'' w'') : Adv F L w F'' L'' w'' where
  frz := h.frz.trans k.frz
  evo := h.evo.trans k.evo
  os := k.os.trans h.os
  tape := k.tape.trans h.tape
  output := k.output.trans h.output
  size := Nat.le_trans h.size k.size
  own := fun b hb ho => h.own b hb (k.own b (Nat.lt_of_lt_of_le hb h.size) ho)
  keep := fun b hb ho => (k.keep b (Nat.lt_of_lt_of_le hb h.size) fun o => ho (h.own b hb o)).trans (h.keep b hb ho)
  fkeep := fun b hb ho =>
    have a := h.fkeep b hb ho
    have c := k.fkeep b (Nat.lt_of_lt_of_le hb h.size) fun o => ho (h.own b hb o)
    ⟨fun off => (c.1 off).trans (a.1 off), c.2.trans a.2⟩

theorem Adv.rel {F F' : Frz} {L L' : Lay} {w w' : World} (h : Adv F L w F' L' w') {v : AVal} {cv : Value} (r : VRel F L v cv) : VRel F' L' v cv := r.mono h.frz h.evo

theorem ObjOk.heap {F : Frz} {L : Lay} {w : World} {loc : Loc} {gen : Nat} {ob : AObj} (h : ObjOk F L w loc gen ob) {b : Nat} (hb : loc.block? = some b) : b < w.heap.size := by
  cases ob with
  | cells nl cs =>
    obtain ⟨_, _, h3⟩ := h
    cases loc with
    | blk b' top => obtain ⟨_, c, e, hw, _⟩ := h3; simp [Loc.block?] at hb; subst hb; exact (Array.getElem?_eq_some_iff.1 hw).1
    | nil => simp [Loc.block?] at hb
    | mp r => exact h3.elim
  | map ks vs => obtain ⟨r, es, cl, rfl, hw, _⟩ := h; simp [Loc.block?] at hb; subst hb; exact (Array.getElem?_eq_some_iff.1 hw).1
  | dead => exact h.elim

theorem ObjOk.mono {F F' : Frz} {L L' : Lay} {w w' : World} {loc : Loc} {gen : Nat} {ob : AObj} (h : ObjOk F L w loc gen ob)
    (hF : F.Le F') (hE : Evo L L') (hw : ∀ b, loc.block? = some b → w'.heap[b]? = w.heap[b]?) : ObjOk F' L' w' loc gen ob := by
  cases ob with
  | cells nl cs =>
    obtain ⟨h1, h2, h3⟩ := h
    refine ⟨h1, h2, ?_⟩
    cases loc with
    | blk b' top =>
      obtain ⟨h4, c, e, h5, h6, h7, h8⟩ := h3
      exact ⟨h4, c, e, (hw _ rfl).trans h5, h6, h7, fun p x hp => (h8 p x hp).mono hF hE⟩
    | nil => exact h3
    | mp r => exact h3
  | map ks vs =>
    obtain ⟨r, es, cl, rfl, h1, h2, h3, h4, h5⟩ := h
    exact ⟨r, es, cl, rfl, (hw _ rfl).trans h1, h2, h3, fun i c hc => let ⟨m, a, b⟩ := h4 i c hc; ⟨m, a, b.mono hF hE⟩, fun i c hc => let ⟨m, a, b⟩ := h5 i c hc; ⟨m, a, b.mono hF hE⟩⟩
  | dead => exact h

theorem Inv.old {F : Frz} {L : Lay} {σ : Sto} {w : World} (hI : Inv F L σ w) {b : Nat} (h : Owns L b) : b < w.heap.size := by
  obtain ⟨o, loc, gen, h1, h2⟩ := h
  obtain ⟨ob, _, hk⟩ := hI.obj o loc gen h1
  exact hk.heap h2

def updL (L : Lay) (o : Nat) (s : Lst) : Lay := fun i => if i = o then s else L i
theorem updL_same (L : Lay) (o : Nat) (s : Lst) : updL L o s o = s := by simp [updL]
theorem updL_ne (L : Lay) {o i : Nat} (s : Lst) (h : i ≠ o) : updL L o s i = L i := by simp [updL, h]
theorem evo_updL {L : Lay} {o : Nat} {s : Lst} (h : EvoSt (L o) s) : Evo L (updL L o s) := by
  intro i
  by_cases e : i = o
  · subst e; rw [updL_same]; exact h
  · rw [updL_ne _ _ e]; exact EvoSt.refl _

theorem World.cell?_heap {w w' : World} {b off : Nat} (h : w'.heap[b]? = w.heap[b]?) : w'.cell? ⟨b, off, none⟩ = w.cell? ⟨b, off, none⟩ := by
  simp only [World.cell?, h]
theorem World.cell?_lt {w : World} {b off : Nat} {v : Value} (h : w.cell? ⟨b, off, none⟩ = some v) : b < w.heap.size := by
  rcases Nat.lt_or_ge b w.heap.size with h' | h'
  · exact h'
  · simp [World.cell?, Array.getElem?_eq_none h'] at h

/-- One object is made, turned or grown. -/
theorem Inv.change {F : Frz} {L : Lay} {σ σ' : Sto} {w w' : World} (hI : Inv F L σ w) {o : Nat} {loc : Loc} {gen : Nat} {ob : AObj}
    (hlen : σ.length ≤ σ'.length) (hσ : ∀ i, i < σ.length → i ≠ o → σ'[i]? = σ[i]?) (hob : σ'[o]? = some ob)
    (hev : EvoSt (L o) (.live loc gen))
    (hos : w'.os = w.os) (htape : w'.tape = w.tape) (hout : w'.output = w.output) (hsize : w.heap.size ≤ w'.heap.size)
    (hB : ∀ b, loc.block? = some b → (∃ loc0 gen0, L o = .live loc0 gen0 ∧ loc0.block? = some b) ∨ w.heap.size ≤ b)
    (hw : ∀ k, k < w.heap.size → loc.block? ≠ some k → w'.heap[k]? = w.heap[k]?)
    (hok : ObjOk F L w' loc gen ob) :
    Inv F (updL L o (.live loc gen)) σ' w' ∧ Adv F L w F (updL L o (.live loc gen)) w' := by
  have hE := evo_updL hev
  have hfree : ∀ b, b < w.heap.size → ¬ Owns L b → loc.block? ≠ some b := by
    intro b hb hn hl
    rcases hB b hl with ⟨l0, g0, h1, h2⟩ | h
    · exact hn ⟨o, l0, g0, h1, h2⟩
    · omega
  have hown : ∀ b, b < w.heap.size → Owns (updL L o (.live loc gen)) b → Owns L b := by
    rintro b hb ⟨i, l, g, h1, h2⟩
    by_cases e : i = o
    · subst e
      rw [updL_same] at h1
      injection h1 with e1 e2; subst e1
      rcases hB b h2 with ⟨l0, g0, h3, h4⟩ | h
      · exact ⟨_, l0, g0, h3, h4⟩
      · omega
    · rw [updL_ne _ _ e] at h1
      exact ⟨i, l, g, h1, h2⟩
  refine ⟨⟨?_, ?_, ?_, ?_, ?_, ?_, ?_⟩, ⟨Frz.Le.refl F, hE, hos, htape, hout, hsize, hown, fun b hb hn => hw b hb (hfree b hb hn), fun _ _ _ => ⟨fun _ => rfl, rfl⟩⟩⟩
  · intro b off v hv
    have h1 := hI.fz b off v hv
    have hb := World.cell?_lt h1
    have hn : ¬ Owns L b := fun ho => by have := (hI.sep b ho).1 off; rw [this] at hv; exact absurd hv (by simp)
    rw [World.cell?_heap (hw b hb (hfree b hb hn))]; exact h1
  · intro r kv hr
    obtain ⟨es, cl, h1, h2⟩ := hI.fm r kv hr
    have hb : r < w.heap.size := (Array.getElem?_eq_some_iff.1 h1).1
    have hn : ¬ Owns L r := fun ho => by have := (hI.sep r ho).2; rw [this] at hr; exact absurd hr (by simp)
    exact ⟨es, cl, (hw r hb (hfree r hb hn)).trans h1, h2⟩
  · intro i l g hi
    by_cases e : i = o
    · subst e
      rw [updL_same] at hi
      injection hi with e1 e2; subst e1; subst e2
      exact ⟨ob, hob, hok.mono (Frz.Le.refl F) hE fun _ _ => rfl⟩
    · rw [updL_ne _ _ e] at hi
      obtain ⟨ob', h1, h2⟩ := hI.obj i l g hi
      have hlt : i < σ.length := (List.getElem?_eq_some_iff.1 h1).1
      refine ⟨ob', (hσ i hlt e).trans h1, h2.mono (Frz.Le.refl F) hE fun b hb => hw b (h2.heap hb) fun hl => ?_⟩
      rcases hB b hl with ⟨l0, g0, h3, h4⟩ | h
      · exact e (hI.inj _ _ _ _ _ _ b hi h3 hb h4)
      · have := h2.heap hb; omega
  · intro i hi
    by_cases e : i = o
    · subst e; exact (List.getElem?_eq_some_iff.1 hob).1
    · rw [updL_ne _ _ e] at hi; exact Nat.lt_of_lt_of_le (hI.lt i hi) hlen
  · intro i i' l l' g g' b h1 h2 h3 h4
    by_cases e : i = o
    · by_cases e' : i' = o
      · omega
      · subst e
        rw [updL_same] at h1
        injection h1 with e1 e2; subst e1
        rw [updL_ne _ _ e'] at h2
        rcases hB b h3 with ⟨l0, g0, h5, h6⟩ | h
        · exact hI.inj _ _ _ _ _ _ b h5 h2 h6 h4
        · have := hI.old ⟨_, _, _, h2, h4⟩; omega
    · by_cases e' : i' = o
      · subst e'
        rw [updL_same] at h2
        injection h2 with e1 e2; subst e1
        rw [updL_ne _ _ e] at h1
        rcases hB b h4 with ⟨l0, g0, h5, h6⟩ | h
        · exact hI.inj _ _ _ _ _ _ b h1 h5 h3 h6
        · have := hI.old ⟨_, _, _, h1, h3⟩; omega
      · rw [updL_ne _ _ e] at h1
        rw [updL_ne _ _ e'] at h2
        exact hI.inj _ _ _ _ _ _ b h1 h2 h3 h4
  · intro b hb
    rcases Nat.lt_or_ge b w.heap.size with h | h
    · exact hI.sep b (hown b h hb)
    · refine ⟨fun off => ?_, ?_⟩
      · cases hc : F.cells b off with
        | none => rfl
        | some v => have := World.cell?_lt (hI.fz b off v hc); omega
      · cases hc : F.maps b with
        | none => rfl
        | some v => obtain ⟨es, cl, h1, _⟩ := hI.fm b v hc; have := (Array.getElem?_eq_some_iff.1 h1).1; omega
  · intro i hi
    by_cases e : i = o
    · subst e; rw [updL_same] at hi; exact absurd hi (by simp)
    · rw [updL_ne _ _ e] at hi
      have h1 := hI.dd i hi
      exact (hσ i (List.getElem?_eq_some_iff.1 h1).1 e).trans h1

/-- A longer store, of which the layout knows as much. -/
theorem Inv.extend {F : Frz} {L : Lay} {σ σ' : Sto} {w : World} (hI : Inv F L σ w) (h : ∀ i, i < σ.length → σ'[i]? = σ[i]?) (hl : σ.length ≤ σ'.length) : Inv F L σ' w :=
  ⟨hI.fz, hI.fm, fun o loc gen ho => let ⟨ob, h1, h2⟩ := hI.obj o loc gen ho; ⟨ob, (h o (List.getElem?_eq_some_iff.1 h1).1).trans h1, h2⟩,
    fun o ho => Nat.lt_of_lt_of_le (hI.lt o ho) hl, hI.inj, hI.sep, fun o ho => (h o (List.getElem?_eq_some_iff.1 (hI.dd o ho)).1).trans (hI.dd o ho)⟩

/-- An object dies. -/
theorem Inv.kill {F : Frz} {L : Lay} {σ σ' : Sto} {w : World} (hI : Inv F L σ w) {o : Nat} (ho : L o ≠ .un)
    (hlen : σ.length ≤ σ'.length) (hσ : ∀ i, i < σ.length → i ≠ o → σ'[i]? = σ[i]?) (hd : σ'[o]? = some .dead) :
    Inv F (updL L o .dead) σ' w ∧ Adv F L w F (updL L o .dead) w := by
  have hev : EvoSt (L o) .dead := by
    cases h : L o with
    | un => exact absurd h ho
    | dead => rfl
    | live l g => exact .inl rfl
  have hE := evo_updL hev
  have hne : ∀ i l g, updL L o .dead i = .live l g → i ≠ o ∧ L i = .live l g := by
    intro i l g h
    by_cases e : i = o
    · subst e; rw [updL_same] at h; exact absurd h (by simp)
    · exact ⟨e, by rwa [updL_ne _ _ e] at h⟩
  have hown : ∀ b, Owns (updL L o .dead) b → Owns L b := fun b ⟨i, l, g, h1, h2⟩ => ⟨i, l, g, (hne i l g h1).2, h2⟩
  refine ⟨⟨hI.fz, hI.fm, fun i l g hi => ?_, fun i hi => ?_, fun i i' l l' g g' b h1 h2 => hI.inj _ _ _ _ _ _ b (hne _ _ _ h1).2 (hne _ _ _ h2).2, fun b hb => hI.sep b (hown b hb), fun i hi => ?_⟩,
    ⟨Frz.Le.refl F, hE, rfl, rfl, rfl, Nat.le_refl _, fun b _ hb => hown b hb, fun _ _ _ => rfl, fun _ _ _ => ⟨fun _ => rfl, rfl⟩⟩⟩
  · obtain ⟨e, hi'⟩ := hne i l g hi
    obtain ⟨ob, h1, h2⟩ := hI.obj i l g hi'
    exact ⟨ob, (hσ i (List.getElem?_eq_some_iff.1 h1).1 e).trans h1, h2.mono (Frz.Le.refl F) hE fun _ _ => rfl⟩
  · by_cases e : i = o
    · subst e; exact Nat.lt_of_lt_of_le (hI.lt i ho) hlen
    · rw [updL_ne _ _ e] at hi; exact Nat.lt_of_lt_of_le (hI.lt i hi) hlen
  · by_cases e : i = o
    · subst e; exact hd
    · rw [updL_ne _ _ e] at hi
      have h1 := hI.dd i hi
      exact (hσ i (List.getElem?_eq_some_iff.1 h1).1 e).trans h1

/-- What an object holds, a layout being known. -/
theorem Inv.cells {F : Frz} {L : Lay} {σ : Sto} {w : World} (hI : Inv F L σ w) {o : Nat} {b top gen : Nat} (hL : L o = .live (.blk b top) gen) {nl : Bool} {cs : List AVal}
    (hσ : σ[o]? = some (.cells nl cs)) : gen = cs.length ∧ (∀ c ∈ cs, c.one = true) ∧ (nl = true → cs ≠ []) ∧ ∃ c elem, w.heap[b]? = some (.cells c elem (0, 0)) ∧ c.size = top ∧
      cs.length ≤ top ∧ ∀ (p : Nat) (x : AVal), cs[p]? = some x → VRel F L x (c.getD p undef) := by
  obtain ⟨ob, h1, h2⟩ := hI.obj _ _ _ hL
  rw [hσ] at h1
  obtain rfl := Option.some.inj h1
  obtain ⟨h3, h4, h5, c, e, h6⟩ := h2
  exact ⟨h3, h4, h5, c, e, h6⟩

end Go.Abs
