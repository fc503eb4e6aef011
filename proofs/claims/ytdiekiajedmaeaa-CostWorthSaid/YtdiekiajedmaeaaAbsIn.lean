/- A frame of a function and a frame of a round of a range over a function: the same laws. -/
import Derived.TacticsIn
import Derived.OrdersIn
import Derived.RangeFuncRecord
import Derived.Sort.LoopGhostIn
import Derived.Scope
set_option linter.all false
namespace Go.Abs
open Go

def Fr (rd : Option Nat) : Fence := { Fence.wide with round := rd }

section
variable {P : Program} {rd : Option Nat}

theorem Zjw {m : Nat} {f : FuncId} {args : Array Value} {w : World} {R : Ending → World → Prop} (h : Calls P f args w R) : CallsIn (Fr rd) m P f args w R :=
 ⟨trivial, fun cs _ => ((callsIn_wide (n := m)).2 h).2 cs (room_wide _)⟩

theorem ZfL {m : Nat} {f : FuncId} {args : Array Value} {w : World} {R : Ending → World → Prop} (h : CallsIn (Fr none) m P f args w R) : Calls P f args w R :=
 (callsIn_wide (n := m)).1 h

theorem ZeR {rd : Option Nat} {ρ : Operand → Value} {o : Oper} (h : ∀ c, o.op ≠ .defer c) : Oper.semAt (Fr rd).round ρ o = execOp ρ o := by
 cases rd with
 | none => exact Oper.semAt_none ρ o
 | some l => exact Oper.semAt_some l ρ o h

variable {o : Oper} {a : Act} {w : World} {next : Act → World → Prop} {Q : Exit → Act → World → Prop}

theorem Zbp {v : Value} {w' : World} (hd : ∀ c, o.op ≠ .defer c) (h : (execOp a.eval o).run P w = .ok (.value v) w') (hn : next (a.put o.dst v) w') : o.wpIn (Fr rd) 0 P a w next Q := by
 refine ⟨fun _ _ => trivial, ?_⟩
 rw [ZeR hd, h, Oper.uponIn_value]; exact hn

theorem ZgC {w' : World} (hd : ∀ c, o.op ≠ .defer c) (h : (execOp a.eval o).run P w = .ok .skip w') (hn : next (a.put o.dst undef) w') : o.wpIn (Fr rd) 0 P a w next Q := by
 refine ⟨fun _ _ => trivial, ?_⟩
 rw [ZeR hd, h, Oper.uponIn_skip]; exact hn

theorem ZaK {f : FuncId} {args : Array Value} {w' : World} (hd : ∀ c, o.op ≠ .defer c) (h : (execOp a.eval o).run P w = .ok (.enter f args) w') (hn : Calls P f args w' fun e w'' => ∃ v, e = .returned v ∧ next (a.put o.dst v) w'') :
  o.wpIn (Fr rd) 0 P a w next Q := by
 refine ⟨fun _ _ => trivial, ?_⟩
 rw [ZeR hd, h, Oper.uponIn_enter]
 exact ⟨fun hx => by simp [Fr, Fence.wide] at hx, Zjw (hn.mono fun e w'' ⟨v, he, hv⟩ => by subst he; exact hv)⟩

theorem ZhF {l : Nat} {f : FuncId} {tmps : Array Value} {assign body : Code} {w' : World} (hd : ∀ c, o.op ≠ .defer c) (h : (execOp a.eval o).run P w = .ok (.round l f tmps assign body) w')
  (hn : ∀ rd, RoundIn (Fr rd) 0 P l f tmps assign body w' fun e w'' => ∃ v, e = .returned v ∧ next (a.put o.dst v) w'') : o.wpIn (Fr rd) 0 P a w next Q := by
 refine ⟨fun _ _ => trivial, ?_⟩
 rw [ZeR hd, h, Oper.uponIn_round]
 exact ⟨fun hx => by simp [Fr, Fence.wide] at hx, (hn rd).mono fun e w'' ⟨v, he, hv⟩ => by subst he; exact hv⟩

theorem ZdY {F : Fence} {n : Nat} {c : Code} (h : c.wpIn F n P (Exit.noGoto Q) a w) : (Code.scope c).wpIn F n P Q a w := by
 intro b k cs hro hb hr
 have h0 : (lone (b.atR a (.code (.scope c) :: k)) cs w).fenced P F := fenced_calm hb hr rfl
 have s0 : step P (lone (b.atR a (.code (.scope c) :: k)) cs w) = .next (lone (b.atR a (.code c :: .inScope c :: k)) cs w) := step_lone_go (by simp [stepG, stepG.exec, Frame.atR])
 obtain ⟨e, a₁, w₁, hq, harr⟩ := h b (.inScope c :: k) cs hro hb hr
 cases e with
 | normal =>
  have s1 : step P (lone (b.atR a₁ (.inScope c :: k)) cs w₁) = .next (lone (b.atR a₁ k) cs w₁) := step_lone_go (by simp [stepG, stepG.exec, Frame.atR])
  exact ⟨.normal, a₁, w₁, hq, .head h0 s0 (StepsIn.trans harr (.one (fenced_calm hb hr rfl) s1))⟩
 | exit id =>
  have hx : exitTo id (.inScope c :: k) = exitTo id k := by simp [exitTo]
  exact ⟨.exit id, a₁, w₁, hq, fun k' hk => .head h0 s0 (harr.1 k' (by rw [hx]; exact hk)),
   fun hr' hk => let ⟨k₁, h1, h2⟩ := harr.2 hr' (by rw [hx]; exact hk); ⟨k₁, h1, .head h0 s0 h2⟩⟩
 | goto l => exact hq.elim
 | ret => exact ⟨_, a₁, w₁, hq, .of_steps (.one h0 s0) harr⟩
 | panic ch => exact ⟨_, a₁, w₁, hq, .of_steps (.one h0 s0) harr⟩
 | outgrown => exact ⟨_, a₁, w₁, hq, .of_steps (.one h0 s0) harr⟩
end

def Zau (bs : Nat) (w : World) (ds : List Deferred) : Prop :=
 bs ≤ w.heap.size ∧ ∃ Ds : List Nat, ds = Ds.map (fun D => { target := .collected D, args := #[] }) ∧ Ds.Nodup ∧ ∀ D ∈ Ds, bs ≤ D ∧ w.heap[D]? = some (.deferred (some []))

theorem Zau.nil {bs : Nat} {w : World} (h : bs ≤ w.heap.size) : Zau bs w [] := ⟨h, [], rfl, List.nodup_nil, fun D h => by simp at h⟩

theorem Zau.keep {bs : Nat} {w w' : World} {ds : List Deferred} (h : Zau bs w ds) (hs : w.heap.size ≤ w'.heap.size) (k : ∀ D : Nat, w.heap[D]? = some (.deferred (some [])) → w'.heap[D]? = some (.deferred (some []))) : Zau bs w' ds :=
 let ⟨h0, Ds, h1, h2, h3⟩ := h
 ⟨Nat.le_trans h0 hs, Ds, h1, h2, fun D hD => ⟨(h3 D hD).1, k D (h3 D hD).2⟩⟩

theorem Zau.push {bs : Nat} {w w' : World} {ds : List Deferred} (h : Zau bs w ds) (hs : w.heap.size ≤ w'.heap.size) (k : ∀ D : Nat, D < w.heap.size → w'.heap[D]? = w.heap[D]?) (hD : w'.heap[w.heap.size]? = some (.deferred (some []))) :
  Zau bs w' ({ target := .collected w.heap.size, args := #[] } :: ds) := by
 obtain ⟨h0, Ds, rfl, h2, h3⟩ := h
 have hlt : ∀ D ∈ Ds, D < w.heap.size := fun D hD => (Array.getElem?_eq_some_iff.1 (h3 D hD).2).1
 refine ⟨Nat.le_trans h0 hs, w.heap.size :: Ds, rfl, List.nodup_cons.2 ⟨fun hm => by have := hlt _ hm; omega, h2⟩, fun D' hD' => ?_⟩
 rcases List.mem_cons.1 hD' with rfl | hD'
 ·exact ⟨h0, hD⟩
 ·exact ⟨(h3 D' hD').1, (k D' (hlt D' hD')).trans (h3 D' hD').2⟩

end Go.Abs
