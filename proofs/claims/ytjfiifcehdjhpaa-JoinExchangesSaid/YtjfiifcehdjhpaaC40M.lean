/- Chapter 40: what a case describes can be joined. -/
import Derived.Test.YtjfiifcehdjhpaaJC40A
set_option linter.all false
set_option linter.unusedSimpArgs false
set_option linter.unusedVariables false
set_option maxRecDepth 100000
set_option maxHeartbeats 4000000
namespace Go.Abs
open Go

theorem tab_short (k : Nat) : Short (tab k) := by
 unfold tab
 split <;> (show ByteArray.size _ < _; decide)
theorem mkRows_len {b : List Nat} {w : Nat} : (mkRows b w).length ≤ 20 := by
 simp only [mkRows, List.length_map, List.length_range]; omega
theorem mkRows_row {b : List Nat} {w : Nat} {r : List Val} (h : r ∈ mkRows b w) : r.length = w ∧ ∀ v ∈ r, Short v := by
 obtain ⟨i, _, rfl⟩ := List.mem_map.1 h
 refine ⟨rowAt_len, fun v hv => ?_⟩
 obtain ⟨q, _, rfl⟩ := List.mem_map.1 hv
 exact tab_short _
theorem lstR_mem {X : List (List Val)} {p : SlF × List Val} (h : p ∈ lstR X) : p.1 = .lst ∧ p.2 ∈ X := by
 obtain ⟨r, hr, rfl⟩ := List.mem_map.1 h
 exact ⟨rfl, hr⟩
structure Wide (a : Rows) (m : Nat) : Prop where
 n : a.length ≤ 20
 w : ∀ p ∈ a, p.2.length = m
 s : ∀ p ∈ a, ∀ v ∈ p.2, Short v
theorem Wide.fit {a : Rows} {m : Nat} (h : Wide a m) (hm : m ≤ 3) : RowsFit a :=
 ⟨by have := h.n; omega, fun p hp => ⟨by have := h.w p hp; show p.2.length < _; omega, h.s p hp⟩⟩
theorem mk_wide {b : List Nat} {w : Nat} : Wide (lstR (mkRows b w)) w :=
 ⟨by rw [List.length_map]; exact mkRows_len, fun p hp => (mkRows_row (lstR_mem hp).2).1, fun p hp => (mkRows_row (lstR_mem hp).2).2⟩
theorem Wide.sub {a a' : Rows} {m : Nat} (h : Wide a m) (hs : a'.Sublist a) : Wide a' m :=
 ⟨Nat.le_trans hs.length_le h.n, fun p hp => h.w p (hs.subset hp), fun p hp => h.s p (hs.subset hp)⟩
structure Two (a b : Rows) (m n : Nat) (i j : Int) : Prop where
 ha : Wide a m
 hb : Wide b n
 hm : m ≤ 3
 hn : n ≤ 3
 i0 : 0 ≤ i
 j0 : 0 ≤ j
 im : i < m
 jn : j < n
theorem Two.ok {a b : Rows} {m n : Nat} {i j : Int} (h : Two a b m n i j) : JoinOk a b i j :=
 ⟨h.ha.fit h.hm, h.hb.fit h.hn, h.i0, h.j0, fun p hp => ⟨h.i0, by rw [h.ha.w p hp]; exact h.im⟩, fun p hp => ⟨h.j0, by rw [h.hb.w p hp]; exact h.jn⟩,
  fun p hp => by have := h.ha.w p hp; have := h.hm; omega, fun p hp => by have := h.hb.w p hp; have := h.hn; omega⟩
theorem Two.sub {a b a' b' : Rows} {m n : Nat} {i j : Int} (h : Two a b m n i j) (h1 : a'.Sublist a) (h2 : b'.Sublist b) : Two a' b' m n i j :=
 ⟨h.ha.sub h1, h.hb.sub h2, h.hm, h.hn, h.i0, h.j0, h.im, h.jn⟩
theorem Cas.two (z : Cas) : Two z.A z.B z.m z.n z.i z.j :=
 ⟨mk_wide, mk_wide, by show 1 + z.wa % 3 ≤ 3; omega, by show 1 + z.wb % 3 ≤ 3; omega, Int.natCast_nonneg _, Int.natCast_nonneg _, by
  have := Nat.mod_lt z.o0 (show 0 < z.m by show 0 < 1 + z.wa % 3; omega)
  show ((z.o0 % z.m : Nat) : Int) < _; omega, by
  have := Nat.mod_lt z.o1 (show 0 < z.n by show 0 < 1 + z.wb % 3; omega)
  show ((z.o1 % z.n : Nat) : Int) < _; omega⟩

theorem jrow_neg {part : List Val → Rows} {x : List Val} : jrow part (-1) x = (part x).map fun p => x ++ p.2 := by
 unfold jrow
 rw [if_neg (by rintro ⟨_, h⟩; omega)]
theorem join_len {a b : Rows} {i j : Int} : (joinL a b i j (-1)).length ≤ a.length * b.length := by
 induction a with
 | nil => simp
 | cons p a ih =>
  simp only [joinL, List.flatMap_cons, List.length_append, jrow_neg, List.length_map, List.length_cons] at ih ⊢
  have := List.length_filter_le (partP p.2 i j) b
  rw [Nat.succ_mul]; omega
theorem Two.len {a b : Rows} {m n : Nat} {i j : Int} (h : Two a b m n i j) : (joinL a b i j (-1)).length ≤ 400 := by
 refine Nat.le_trans join_len ?_
 have h1 := h.ha.n
 have h2 := h.hb.n
 exact Nat.le_trans (Nat.mul_le_mul h1 h2) (by decide)
theorem Two.len4 {a b : Rows} {m n : Nat} {i j : Int} (h : Two a b m n i j) : (joinL a b i j (-1)).length ≤ 4096 := by have := h.len; omega
theorem join_mem {a b : Rows} {i j : Int} {r : List Val} (h : r ∈ joinL a b i j (-1)) : ∃ p ∈ a, ∃ q ∈ b, r = p.2 ++ q.2 ∧ partP p.2 i j q = true := by
 obtain ⟨p, hp, hr⟩ := List.mem_flatMap.1 h
 rw [jrow_neg] at hr
 obtain ⟨q, hq, rfl⟩ := List.mem_map.1 hr
 obtain ⟨h1, h2⟩ := List.mem_filter.1 hq
 exact ⟨p, hp, q, h1, rfl, h2⟩
theorem Two.fitJ {a b : Rows} {m n : Nat} {i j : Int} (h : Two a b m n i j) : RowsFit (lstR (joinL a b i j (-1))) := by
 refine ⟨by rw [List.length_map]; have := h.len; omega, fun p hp => ?_⟩
 obtain ⟨_, hr⟩ := lstR_mem hp
 obtain ⟨u, hu, v, hv, e, _⟩ := join_mem hr
 rw [e]
 have h1 := h.ha.w u hu
 have h2 := h.hb.w v hv
 have := h.hm
 have := h.hn
 refine ⟨by show (u.2 ++ v.2).length < _; rw [List.length_append]; omega, fun w hw => ?_⟩
 rcases List.mem_append.1 hw with hw | hw
 ·exact h.ha.s u hu w hw
 ·exact h.hb.s v hv w hw
theorem join_app {a a' b : Rows} {i j n : Int} : joinL (a ++ a') b i j n = joinL a b i j n ++ joinL a' b i j n := by
 simp only [joinL, List.flatMap_append]
theorem join_one {p : SlF × List Val} {b : Rows} {i j : Int} : joinL [p] b i j (-1) = (b.filter (partP p.2 i j)).map fun q => p.2 ++ q.2 := by
 simp only [joinL, List.flatMap_cons, List.flatMap_nil, List.append_nil, jrow_neg]
theorem join_part {a b : Rows} {i j : Int} (k : Nat) : (joinL a (b.take k) i j (-1)).length ≤ (joinL a b i j (-1)).length := by
 induction a with
 | nil => simp [joinL]
 | cons p a ih =>
  simp only [joinL, List.flatMap_cons, List.length_append, jrow_neg, List.length_map] at ih ⊢
  have := ((List.take_sublist k b).filter (partP p.2 i j)).length_le
  omega
end Go.Abs
