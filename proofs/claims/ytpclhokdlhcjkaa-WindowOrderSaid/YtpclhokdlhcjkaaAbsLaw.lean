/- A law that returns true, called at the top. -/
import Derived.Test.YtpclhokdlhcjkaaAbsVal
set_option linter.all false
namespace Go.Abs
open Go

theorem snapA_bool {σ : Sto} {n : Nat} {v : AVal} {b : Bool} (h : snapA σ n v = some (.bool b)) : v = .bool b := by
 cases n with
 | zero => simp [snapA] at h
 | succ n =>
  unfold snapA at h
  split at h
  ·exact Option.some.inj h
  ·split at h
   all_goals first
    | (simp at h; done)
    | (repeat' split at h) <;> simp at h

theorem law_top {T : FuncId → Option AFunc} {f : FuncId} {af : AFunc} {args : List AVal} (hf : T f = some af) (hp : AVal.pures args = true) (h : Cw T true f args [] [] fun v _ => v = .bool true) :
  ∃ n, callW T n false f args [] [] fun v _ => v = .bool true := by
 refine (cw_shared hf).2 (((cw_pure hf (mapM_snap_pure hp)).1 h).mono fun x e σ' hx => ret_mono (fun v σ'' h => ?_) hx)
 split at h
 ·rename_i v' hv
  obtain ⟨_, rfl⟩ := h
  have := snapA_bool hv
  subst this
  unfold cutQ
  split
  ·exact ⟨rfl, by simp, rfl⟩
  ·rfl
 ·exact h.elim
end Go.Abs
