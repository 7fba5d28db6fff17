/- An operation under a guard that holds; arguments that say less. No program in sight. -/
import Derived.Test.YtcnikeonaklkoaaSplit
namespace Go.Proofs.Ytcnikeonaklkoaa
open Go
set_option linter.unusedVariables false
set_option linter.unusedSimpArgs false
variable {P : Program} {ro : Ro} {ops : Array Oper} {E : Env}

theorem uponIn_guard {F : Fence} {n : Nat} {dst : Option Tmp} {op : Op} {ty : TypeId} {pos : String} {af : Array Edge} {gd gd' : Option (Nat × Bool)} {a : Act} {K : Act → World → Prop} {Q : Exit → Act → World → Prop} (r : Result Next) :
    Oper.uponIn F n P ⟨dst, op, ty, pos, af, gd⟩ a K Q r = Oper.uponIn F n P ⟨dst, op, ty, pos, af, gd'⟩ a K Q r := by
  cases r with
  | ok o w => cases o <;> rfl
  | _ => rfl
theorem axOp_guard {dst : Option Tmp} {op : Op} {ty : TypeId} {pos : String} {af : Array Edge} {gd : Nat × Bool} {rn : List Nat} {S : St} {post : List (Nat × Option Cont)} {new gs : List Nat} (h : AxOp P ro ops ⟨dst, op, ty, pos, af, none⟩ ⟨rn, S, post, new⟩)
    (hgd : guardIn ops S ⟨dst, op, ty, pos, af, some gd⟩ = some (gs, true)) : AxOp P ro ops ⟨dst, op, ty, pos, af, some gd⟩ ⟨rn ++ gs, S, post, new⟩ := by
  intro E T a w hs hf hok hr Q hpn
  have h1 := h E T a w (fun n hn => hs n (by simp [hn])) hf hok hr Q hpn
  obtain ⟨V, M, ha, hw⟩ := hr
  have hwant := wanted_of (E := E) (fun n hn => hs n (by simp [hn])) hgd (fun n hn => hn) ha
  unfold stepIn at *
  rw [if_pos (by simp [Region.wanted])] at h1
  rw [if_pos hwant]
  refine ⟨h1.1, ?_⟩
  have h2 := h1.2
  rw [uponIn_guard (gd' := some gd)] at h2
  exact h2
theorem Trace.og {S S' : St} {dst : Option Tmp} {op : Op} {ty : TypeId} {pos : String} {af : Array Edge} {gd : Nat × Bool} {rn : List Nat} {post : List (Nat × Option Cont)} {new gs : List Nat} {r : List Oper} {L : List Ax}
    (hgd : guardIn ops S ⟨dst, op, ty, pos, af, some gd⟩ = some (gs, true)) (h : Trace P ro ops (⟨dst, op, ty, pos, af, none⟩ :: r) S (⟨rn, S, post, new⟩ :: L) S') :
    Trace P ro ops (⟨dst, op, ty, pos, af, some gd⟩ :: r) S (⟨rn ++ gs, S, post, new⟩ :: L) S' := by
  cases h with
  | cons ha hs hf he h => exact .cons (axOp_guard ha hgd) (fun _ _ => rfl) hf he h

/-- An argument that says more. -/
theorem FnSpec.argLe {f : FuncId} {A1 A2 : List AV} {x y : AV} {Bs Bs' : St} {res : AV} {keep : List Nat} (h : FnSpec P f (A1 ++ y :: A2) Bs res Bs' keep) (hx : ∀ V M v, Den V M x v → Den V M y v) : FnSpec P f (A1 ++ x :: A2) Bs res Bs' keep := by
  intro V M w passed vs hw hd
  refine h V M w passed vs hw ⟨by have := hd.len; simpa using this, fun j z u hz hu => ?_⟩
  by_cases hj : j = A1.length
  · subst hj
    simp at hz
    subst hz
    exact hx V M u (hd.at' A1.length x u (by simp) hu)
  · refine hd.at' j z u ?_ hu
    rw [List.getElem?_append] at hz ⊢
    split at hz
    · rename_i h9; rw [if_pos h9]; exact hz
    · rename_i h9
      rw [if_neg h9]
      cases hk : j - A1.length with
      | zero => omega
      | succ k => rw [hk] at hz; exact hz

end Go.Proofs.Ytcnikeonaklkoaa
