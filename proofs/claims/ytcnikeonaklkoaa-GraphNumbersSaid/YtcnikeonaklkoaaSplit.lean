/- A region walked in two parts, the state made smaller in between. No program in sight. -/
import Derived.Test.YtcnikeonaklkoaaNil
namespace Go.Proofs.Ytcnikeonaklkoaa
open Go
set_option linter.unusedVariables false
set_option linter.unusedSimpArgs false
variable {P : Program} {ro : Ro} {ops : Array Oper} {E : Env}

theorem wpOpsIn_then {Q : Exit → Act → World → Prop} {E : Env} {l : List Oper} {S S' : St} {L : List Ax} (h : Trace P ro ops l S L S') (R : List Nat) :
    KeepOK E L → (∀ x, ro.pan = some x → ∀ a w, Rep E x.2 a w → Q (.panic x.1) a w) → (∀ a w, Rep E S' a w → wpOpsIn (FW ro) 0 P ops Q R a w) → ∀ k, (∀ j, j < l.length → l[j]? = ops[k + j]?) → ∀ a w, Rep E S a w →
      wpOpsIn (FW ro) 0 P ops Q (List.range' k l.length ++ R) a w := by
  induction h with
  | nil S => intro _ _ hq k _ a w hr; exact hq a w hr
  | @cons o A S T r l S' ha hs hf he h ih =>
    intro hk hpn hq k hj a w hr
    have h0 : ops[k]? = some o := by simpa using (hj 0 (by simp)).symm
    have hs' := ha E S a w hs hf (hk A (by simp)) hr Q hpn
    rw [List.length_cons, List.range'_succ, List.cons_append, wpOpsIn_cons]
    unfold wpOpIn
    simp only [h0]
    exact stepIn_mono (fun a w hr => ih (fun B hB => hk B (by simp [hB])) hpn hq (k + 1) (fun j hj' => by have := hj (j + 1) (by simp; omega); simpa [Nat.add_assoc, Nat.add_comm 1 j] using this) a w (hr.weaken fun n c e => by rw [← he n]; exact e)) hs'

theorem WPA.region2 {id : Nat} {S S1 S' : St} {L1 L2 : List Ax} {Q : Exit → St → Prop} (k : Nat) {T : St} (h1 : Trace P ro ops (ops.toList.take k) S L1 S1) (hk1 : KeepOK E L1) (hle : T.le S1) (h2 : Trace P ro ops (ops.toList.drop k) T L2 S') (hk2 : KeepOK E L2) (hkl : k ≤ ops.toList.length) (hq : Q .normal S') :
    WPA P ro E (.region id ops false) S Q := by
  intro a w hr
  obtain ⟨E2, e1, e2, hr2, back⟩ := hr.from
  refine wpIn_region ?_
  have hpn : ∀ x, ro.pan = some x → ∀ a w, Rep E2 x.2 a w → WPost ro E Q (.panic x.1) a w := fun x hp a w hr => .inr ⟨x, hp, rfl, back _ _ _ hr⟩
  have hq' : ∀ a w, Rep E2 S' a w → WPost ro E Q .normal a w := fun a w hr => .inl ⟨S', hq, back _ _ _ hr⟩
  have hl1 : (ops.toList.take k).length = k := by rw [List.length_take]; omega
  have hl2 : (ops.toList.drop k).length = ops.toList.length - k := List.length_drop
  have := wpOpsIn_then (Q := WPost ro E Q) h1 (List.range' k (ops.toList.length - k)) (hk1.env e1 e2) hpn (fun a w hr => by
    have := wpOpsIn_of_trace (Q := WPost ro E Q) h2 (hk2.env e1 e2) hpn hq' k (fun j => by rw [List.getElem?_drop]; simp) a w (hr.weaken hle)
    rwa [hl2] at this) 0 (fun j hj => by rw [List.getElem?_take_of_lt (by omega)]; simp) a w hr2
  rw [hl1] at this
  have e : List.range ops.size = List.range' 0 k ++ List.range' k (ops.toList.length - k) := by
    rw [List.range_eq_range', ← Array.length_toList]
    have := List.range'_append (s := 0) (m := k) (n := ops.toList.length - k) (step := 1)
    simp only [Nat.one_mul, Nat.zero_add] at this
    rw [this]; congr 1; omega
  rw [e]
  exact this

end Go.Proofs.Ytcnikeonaklkoaa
