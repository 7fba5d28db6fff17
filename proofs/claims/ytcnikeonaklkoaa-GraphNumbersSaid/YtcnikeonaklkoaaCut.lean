/- Full slice expressions of immutable rows. No program in sight. -/
import Derived.Test.YtcnikeonaklkoaaPanic
namespace Go.Proofs.Ytcnikeonaklkoaa
open Go
set_option linter.unusedVariables false
set_option linter.unusedSimpArgs false
section
variable {P : Program} {S : St} {c : Bool} {x : Operand} {t ty e : TypeId} {pos : String} {af : Array Edge} {gd : Option (Nat × Bool)} {d : Option Nat}

/-- x[:hi:mx] of immutable rows. -/
theorem Pure.cutRows3 {y z : Operand} {k k' : IntKind} {n len : Nat} {g : Nat → List D} {h m : Int} (ht : sliceOf P t e n = true) (e1 : Ev S c x (.d (.rows n len g))) (e2 : Ev S c y (iv k h)) (e3 : Ev S c z (iv k' m)) (hle : c = true → 0 ≤ h ∧ h ≤ m ∧ m ≤ len) :
    Pure P S [] ⟨d, .slice t x none (some y) (some z), ty, pos, af, gd⟩ c (.d (.rows n h.toNat g)) := by
  refine ⟨(fun _ h => nomatch h), fun E V M a w hg hc => ?_⟩
  obtain ⟨h1, h2, h3⟩ := hle hc
  have hx := hg.opd x (by simp [Op.operands]) _ e1
  have hy := hg.val (by simp [Op.operands]) e2
  have hz := hg.val (by simp [Op.operands]) e3
  obtain ⟨hu, hsz⟩ := sliceOf_of ht
  generalize hex : a.eval x = v at hx
  generalize a.eval = ρ at *
  have hrun : ∀ (ad : Option Addr) (cap : Nat), len ≤ cap → (Instr.sliceAt t (.slice ad len cap) none (some (.int k h)) (some (.int k' m))).run P w = .ok (.slice (if m.toNat = 0 then ad else ad.map (·.add (0 * n))) (h.toNat - 0) (m.toNat - 0)) w := by
    intro ad cap hcap
    have b1 : m ≤ (cap : Int) := by omega
    have b0 : 0 ≤ m := by omega
    have b2 : h ≤ (m.toNat : Int) := by omega
    have b3 : h ≤ max m 0 := by omega
    simp [Instr.sliceAt, Instr.slice, Instr.sliceBounds, Instr.sliceBound, run_underlying hu, Sem.run_bind, Result.andThen, asIntOf, Sem.run_pure, b0, b1, h1, b2, b3, hsz]
  cases hx with
  | d _ _ hx =>
    cases hx with
    | emp _ _ ad cap =>
      refine ⟨.slice (if m.toNat = 0 then ad else ad.map (·.add (0 * n))) (h.toNat - 0) (m.toNat - 0), ?_, ?_⟩
      · simp only [execOp, hex, hy, hz, Option.map_none, Option.map_some, Sem.run_bind, hrun ad cap (Nat.zero_le _), Result.andThen]; rfl
      · have : h.toNat - 0 = 0 := by omega
        rw [this]
        have e0 : h.toNat = 0 := by omega
        rw [e0]
        exact .d _ _ (.emp _ _ _ _)
    | rows _ _ _ b o cap hc' hl f hm hd =>
      refine ⟨.slice (if m.toNat = 0 then some ⟨b, o, none⟩ else (some (⟨b, o, none⟩ : Addr)).map (·.add (0 * n))) (h.toNat - 0) (m.toNat - 0), ?_, ?_⟩
      · simp only [execOp, hex, hy, hz, Option.map_none, Option.map_some, Sem.run_bind, hrun (some ⟨b, o, none⟩) cap hc', Result.andThen]; rfl
      · by_cases h0 : h.toNat = 0
        · rw [h0]; exact .d _ _ (.emp _ _ _ _)
        · rw [if_neg (by omega), Option.map_some, addr_add]
          simp only [Nat.zero_mul, Nat.add_zero, Nat.sub_zero]
          exact .d _ _ (.rows _ _ _ b o m.toNat (by omega) (fun i hi => hl _ (by omega)) f (fun i j hi hj => hm i j (by omega) hj) (fun i j x hi hx => hd i j x (by omega) hx))

end

end Go.Proofs.Ytcnikeonaklkoaa
