/- The rounds, one after the other; the cycle that is handed back. No program in sight. -/
import Derived.Test.YtcnikeonaklkoaaGraph2
namespace Go.Proofs.Ytcnikeonaklkoaa
set_option linter.unusedVariables false
set_option linter.unusedSimpArgs false

/-- After k rounds. -/
def Gr.stt (g : Gr) : Nat → BF
  | 0 => g.start
  | k + 1 => pass g (g.stt k)
def Gr.loud (g : Gr) (k : Nat) : Prop := ∀ j, 0 < j → j ≤ k → 0 ≤ (g.stt j).last
theorem run_stt {g : Gr} : ∀ (k : Nat), k ≤ g.lat.length + 1 → g.loud k → g.run = rounds g (g.lat.length + 1 - k) (g.stt k)
  | 0, _, _ => rfl
  | k + 1, hk, hl => by
    rw [run_stt k (by omega) fun j h1 h2 => hl j h1 (by omega)]
    obtain ⟨d, hd⟩ : ∃ d, g.lat.length + 1 - k = d + 1 := ⟨g.lat.length - k, by omega⟩
    rw [hd, show g.lat.length + 1 - (k + 1) = d by omega]
    show (if (pass g (g.stt k)).last < 0 then pass g (g.stt k) else rounds g d (pass g (g.stt k))) = _
    have := hl (k + 1) (by omega) (Nat.le_refl _)
    have e : g.stt (k + 1) = pass g (g.stt k) := rfl
    rw [e] at this ⊢
    rw [if_neg (by omega)]
theorem run_full {g : Gr} (hl : g.loud (g.lat.length + 1)) : g.run = g.stt (g.lat.length + 1) := by
  rw [run_stt _ (Nat.le_refl _) hl]
  simp [rounds]
theorem run_quiet {g : Gr} {k : Nat} (hk : k ≤ g.lat.length) (hl : g.loud k) (hq : (g.stt (k + 1)).last < 0) : g.run = g.stt (k + 1) := by
  rw [run_stt k (by omega) hl]
  obtain ⟨d, hd⟩ : ∃ d, g.lat.length + 1 - k = d + 1 := ⟨g.lat.length - k, by omega⟩
  rw [hd]
  show (if (pass g (g.stt k)).last < 0 then pass g (g.stt k) else rounds g d (pass g (g.stt k))) = _
  exact if_pos hq
theorem inv_stt {g : Gr} (h : g.OK) : ∀ k, ∃ st, Inv g (k + 1) 0 { g.stt k with last := -1 } st
  | 0 => ⟨_, inv_start⟩
  | k + 1 => by
    obtain ⟨st, I⟩ := inv_stt h k
    obtain ⟨st', I'⟩ := inv_passTo h (by omega) I g.es.length (Nat.le_refl _)
    exact ⟨st', inv_next (by omega) I'⟩
theorem passTo_facts {g : Gr} (h : g.OK) {k i : Nat} (hk : k ≤ g.lat.length) (hi : i ≤ g.es.length) : (passTo g (g.stt k) i).far.length = g.lat.length ∧ (passTo g (g.stt k) i).by_.length = g.lat.length ∧
    (∀ v, -1152921504606846976 ≤ (passTo g (g.stt k) i).far.getD v 0 ∧ (passTo g (g.stt k) i).far.getD v 0 ≤ 0) ∧ -1 ≤ (passTo g (g.stt k) i).last := by
  obtain ⟨st, I⟩ := inv_stt h k
  obtain ⟨st', I'⟩ := inv_passTo h (by omega) I i hi
  refine ⟨I'.lenf, I'.lenb, fun v => ⟨?_, I'.top v⟩, ?_⟩
  · have h1 := I'.low v
    have h2 : (k + 1 - 1) * g.es.length + i ≤ 4097 * 16384 := by
      have a : (k + 1 - 1) * g.es.length ≤ 4096 * 16384 := Nat.mul_le_mul (by have := h.n; omega) h.m
      have := h.m
      omega
    have h3 : BF.F (passTo g (g.stt k) i) v = (passTo g (g.stt k) i).far.getD v 0 := rfl
    omega
  · rcases I'.last with ⟨h1, _⟩ | ⟨v, _, h1, _⟩ <;> omega
theorem stt_facts {g : Gr} (h : g.OK) {k : Nat} : (g.stt k).far.length = g.lat.length ∧ (g.stt k).by_.length = g.lat.length := by
  obtain ⟨st, I⟩ := inv_stt h k
  exact ⟨I.lenf, I.lenb⟩
theorem passTo_step {g : Gr} {s : BF} {i : Nat} {e : Edg} (he : g.es.getD i default = e) : passTo g s (i + 1) = if (passTo g s i).far.getD e.f.toNat 0 + ((g.lat.length : Int) + 1) * (e.d - g.lat.getD e.f.toNat 0) - 1 < (passTo g s i).far.getD e.t.toNat 0
    then ⟨(passTo g s i).far.set e.t.toNat ((passTo g s i).far.getD e.f.toNat 0 + ((g.lat.length : Int) + 1) * (e.d - g.lat.getD e.f.toNat 0) - 1), (passTo g s i).by_.set e.t.toNat i, e.t⟩ else passTo g s i := by
  rw [passTo_succ]
  unfold relax
  simp only [he, Gr.W, Gr.wt, Gr.nn, BF.F, Int.add_sub_assoc]

def Gr.top (g : Gr) : Nat := g.run.last.toNat
/-- Where the way back has come to. -/
def Gr.knot (g : Gr) : Nat := g.back g.run (g.lat.length + 1) g.top
def Gr.per (g : Gr) : Nat := (((List.range g.lat.length).find? fun k => Nat.beq (g.back g.run (k + 1) g.knot) g.knot).getD 0) + 1
abbrev Gr.looped (g : Gr) : Bool := decide (g.formed = 0) && g.short
def Gr.cyc (g : Gr) : List Int := if g.looped then (((List.range g.per).map fun i => g.run.B (g.back g.run i g.knot)).reverse) else []
theorem per_spec {g : Gr} (c : Cyc g g.run g.knot) : 0 < g.per ∧ g.per ≤ g.lat.length ∧ g.back g.run g.per g.knot = g.knot ∧ ∀ k, 0 < k → k < g.per → g.back g.run k g.knot ≠ g.knot := by
  obtain ⟨p, hp0, hpn, hp⟩ := c.per
  unfold Gr.per
  cases hf : (List.range g.lat.length).find? fun k => Nat.beq (g.back g.run (k + 1) g.knot) g.knot with
  | none =>
    rw [List.find?_eq_none] at hf
    have := hf (p - 1) (by simp; omega)
    rw [show p - 1 + 1 = p by omega, hp] at this
    simp at this
  | some q =>
    obtain ⟨h1, as, bs, h2, h3⟩ := List.find?_eq_some_iff_append.1 hf
    have hq : q ∈ List.range g.lat.length := by rw [h2]; simp
    refine ⟨by simp, by simp at hq; simp; omega, by simpa using Nat.eq_of_beq_eq_true h1, fun k hk0 hkq he => ?_⟩
    simp only [Option.getD_some] at hkq
    have hla : as.length = q := by
      have := congrArg (fun l => l[as.length]?) h2
      simp at this
      have h4 : as.length < g.lat.length := by
        have := congrArg List.length h2
        simp at this; omega
      rw [List.getElem?_range h4] at this
      simpa using this
    have hmem : k - 1 ∈ as := by
      have h5 : k - 1 < as.length := by omega
      have h6 := congrArg (fun l => l[k - 1]?) h2
      simp only [List.getElem?_append_left h5] at h6
      rw [List.getElem?_range (by simp at hq; omega)] at h6
      exact List.mem_of_getElem? h6.symm
    have := h3 (k - 1) hmem
    rw [show k - 1 + 1 = k by omega, he] at this
    simp at this

end Go.Proofs.Ytcnikeonaklkoaa
