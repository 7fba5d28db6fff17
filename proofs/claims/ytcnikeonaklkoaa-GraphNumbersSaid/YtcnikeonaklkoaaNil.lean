/- Comparing a slice with nil; an empty slice as an argument; a column of plain numbers. No program in sight. -/
import Derived.Test.YtcnikeonaklkoaaFam
namespace Go.Proofs.Ytcnikeonaklkoaa
open Go
set_option linter.unusedVariables false
set_option linter.unusedSimpArgs false
variable {P : Program} {S : St} {ro : Ro} {ops : Array Oper} {E : Env} {c : Bool} {d : Option Tmp} {t t' ty : TypeId} {x y : Operand} {pos : String} {af : Array Edge} {gd : Option (Nat × Bool)}

theorem run_eqNil {e : TypeId} (hu : P.underlying t = some (.slice e)) {a : Option Addr} {len cap l2 c2 : Nat} {w : World} : (binOp .eql t (.slice a len cap) (.slice none l2 c2)).run P w = .ok (.bool a.isNone) w := by
  unfold binOp Op.equal Op.maxDepth Op.equalIn
  cases a <;> simp [go_sem, run_underlying hu]
theorem Pure.eqNilV {e : TypeId} {a : Option Addr} {len cap : Nat} (hu : P.underlying t = some (.slice e)) (e1 : Ev S c x (.d (.v (.slice a len cap)))) (e2 : Ev S c y nilS) : Pure P S [] ⟨d, .binOp .eql t x y t', ty, pos, af, gd⟩ c (bv a.isNone) := by
  refine ⟨(fun _ h => nomatch h), fun E V M a w h hc => ?_⟩
  have h1 := h.val (by simp [Op.operands]) e1
  have h2 := h.val (by simp [Op.operands]) e2
  generalize a.eval = ρ at *
  refine ⟨_, ?_, .d _ _ (.v _)⟩
  simp only [execOp, h1, h2, eqGuard]
  simp [Sem.run_bind, Sem.run_pure, Result.andThen, run_eqNil hu]
theorem Pure.eqNilRows {e : TypeId} {n len : Nat} {g : Nat → List D} (hl : 0 < len) (hu : P.underlying t = some (.slice e)) (e1 : Ev S c x (.d (.rows n len g))) (e2 : Ev S c y nilS) : Pure P S [] ⟨d, .binOp .eql t x y t', ty, pos, af, gd⟩ c (bv false) := by
  refine ⟨(fun _ h => nomatch h), fun E V M a w h hc => ?_⟩
  have h1 := h.opd x (by simp [Op.operands]) _ e1
  have h2 := h.val (by simp [Op.operands]) e2
  generalize a.eval = ρ at *
  refine ⟨_, ?_, .d _ _ (.v _)⟩
  generalize hv : ρ x = v at h1
  cases h1 with
  | d _ _ h1 =>
    cases h1 with
    | emp => omega
    | rows _ _ _ b o cap _ _ _ _ _ =>
      simp only [execOp, hv, h2, eqGuard]
      simp [Sem.run_bind, Sem.run_pure, Result.andThen, run_eqNil hu]

/-- An argument that is an empty slice: whatever stands for it. -/
theorem FnSpec.argNil {f : FuncId} {A1 A2 : List AV} {n : Nat} {g : Nat → List D} {Bs Bs' : St} {res : AV} {keep : List Nat} (h : ∀ (a : Option Addr) (cap : Nat), FnSpec P f (A1 ++ .d (.v (.slice a 0 cap)) :: A2) Bs res Bs' keep) :
    FnSpec P f (A1 ++ .d (.rows n 0 g) :: A2) Bs res Bs' keep := by
  intro V M w passed vs hw hd
  have hlt : A1.length < vs.length := by have := hd.len; simp at this; omega
  have h1 := hd.at' A1.length (.d (.rows n 0 g)) vs[A1.length] (by simp) (by simp [hlt])
  obtain ⟨a, cap, hv⟩ : ∃ a cap, vs[A1.length] = .slice a 0 cap := by
    generalize vs[A1.length] = v at h1
    cases h1 with
    | d _ _ h1 => cases h1 with
      | emp _ _ a cap => exact ⟨a, cap, rfl⟩
      | rows _ _ _ b o cap => exact ⟨_, cap, rfl⟩
  refine h a cap V M w passed vs hw ⟨by have := hd.len; simpa using this, fun j x y hx hy => ?_⟩
  by_cases hj : j = A1.length
  · subst hj
    simp at hx
    subst hx
    rw [List.getElem?_eq_getElem hlt, hv] at hy
    injection hy with hy
    subst hy
    exact .d _ _ (.v _)
  · refine hd.at' j x y ?_ hy
    rw [List.getElem?_append] at hx ⊢
    split at hx
    · rename_i h9; rw [if_pos h9]; exact hx
    · rename_i h9
      rw [if_neg h9]
      cases hk : j - A1.length with
      | zero => omega
      | succ k => rw [hk] at hx; exact hx
theorem den_emp {n cap : Nat} {a : Option Addr} {g : Nat → List D} : ∀ V M v, Den V M (.d (.v (.slice a 0 cap))) v → Den V M (.d (.rows n 0 g)) v := fun V M v h => by
  have : v = .slice a 0 cap := den_v h
  subst this
  exact .d _ _ (.emp n g a cap)

/-- A column of numbers. -/
theorem Ghost.dsInts {l len : Nat} {k : IntKind} {xs : List Int} {ds : List D} (hb : S.get (bk l) = some (.blk (.app 1 len [.ds ds]))) (hd : ds = xs.map fun m => .v (.int k m)) : Ghost E S ((bk l, .blk (.app 1 len [.ints k xs])) :: S) := by
  refine (Ghost.reblk (B' := .app 1 len [.ints k xs]) hb fun V M w h => ?_).trans (Ghost.weaken fun m c e => by rw [upd_one]; rw [get_cons] at e; exact e)
  subst hd
  obtain ⟨h1, h2, h3⟩ := h
  have hl : xs.length = len := by have := h2 _ (List.mem_singleton.2 rfl); simpa [Col.len] using this
  refine ⟨rfl, fun c hc => by rw [List.mem_singleton.1 hc]; exact hl, ?_⟩
  cases hk : V.κ l with
  | none => rw [hk] at h3; exact h3
  | some cap =>
    rw [hk] at h3
    obtain ⟨h4, vs, t, h5, h6, h7, h8, h9⟩ := h3
    refine ⟨h4, vs, t, h5, h6, rfl, fun c hc => by rw [List.mem_singleton.1 hc]; exact hl, fun i j c hi hj => ?_⟩
    cases j with
    | zero =>
      injection hj with hj
      subst hj
      obtain ⟨v, hv, hdv⟩ := h9 i 0 _ hi rfl
      refine ⟨v, hv, ?_⟩
      have e : Col.at (.ds (xs.map fun m => D.v (.int k m))) i = .v (.int k (xs.getD i 0)) := by
        simp only [Col.at]
        rw [getD_map' _ _ 0 _ (by omega)]
      rw [e] at hdv; exact hdv
    | succ j => simp at hj

end Go.Proofs.Ytcnikeonaklkoaa
