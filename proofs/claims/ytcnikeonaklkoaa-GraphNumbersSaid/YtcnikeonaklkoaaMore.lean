/- More operations: places in small arrays of cells; nil checks. No program in sight. -/
import Derived.Test.YtcnikeonaklkoaaCallB
namespace Go.Proofs.Ytcnikeonaklkoaa
open Go
set_option linter.unusedVariables false
set_option linter.unusedSimpArgs false
section
variable {P : Program} {S : St} {ro : Ro} {ops : Array Oper} {c : Bool} {x y : Operand} {t ty : TypeId} {pos : String} {af : Array Edge} {gd : Option (Nat × Bool)} {d : Option Nat}

/-- A place in an array of cells that one by one are known. -/
theorem Pure.indexLoc {l n len o o' : Nat} {k : IntKind} {i : Int} {agg : Bool} (ht : arrOK P t len agg n = true) (e1 : Ev S c x (.loc l o)) (e2 : Ev S c y (iv k i)) (hi : c = true → 0 ≤ i ∧ i.toNat < len) (ho : o + i.toNat * n = o') :
    Pure P S [] ⟨d, .indexAddr t x y, ty, pos, af, gd⟩ c (.loc l o') := by
  subst ho
  refine ⟨(fun _ h => nomatch h), fun E V M a w h hc => ?_⟩
  obtain ⟨h0, hlt⟩ := hi hc
  have h1 := h.opd x (by simp [Op.operands]) _ e1
  have h2 := h.val (by simp [Op.operands]) e2
  generalize he : a.eval x = v at h1
  generalize a.eval = ρ at *
  cases h1 with
  | loc _ _ =>
    unfold arrOK at ht
    split at ht
    · rename_i len' e hu
      simp only [Bool.and_eq_true] at ht
      have hlen := Nat.eq_of_beq_eq_true ht.1
      subst hlen
      have hlt' : i < (len' : Int) := by omega
      exact ⟨.pointer (some ⟨V.ρ l, o + i.toNat * n, none⟩), by simp [execOp, he, h2, Instr.indexAt, asIntOf, run_underlying hu, Instr.sureAddr, tyOK_sizeOf ht.2, h0, hlt', addr_add], .loc _ _⟩
    · cases ht

def AV.isPtr : AV → Bool
  | .loc _ _ => true
  | .locr _ _ _ _ => true
  | .rp _ => true
  | _ => false
theorem Pure.nilCheck {u : AV} (e1 : Ev S c x u) (hu : u.isPtr = true) : Pure P S [] ⟨d, .nilCheck x, ty, pos, af, gd⟩ c u := by
  refine ⟨(fun _ h => nomatch h), fun E V M a w h hc => ?_⟩
  have h1 := h.opd x (by simp [Op.operands]) _ e1
  refine ⟨a.eval x, ?_, h1⟩
  generalize he : a.eval x = v at h1
  generalize a.eval = ρ at *
  cases h1 <;> simp [AV.isPtr] at hu
  all_goals simp [execOp, he]

theorem Pure.funcL {f : FuncId} {l : List Operand} {cs : List AV} (h : EvAll S c l cs) : Pure P S [] ⟨d, .makeFunc (.func f) #[] l.toArray, ty, pos, af, gd⟩ c (.fn f cs) :=
  Pure.func rfl (by simpa using h.at'.1) (fun j x y hx hy => h.at'.2 j x y (by simpa using hx) hy)

end

/-- A slot's value, seen in another way. -/
theorem Ghost.slot {E : Env} {S : St} {t : Nat} {x y : AV} (hs : S.get (sl t) = some (.av x)) (h : ∀ V M v, Den V M x v → Den V M y v) : Ghost E S ((sl t, .av y) :: S) := by
  rintro a w ⟨V, M, ha, hw⟩
  refine ⟨V, M, ⟨fun s z e => ?_, ha.size, ha.defers⟩, hw.blks_only fun l B e => ?_⟩
  · rw [get_cons] at e
    by_cases hst : sl t = sl s
    · rw [if_pos hst] at e
      injection e with e; injection e with e; subst e
      have := sl_inj hst; subst this
      obtain ⟨v, hv, hd⟩ := ha.slots t x hs
      exact ⟨v, hv, h V M v hd⟩
    · rw [if_neg hst] at e; exact ha.slots s z e
  · rw [get_cons, if_neg (sl_ne_bk t l)] at e; exact e
theorem den_nilRows {n : Nat} {g : Nat → List D} : ∀ V M v, Den V M nilS v → Den V M (.d (.rows n 0 g)) v := fun V M v h => by
  have : v = .slice none 0 0 := den_v h
  subst this
  exact .d _ _ (.emp n g none 0)
theorem FnSpec.resLe {P : Program} {f : FuncId} {args : List AV} {Bs Bs' : St} {res res' : AV} {keep : List Nat} (h : FnSpec P f args Bs res Bs' keep) (hr : ∀ V M v, Den V M res v → Den V M res' v) : FnSpec P f args Bs res' Bs' keep := fun V M w passed vs hw hd =>
  (h V M w passed vs hw hd).mono fun e w' ⟨v, V', M', he, hv, hw'⟩ => ⟨v, V', M', he, hr _ _ _ hv, hw'⟩
/-- Cells, a nil slice among them seen as rows. -/
inductive DLes : List D → List D → Prop
  | nil : DLes [] []
  | same {x : D} {l l' : List D} (h : DLes l l') : DLes (x :: l) (x :: l')
  | rows {n : Nat} {g : Nat → List D} {l l' : List D} (h : DLes l l') : DLes (.v (.slice none 0 0) :: l) (.rows n 0 g :: l')
theorem DLes.at' {l l' : List D} (h : DLes l l') : l.length = l'.length ∧ ∀ (j : Nat) (x : D) (y : Value), ∀ M, l'[j]? = some x → (∀ z, l[j]? = some z → DenD M z y) → DenD M x y := by
  induction h with
  | nil => exact ⟨rfl, fun j x y M hx _ => by simp at hx⟩
  | @same a l l' h ih =>
    refine ⟨by simp [ih.1], fun j x y M hx hz => ?_⟩
    cases j with
    | zero => simp at hx; subst hx; exact hz a rfl
    | succ j => exact ih.2 j x y M (by simpa using hx) (fun z h => hz z (by simpa using h))
  | @rows n g l l' h ih =>
    refine ⟨by simp [ih.1], fun j x y M hx hz => ?_⟩
    cases j with
    | zero =>
      simp at hx; subst hx
      have := hz _ rfl
      cases this with | v _ => exact .emp n g none 0
    | succ j => exact ih.2 j x y M (by simpa using hx) (fun z h => hz z (by simpa using h))
theorem den_aggLe {l l' : List D} (h : DLes l l') : ∀ V M v, Den V M (.d (.agg l)) v → Den V M (.d (.agg l')) v := by
  intro V M v hd
  cases hd with
  | d _ _ hd =>
    cases hd with
    | agg _ vs hl hd =>
      refine .d _ _ (.agg _ vs (by rw [← h.at'.1]; exact hl) fun j x y hx hy => ?_)
      exact h.at'.2 j x y M hx fun z hz => hd j z y hz hy
/-- A list of bytes that no one changes. -/
def bytesD (xs : List Int) : D := rowsD 1 xs.length [.ints .u8 xs]

end Go.Proofs.Ytcnikeonaklkoaa
