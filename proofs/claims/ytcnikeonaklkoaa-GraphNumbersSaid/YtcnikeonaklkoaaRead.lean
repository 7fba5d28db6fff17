/- Reading: addresses of parts, loads, slices of slices, on abstract states. No program in sight. -/
import Derived.Test.YtcnikeonaklkoaaMem
namespace Go.Proofs.Ytcnikeonaklkoaa
open Go
set_option linter.unusedVariables false
set_option linter.unusedSimpArgs false
variable {P : Program} {S : St} {c : Bool}

/-! Closed facts on types, as computed checks. -/
def tyOK (P : Program) (t : TypeId) (agg : Bool) (n : Nat) : Bool :=
  (match P.info? t with | some i => Nat.beq i.size n | none => false) &&
  (match P.underlying t with | some (.struct _) | some (.array _ _) => agg | some _ => !agg | none => false)
def fieldOK (P : Program) (s f off : Nat) : Bool :=
  match P.underlying s with
  | some (.struct fs) => match fs[f]? with
    | some fd => Nat.beq fd.offset off && (match P.info? fd.type with | some i => !Nat.beq i.size 0 | none => false)
    | none => false
  | _ => false
def partOK (P : Program) (s f off : Nat) (agg : Bool) (n : Nat) : Bool :=
  match P.underlying s with
  | some (.struct fs) => match fs[f]? with
    | some fd => Nat.beq fd.offset off && tyOK P fd.type agg n
    | none => false
  | _ => false
def elemOK (P : Program) (t : TypeId) (n : Nat) : Bool :=
  match P.underlying t with
  | some (.slice e) => (match P.info? e with | some i => Nat.beq i.size n | none => false)
  | _ => false
def arrOK (P : Program) (t : TypeId) (len : Nat) (agg : Bool) (n : Nat) : Bool :=
  match P.underlying t with
  | some (.array l e) => Nat.beq l len && tyOK P e agg n
  | _ => false

theorem tyOK_size {t : TypeId} {agg : Bool} {n : Nat} (h : tyOK P t agg n = true) : ∃ i, P.info? t = some i ∧ i.size = n := by
  simp only [tyOK, Bool.and_eq_true] at h
  obtain ⟨h1, h2⟩ := h
  cases hi : P.info? t with
  | none => rw [hi] at h1; simp at h1
  | some i => rw [hi] at h1; exact ⟨i, rfl, Nat.eq_of_beq_eq_true h1⟩
theorem tyOK_agg {t : TypeId} {agg : Bool} {n : Nat} (h : tyOK P t agg n = true) (w : World) : (isAgg t).run P w = .ok agg w := by
  simp only [tyOK, Bool.and_eq_true] at h
  obtain ⟨h1, h2⟩ := h
  cases hu : P.underlying t with
  | none => rw [hu] at h2; simp at h2
  | some u =>
    rw [hu] at h2
    have hr := run_underlying hu w
    unfold isAgg
    rw [Sem.run_bind, hr]
    cases u <;> simp_all [Result.andThen]
theorem tyOK_sizeOf {t : TypeId} {agg : Bool} {n : Nat} (h : tyOK P t agg n = true) (w : World) : (sizeOf t).run P w = .ok n w := by
  obtain ⟨i, hi, hn⟩ := tyOK_size h
  rw [run_sizeOf _ hi]
  simp [Program.cellsOf, hi, hn]

theorem addr_add (b o k : Nat) : (⟨b, o, none⟩ : Addr).add k = ⟨b, o + k, none⟩ := by
  unfold Addr.add
  split
  · rename_i h; subst h; rfl
  · rfl

theorem run_loadVar1 {t : TypeId} {n : Nat} (h : tyOK P t false n = true) {w : World} {b o : Nat} {v : Value} (hc : w.cell? ⟨b, o, none⟩ = some v) : (loadVar t ⟨b, o, none⟩).run P w = .ok v w := by
  simp only [loadVar, Sem.run_bind, tyOK_agg h, Result.andThen, Bool.false_eq_true, if_false]
  simp [load, Sem.run, hc]
theorem run_loadVarN {t : TypeId} {n : Nat} (h : tyOK P t true n = true) {w : World} {b o : Nat} {f : Nat → Value} (hc : ∀ j, j < n → w.cell? ⟨b, o + j, none⟩ = some (f j)) :
    (loadVar t ⟨b, o, none⟩).run P w = .ok (.agg ((List.range n).map f).toArray) w := by
  have := run_loadCells (P := P) w ⟨b, o, none⟩ n f (fun j hj => by rw [addr_add]; exact hc j hj)
  simp only [loadVar, Sem.run_bind, tyOK_agg h, tyOK_sizeOf h, Result.andThen, if_true, this]
  rfl

section
variable {o : Oper} {x y z : Operand} {d : Option Tmp} {ty t t' s : TypeId} {pos : String} {af : Array Edge} {gd : Option (Nat × Bool)}

/-! Addresses. -/
def AV.shift (k : Nat) : AV → Option AV
  | .loc l j => some (.loc l (j + k))
  | .locr l n i j => some (.locr l n i (j + k))
  | .rp l => some (.rp (l.drop k))
  | _ => none
theorem den_shift {V : Vals} {M : Mem} {u r : AV} {v : Value} {k : Nat} (h : Den V M u v) (hr : u.shift k = some r) : ∃ b o, v = .pointer (some ⟨b, o, none⟩) ∧ Den V M r (.pointer (some ⟨b, o + k, none⟩)) := by
  cases h with
  | loc l j => simp only [AV.shift, Option.some.injEq] at hr; subst hr; exact ⟨_, _, rfl, .loc l (j + k)⟩
  | locr l n i j => simp only [AV.shift, Option.some.injEq] at hr; subst hr; exact ⟨_, _, rfl, by have := Den.locr (V := V) (M := M) l n i (j + k); rwa [← Nat.add_assoc] at this⟩
  | rp l b o c hm hd =>
    simp only [AV.shift, Option.some.injEq] at hr; subst hr
    refine ⟨b, o, rfl, .rp _ b (o + k) (fun j => c (k + j)) (fun j hj => ?_) (fun j x hx => ?_)⟩
    · rw [List.length_drop] at hj
      have := hm (k + j) (by omega)
      rwa [← Nat.add_assoc] at this
    · rw [List.getElem?_drop] at hx; exact hd _ _ hx
  | _ => simp [AV.shift] at hr
theorem Pure.fieldAddr {f off : Nat} {u r : AV} (hf : fieldOK P s f off = true) (e1 : Ev S c x u) (hr : u.shift off = some r) : Pure P S [] ⟨d, .fieldAddr s x f, ty, pos, af, gd⟩ c r := by
  refine ⟨(fun _ h => nomatch h), fun E V M a w h hc => ?_⟩
  obtain ⟨b, o, he, hd⟩ := den_shift (h.opd x (by simp [Op.operands]) _ e1) hr
  refine ⟨_, ?_, hd⟩
  generalize a.eval = ρ at *
  simp only [fieldOK] at hf
  split at hf
  · rename_i fs hu
    split at hf
    · rename_i fd hfd
      simp only [Bool.and_eq_true, Bool.not_eq_true'] at hf
      obtain ⟨h1, h2⟩ := hf
      have h1 := Nat.eq_of_beq_eq_true h1
      cases hi : P.info? fd.type with
      | none => rw [hi] at h2; simp at h2
      | some i =>
        rw [hi] at h2
        have hz : i.size ≠ 0 := Nat.ne_of_beq_eq_false (by simpa using h2)
        have hsz : (sizeOf fd.type).run P w = .ok i.size w := by rw [run_sizeOf _ hi]; simp [Program.cellsOf, hi]
        simp only [execOp, Instr.fieldAt, Sem.run_bind, run_underlying hu, Result.andThen, hfd, he, Instr.sureAddr, fieldPlace, hsz, Sem.run_pure, if_neg hz, h1, addr_add]
    · cases hf
  · cases hf

/-! Loads. -/
theorem Pure.loadRp1 {l : List D} {r : D} {n : Nat} (ht : tyOK P t false n = true) (e1 : Ev S c x (.rp l)) (hr : l[0]? = some r) : Pure P S [] ⟨d, .load t x, ty, pos, af, gd⟩ c (.d r) := by
  refine ⟨(fun _ h => nomatch h), fun E V M a w h hc => ?_⟩
  have h1 := h.opd x (by simp [Op.operands]) _ e1
  generalize he : a.eval x = v at h1
  generalize a.eval = ρ at *
  cases h1 with
  | rp _ b o f hm hd =>
    have hl : 0 < l.length := (List.getElem?_eq_some_iff.1 hr).1
    refine ⟨f 0, ?_, .d _ _ (hd 0 r hr)⟩
    simp only [execOp, Instr.loadAt, Sem.run_bind, he, Instr.sureAddr, Sem.run_pure, Result.andThen, run_loadVar1 ht (h.mem _ _ _ (by simpa using hm 0 hl))]
theorem Pure.loadRp {l : List D} {n : Nat} (ht : tyOK P t true n = true) (e1 : Ev S c x (.rp l)) (hn : c = true → n ≤ l.length) : Pure P S [] ⟨d, .load t x, ty, pos, af, gd⟩ c (.d (.agg (l.take n))) := by
  refine ⟨(fun _ h => nomatch h), fun E V M a w h hc => ?_⟩
  have h1 := h.opd x (by simp [Op.operands]) _ e1
  have hn := hn hc
  generalize he : a.eval x = v at h1
  generalize a.eval = ρ at *
  cases h1 with
  | rp _ b o f hm hd =>
    refine ⟨.agg ((List.range n).map f).toArray, by simp only [execOp, Instr.loadAt, Sem.run_bind, he, Instr.sureAddr, Sem.run_pure, Result.andThen, run_loadVarN ht (fun j hj => h.mem _ _ _ (hm j (by omega)))], .d _ _ (.agg _ _ (by simp; omega) ?_)⟩
    intro j x y hx hy
    rw [List.getElem?_take] at hx
    split at hx
    · simp only [List.getElem?_map, Option.map_eq_some_iff] at hy
      obtain ⟨k, hk, rfl⟩ := hy
      rw [List.getElem?_range (by assumption)] at hk
      injection hk with hk; subst hk
      exact hd _ _ hx
    · cases hx

/-- All cells immutable data: one value of immutable data. -/
def dsOf : List AV → Option (List D)
  | [] => some []
  | .d x :: r => match dsOf r with
    | some l => some (x :: l)
    | none => none
  | _ :: _ => none
def mkAgg (l : List AV) : AV := match dsOf l with
  | some ds => .d (.agg ds)
  | none => .agg l
theorem dsOf_eq {l : List AV} {ds : List D} (h : dsOf l = some ds) : l = ds.map .d := by
  induction l generalizing ds with
  | nil => simp only [dsOf, Option.some.injEq] at h; subst h; rfl
  | cons x r ih =>
    cases x <;> simp only [dsOf, reduceCtorEq] at h
    split at h
    · rename_i l hl; injection h with h; subst h; rw [ih hl]; rfl
    · cases h
theorem den_mkAgg {V : Vals} {M : Mem} {l : List AV} {v : Value} (h : Den V M (.agg l) v) : Den V M (mkAgg l) v := by
  unfold mkAgg
  split
  · rename_i ds hds
    have := dsOf_eq hds
    subst this
    cases h with
    | agg _ vs hl hd =>
      refine .d _ _ (.agg ds vs (by simpa using hl) fun j x y hx hy => ?_)
      have := hd j (.d x) y (by simp [hx]) hy
      cases this with | d _ _ h => exact h
  · exact h

theorem Pure.loadLoc1 {l j : Nat} {cs : List AV} {r : AV} {n : Nat} (ht : tyOK P t false n = true) (e1 : Ev S c x (.loc l j)) (hb : S.get (bk l) = some (.blk (.cells cs))) (hr : cs[j]? = some r) : Pure P S [l] ⟨d, .load t x, ty, pos, af, gd⟩ c r := by
  refine ⟨(fun _ h => nomatch h), fun E V M a w h hc => ?_⟩
  have h1 := h.opd x (by simp [Op.operands]) _ e1
  obtain ⟨_, vs, tt, hh, hs, hd⟩ := h.blk l (by simp) _ hb
  generalize he : a.eval x = v at h1
  generalize a.eval = ρ at *
  cases h1 with
  | loc _ _ =>
    have hj : j < vs.size := by have := (List.getElem?_eq_some_iff.1 hr).1; omega
    have hc : w.cell? ⟨V.ρ l, j, none⟩ = some vs[j] := by simp [World.cell?, hh, hj]
    refine ⟨vs[j], ?_, hd j r _ hr (Array.getElem?_eq_getElem hj)⟩
    simp only [execOp, Instr.loadAt, Sem.run_bind, he, Instr.sureAddr, Sem.run_pure, Result.andThen, run_loadVar1 ht hc]
theorem Pure.loadLoc {l j : Nat} {cs : List AV} {n : Nat} (ht : tyOK P t true n = true) (e1 : Ev S c x (.loc l j)) (hb : S.get (bk l) = some (.blk (.cells cs))) (hn : c = true → j + n ≤ cs.length) :
    Pure P S [l] ⟨d, .load t x, ty, pos, af, gd⟩ c (mkAgg ((cs.drop j).take n)) := by
  refine ⟨(fun _ h => nomatch h), fun E V M a w h hc => ?_⟩
  have h1 := h.opd x (by simp [Op.operands]) _ e1
  have hn := hn hc
  obtain ⟨_, vs, tt, hh, hs, hd⟩ := h.blk l (by simp) _ hb
  generalize he : a.eval x = v at h1
  generalize a.eval = ρ at *
  cases h1 with
  | loc _ _ =>
    have hc : ∀ k, k < n → w.cell? ⟨V.ρ l, j + k, none⟩ = some (vs.getD (j + k) undef) := fun k hk => by
      have : j + k < vs.size := by omega
      simp [World.cell?, hh, this, Array.getD]
    refine ⟨.agg ((List.range n).map fun k => vs.getD (j + k) undef).toArray, by simp only [execOp, Instr.loadAt, Sem.run_bind, he, Instr.sureAddr, Sem.run_pure, Result.andThen, run_loadVarN ht hc], den_mkAgg (.agg _ _ (by simp; omega) ?_)⟩
    intro k x y hx hy
    rw [List.getElem?_take] at hx
    split at hx
    · rename_i hk
      rw [List.getElem?_drop] at hx
      simp only [List.getElem?_map, Option.map_eq_some_iff] at hy
      obtain ⟨k', hk', rfl⟩ := hy
      rw [List.getElem?_range hk] at hk'
      injection hk' with hk'; subst hk'
      have : j + k < vs.size := by omega
      exact hd _ x _ hx (by simp [this, Array.getD])
    · cases hx

theorem Pure.loadLoc1D {l j : Nat} {ds : List D} {r : D} {n : Nat} (ht : tyOK P t false n = true) (e1 : Ev S c x (.loc l j)) (hb : S.get (bk l) = some (.blk (.data ds))) (hr : ds[j]? = some r) : Pure P S [l] ⟨d, .load t x, ty, pos, af, gd⟩ c (.d r) := by
  refine ⟨(fun _ h => nomatch h), fun E V M a w h hc => ?_⟩
  have h1 := h.opd x (by simp [Op.operands]) _ e1
  obtain ⟨_, vs, tt, hh, hs, hd⟩ := h.blk l (by simp) _ hb
  generalize he : a.eval x = v at h1
  generalize a.eval = ρ at *
  cases h1 with
  | loc _ _ =>
    have hj : j < vs.size := by have := (List.getElem?_eq_some_iff.1 hr).1; simp at hs; omega
    have hc : w.cell? ⟨V.ρ l, j, none⟩ = some vs[j] := by simp [World.cell?, hh, hj]
    refine ⟨vs[j], ?_, hd j (.d r) _ (by simp [hr]) (Array.getElem?_eq_getElem hj)⟩
    simp only [execOp, Instr.loadAt, Sem.run_bind, he, Instr.sureAddr, Sem.run_pure, Result.andThen, run_loadVar1 ht hc]
theorem Pure.loadLocD {l j : Nat} {ds : List D} {n : Nat} (ht : tyOK P t true n = true) (e1 : Ev S c x (.loc l j)) (hb : S.get (bk l) = some (.blk (.data ds))) (hn : c = true → j + n ≤ ds.length) :
    Pure P S [l] ⟨d, .load t x, ty, pos, af, gd⟩ c (.d (.agg ((ds.drop j).take n))) := by
  refine ⟨(fun _ h => nomatch h), fun E V M a w h hc => ?_⟩
  have h1 := h.opd x (by simp [Op.operands]) _ e1
  have hn := hn hc
  obtain ⟨_, vs, tt, hh, hs, hd⟩ := h.blk l (by simp) _ hb
  simp only [List.length_map] at hs
  generalize he : a.eval x = v at h1
  generalize a.eval = ρ at *
  cases h1 with
  | loc _ _ =>
    have hc : ∀ k, k < n → w.cell? ⟨V.ρ l, j + k, none⟩ = some (vs.getD (j + k) undef) := fun k hk => by
      have : j + k < vs.size := by omega
      simp [World.cell?, hh, this, Array.getD]
    refine ⟨.agg ((List.range n).map fun k => vs.getD (j + k) undef).toArray, by simp only [execOp, Instr.loadAt, Sem.run_bind, he, Instr.sureAddr, Sem.run_pure, Result.andThen, run_loadVarN ht hc], .d _ _ (.agg _ _ (by simp; omega) ?_)⟩
    intro k x y hx hy
    rw [List.getElem?_take] at hx
    split at hx
    · rename_i hk
      rw [List.getElem?_drop] at hx
      simp only [List.getElem?_map, Option.map_eq_some_iff] at hy
      obtain ⟨k', hk', rfl⟩ := hy
      rw [List.getElem?_range hk] at hk'
      injection hk' with hk'; subst hk'
      have : j + k < vs.size := by omega
      have hd' := hd (j + k) (.d x) (vs.getD (j + k) undef) (by simp [hx]) (by simp [this, Array.getD])
      cases hd' with | d _ _ h => exact h
    · cases hx

/-- Rows of a block, owned by a slice or an array's. -/
def Blk.rowsOf : Blk → Option (Nat × Nat × List Col)
  | .cols n len cs => some (n, len, cs)
  | .app n len cs => some (n, len, cs)
  | _ => none
theorem rows_of {V : Vals} {M : Mem} {w : World} {l : Nat} {B : Blk} {n len : Nat} {cs : List Col} (h : BlkAt V M w l B) (hr : B.rowsOf = some (n, len, cs)) (hne : 0 < len) : ∃ vs t, w.heap[V.ρ l]? = some (.cells vs t (0, 0)) ∧ rowsAt M n len cs vs := by
  cases B with
  | cells => simp [Blk.rowsOf] at hr
  | data => simp [Blk.rowsOf] at hr
  | lp => simp [Blk.rowsOf] at hr
  | appv => simp [Blk.rowsOf] at hr
  | cols n' len' cs' =>
    simp only [Blk.rowsOf, Option.some.injEq, Prod.mk.injEq] at hr
    obtain ⟨rfl, rfl, rfl⟩ := hr
    obtain ⟨_, vs, t, hb, _, hr⟩ := h
    exact ⟨vs, t, hb, hr⟩
  | app n' len' cs' =>
    simp only [Blk.rowsOf, Option.some.injEq, Prod.mk.injEq] at hr
    obtain ⟨rfl, rfl, rfl⟩ := hr
    obtain ⟨_, _, h3⟩ := h
    split at h3
    · omega
    · obtain ⟨_, vs, t, hb, _, hr⟩ := h3
      exact ⟨vs, t, hb, hr⟩

theorem Pure.loadCol1 {l n i j len : Nat} {B : Blk} {cs : List Col} {r : Col} {m : Nat} (ht : tyOK P t false m = true) (e1 : Ev S c x (.locr l n i j)) (hb : S.get (bk l) = some (.blk B)) (hB : B.rowsOf = some (n, len, cs)) (hr : cs[j]? = some r)
    (hi : c = true → i < len) : Pure P S [l] ⟨d, .load t x, ty, pos, af, gd⟩ c (.d (r.at i)) := by
  refine ⟨(fun _ h => nomatch h), fun E V M a w h hc => ?_⟩
  have h1 := h.opd x (by simp [Op.operands]) _ e1
  have hi := hi hc
  obtain ⟨vs, tt, hh, _, _, hd⟩ := rows_of (h.blk l (by simp) _ hb) hB (by omega)
  obtain ⟨v', hv', hd'⟩ := hd i j r hi hr
  generalize he : a.eval x = v at h1
  generalize a.eval = ρ at *
  cases h1 with
  | locr _ _ _ _ =>
    refine ⟨v', ?_, .d _ _ hd'⟩
    have hc : w.cell? ⟨V.ρ l, i * n + j, none⟩ = some v' := by simp [World.cell?, hh, hv']
    simp only [execOp, Instr.loadAt, Sem.run_bind, he, Instr.sureAddr, Sem.run_pure, Result.andThen, run_loadVar1 ht hc]
theorem Pure.loadCol {l n i j len : Nat} {B : Blk} {cs : List Col} {m : Nat} (ht : tyOK P t true m = true) (e1 : Ev S c x (.locr l n i j)) (hb : S.get (bk l) = some (.blk B)) (hB : B.rowsOf = some (n, len, cs)) (hj : c = true → j + m ≤ cs.length)
    (hi : c = true → i < len) : Pure P S [l] ⟨d, .load t x, ty, pos, af, gd⟩ c (.d (.agg (((cs.drop j).take m).map (Col.at · i)))) := by
  refine ⟨(fun _ h => nomatch h), fun E V M a w h hc => ?_⟩
  have h1 := h.opd x (by simp [Op.operands]) _ e1
  have hi := hi hc
  have hj := hj hc
  obtain ⟨vs, tt, hh, hcn, _, hd⟩ := rows_of (h.blk l (by simp) _ hb) hB (by omega)
  generalize he : a.eval x = v at h1
  generalize a.eval = ρ at *
  cases h1 with
  | locr _ _ _ _ =>
    have hc : ∀ k, k < m → w.cell? ⟨V.ρ l, i * n + j + k, none⟩ = some (vs.getD (i * n + j + k) undef) := fun k hk => by
      obtain ⟨v', hv', _⟩ := hd i (j + k) cs[j + k] hi (List.getElem?_eq_getElem (by omega))
      rw [← Nat.add_assoc] at hv'
      simp [World.cell?, hh, hv', Array.getD_eq_getD_getElem?]
    refine ⟨.agg ((List.range m).map fun k => vs.getD (i * n + j + k) undef).toArray, by simp only [execOp, Instr.loadAt, Sem.run_bind, he, Instr.sureAddr, Sem.run_pure, Result.andThen, run_loadVarN ht hc], .d _ _ (.agg _ _ (by simp; omega) ?_)⟩
    intro k x y hx hy
    simp only [List.getElem?_map, Option.map_eq_some_iff] at hx
    obtain ⟨col, hcol, rfl⟩ := hx
    rw [List.getElem?_take] at hcol
    split at hcol
    · rename_i hk
      rw [List.getElem?_drop] at hcol
      simp only [List.getElem?_map, Option.map_eq_some_iff] at hy
      obtain ⟨k', hk', rfl⟩ := hy
      rw [List.getElem?_range hk] at hk'
      injection hk' with hk'; subst hk'
      obtain ⟨v', hv', hd'⟩ := hd i (j + k) col hi hcol
      rw [← Nat.add_assoc] at hv'
      simpa [Array.getD_eq_getD_getElem?, hv'] using hd'
    · cases hcol
/-- A whole array of plain cells. -/
theorem Pure.loadArr {l len : Nat} {r : Col} (ht : tyOK P t true len = true) (e1 : Ev S c x (.loc l 0)) (hb : S.get (bk l) = some (.blk (.cols 1 len [r]))) : Pure P S [l] ⟨d, .load t x, ty, pos, af, gd⟩ c (.d (.agg ((List.range len).map r.at))) := by
  refine ⟨(fun _ h => nomatch h), fun E V M a w h hc => ?_⟩
  have h1 := h.opd x (by simp [Op.operands]) _ e1
  obtain ⟨_, vs, tt, hh, hs, _, _, hd⟩ := h.blk l (by simp) _ hb
  generalize he : a.eval x = v at h1
  generalize a.eval = ρ at *
  cases h1 with
  | loc _ _ =>
    have hc : ∀ k, k < len → w.cell? ⟨V.ρ l, 0 + k, none⟩ = some (vs.getD k undef) := fun k hk => by
      have : k < vs.size := by omega
      simp [World.cell?, hh, this, Array.getD]
    refine ⟨.agg ((List.range len).map fun k => vs.getD k undef).toArray, by simp only [execOp, Instr.loadAt, Sem.run_bind, he, Instr.sureAddr, Sem.run_pure, Result.andThen, run_loadVarN ht hc], .d _ _ (.agg _ _ (by simp) ?_)⟩
    intro k x y hx hy
    simp only [List.getElem?_map, Option.map_eq_some_iff] at hx hy
    obtain ⟨k1, hk1, rfl⟩ := hx
    obtain ⟨k2, hk2, rfl⟩ := hy
    rw [hk1] at hk2
    injection hk2 with hk2; subst hk2
    have hk : k1 < len := by simpa using List.mem_of_getElem? hk1
    obtain ⟨v', hv', hd'⟩ := hd k1 0 r hk (by simp)
    simp only [Nat.mul_one, Nat.add_zero] at hv'
    simpa [Array.getD_eq_getD_getElem?, hv'] using hd'

/-! Elements of slices. -/
theorem elemOK_of {n : Nat} (h : elemOK P t n = true) : ∃ e i, P.underlying t = some (.slice e) ∧ P.info? e = some i ∧ i.size = n := by
  unfold elemOK at h
  split at h
  · rename_i e hu
    cases hi : P.info? e with
    | none => rw [hi] at h; simp at h
    | some i => rw [hi] at h; exact ⟨e, i, hu, hi, Nat.eq_of_beq_eq_true h⟩
  · cases h
theorem run_indexAt_slice {n : Nat} (h : elemOK P t n = true) {w : World} {b o len cap : Nat} {k : IntKind} {i : Int} (h0 : 0 ≤ i) (h1 : i.toNat < len) :
    (Instr.indexAt t (.slice (some ⟨b, o, none⟩) len cap) (.int k i)).run P w = .ok (.pointer (some ⟨b, o + i.toNat * n, none⟩)) w := by
  obtain ⟨e, inf, hu, hi, hn⟩ := elemOK_of h
  have hsz : (sizeOf e).run P w = .ok n w := by rw [run_sizeOf _ hi]; simp [Program.cellsOf, hi, hn]
  have hlt : i < (len : Int) := by omega
  simp [Instr.indexAt, asIntOf, run_underlying hu, hsz, h0, hlt, addr_add]
theorem Pure.indexRows {n len : Nat} {g : Nat → List D} {k : IntKind} {i : Int} (ht : elemOK P t n = true) (e1 : Ev S c x (.d (.rows n len g))) (e2 : Ev S c y (iv k i)) (hi : c = true → 0 ≤ i ∧ i.toNat < len) :
    Pure P S [] ⟨d, .indexAddr t x y, ty, pos, af, gd⟩ c (.rp (g i.toNat)) := by
  refine ⟨(fun _ h => nomatch h), fun E V M a w h hc => ?_⟩
  obtain ⟨h0, hlt⟩ := hi hc
  have h1 := h.opd x (by simp [Op.operands]) _ e1
  have h2 := h.val (by simp [Op.operands]) e2
  generalize he : a.eval x = v at h1
  generalize a.eval = ρ at *
  cases h1 with
  | d _ _ h1 =>
    cases h1 with
    | emp => omega
    | rows _ _ _ b o cap hcap hl f hm hd =>
      refine ⟨_, by simp only [execOp, he, h2, Sem.run_bind, run_indexAt_slice ht h0 hlt, Result.andThen]; rfl, .rp _ b _ (f i.toNat) (fun j hj => ?_) (fun j x hx => hd _ j x hlt hx)⟩
      rw [hl _ hlt] at hj
      have := hm _ j hlt hj
      rwa [← Nat.add_assoc] at this
theorem Pure.indexOwn {l n len : Nat} {k : IntKind} {i : Int} (ht : elemOK P t n = true) (e1 : Ev S c x (.own l len)) (e2 : Ev S c y (iv k i)) (hi : c = true → 0 ≤ i ∧ i.toNat < len) :
    Pure P S [] ⟨d, .indexAddr t x y, ty, pos, af, gd⟩ c (.locr l n i.toNat 0) := by
  refine ⟨(fun _ h => nomatch h), fun E V M a w h hc => ?_⟩
  obtain ⟨h0, hlt⟩ := hi hc
  have h1 := h.opd x (by simp [Op.operands]) _ e1
  have h2 := h.val (by simp [Op.operands]) e2
  generalize he : a.eval x = v at h1
  generalize a.eval = ρ at *
  cases h1 with
  | own _ _ cap hk hcap =>
    refine ⟨_, by simp only [execOp, he, h2, Sem.run_bind, run_indexAt_slice ht h0 hlt, Result.andThen]; rfl, ?_⟩
    have := Den.locr (V := V) (M := M) l n i.toNat 0
    simpa using this
  | ownNil => omega
theorem Pure.indexSl {l n lo len : Nat} {k : IntKind} {i : Int} (ht : elemOK P t n = true) (e1 : Ev S c x (.sl l n lo len)) (e2 : Ev S c y (iv k i)) (hi : c = true → 0 ≤ i ∧ i.toNat < len) :
    Pure P S [] ⟨d, .indexAddr t x y, ty, pos, af, gd⟩ c (.locr l n (lo + i.toNat) 0) := by
  refine ⟨(fun _ h => nomatch h), fun E V M a w h hc => ?_⟩
  obtain ⟨h0, hlt⟩ := hi hc
  have h1 := h.opd x (by simp [Op.operands]) _ e1
  have h2 := h.val (by simp [Op.operands]) e2
  generalize he : a.eval x = v at h1
  generalize a.eval = ρ at *
  cases h1 with
  | sl _ _ _ _ cap hcap hk =>
    refine ⟨_, by simp only [execOp, he, h2, Sem.run_bind, run_indexAt_slice ht h0 hlt, Result.andThen]; rfl, ?_⟩
    have := Den.locr (V := V) (M := M) l n (lo + i.toNat) 0
    rw [Nat.add_mul, Nat.add_zero] at this
    exact this
  | slEmp => omega
/-- An element of an array that lies in memory. -/
theorem Pure.indexArr {l n len : Nat} {k : IntKind} {i : Int} {agg : Bool} (ht : arrOK P t len agg n = true) (e1 : Ev S c x (.loc l 0)) (e2 : Ev S c y (iv k i)) (hi : c = true → 0 ≤ i ∧ i.toNat < len) :
    Pure P S [] ⟨d, .indexAddr t x y, ty, pos, af, gd⟩ c (.locr l n i.toNat 0) := by
  refine ⟨(fun _ h => nomatch h), fun E V M a w h hc => ?_⟩
  obtain ⟨h0, hlt⟩ := hi hc
  have h1 := h.opd x (by simp [Op.operands]) _ e1
  have h2 := h.val (by simp [Op.operands]) e2
  generalize he : a.eval x = v at h1
  generalize a.eval = ρ at *
  cases h1 with
  | loc _ _ =>
    unfold arrOK at ht
    split at ht
    · rename_i len' e hu
      simp only [Bool.and_eq_true] at ht
      have hlen := Nat.eq_of_beq_eq_true ht.1
      subst hlen
      have hlt' : i < (len' : Int) := by omega
      refine ⟨.pointer (some ⟨V.ρ l, i.toNat * n, none⟩), by simp [execOp, he, h2, Instr.indexAt, asIntOf, run_underlying hu, Instr.sureAddr, tyOK_sizeOf ht.2, h0, hlt', addr_add], ?_⟩
      have := Den.locr (V := V) (M := M) l n i.toNat 0
      simpa using this
    · cases ht

/-! Parts of values. -/
theorem Pure.field1 {l : List D} {r : D} {f off n : Nat} (ht : partOK P s f off false n = true) (e1 : Ev S c x (.d (.agg l))) (hr : l[off]? = some r) : Pure P S [] ⟨d, .field s x f, ty, pos, af, gd⟩ c (.d r) := by
  refine ⟨(fun _ h => nomatch h), fun E V M a w h hc => ?_⟩
  have h1 := h.opd x (by simp [Op.operands]) _ e1
  generalize he : a.eval x = v at h1
  generalize a.eval = ρ at *
  cases h1 with
  | d _ _ h1 =>
    cases h1 with
    | agg _ vs hl hd =>
      unfold partOK at ht
      split at ht
      · rename_i fs hu
        split at ht
        · rename_i fd hfd
          simp only [Bool.and_eq_true] at ht
          have ho := Nat.eq_of_beq_eq_true ht.1
          have hlt : off < vs.length := by have := (List.getElem?_eq_some_iff.1 hr).1; omega
          refine ⟨vs[off], ?_, .d _ _ (hd off r _ hr (List.getElem?_eq_getElem hlt))⟩
          simp [execOp, he, Instr.field, run_underlying hu, hfd, asAgg, part, tyOK_agg ht.2, ho, hlt]
        · cases ht
      · cases ht
theorem Pure.fieldN {l : List D} {f off n : Nat} (ht : partOK P s f off true n = true) (e1 : Ev S c x (.d (.agg l))) (hn : c = true → off + n ≤ l.length) : Pure P S [] ⟨d, .field s x f, ty, pos, af, gd⟩ c (.d (.agg ((l.drop off).take n))) := by
  refine ⟨(fun _ h => nomatch h), fun E V M a w h hc => ?_⟩
  have h1 := h.opd x (by simp [Op.operands]) _ e1
  have hn := hn hc
  generalize he : a.eval x = v at h1
  generalize a.eval = ρ at *
  cases h1 with
  | d _ _ h1 =>
    cases h1 with
    | agg _ vs hl hd =>
      unfold partOK at ht
      split at ht
      · rename_i fs hu
        split at ht
        · rename_i fd hfd
          simp only [Bool.and_eq_true] at ht
          have ho := Nat.eq_of_beq_eq_true ht.1
          refine ⟨.agg ((vs.drop off).take n).toArray, ?_, .d _ _ (.agg _ _ (by simp; omega) ?_)⟩
          · simp [execOp, he, Instr.field, run_underlying hu, hfd, asAgg, part, tyOK_agg ht.2, tyOK_sizeOf ht.2, ho]
          · intro j x y hx hy
            rw [List.getElem?_take] at hx hy
            split at hx
            · rename_i hj
              rw [if_pos hj] at hy
              rw [List.getElem?_drop] at hx hy
              exact hd _ _ _ hx hy
            · cases hx
        · cases ht
      · cases ht
/-- An element of an array value, each of one cell. -/
theorem Pure.index1 {l : List D} {len n : Nat} {k : IntKind} {i : Int} {r : D} (ht : arrOK P t len false n = true) (hn : n = 1) (e1 : Ev S c x (.d (.agg l))) (e2 : Ev S c y (iv k i)) (hi : c = true → 0 ≤ i ∧ i.toNat < len) (hr : c = true → l[i.toNat]? = some r) :
    Pure P S [] ⟨d, .index t x y, ty, pos, af, gd⟩ c (.d r) := by
  subst hn
  refine ⟨(fun _ h => nomatch h), fun E V M a w h hc => ?_⟩
  obtain ⟨h0, hlt⟩ := hi hc
  have hr := hr hc
  have h1 := h.opd x (by simp [Op.operands]) _ e1
  have h2 := h.val (by simp [Op.operands]) e2
  generalize he : a.eval x = v at h1
  generalize a.eval = ρ at *
  cases h1 with
  | d _ _ h1 =>
    cases h1 with
    | agg _ vs hl hd =>
      unfold arrOK at ht
      split at ht
      · rename_i len' e hu
        simp only [Bool.and_eq_true] at ht
        have hlen := Nat.eq_of_beq_eq_true ht.1
        subst hlen
        have hlt' : i < (len' : Int) := by omega
        have hlv : i.toNat < vs.length := by have := (List.getElem?_eq_some_iff.1 hr).1; omega
        refine ⟨vs[i.toNat], ?_, .d _ _ (hd _ r _ hr (List.getElem?_eq_getElem hlv))⟩
        simp [execOp, he, h2, Instr.index, asIntOf, run_underlying hu, h0, hlt', part, tyOK_agg ht.2, tyOK_sizeOf ht.2, hlv]
      · cases ht
/-- A string's byte. -/
theorem Pure.indexStr {b : ByteArray} {k : IntKind} {i : Int} (hu : P.underlying t = some .string) (e1 : Ev S c x (sv b)) (e2 : Ev S c y (iv k i)) (hi : c = true → 0 ≤ i ∧ i.toNat < b.size) :
    Pure P S [] ⟨d, .index t x y, ty, pos, af, gd⟩ c (iv .u8 (b.data.getD i.toNat 0).toNat) := by
  refine ⟨(fun _ h => nomatch h), fun E V M a w h hc => ?_⟩
  obtain ⟨h0, hlt⟩ := hi hc
  have h1 := h.val (by simp [Op.operands]) e1
  have h2 := h.val (by simp [Op.operands]) e2
  generalize a.eval = ρ at *
  refine ⟨_, ?_, .d _ _ (.v _)⟩
  have hlt' : i.toNat < b.data.size := hlt
  have : b[i.toNat]? = some (b.data.getD i.toNat 0) := by
    rw [getElem?_pos b i.toNat hlt]
    simp only [Array.getD, hlt', dif_pos]
    rfl
  simp [execOp, h1, h2, Instr.index, asIntOf, run_underlying hu, h0, this]

/-! Slices of slices. -/
def cutOf (e : Option Int) (d : Int) : Int := e.getD d
/-- x[lo:hi] of immutable data. -/
theorem run_slice {e : TypeId} {n : Nat} (hu : P.underlying t = some (.slice e)) (hsz : ∀ w, (sizeOf e).run P w = .ok n w) {w : World} {a : Option Addr} {len cap : Nat} {lo hi : Option Value} {l h : Nat}
    (hlo : (lo = none ∧ l = 0) ∨ ∃ k, lo = some (.int k l)) (hhi : (hi = none ∧ h = len) ∨ ∃ k, hi = some (.int k h)) (h1 : l ≤ h) (h2 : h ≤ cap) :
    (Instr.sliceAt t (.slice a len cap) lo hi none).run P w = .ok (.slice (if cap = l then a else a.map (·.add (l * n))) (h - l) (cap - l)) w := by
  rcases hlo with ⟨rfl, rfl⟩ | ⟨k, rfl⟩ <;> rcases hhi with ⟨rfl, rfl⟩ | ⟨k', rfl⟩ <;>
    simp [Instr.sliceAt, Instr.slice, run_underlying hu, Instr.sliceBounds, Instr.sliceBound, asIntOf, hsz, h1, h2]
end

end Go.Proofs.Ytcnikeonaklkoaa
