/- An element taken out of a slice that the function owns: append(s[:i], s[i+1:]...). No program in sight. -/
import Derived.Test.YtcnikeonaklkoaaSplit
namespace Go.Proofs.Ytcnikeonaklkoaa
open Go
set_option linter.unusedVariables false
set_option linter.unusedSimpArgs false
variable {P : Program} {S : St} {ro : Ro} {ops : Array Oper} {E : Env}

section
variable {x : Operand} {t e ty : TypeId} {pos : String} {af : Array Edge}
/-- s[:h], still as a slice that the function owns. -/
theorem Pure.cutPre0 {c : Bool} {dt : Option Tmp} {gd : Option (Nat × Bool)} {n len h lb : Nat} {lo hi : Option Operand} (ht : sliceOf P t e n = true) (e1 : Ev S c x (.own lb len)) (hlo : Bound S c lo 0 0) (hhi : Bound S c hi len h) (hle : c = true → h ≤ len) :
    Pure P S [] ⟨dt, .slice t x lo hi none, ty, pos, af, gd⟩ c (.own lb h) := by
  refine ⟨(fun _ h => nomatch h), fun E V M a w hg hc => ?_⟩
  have h2 := hle hc
  obtain ⟨ox, olo, ohi⟩ := slice_ops (t := t) (x := x) (lo := lo) (hi := hi) (o := ⟨dt, .slice t x lo hi none, ty, pos, af, gd⟩) rfl
  have hx := hg.opd x ox _ e1
  have rlo := bound_run hg hc olo hlo
  have rhi := bound_run hg hc ohi hhi
  obtain ⟨hu, hsz⟩ := sliceOf_of ht
  generalize hex : a.eval x = v at hx
  generalize a.eval = ρ at *
  cases hx with
  | ownNil _ hk =>
    have h0 : h = 0 := by omega
    subst h0
    refine ⟨.slice (if 0 = 0 then none else (none : Option Addr).map (·.add (0 * n))) (0 - 0) (0 - 0), ?_, ?_⟩
    · simp only [execOp, hex, Option.map_none, Sem.run_bind, run_slice (cap := 0) hu hsz rlo rhi (Nat.zero_le _) (by omega), Result.andThen]; rfl
    · exact .ownNil _ hk
  | own _ _ cap hk hcap =>
    refine ⟨.slice (if cap = 0 then some ⟨V.ρ lb, 0, none⟩ else (some (⟨V.ρ lb, 0, none⟩ : Addr)).map (·.add (0 * n))) (h - 0) (cap - 0), ?_, ?_⟩
    · simp only [execOp, hex, Option.map_none, Sem.run_bind, run_slice (cap := cap) hu hsz rlo rhi (Nat.zero_le _) (by omega), Result.andThen]; rfl
    · have e0 : (if cap = 0 then some (⟨V.ρ lb, 0, none⟩ : Addr) else (some (⟨V.ρ lb, 0, none⟩ : Addr)).map (·.add (0 * n))) = some ⟨V.ρ lb, 0, none⟩ := by
        split
        · rfl
        · rw [Option.map_some, addr_add]; simp
      rw [e0]
      exact .own lb h cap hk (by omega)
theorem Pure.cutPre {c : Bool} {dt : Option Tmp} {gd : Option (Nat × Bool)} {n len h lb : Nat} {hi : Option Operand} (ht : sliceOf P t e n = true) (e1 : Ev S c x (.own lb len)) (hhi : Bound S c hi len h) (hle : c = true → h ≤ len) :
    Pure P S [] ⟨dt, .slice t x none hi none, ty, pos, af, gd⟩ c (.own lb h) := Pure.cutPre0 ht e1 (.no 0) hhi hle
end
theorem upd_two (S : St) (u v : Nat × Option Cont) : S.upd [u, v] = (S.put1 u).put1 v := rfl

def Col.eras (i : Nat) : Col → Col
  | .ints k xs => .ints k (xs.eraseIdx i)
  | .bools xs => .bools (xs.eraseIdx i)
  | .ds xs => .ds (xs.eraseIdx i)
def Col.dropC (i : Nat) : Col → Col
  | .ints k xs => .ints k (xs.drop i)
  | .bools xs => .bools (xs.drop i)
  | .ds xs => .ds (xs.drop i)
theorem getD_eras {α : Type} (xs : List α) (d : α) (i k : Nat) : (xs.eraseIdx i).getD k d = if k < i then xs.getD k d else xs.getD (k + 1) d := by
  simp only [List.getD_eq_getElem?_getD, List.getElem?_eraseIdx]
  split <;> rfl
theorem eras_at (c : Col) (i k : Nat) : (c.eras i).at k = if k < i then c.at k else c.at (k + 1) := by
  cases c <;> simp only [Col.eras, Col.at, getD_eras] <;> split <;> rfl
theorem eras_len (c : Col) {i : Nat} (hi : i < c.len) : (c.eras i).len = c.len - 1 := by
  cases c <;> simp only [Col.eras, Col.len, List.length_eraseIdx] at * <;> simp [hi]
theorem dropC_at (c : Col) (i k : Nat) : (c.dropC i).at k = c.at (i + k) := by
  cases c <;> simp [Col.dropC, Col.at, List.getD_eq_getElem?_getD]
theorem dropC_len (c : Col) (i : Nat) : (c.dropC i).len = c.len - i := by
  cases c <;> simp [Col.dropC, Col.len]
theorem dropC_one {c : Col} (i : Nat) (h : c.oneB = true) : (c.dropC i).oneB = true := by
  cases c with
  | ints k xs => exact h
  | bools xs => exact h
  | ds xs =>
    simp only [Col.dropC, Col.oneB, List.all_eq_true] at *
    exact fun x hx => h x (List.mem_of_mem_drop hx)

theorem axOp_cut {S0 : St} {o : Oper} {x y : Operand} {t tx : TypeId} {d l n bytes len i : Nat} {cs : List Col} (ho : o.op = .call ⟨.builtin .append, #[x, y], #[t, tx]⟩) (hdst : o.dst = some d) (hgd : o.guard = none)
    (ht : appOK P t n bytes = true) (hk : kindOK P tx = true) (hn : 0 < n) (ex : Ev S0 true x (.own l i)) (ey : Ev S0 true y (.sl l n (i + 1) (len - (i + 1)))) (hb : S0.get (bk l) = some (.blk (.app n len cs))) (hi : i < len) (h1 : ∀ c ∈ cs, c.oneB = true) :
    AxOp P ro ops o ⟨opNames o ++ [bk l], S0, [(bk l, some (.blk (.app n (len - 1) (cs.map (Col.eras i))))), (sl d, some (.av (.own l (len - 1))))], []⟩ := by
  intro E S a w hs hf hok ⟨V, M, ha, hw⟩ Q hpn
  have hd : d < E.nt := hok.2 d (by simp [Ax.names])
  have hg : Given E S0 o [l] true V M a w := given_of (rn := opNames o ++ [bk l]) hs (fun n hn => by simp [hn]) (fun m hm => by simp only [List.mem_singleton] at hm; subst hm; simp) rfl ha hw
  have hyo : y ∈ o.op.operands := by rw [ho]; simp [Op.operands, Call.operands]
  have hxo : x ∈ o.op.operands := by rw [ho]; simp [Op.operands, Call.operands]
  obtain ⟨b1, b2, b3⟩ := hg.blk l (by simp) _ hb
  have hsr : SrcOf S0 y [l] n (len - (i + 1)) (cs.map (Col.dropC (i + 1))) := .sl (tot := len) (cs := cs) ey hb rfl (by omega) (by simpa using b1) (fun c hc => by
      obtain ⟨c0, h0, rfl⟩ := List.mem_map.1 hc
      rw [dropC_len, b2 c0 h0]) (fun j c' hj => by
      simp only [List.getElem?_map, Option.map_eq_some_iff] at hj
      obtain ⟨c0, h0, rfl⟩ := hj
      exact ⟨c0, h0, fun k hk => dropC_at _ _ _⟩)
  obtain ⟨news, hsrc, hrows⟩ := src_of (P := P) (tx := tx) hsr hg (fun l hl => hl) hyo hk (fun c hc => by
    obtain ⟨c0, h0, rfl⟩ := List.mem_map.1 hc
    exact dropC_one _ (h1 c0 h0))
  unfold stepIn
  rw [if_pos (by simp [Region.wanted, hgd])]
  have hnd : ∀ d, o.op ≠ .defer d := fun d h => by rw [ho] at h; cases h
  have hrun : ∀ {v : Value} {w' : World} {ux : Value}, a.eval x = ux → (Builtin.append_ #[t, tx] o.type #[ux, a.eval y]).run P w = .ok v w' → (execOp a.eval o).run P w = .ok (.value v) w' := by
    intro v w' ux hux hr
    generalize a.eval = ρ at *
    simp only [execOp, ho, resolve, Sem.run_bind, Sem.run_pure, Result.andThen, invoke, builtin]
    simp [hux, hr]
  unfold appOK at ht
  split at ht
  · rename_i e hu
    split at ht
    · rename_i inf hinf
      simp only [Bool.and_eq_true] at ht
      obtain ⟨⟨ht1, _⟩, _⟩ := ht
      have e1 := Nat.eq_of_beq_eq_true ht1
      rw [← e1] at hsrc
      have hxd := hg.opd x hxo _ ex
      have hSl : S.get (bk l) = some (.blk (.app n len cs)) := by rw [hs (bk l) (by simp)]; exact hb
      generalize hex : a.eval x = v at hxd
      cases hxd with
      | ownNil _ hkl => rw [hkl] at b3; simp only at b3; omega
      | own _ _ cap hkl hcl =>
        rw [hkl] at b3
        obtain ⟨hcap, vs, tt, hh, hsz, hr⟩ := b3
        have hnl : news.length = (len - (i + 1)) * n := hrows.2.2.1
        have hroom : i + (len - (i + 1)) ≤ cap := by omega
        have hfit : i * inf.size + news.length ≤ vs.size := by
          rw [e1, hnl, hsz, ← Nat.add_mul]; exact Nat.mul_le_mul_right n hroom
        refine wpIn_of_value hnd (hrun hex (run_append_room' hu hinf hsrc hroom hh hfit)) ?_
        rw [hdst]
        have hbl : HasB V S l := ⟨⟨_, hSl⟩, by rw [hkl]; simp⟩
        have hln : i + (len - (i + 1)) = len - 1 := by omega
        rw [hln]
        have hst := WStep.setRow w (V.ρ l) (spliceL vs.toList (i * inf.size) news).toArray (hw.bd l hbl)
        have hfit' : i * inf.size + news.length ≤ vs.toList.length := by simpa using hfit
        have hB : BlkAt V M (w.setRow (V.ρ l) (spliceL vs.toList (i * inf.size) news).toArray) l (.app n (len - 1) (cs.map (Col.eras i))) := by
          refine ⟨by simpa using b1, fun c hc => ?_, ?_⟩
          · obtain ⟨c0, h0, rfl⟩ := List.mem_map.1 hc
            have := b2 c0 h0
            rw [eras_len _ (by omega)]; omega
          · rw [hkl]
            refine ⟨by omega, _, tt, setRow_heap w _ _ _ _ _ hh, ?_, by simpa using b1, fun c hc => ?_, fun k j c hk hj => ?_⟩
            · rw [List.size_toArray, spliceL_length hfit']; simpa using hsz
            · obtain ⟨c0, h0, rfl⟩ := List.mem_map.1 hc
              have := b2 c0 h0
              rw [eras_len _ (by omega)]; omega
            · simp only [List.getElem?_map, Option.map_eq_some_iff] at hj
              obtain ⟨c0, h0, rfl⟩ := hj
              have hjn : j < n := by rw [← b1]; exact (List.getElem?_eq_some_iff.1 h0).1
              have hsp := spliceL_get hfit' (k * n + j)
              rw [eras_at]
              simp only [List.getElem?_toArray, hsp]
              rw [e1]
              by_cases hki : k < i
              · have hlt : k * n + j < i * n := by
                  have : (k + 1) * n ≤ i * n := Nat.mul_le_mul_right n hki
                  rw [Nat.add_mul] at this; omega
                rw [if_pos hki, if_neg (by omega)]
                obtain ⟨u, hu', hdu⟩ := hr.2.2 k j c0 (by omega) h0
                exact ⟨u, by simpa using hu', hdu⟩
              · have hge : i * n ≤ k * n := Nat.mul_le_mul_right n (by omega)
                have hlt : (k - i) * n + n ≤ (len - (i + 1)) * n := by
                  have : (k - i + 1) * n ≤ (len - (i + 1)) * n := Nat.mul_le_mul_right n (by omega)
                  rw [Nat.add_mul] at this; omega
                have hsub : k * n + j - i * n = (k - i) * n + j := by rw [Nat.sub_mul]; omega
                rw [if_neg hki, if_pos ⟨by omega, by rw [hnl]; omega⟩, hsub]
                obtain ⟨u, hu', hdu⟩ := hrows.2.2.2 (k - i) j (c0.dropC (i + 1)) (by omega) (by rw [List.getElem?_map, h0]; rfl)
                refine ⟨u, hu', ?_⟩
                rw [dropC_at, show i + 1 + (k - i) = k + 1 by omega] at hdu
                exact hdu
        refine ⟨V, M, ⟨fun t x e => ?_, by simp [Act.put, ha.size], ha.defers⟩, (repW_write hw hSl (by rw [hkl]; simp) hst hB).blks_only fun m B e => ?_⟩
        · have e : St.get ((S.put1 (bk l, some (.blk (.app n (len - 1) (cs.map (Col.eras i)))))).put1 (sl d, some (.av (.own l (len - 1))))) (sl t) = some (.av x) := e
          rw [St.get_put1, St.get_put1] at e
          by_cases htd : t = d
          · subst htd
            rw [if_pos rfl] at e
            injection e with e; injection e with e; subst e
            exact ⟨_, by simp [Act.put, ha.size, hd], .own l (len - 1) cap hkl (by omega)⟩
          · rw [if_neg (fun e => htd (sl_inj e).symm), if_neg (Ne.symm (sl_ne_bk t l))] at e
            obtain ⟨u, hu', hdu⟩ := ha.slots t x e
            exact ⟨u, by simp [Act.put, Ne.symm htd, hu'], hdu⟩
        · have e : St.get ((S.put1 (bk l, some (.blk (.app n (len - 1) (cs.map (Col.eras i)))))).put1 (sl d, some (.av (.own l (len - 1))))) (bk m) = some (.blk B) := e
          rw [St.get_put1, if_neg (sl_ne_bk d m)] at e
          exact e
    · cases ht
  · cases ht
theorem Trace.cutOut {S0 S' : St} {r : List Oper} {L : List Ax} {x y : Operand} {t tx ty : TypeId} {pos : String} {af : Array Edge} {d l n bytes len i : Nat} {cs : List Col}
    (ht : appOK P t n bytes = true) (hk : kindOK P tx = true) (hn : 0 < n) (ex : Ev S0 true x (.own l i)) (ey : Ev S0 true y (.sl l n (i + 1) (len - (i + 1)))) (hb : S0.get (bk l) = some (.blk (.app n len cs))) (hi : i < len) (h1 : ∀ c ∈ cs, c.oneB = true)
    (h : Trace P ro ops r ((sl d, .av (.own l (len - 1))) :: (bk l, .blk (.app n (len - 1) (cs.map (Col.eras i)))) :: S0) L S') :
    Trace P ro ops (⟨some d, .call ⟨.builtin .append, #[x, y], #[t, tx]⟩, ty, pos, af, none⟩ :: r) S0 (⟨opNames ⟨some d, .call ⟨.builtin .append, #[x, y], #[t, tx]⟩, ty, pos, af, none⟩ ++ [bk l], S0, [(bk l, some (.blk (.app n (len - 1) (cs.map (Col.eras i))))), (sl d, some (.av (.own l (len - 1))))], []⟩ :: L) S' :=
  .cons (axOp_cut rfl rfl rfl ht hk hn ex ey hb hi h1) (fun _ _ => rfl) (fun l hl => by cases hl) (fun m => by
    rw [get_cons, get_cons]
    dsimp only
    rw [upd_two, St.get_put1, St.get_put1]) h

end Go.Proofs.Ytcnikeonaklkoaa
