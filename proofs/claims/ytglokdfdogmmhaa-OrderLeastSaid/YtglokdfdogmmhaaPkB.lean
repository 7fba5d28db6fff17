import Derived.Test.YtglokdfdogmmhaaPkA
import Derived.Test.YtglokdfdogmmhaaPkH
import Derived.Test.YtglokdfdogmmhaaPkG
/- Blocks with symbolic contents handed over; append to a slice of own slices; own slices in and out of its cells; a dozen rows under labels of their own. No program in sight. -/
namespace Go.Proofs.Ytglokdfdogmmhaa
open Go
set_option linter.unusedVariables false
set_option linter.unusedSimpArgs false
variable {P : Program} {S : St} {ro : Ro} {ops : Array Oper} {E : Env}

/-! Contents within labels, one by one. -/
inductive AllC (ls : List Nat) : St → Prop
  | nil : AllC ls []
  | cons {n : Nat} {c : Cont} {r : St} (h : contWithin ls c = true) (t : AllC ls r) : AllC ls ((n, c) :: r)
theorem AllC.mem {ls : List Nat} {T : St} (h : AllC ls T) : ∀ p ∈ T, contWithin ls p.2 = true := by
  induction h with
  | nil => intro p hp; cases hp
  | cons h t ih =>
    intro p hp
    rcases List.mem_cons.1 hp with rfl | hp
    · exact h
    · exact ih p hp
theorem withins_of {ls : List Nat} : ∀ {cs : List AV}, (∀ x ∈ cs, x.within ls = true) → AV.withins ls cs = true
  | [], _ => rfl
  | x :: r, h => by simp only [AV.withins, h x (by simp), withins_of (cs := r) fun y hy => h y (by simp [hy]), Bool.and_self]
theorem cont_appv {ls : List Nat} {cs : List AV} (h : ∀ x ∈ cs, x.within ls = true) : contWithin ls (.blk (.appv cs)) = true := withins_of h
def handedW (Bs Bs' : St) (res : AV) (keep new ds : List Nat) : Bool :=
  blocksOnly Bs && blocksOnly Bs' && allKeys (fun n => memB n ds) Bs && allKeys (fun n => memB (n / 2) (new ++ keep)) Bs' && keep.all (fun l => !memB l new) && res.within (new ++ keep) && new.all (fun l => memB (bk l) (keysOf Bs'))
theorem handedW_of {S0 : St} {Bs Bs' : St} {res : AV} {keep new ds : List Nat} (h0 : Haves S0 Bs) (hc : AllC (new ++ keep) Bs') (h : handedW Bs Bs' res keep new ds = true) : Handed S0 Bs Bs' res keep new ds := by
  have hv : ∀ p ∈ Bs, S0.get p.1 = some p.2 ∧ ∃ B, p.2 = .blk B := by
    clear h
    induction h0 with
    | nil => intro p hp; cases hp
    | cons h t ih =>
      intro p hp
      rcases List.mem_cons.1 hp with rfl | hp
      · exact ⟨h, _, rfl⟩
      · exact ih p hp
  simp only [handedW, Bool.and_eq_true, List.all_eq_true, Bool.not_eq_true'] at h
  obtain ⟨⟨⟨⟨⟨⟨h1, h2⟩, h3⟩, h4⟩, h5⟩, h6⟩, h8⟩ := h
  have h1 : ∀ p ∈ Bs, p.1 % 2 = 1 := fun p hp => by simpa [nbeq] using allKeys_mem h1 p hp
  have h2 : ∀ p ∈ Bs', p.1 % 2 = 1 := fun p hp => by simpa [nbeq] using allKeys_mem h2 p hp
  have h3 : ∀ p ∈ Bs, p.1 ∈ ds := fun p hp => memB_iff.1 (allKeys_mem h3 p hp)
  have h4 : ∀ p ∈ Bs', p.1 / 2 ∈ new ++ keep := fun p hp => memB_iff.1 (allKeys_mem h4 p hp)
  have h8 : ∀ l ∈ new, bk l ∈ Bs'.map Prod.fst := fun l hl => by rw [← keysOf_eq]; exact memB_iff.1 (h8 l hl)
  refine ⟨h1, h2, fun p hp => (hv p hp).1, fun p hp => (hv p hp).2, h3, fun p hp => List.mem_append.1 (h4 p hp), fun l hl hn => ?_, h6, hc.mem, h8⟩
  have := h5 l hl
  rw [memB_iff.2 hn] at this
  cases this
/-- A call that takes blocks over, some with symbolic contents. -/
theorem Trace.cbW {S0 S' : St} {cl : Call} {ty : TypeId} {pos : String} {af : Array Edge} {r : List Oper} {L : List Ax} {t : Nat} {g : FuncId} {args : List AV} {res : AV} {Bs Bs' : St} {keep : List Nat} (new ds : List Nat) (hca : CallArgs S0 true cl g args) (hs : FnSpec P g args Bs res Bs' keep) (hg : enterOK P g = true)
    (hv : Haves S0 Bs) (hc : AllC (new ++ keep) Bs') (hh : handedW Bs Bs' res keep new ds = true) (hf : freshB ⟨opNames ⟨some t, .call cl, ty, pos, af, none⟩ ++ delsA Bs, S0, postCall ds Bs' t res, new⟩ S0 = true)
    (h : Trace P ro ops r (S0.called ds Bs' t res) L S') : Trace P ro ops (⟨some t, .call cl, ty, pos, af, none⟩ :: r) S0 (⟨opNames ⟨some t, .call cl, ty, pos, af, none⟩ ++ delsA Bs, S0, postCall ds Bs' t res, new⟩ :: L) S' :=
  .cons (axOp_callB rfl rfl rfl hca hg hs (handedW_of hv hc hh)) (fun _ _ => rfl) (fresh_of hf) (called_upd _ _ _ _ _) h

/-! append to a slice of own slices. -/
theorem axOp_appendV {S0 : St} {o : Oper} {x y : Operand} {t tx : TypeId} {d l l' bytes len1 len2 : Nat} {bl2 ds : List Nat} {cs us : List AV} {cs2 : List Col} (ho : o.op = .call ⟨.builtin .append, #[x, y], #[t, tx]⟩) (hdst : o.dst = some d) (hgd : o.guard = none)
    (ht : appOK P t 1 bytes = true) (hk : kindOK P tx = true) (ex : Ev S0 true x (.own l len1)) (hb : S0.get (bk l) = some (.blk (.appv cs))) (hcl : cs.length = len1) (hy : SrcOf S0 y bl2 1 len2 cs2) (h1 : ∀ c ∈ cs2, c.oneB = true) (hlab : l = l' ∨ bk l ∈ ds)
    (hul : us.length = len2) (hus : ∀ i, i < len2 → ∃ c, cs2[0]? = some c ∧ us[i]? = some (.d (c.at i))) (h2 : 0 < len2) (hnm : ∀ x ∈ cs, ¬ Ment x l')
    (hbd : (len1 + len2) * bytes ≤ 140737488355328) (hb63 : len1 + len2 ≤ 140737488355328) :
    AxOp P ro ops o ⟨opNames o ++ (l :: bl2).map bk, S0, postOf ds l' (.appv (cs ++ us)) d (.own l' (len1 + len2)), [l']⟩ := by
  intro E S a w hs hf hok ⟨V, M, ha, hw⟩ Q hpn
  have hd : d < E.nt := hok.2 d (names_postOf.2 (.inr (.inr rfl)))
  have hkp : l' ∉ E.keep := hok.1 l' (by simp)
  have hg : Given E S0 o (l :: bl2) true V M a w := given_of (rn := opNames o ++ (l :: bl2).map bk) hs (fun n hn => by simp [hn]) (fun l hl => by simp only [List.mem_append, List.mem_map]; right; exact ⟨l, by simpa using hl, rfl⟩) rfl ha hw
  have hyo : y ∈ o.op.operands := by rw [ho]; simp [Op.operands, Call.operands]
  have hxo : x ∈ o.op.operands := by rw [ho]; simp [Op.operands, Call.operands]
  obtain ⟨news, hsrc, hrows⟩ := src_of (P := P) (tx := tx) hy hg (fun l hl => by simp [hl]) hyo hk h1
  unfold stepIn
  rw [if_pos (by simp [Region.wanted, hgd])]
  have hnd : ∀ d, o.op ≠ .defer d := fun d h => by rw [ho] at h; cases h
  have hrun : ∀ {v : Value} {w' : World} {ux : Value}, a.eval x = ux → (Builtin.append_ #[t, tx] o.type #[ux, a.eval y]).run P w = .ok v w' → (execOp a.eval o).run P w = .ok (.value v) w' := by
    intro v w' ux hux hr
    generalize a.eval = ρ at *
    simp only [execOp, ho, resolve, Sem.run_bind, Sem.run_pure, Result.andThen, invoke, builtin]
    simp [hux, hr]
  have hnl : news.length = len2 := by have := hrows.2.2.1; rwa [Nat.mul_one] at this
  have hnews : ∀ (V' : Vals) (i : Nat) (x : AV), us[i]? = some x → ∃ v, news[i]? = some v ∧ Den V' M x v := fun V' i x hx => by
    have hi : i < len2 := by rw [← hul]; exact (List.getElem?_eq_some_iff.1 hx).1
    obtain ⟨c, hc, he⟩ := hus i hi
    rw [hx] at he; injection he with he; subst he
    obtain ⟨v, hv, hdv⟩ := hrows.2.2.2 i 0 c hi hc
    exact ⟨v, by simpa using hv, .d _ _ hdv⟩
  unfold appOK at ht
  split at ht
  · rename_i e hu
    split at ht
    · rename_i inf hi
      simp only [Bool.and_eq_true] at ht
      obtain ⟨⟨ht1, ht2⟩, ht3⟩ := ht
      have e1 := Nat.eq_of_beq_eq_true ht1
      have e2 := Nat.eq_of_beq_eq_true ht2
      obtain ⟨z, hz, hzs⟩ : ∃ z, inf.zero = some z ∧ z.cells.size = 1 := by
        cases hz : inf.zero with
        | none => rw [hz] at ht3; cases ht3
        | some z => rw [hz] at ht3; exact ⟨z, rfl, Nat.eq_of_beq_eq_true ht3⟩
      rw [← e1] at hsrc
      -- what a block of these cells is
      have mk : ∀ (V' : Vals) (olds rest : List Value), (∀ (j : Nat) (x : AV), cs[j]? = some x → ∃ v, olds[j]? = some v ∧ Den V' M x v) → olds.length = len1 → ∀ (j : Nat) (x : AV), (cs ++ us)[j]? = some x → ∃ v, (olds ++ news ++ rest).toArray[j]? = some v ∧ Den V' M x v := by
        intro V' olds rest ho hol j x hx
        rw [List.getElem?_append] at hx
        simp only [List.getElem?_toArray, List.append_assoc]
        split at hx
        · rename_i hj
          obtain ⟨v, hv, hdv⟩ := ho j x hx
          exact ⟨v, by rw [List.getElem?_append_left (by rw [hol, ← hcl]; exact hj)]; exact hv, hdv⟩
        · rename_i hj
          obtain ⟨v, hv, hdv⟩ := hnews V' _ x hx
          refine ⟨v, ?_, hdv⟩
          rw [List.getElem?_append_right (by rw [hol, ← hcl]; omega), hol, ← hcl, List.getElem?_append_left (List.getElem?_eq_some_iff.1 hv).1]
          exact hv
      have grow : ∀ (base : Option Addr) (sCap : Nat) (olds : List Value), a.eval x = .slice base len1 sCap → sCap < len1 + len2 → (Builtin.firstCells inf.size len1 (.slice base len1 sCap)).run P w.drew = .ok olds.toArray w.drew →
          (∀ (j : Nat) (x : AV), cs[j]? = some x → ∃ v, olds[j]? = some v ∧ Den V M x v) → olds.length = len1 → o.wpIn (FW ro) 0 P a w (Rep E (S.upd (postOf ds l' (.appv (cs ++ us)) d (.own l' (len1 + len2))))) Q := by
        intro base sCap olds hex hlt hold hden hol
        have hgr := run_append_grow_src (P := P) w t tx o.type e inf z hu hi hz base len1 sCap olds hold (a.eval y) len2 news hsrc hlt (by omega) (growslice_fits (need := len1 + len2) (old := sCap) hlt (by rw [e2]; exact hbd))
        refine wpIn_of_value hnd (hrun hex hgr) ?_
        rw [hdst]
        have hcap : len1 + len2 ≤ grownCap w (len1 + len2) sCap e := by unfold grownCap; exact Nat.le_add_right _ _
        refine rep_step ha hw (WStep.drewAlloc w _) (.inl rfl) (hf l' (by simp)) hkp hd (κ' := some (grownCap w (len1 + len2) sCap e)) ?_ ?_
        · show appvAt _ M _ l' (cs ++ us)
          unfold appvAt
          rw [Vals.set_κ, Vals.set_ρ]
          refine ⟨by rw [List.length_append, hcl, hul]; exact hcap, ((olds ++ news).toArray ++ Builtin.zeroCells z.cells (grownCap w (len1 + len2) sCap e - (len1 + len2))), e, heap_alloc w.drew _, ?_, ?_⟩
          · have h1 : (Builtin.zeroCells z.cells (grownCap w (len1 + len2) sCap e - (len1 + len2))).size = grownCap w (len1 + len2) sCap e - (len1 + len2) := by
              simp [Builtin.zeroCells, hzs]
            rw [Array.size_append, h1, List.size_toArray, List.length_append, hol, hnl]
            omega
          · have := mk (V.set l' w.heap.size (some (grownCap w (len1 + len2) sCap e))) olds (Builtin.zeroCells z.cells (grownCap w (len1 + len2) sCap e - (len1 + len2))).toList (fun j x hx => by
              obtain ⟨v, hv, hdv⟩ := hden j x hx
              exact ⟨v, hv, hdv.relab _ _ (hnm x (List.mem_of_getElem? hx))⟩) hol
            have es : ((olds ++ news) ++ (Builtin.zeroCells z.cells (grownCap w (len1 + len2) sCap e - (len1 + len2))).toList).toArray = (olds ++ news).toArray ++ Builtin.zeroCells z.cells (grownCap w (len1 + len2) sCap e - (len1 + len2)) := by
              apply Array.ext'
              simp
            rw [← es]
            exact this
        · have := Den.own (V := V.set l' w.heap.size (some (grownCap w (len1 + len2) sCap e))) (M := M) l' (len1 + len2) _ (by rw [Vals.set_κ]) hcap
          rw [Vals.set_ρ] at this
          exact this
      have hxd := hg.opd x hxo _ ex
      have hblk : appvAt V M w l cs := hg.blk l (by simp) _ hb
      have hSl : S.get (bk l) = some (.blk (.appv cs)) := by rw [hs (bk l) (by simp)]; exact hb
      unfold appvAt at hblk
      generalize hex : a.eval x = v at hxd
      cases hxd with
      | ownNil _ hkl =>
        rw [hkl] at hblk
        simp only at hblk
        exact grow none 0 [] hex (by omega) (by simp [Builtin.firstCells]) (fun j x hx => by rw [hblk] at hx; simp at hx) rfl
      | own _ _ cap hkl hcl2 =>
        rw [hkl] at hblk
        obtain ⟨hcc, vs, tt, hh, hsz, hr⟩ := hblk
        have hold : ∀ (j : Nat) (x : AV), cs[j]? = some x → ∃ v, (vs.toList.take len1)[j]? = some v ∧ Den V M x v := fun j x hx => by
          obtain ⟨v, hv, hdv⟩ := hr j x hx
          have hj := (List.getElem?_eq_some_iff.1 hx).1
          exact ⟨v, by rw [List.getElem?_take_of_lt (by omega)]; simpa using hv, hdv⟩
        have hol : (vs.toList.take len1).length = len1 := by simp; omega
        by_cases hroom : len1 + len2 ≤ cap
        · have hfit : len1 * inf.size + news.length ≤ vs.size := by
            rw [e1, hnl, hsz]; omega
          refine wpIn_of_value hnd (hrun hex (run_append_room' hu hi hsrc hroom hh hfit)) ?_
          rw [hdst]
          have hbl : HasB V S l := ⟨⟨_, hSl⟩, by rw [hkl]; simp⟩
          refine rep_step ha hw (WStep.setRow w _ _ (hw.bd l hbl)) (.inr ⟨l, hbl, rfl, ?_⟩) (hf l' (by simp)) hkp hd (κ' := some cap) ?_ ?_
          · rcases hlab with h | h
            · exact .inr h
            · exact .inl h
          · show appvAt _ M _ l' (cs ++ us)
            unfold appvAt
            rw [Vals.set_κ, Vals.set_ρ]
            refine ⟨by rw [List.length_append, hcl, hul]; exact hroom, _, tt, setRow_heap w _ _ _ _ _ hh, ?_, ?_⟩
            · rw [List.size_toArray, spliceL_length (by simpa using hfit)]; simpa using hsz
            · have := mk (V.set l' (V.ρ l) (some cap)) (vs.toList.take len1) (vs.toList.drop (len1 * inf.size + news.length)) (fun j x hx => by
                obtain ⟨v, hv, hdv⟩ := hold j x hx
                exact ⟨v, hv, hdv.relab _ _ (hnm x (List.mem_of_getElem? hx))⟩) hol
              have es : spliceL vs.toList (len1 * inf.size) news = vs.toList.take len1 ++ news ++ vs.toList.drop (len1 * inf.size + news.length) := by rw [e1, Nat.mul_one]; rfl
              rw [es]
              exact this
          · have := Den.own (V := V.set l' (V.ρ l) (some cap)) (M := M) l' (len1 + len2) cap (by rw [Vals.set_κ]) hroom
            rw [Vals.set_ρ] at this
            exact this
        · refine grow (some ⟨V.ρ l, 0, none⟩) cap (vs.toList.take len1) hex (by omega) ?_ hold hol
          refine run_firstCells_some w.drew inf.size len1 ⟨V.ρ l, 0, none⟩ len1 cap _ (by rw [e1, Nat.mul_one]; exact hol) fun j u hu => ?_
          rw [addr_add, Nat.zero_add]
          rw [List.getElem?_take] at hu
          split at hu
          · show w.cell? _ = _
            simp only [World.cell?, hh]
            simpa using hu
          · cases hu
    · cases ht
  · cases ht
theorem Trace.appendV {S0 S' : St} {r : List Oper} {L : List Ax} {x y : Operand} {t tx ty : TypeId} {pos : String} {af : Array Edge} {d l bytes len1 len2 : Nat} {bl2 : List Nat} {cs us : List AV} {cs2 : List Col} (l' : Nat) (ds : List Nat)
    (ht : appOK P t 1 bytes = true) (hk : kindOK P tx = true) (ex : Ev S0 true x (.own l len1)) (hb : S0.get (bk l) = some (.blk (.appv cs))) (hcl : cs.length = len1) (hy : SrcOf S0 y bl2 1 len2 cs2) (h1 : ∀ c ∈ cs2, c.oneB = true) (hlab : l = l' ∨ bk l ∈ ds)
    (hul : us.length = len2) (hus : ∀ i, i < len2 → ∃ c, cs2[0]? = some c ∧ us[i]? = some (.d (c.at i))) (h2 : 0 < len2) (hnm : ∀ x ∈ cs, ¬ Ment x l')
    (hbd : (len1 + len2) * bytes ≤ 140737488355328) (hb63 : len1 + len2 ≤ 140737488355328)
    (hf : freshB ⟨opNames ⟨some d, .call ⟨.builtin .append, #[x, y], #[t, tx]⟩, ty, pos, af, none⟩ ++ (l :: bl2).map bk, S0, postOf ds l' (.appv (cs ++ us)) d (.own l' (len1 + len2)), [l']⟩ S0 = true)
    (h : Trace P ro ops r (S0.after ds l' (.appv (cs ++ us)) d (.own l' (len1 + len2))) L S') :
    Trace P ro ops (⟨some d, .call ⟨.builtin .append, #[x, y], #[t, tx]⟩, ty, pos, af, none⟩ :: r) S0 (⟨opNames ⟨some d, .call ⟨.builtin .append, #[x, y], #[t, tx]⟩, ty, pos, af, none⟩ ++ (l :: bl2).map bk, S0, postOf ds l' (.appv (cs ++ us)) d (.own l' (len1 + len2)), [l']⟩ :: L) S' :=
  Trace.new ds (axOp_appendV rfl rfl rfl ht hk ex hb hcl hy h1 hlab hul hus h2 hnm hbd hb63) hf h

/-! Own slices in the cells of a slice. -/
/-- A nil slice there, as one that the function owns. -/
theorem Ghost.cellNilV {lb j l n : Nat} {cs cs' : List AV} {cols : List Col} (hb : S.get (bk lb) = some (.blk (.appv cs))) (hj : cs[j]? = some nilS) (hf : freshB ⟨[], S, [(bk l, none)], [l]⟩ S = true) (hne : (Nat.beq lb l) = false) (hk : l ∉ E.keep) (hn : cols.length = n) (hc : ∀ c ∈ cols, c.len = 0)
    (hcs : cs.set j (.own l 0) = cs') : Ghost E S ((bk lb, .blk (.appv cs')) :: (bk l, .blk (.app n 0 cols)) :: S) := by
  rintro a w ⟨V, M, ha, hw⟩
  obtain ⟨V', hκ, ha', hw'⟩ := rep_nilLabel (cs := cols) ha hw hf hk hn hc
  have hne' : bk l ≠ bk lb := fun e => by
    have : lb = l := by unfold bk at e; omega
    rw [this] at hne; simp [nbeq] at hne
  have hb' : St.get ((bk l, .blk (.app n 0 cols)) :: S) (bk lb) = some (.blk (.appv cs)) := by rw [get_cons, if_neg hne']; exact hb
  refine ⟨V', M, ha'.blk _ _, hw'.reblk hb' ?_⟩
  have h1 : appvAt V' M w lb cs := hw'.blks lb _ hb'
  show appvAt V' M w lb cs'
  unfold appvAt at *
  cases hkb : V'.κ lb with
  | none => rw [hkb] at h1; simp only at h1; subst h1; simp at hj
  | some cap =>
    rw [hkb] at h1
    obtain ⟨g1, vs, t, g2, g3, g4⟩ := h1
    refine ⟨by rw [← hcs]; simpa using g1, vs, t, g2, g3, fun i x hx => ?_⟩
    rw [← hcs, List.getElem?_set] at hx
    split at hx
    · rename_i hij
      subst hij
      split at hx
      · injection hx with hx
        subst hx
        obtain ⟨v, hv, hd⟩ := g4 j nilS hj
        refine ⟨v, hv, ?_⟩
        rw [den_v hd]
        exact .ownNil l hκ
      · cases hx
    · exact g4 i x hx

/-! A dozen rows, each under a label of its own, be they there or nil. -/
def pad (rows : List (List Int)) : St := [(bk 400, rowB (rows.getD 0 [])), (bk 401, rowB (rows.getD 1 [])), (bk 402, rowB (rows.getD 2 [])), (bk 403, rowB (rows.getD 3 [])), (bk 404, rowB (rows.getD 4 [])), (bk 405, rowB (rows.getD 5 [])), (bk 406, rowB (rows.getD 6 [])), (bk 407, rowB (rows.getD 7 [])), (bk 408, rowB (rows.getD 8 [])), (bk 409, rowB (rows.getD 9 [])), (bk 410, rowB (rows.getD 10 [])), (bk 411, rowB (rows.getD 11 []))]
abbrev padL : List Nat := [400, 401, 402, 403, 404, 405, 406, 407, 408, 409, 410, 411]
theorem pad_eq (rows : List (List Int)) : pad rows = famTo rows 12 := rfl
theorem pad_get {rows : List (List Int)} {i : Nat} (h : i < 12) : (pad rows).get (bk (inn i)) = some (rowB (rows.getD i [])) := by
  rw [pad_eq]; unfold famTo; rw [mapGet]; simp [h]
theorem pad_only {rows : List (List Int)} {n : Nat} {c : Cont} (h : (pad rows).get n = some c) : ∃ i, i < 12 ∧ n = bk (inn i) ∧ c = rowB (rows.getD i []) := by
  rw [pad_eq] at h
  obtain ⟨i, hi, h1, h2⟩ := mapGet_only _ _ h
  exact ⟨i, by simpa using hi, h1, h2⟩
theorem fam_pad {rows : List (List Int)} (h : rows.length ≤ 12) : (fam rows).le (pad rows) := fun m c e => by
  obtain ⟨i, hi, rfl, rfl⟩ := fam_only e
  exact pad_get (by omega)
/-- What of the dozen is left when one is out. -/
def padBut (rows : List (List Int)) (k : Nat) : St := ((List.range 12).filter fun i => !decide (i = k)).map fun i => (bk (inn i), rowB (rows.getD i []))
theorem padBut_get {rows : List (List Int)} {k i : Nat} : (padBut rows k).get (bk (inn i)) = if i < 12 ∧ i ≠ k then some (rowB (rows.getD i [])) else none := by
  unfold padBut; rw [mapGet]; simp
theorem padBut_self {rows : List (List Int)} {k : Nat} : (padBut rows k).get (bk (inn k)) = none := by rw [padBut_get]; simp
theorem padBut_small {rows : List (List Int)} {k n : Nat} (h : n < 800) : (padBut rows k).get n = none := mapGet_small _ h _
theorem padBut_only {rows : List (List Int)} {k n : Nat} {c : Cont} (h : (padBut rows k).get n = some c) : ∃ i, i < 12 ∧ i ≠ k ∧ n = bk (inn i) ∧ c = rowB (rows.getD i []) := by
  obtain ⟨i, hi, h1, h2⟩ := mapGet_only _ _ h
  simp at hi
  exact ⟨i, hi.1, hi.2, h1, h2⟩
theorem padBut_le {rows : List (List Int)} {k : Nat} : (padBut rows k).le (pad rows) := fun m c e => by
  obtain ⟨i, hi, hk, rfl, rfl⟩ := padBut_only e
  exact pad_get hi
theorem nm_padBut {rows : List (List Int)} {k l : Nat} {ns : List Nat} : NM (padBut rows k) l ns := fun n c e _ => by
  obtain ⟨i, hi, _, rfl, rfl⟩ := padBut_only e
  intro h; cases h
theorem padBut_skip {rows : List (List Int)} {k n : Nat} {c : Cont} (h : (padBut rows k).le S) (hn : Nat.blt n 800 = true) : (padBut rows k).le ((n, c) :: S) := fun m d e => by
  rw [get_cons, if_neg (fun e2 => by rw [← e2, padBut_small (Nat.le_of_ble_eq_true hn)] at e; cases e)]
  exact h m d e
theorem pad_back {rows : List (List Int)} {r : List Int} {len : Nat} (h : (padBut rows rows.length).le S) (hl : r.length = len) (hr : rows.length < 12) : (pad (rows ++ [r])).le ((bk (inn rows.length), .blk (.app 1 len [.ints .i64 r])) :: S) := fun m d e => by
  obtain ⟨i, hi, rfl, rfl⟩ := pad_only e
  rw [get_cons]
  by_cases hik : rows.length = i
  · subst hik
    rw [if_pos rfl]
    have : (rows ++ [r]).getD rows.length [] = r := by simp [List.getD_eq_getElem?_getD]
    rw [this, rowB, hl]
  · rw [if_neg (fun e => hik (inn_inj.1 e))]
    have : (rows ++ [r]).getD i [] = rows.getD i [] := by
      simp only [List.getD_eq_getElem?_getD, List.getElem?_append]
      split
      · rfl
      · rename_i h1
        rw [List.getElem?_eq_none (by omega : rows.length ≤ i), List.getElem?_eq_none (by simp; omega)]
    rw [this]
    exact h _ _ (by rw [padBut_get, if_pos ⟨hi, Ne.symm hik⟩])
theorem matC_push (rows : List (List Int)) (r : List Int) : matC (rows ++ [r]) = matC rows ++ [.own (inn rows.length) r.length] := by
  unfold matC
  rw [List.length_append, List.length_singleton, List.range_succ, List.map_append]
  congr 1
  · refine List.map_congr_left fun i hi => ?_
    have hi : i < rows.length := by simpa using hi
    have : (rows ++ [r]).getD i [] = rows.getD i [] := by simp [List.getD_eq_getElem?_getD, List.getElem?_append_left hi]
    rw [this]
  · simp [List.getD_eq_getElem?_getD]
theorem matC_within {rows : List (List Int)} {ls : List Nat} (hr : rows.length ≤ 12) (hl : ∀ l ∈ padL, l ∈ ls) : ∀ x ∈ matC rows, x.within ls = true := by
  intro x hx
  simp only [matC, List.mem_map, List.mem_range] at hx
  obtain ⟨i, hi, rfl⟩ := hx
  refine memB_iff.2 (hl _ ?_)
  unfold inn
  have : i < 12 := by omega
  simp only [padL, List.mem_cons]; omega

/-! Rows of a family from a place on. -/
def matS (rows : List (List Int)) (o n : Nat) : List AV := (List.range n).map fun i => .own (inn (o + i)) (rows.getD (o + i) []).length
theorem matS_length (rows : List (List Int)) (o n : Nat) : (matS rows o n).length = n := by simp [matS]
theorem matS_get {rows : List (List Int)} {o n i : Nat} (h : i < n) : (matS rows o n)[i]? = some (.own (inn (o + i)) (rows.getD (o + i) []).length) := by
  unfold matS; rw [List.getElem?_map, List.getElem?_range h]; rfl
theorem matS_at {rows : List (List Int)} {o n j : Nat} {x : AV} (h : (matS rows o n)[j]? = some x) : j < n ∧ x = .own (inn (o + j)) (rows.getD (o + j) []).length := by
  have hj : j < n := by have := (List.getElem?_eq_some_iff.1 h).1; rwa [matS_length] at this
  rw [matS_get hj] at h; injection h with h; exact ⟨hj, h.symm⟩
theorem matS_mem {rows : List (List Int)} {o n : Nat} {x : AV} (h : x ∈ matS rows o n) : ∃ j, j < n ∧ x = .own (inn (o + j)) (rows.getD (o + j) []).length := by
  obtain ⟨j, hj⟩ := List.getElem?_of_mem h
  obtain ⟨h1, h2⟩ := matS_at hj
  exact ⟨j, h1, h2⟩
theorem matS_ment {rows : List (List Int)} {o n l : Nat} (hl : l < 400) : ∀ x ∈ matS rows o n, ¬ Ment x l := by
  intro x hx hm
  obtain ⟨j, _, rfl⟩ := matS_mem hx
  generalize he : inn (o + j) = k at hm
  cases hm with
  | own => unfold inn at he; omega
/-- The rows of another place. -/
theorem matS_off {rows : List (List Int)} {o n f : Nat} (h : f < o ∨ o + n ≤ f) : ∀ x ∈ matS rows o n, ¬ Ment x (inn f) := by
  intro x hx hm
  obtain ⟨j, _, rfl⟩ := matS_mem hx
  generalize he : inn (o + j) = k at hm
  generalize he2 : inn f = k2 at hm
  cases hm with
  | own => unfold inn at he he2; omega
theorem setS_ment {rows : List (List Int)} {o n f l k len : Nat} (hl : l < 400) (hne : k ≠ l) : ∀ x ∈ (matS rows o n).set f (.own k len), ¬ Ment x l := by
  intro x hx hm
  rcases List.mem_or_eq_of_mem_set hx with hx | rfl
  · exact matS_ment hl x hx hm
  · cases hm with
    | own => exact hne rfl
theorem matS_but {rows : List (List Int)} {o n f l len : Nat} (hl : l < 400) : ∀ x ∈ (matS rows o n).set f (.own l len), ¬ Ment x (inn (o + f)) := by
  intro x hx hm
  obtain ⟨j, hj⟩ := List.getElem?_of_mem hx
  rw [List.getElem?_set] at hj
  split at hj
  · split at hj
    · injection hj with hj; subst hj
      generalize he : inn (o + f) = k at hm
      cases hm with
      | own => unfold inn at he; omega
    · cases hj
  · rename_i hne
    obtain ⟨_, rfl⟩ := matS_at hj
    generalize he : inn (o + j) = k at hm
    generalize he2 : inn (o + f) = k2 at hm
    cases hm with
    | own => unfold inn at he he2; omega
theorem setS_out {rows : List (List Int)} {o n f l k m p : Nat} (hk : k < 400) : ∀ x ∈ ((matS rows o n).set f (.own l m)).set f (.own k p), ¬ Ment x (inn (o + f)) := by
  rw [List.set_set]
  exact matS_but hk
theorem matS_put {rows : List (List Int)} {o n f : Nat} {r : List Int} (hf : o + f < rows.length) : (matS rows o n).set f (.own (inn (o + f)) r.length) = matS (rows.set (o + f) r) o n := by
  apply List.ext_getElem?
  intro j
  rw [List.getElem?_set, matS_length]
  by_cases hj : j < n
  · rw [matS_get hj, matS_get hj]
    by_cases hfj : f = j
    · subst hfj; rw [if_pos rfl, if_pos hj]
      simp [List.getD_eq_getElem?_getD, List.getElem?_set, hf]
    · rw [if_neg hfj]
      simp [List.getD_eq_getElem?_getD, List.getElem?_set, show ¬ o + f = o + j by omega, hfj]
  · have h1 : ∀ q, (matS q o n)[j]? = none := fun q => List.getElem?_eq_none (by rw [matS_length]; omega)
    rw [h1, h1]
    split
    · rw [if_neg (by omega)]
    · rfl
theorem matS_other {rows : List (List Int)} {o n f : Nat} {r : List Int} (h : f < o ∨ o + n ≤ f) : matS (rows.set f r) o n = matS rows o n := by
  unfold matS
  refine List.map_congr_left fun i hi => ?_
  have hi : i < n := by simpa using hi
  simp [List.getD_eq_getElem?_getD, List.getElem?_set, show ¬ f = o + i by omega]
/-- Nil rows in two slices as one family. -/
theorem Ghost.famNil2 {l1 l2 n : Nat} (hl1 : l1 < 400) (hl2 : l2 < 400) (hb1 : S.get (bk l1) = some (.blk (.appv (List.replicate n nilS)))) (hb2 : S.get (bk l2) = some (.blk (.appv (List.replicate n nilS)))) (hno : ∀ i, S.get (bk (inn i)) = none) (hm : ∀ i, NM S (inn i) []) (hk : ∀ k ∈ E.keep, k < 400) {T : St}
    (hT : ∀ m c, T.get m = some c → (m = bk l1 ∧ c = .blk (.appv (matS (noRows (n + n)) 0 n))) ∨ (m = bk l2 ∧ c = .blk (.appv (matS (noRows (n + n)) n n))) ∨ (∃ i, m = bk (inn i) ∧ c = rowB []) ∨ (m ≠ bk l1 ∧ m ≠ bk l2 ∧ S.get m = some c)) : Ghost E S T := by
  rintro ac w ⟨V, M, hA, hW⟩
  obtain ⟨V', hV'⟩ : ∃ V' : Vals, V' = ⟨V.ρ, fun k => if 400 ≤ k then none else V.κ k⟩ := ⟨_, rfl⟩
  have hρ : ∀ k, V'.ρ k = V.ρ k := fun k => by rw [hV']
  have hκ1 : ∀ k, k < 400 → V'.κ k = V.κ k := fun k h => by rw [hV']; show (if 400 ≤ k then none else V.κ k) = V.κ k; exact if_neg (by omega)
  have hκ2 : ∀ i, V'.κ (inn i) = none := fun i => by
    have h4 : 400 ≤ inn i := by unfold inn; omega
    rw [hV']; show (if 400 ≤ inn i then none else V.κ (inn i)) = none; exact if_pos h4
  have hinn : ∀ k, 400 ≤ k → ∃ i, k = inn i := fun k h => ⟨k - 400, by unfold inn; omega⟩
  have hag : ∀ {m c}, S.get m = some c → ∀ k, CMent c k → V'.ρ k = V.ρ k ∧ V'.κ k = V.κ k := fun {m c} e k hc => by
    by_cases h4 : 400 ≤ k
    · obtain ⟨i, rfl⟩ := hinn k h4
      exact absurd hc (hm i m c e (by simp))
    · exact ⟨hρ k, hκ1 k (by omega)⟩
  have hH : ∀ k, HasB V' T k → HasB V S k ∧ V'.ρ k = V.ρ k := by
    rintro k ⟨⟨B, e⟩, h⟩
    have hk4 : k < 400 := by
      by_cases h4 : 400 ≤ k
      · obtain ⟨i, rfl⟩ := hinn k h4; exact absurd (hκ2 i) h
      · omega
    refine ⟨⟨?_, by rw [← hκ1 k hk4]; exact h⟩, hρ k⟩
    rcases hT _ _ e with ⟨h1, _⟩ | ⟨h1, _⟩ | ⟨i, h1, _⟩ | ⟨_, _, h2⟩
    · exact ⟨_, bk_inj h1 ▸ hb1⟩
    · exact ⟨_, bk_inj h1 ▸ hb2⟩
    · have := bk_inj h1; unfold inn at this; omega
    · exact ⟨_, h2⟩
  have hnil : ∀ {l o : Nat}, l < 400 → S.get (bk l) = some (.blk (.appv (List.replicate n nilS))) → BlkAt V' M w l (.appv (matS (noRows (n + n)) o n)) := fun {l o} hl hb => by
    have hblk : appvAt V M w l (List.replicate n nilS) := hW.blks l _ hb
    show appvAt V' M w l (matS (noRows (n + n)) o n)
    unfold appvAt at *
    rw [hρ, hκ1 l hl]
    cases hk' : V.κ l with
    | none =>
      rw [hk'] at hblk
      simp only at hblk ⊢
      have : n = 0 := by simpa using hblk
      subst this; rfl
    | some cap =>
      rw [hk'] at hblk
      obtain ⟨g1, vs, t, g2, g3, g4⟩ := hblk
      refine ⟨by rw [matS_length]; simpa using g1, vs, t, g2, g3, fun j x hx => ?_⟩
      obtain ⟨hj, rfl⟩ := matS_at hx
      rw [noRows_at]
      obtain ⟨v, hv, hd⟩ := g4 j nilS (by simp [List.getElem?_replicate, hj])
      refine ⟨v, hv, ?_⟩
      rw [den_v hd]
      exact .ownNil _ (hκ2 _)
  refine ⟨V', M, ⟨fun t x e => ?_, hA.size, hA.defers⟩, ?_⟩
  · rcases hT _ _ e with ⟨h1, _⟩ | ⟨h1, _⟩ | ⟨i, h1, _⟩ | ⟨_, _, h2⟩
    · exact absurd h1 (sl_ne_bk t _)
    · exact absurd h1 (sl_ne_bk t _)
    · exact absurd h1 (sl_ne_bk t _)
    · obtain ⟨v, hv, hd⟩ := hA.slots t x h2
      exact ⟨v, hv, hd.mono (Mem.le_refl _) fun k hk' => hag h2 k hk'⟩
  · exact
    { blks := fun k B e => by
        rcases hT _ _ e with ⟨h1, h2⟩ | ⟨h1, h2⟩ | ⟨i, h1, h2⟩ | ⟨_, _, h2⟩
        · have := bk_inj h1; subst this
          injection h2 with h2; subst h2
          exact hnil hl1 hb1
        · have := bk_inj h1; subst this
          injection h2 with h2; subst h2
          exact hnil hl2 hb2
        · have := bk_inj h1; subst this
          injection h2 with h2; subst h2
          refine ⟨rfl, fun c hc => ?_, ?_⟩
          · simp only [List.mem_singleton] at hc; subst hc; rfl
          · rw [hκ2]; rfl
        · have hk4 : k < 400 := by
            by_cases h4 : 400 ≤ k
            · obtain ⟨i, rfl⟩ := hinn k h4; rw [hno i] at h2; cases h2
            · omega
          exact (hW.blks k B h2).turn (Mem.le_refl _) ⟨hρ k, hκ1 k hk4⟩ (fun k' hk' => hag h2 k' hk') fun _ => rfl
      inj := fun a b ha hb' hne => by
        obtain ⟨x1, x2⟩ := hH a ha
        obtain ⟨y1, y2⟩ := hH b hb'
        rw [x2, y2]; exact hW.inj a b x1 y1 hne
      sep := fun a ha => by obtain ⟨x1, x2⟩ := hH a ha; rw [x2]; exact hW.sep a x1
      fresh := fun a ha => by obtain ⟨x1, x2⟩ := hH a ha; rw [x2]; exact hW.fresh a x1
      bd := fun a ha => by obtain ⟨x1, x2⟩ := hH a ha; rw [x2]; exact hW.bd a x1
      mem := hW.mem, mle := hW.mle, mnew := hW.mnew
      keep := fun k h => by rw [hρ, hκ1 k (hk k h)]; exact hW.keep k h
      frame := hW.frame }

/-! The rows of a place become immutable. -/
def frzS (rows : List (List Int)) (o n k : Nat) : List AV := (List.range n).map fun i => if i < k then .d (rowD (rows.getD (o + i) [])) else .own (inn (o + i)) (rows.getD (o + i) []).length
theorem frzS_zero (rows : List (List Int)) (o n : Nat) : frzS rows o n 0 = matS rows o n := by simp [frzS, matS]
theorem frzS_get {rows : List (List Int)} {o n k i : Nat} (hi : i < n) : (frzS rows o n k)[i]? = some (if i < k then .d (rowD (rows.getD (o + i) [])) else .own (inn (o + i)) (rows.getD (o + i) []).length) := by
  unfold frzS; rw [List.getElem?_map, List.getElem?_range hi]; rfl
theorem frzS_length (rows : List (List Int)) (o n k : Nat) : (frzS rows o n k).length = n := by simp [frzS]
theorem frzS_step {rows : List (List Int)} {o n k : Nat} : (frzS rows o n k).set k (.d (rowD (rows.getD (o + k) []))) = frzS rows o n (k + 1) := by
  apply List.ext_getElem?
  intro j
  rw [List.getElem?_set, frzS_length]
  by_cases hj : j < n
  · rw [frzS_get hj, frzS_get hj]
    by_cases hij : k = j
    · subst hij; rw [if_pos rfl, if_pos hj, if_pos (by omega)]
    · rw [if_neg hij]
      by_cases h2 : j < k
      · rw [if_pos h2, if_pos (by omega)]
      · rw [if_neg h2, if_neg (by omega)]
  · have h1 : ∀ q, (frzS rows o n q)[j]? = none := fun q => List.getElem?_eq_none (by rw [frzS_length]; omega)
    rw [h1, h1]
    split
    · rename_i e; rw [if_neg (by omega)]
    · rfl
def famSeg (rows : List (List Int)) (o n k : Nat) : St := ((List.range (o + n)).filter fun i => decide (o + k ≤ i)).map fun i => (bk (inn i), rowB (rows.getD i []))
theorem seg_get {rows : List (List Int)} {o n k i : Nat} : (famSeg rows o n k).get (bk (inn i)) = if i < o + n ∧ o + k ≤ i then some (rowB (rows.getD i [])) else none := by
  unfold famSeg; rw [mapGet]; simp
theorem seg_only {rows : List (List Int)} {o n k m : Nat} {c : Cont} (h : (famSeg rows o n k).get m = some c) : ∃ i, i < o + n ∧ o + k ≤ i ∧ m = bk (inn i) ∧ c = rowB (rows.getD i []) := by
  obtain ⟨i, hi, h1, h2⟩ := mapGet_only _ _ h
  simp at hi
  exact ⟨i, hi.1, hi.2, h1, h2⟩
theorem Ghost.famFreezeS {l o n : Nat} {rows : List (List Int)} {S' : St} (hl : l < 400) (hr : o + n ≤ rows.length) (hb : S.get (bk l) = some (.blk (.appv (matS rows o n)))) (hf : (fam rows).le S) (hle : S'.le S) (hn : ∀ i, o ≤ i → i < o + n → S'.get (bk (inn i)) = none) :
    Ghost E S ((bk l, .blk (.appv ((List.range n).map fun i => .d (rowD (rows.getD (o + i) []))))) :: S') := by
  have hli : ∀ i, inn i ≠ l := fun i => by unfold inn; omega
  have hbi : ∀ i, bk (inn i) ≠ bk l := fun i e => hli i (bk_inj e)
  have key : ∀ k, k ≤ n → Ghost E S (((bk l, .blk (.appv (frzS rows o n k))) :: S') ++ famSeg rows o n k) := by
    intro k
    induction k with
    | zero =>
      intro _
      refine Ghost.weaken fun m c e => ?_
      rw [get_app, get_cons] at e
      by_cases hm : bk l = m
      · rw [if_pos hm] at e; simp only at e; rw [← hm, hb, ← frzS_zero]; exact e
      · rw [if_neg hm] at e
        cases hs : S'.get m with
        | some d => rw [hs] at e; simp only at e; rw [← e]; exact hle _ _ hs
        | none =>
          rw [hs] at e; simp only at e
          obtain ⟨i, h1, _, rfl, rfl⟩ := seg_only e
          exact hf _ _ (fam_get (by omega))
    | succ k ih =>
      intro hk
      refine (ih (by omega)).trans ?_
      have hg : St.get (((bk l, .blk (.appv (frzS rows o n k))) :: S') ++ famSeg rows o n k) (bk (inn (o + k))) = some (rowB (rows.getD (o + k) [])) := by
        rw [get_app, get_cons, if_neg (Ne.symm (hbi _)), hn (o + k) (by omega) (by omega)]
        show (famSeg rows o n k).get _ = _
        rw [seg_get, if_pos ⟨by omega, Nat.le_refl _⟩]
      refine (Ghost.freezeV (lb := l) (j := k) (g := fun i => [.v (.int .i64 ((rows.getD (o + k) []).getD i 0))]) (by rw [get_app, get_cons, if_pos rfl]) (by rw [frzS_get (by omega), if_neg (by omega)]) hg (hli _) (fun i hi => rfl)).trans (Ghost.weaken fun m c e => ?_)
      rw [frzS_step, get_cons]
      rw [get_app, get_cons] at e
      by_cases hm : bk l = m
      · rw [if_pos hm] at e ⊢; exact e
      · rw [if_neg hm] at e ⊢
        rw [St.get_del, get_app, get_cons, if_neg hm]
        cases hs : S'.get m with
        | some d =>
          rw [hs] at e; simp only at e
          rw [if_neg (fun e2 => by rw [← e2, hn (o + k) (by omega) (by omega)] at hs; cases hs)]
          exact e
        | none =>
          rw [hs] at e; simp only at e
          obtain ⟨i, h1, h2, rfl, rfl⟩ := seg_only e
          rw [if_neg (fun e2 => by have := inn_inj.1 e2; omega)]
          show (famSeg rows o n k).get _ = _
          rw [seg_get, if_pos ⟨h1, by omega⟩]
  refine (key n (Nat.le_refl _)).trans (Ghost.weaken fun m c e => ?_)
  have hfr : frzS rows o n n = (List.range n).map fun i => .d (rowD (rows.getD (o + i) [])) := by
    unfold frzS
    refine List.map_congr_left fun i hi => ?_
    rw [if_pos (by simpa using hi)]
  rw [hfr, get_app, e]

/-- A ghost behind the last statement. -/
theorem WPA.endG {c : Code} {Q : Exit → St → Prop} (h : WPA P ro E c S fun e T => ∃ U, Ghost E T U ∧ Q e U) : WPA P ro E c S Q := fun a w hr => wpIn_mono (h a w hr) fun e a w hp => by
  rcases hp with ⟨S', ⟨U, g, q⟩, ⟨ms, h0, h1, h2, h3⟩⟩ | hp
  · exact .inl ⟨U, q, ⟨ms, h0, h1, h2, g _ w h3⟩⟩
  · exact .inr hp
theorem swps_small {a b : Nat} (ha : a < 400) (hb : b < 400) : ∀ {cs : List AV}, (∀ x ∈ cs, (∃ i m, x = .own (inn i) m) ∨ ∃ d, x = .d d) → AV.swps a b cs = cs
  | [], _ => rfl
  | x :: r, h => by
    have ih := swps_small ha hb (cs := r) fun y hy => h y (by simp [hy])
    have hx : AV.swp a b x = x := by
      rcases h x (by simp) with ⟨i, m, rfl⟩ | ⟨d, rfl⟩
      · simp only [AV.swp]
        have : trn a b (inn i) = inn i := by
          unfold trn inn
          simp only [nbeq]
          rw [decide_eq_false (by omega), decide_eq_false (by omega)]
          rfl
        rw [this]
      · rfl
    simp only [AV.swps, hx, ih]
theorem matC_own {rows : List (List Int)} : ∀ x ∈ matC rows, (∃ i m, x = .own (inn i) m) ∨ ∃ d, x = .d d := by
  intro x hx
  simp only [matC, List.mem_map, List.mem_range] at hx
  obtain ⟨j, hj, rfl⟩ := hx
  exact .inl ⟨j, _, rfl⟩

end Go.Proofs.Ytglokdfdogmmhaa

/- An element taken out of a slice that the function owns: append(s[:i], s[i+1:]...). No program in sight. -/
namespace Go.Proofs.Ytglokdfdogmmhaa
open Go
set_option linter.unusedVariables false
set_option linter.unusedSimpArgs false
variable {P : Program} {S : St} {ro : Ro} {ops : Array Oper} {E : Env}

section
variable {x : Operand} {t e ty : TypeId} {pos : String} {af : Array Edge}
/-- s[:h], still as a slice that the function owns. -/
theorem Pure.cutPre0 {c : Bool} {dt : Option Tmp} {gd : Option (Nat × Bool)} {n len h lb : Nat} {lo hi : Option Operand} (ht : sliceOf P t e n = true) (e1 : Ev S c x (.own lb len)) (hlo : Bound S c lo 0 0) (hhi : Bound S c hi len h) (hle : c = true → h ≤ len) :
    Pure P S [] ⟨dt, .slice t x lo hi none, ty, pos, af, gd⟩ c (.own lb h) := by
  refine ⟨(fun _ h => nomatch h), fun E V M a w hg hc => ?_⟩
  have h2 := hle hc
  obtain ⟨ox, olo, ohi⟩ := slice_ops (t := t) (x := x) (lo := lo) (hi := hi) (o := ⟨dt, .slice t x lo hi none, ty, pos, af, gd⟩) rfl
  have hx := hg.opd x ox _ e1
  have rlo := bound_run hg hc olo hlo
  have rhi := bound_run hg hc ohi hhi
  obtain ⟨hu, hsz⟩ := sliceOf_of ht
  generalize hex : a.eval x = v at hx
  generalize a.eval = ρ at *
  cases hx with
  | ownNil _ hk =>
    have h0 : h = 0 := by omega
    subst h0
    refine ⟨.slice (if 0 = 0 then none else (none : Option Addr).map (·.add (0 * n))) (0 - 0) (0 - 0), ?_, ?_⟩
    · simp only [execOp, hex, Option.map_none, Sem.run_bind, run_slice (cap := 0) hu hsz rlo rhi (Nat.zero_le _) (by omega), Result.andThen]; rfl
    · exact .ownNil _ hk
  | own _ _ cap hk hcap =>
    refine ⟨.slice (if cap = 0 then some ⟨V.ρ lb, 0, none⟩ else (some (⟨V.ρ lb, 0, none⟩ : Addr)).map (·.add (0 * n))) (h - 0) (cap - 0), ?_, ?_⟩
    · simp only [execOp, hex, Option.map_none, Sem.run_bind, run_slice (cap := cap) hu hsz rlo rhi (Nat.zero_le _) (by omega), Result.andThen]; rfl
    · have e0 : (if cap = 0 then some (⟨V.ρ lb, 0, none⟩ : Addr) else (some (⟨V.ρ lb, 0, none⟩ : Addr)).map (·.add (0 * n))) = some ⟨V.ρ lb, 0, none⟩ := by
        split
        · rfl
        · rw [Option.map_some, addr_add]; simp
      rw [e0]
      exact .own lb h cap hk (by omega)
theorem Pure.cutPre {c : Bool} {dt : Option Tmp} {gd : Option (Nat × Bool)} {n len h lb : Nat} {hi : Option Operand} (ht : sliceOf P t e n = true) (e1 : Ev S c x (.own lb len)) (hhi : Bound S c hi len h) (hle : c = true → h ≤ len) :
    Pure P S [] ⟨dt, .slice t x none hi none, ty, pos, af, gd⟩ c (.own lb h) := Pure.cutPre0 ht e1 (.no 0) hhi hle
end
theorem upd_two (S : St) (u v : Nat × Option Cont) : S.upd [u, v] = (S.put1 u).put1 v := rfl

def Col.dropC (i : Nat) : Col → Col
  | .ints k xs => .ints k (xs.drop i)
  | .bools xs => .bools (xs.drop i)
  | .ds xs => .ds (xs.drop i)
theorem dropC_at (c : Col) (i k : Nat) : (c.dropC i).at k = c.at (i + k) := by
  cases c <;> simp [Col.dropC, Col.at, List.getD_eq_getElem?_getD]
theorem dropC_len (c : Col) (i : Nat) : (c.dropC i).len = c.len - i := by
  cases c <;> simp [Col.dropC, Col.len]
theorem dropC_one {c : Col} (i : Nat) (h : c.oneB = true) : (c.dropC i).oneB = true := by
  cases c with
  | ints k xs => exact h
  | bools xs => exact h
  | ds xs =>
    simp only [Col.dropC, Col.oneB, List.all_eq_true] at *
    exact fun x hx => h x (List.mem_of_mem_drop hx)

end Go.Proofs.Ytglokdfdogmmhaa

/- An element taken out of a slice that the function owns, and the place behind it cleared: slices.Delete. No program in sight. -/
namespace Go.Proofs.Ytglokdfdogmmhaa
open Go
set_option linter.unusedVariables false
set_option linter.unusedSimpArgs false
variable {P : Program} {S : St} {ro : Ro} {ops : Array Oper} {E : Env}

section
variable {x : Operand} {t e ty : TypeId} {pos : String} {af : Array Edge}
/-- x[lo:hi] of a slice that the function owns, up to what its block is known to hold. -/
theorem Pure.cutPast {c : Bool} {dt : Option Tmp} {gd : Option (Nat × Bool)} {n len N l h lb : Nat} {cols : List Col} {lo hi : Option Operand} (ht : sliceOf P t e n = true) (e1 : Ev S c x (.own lb len)) (hb : S.get (bk lb) = some (.blk (.app n N cols))) (hlo : Bound S c lo 0 l) (hhi : Bound S c hi len h) (hle : c = true → l ≤ h ∧ h ≤ N) :
    Pure P S [lb] ⟨dt, .slice t x lo hi none, ty, pos, af, gd⟩ c (.sl lb n l (h - l)) := by
  refine ⟨(fun _ h => nomatch h), fun E V M a w hg hc => ?_⟩
  obtain ⟨h1, h2⟩ := hle hc
  obtain ⟨ox, olo, ohi⟩ := slice_ops (t := t) (x := x) (lo := lo) (hi := hi) (o := ⟨dt, .slice t x lo hi none, ty, pos, af, gd⟩) rfl
  have hx := hg.opd x ox _ e1
  have rlo := bound_run hg hc olo hlo
  have rhi := bound_run hg hc ohi hhi
  obtain ⟨hu, hsz⟩ := sliceOf_of ht
  obtain ⟨b1, b2, b3⟩ := hg.blk lb (by simp) _ hb
  generalize hex : a.eval x = v at hx
  generalize a.eval = ρ at *
  cases hx with
  | ownNil _ hk =>
    rw [hk] at b3
    simp only at b3
    refine ⟨.slice (if 0 = l then none else (none : Option Addr).map (·.add (l * n))) (h - l) (0 - l), ?_, ?_⟩
    · simp only [execOp, hex, Option.map_none, Sem.run_bind, run_slice (cap := 0) hu hsz rlo rhi h1 (by omega), Result.andThen]; rfl
    · have : h - l = 0 := by omega
      rw [this]
      exact .slEmp _ _ _ _ _
  | own _ _ cap hk hcap =>
    rw [hk] at b3
    have hcap2 := b3.1
    refine ⟨.slice (if cap = l then some ⟨V.ρ lb, 0, none⟩ else (some (⟨V.ρ lb, 0, none⟩ : Addr)).map (·.add (l * n))) (h - l) (cap - l), ?_, ?_⟩
    · simp only [execOp, hex, Option.map_none, Sem.run_bind, run_slice (cap := cap) hu hsz rlo rhi h1 (by omega), Result.andThen]; rfl
    · by_cases h0 : h - l = 0
      · rw [h0]; exact .slEmp _ _ _ _ _
      · rw [if_neg (by omega), Option.map_some, addr_add, Nat.zero_add]
        exact .sl lb n l (h - l) (cap - l) (by omega) (by rw [hk]; congr 1; omega)
end
def Col.shift (i : Nat) : Col → Col
  | .ints k xs => .ints k (xs.eraseIdx i ++ xs.drop (xs.length - 1))
  | .bools xs => .bools (xs.eraseIdx i ++ xs.drop (xs.length - 1))
  | .ds xs => .ds (xs.eraseIdx i ++ xs.drop (xs.length - 1))
theorem shiftL_len {α : Type} (xs : List α) {i : Nat} (h : i < xs.length) : (xs.eraseIdx i ++ xs.drop (xs.length - 1)).length = xs.length := by
  rw [List.length_append, List.length_eraseIdx, if_pos h, List.length_drop]; omega
theorem shiftL_at {α : Type} (xs : List α) (d : α) {i k : Nat} (h : i < xs.length) (hk : k < xs.length) : (xs.eraseIdx i ++ xs.drop (xs.length - 1)).getD k d = if k < i then xs.getD k d else if k + 1 < xs.length then xs.getD (k + 1) d else xs.getD k d := by
  have hl : (xs.eraseIdx i).length = xs.length - 1 := by rw [List.length_eraseIdx, if_pos h]
  simp only [List.getD_eq_getElem?_getD, List.getElem?_append, hl, List.getElem?_eraseIdx, List.getElem?_drop]
  by_cases h1 : k < i
  · rw [if_pos h1, if_pos (by omega), if_pos h1]
  · rw [if_neg h1]
    by_cases h2 : k + 1 < xs.length
    · rw [if_pos h2, if_pos (by omega), if_neg h1]
    · rw [if_neg h2, if_neg (by omega)]
      rw [show xs.length - 1 + (k - (xs.length - 1)) = k by omega, if_neg h1]
theorem shift_len (c : Col) {i : Nat} (h : i < c.len) : (c.shift i).len = c.len := by
  cases c <;> exact shiftL_len _ h
theorem shift_at (c : Col) {i k : Nat} (h : i < c.len) (hk : k < c.len) : (c.shift i).at k = if k < i then c.at k else if k + 1 < c.len then c.at (k + 1) else c.at k := by
  cases c with
  | ints _ xs => simp only [Col.shift, Col.at, shiftL_at xs _ h hk, Col.len]; by_cases h1 : k < i <;> by_cases h2 : k + 1 < xs.length <;> simp only [h1, h2, if_true, if_false]
  | bools xs => simp only [Col.shift, Col.at, shiftL_at xs _ h hk, Col.len]; by_cases h1 : k < i <;> by_cases h2 : k + 1 < xs.length <;> simp only [h1, h2, if_true, if_false]
  | ds xs => simp only [Col.shift, Col.at, shiftL_at xs _ h hk, Col.len]; by_cases h1 : k < i <;> by_cases h2 : k + 1 < xs.length <;> simp only [h1, h2, if_true, if_false]

theorem axOp_cutKeep {S0 : St} {o : Oper} {x y : Operand} {t tx : TypeId} {d l n bytes len i : Nat} {cs : List Col} (ho : o.op = .call ⟨.builtin .append, #[x, y], #[t, tx]⟩) (hdst : o.dst = some d) (hgd : o.guard = none)
    (ht : appOK P t n bytes = true) (hk : kindOK P tx = true) (hn : 0 < n) (ex : Ev S0 true x (.own l i)) (ey : Ev S0 true y (.sl l n (i + 1) (len - (i + 1)))) (hb : S0.get (bk l) = some (.blk (.app n len cs))) (hi : i < len) (h1 : ∀ c ∈ cs, c.oneB = true) :
    AxOp P ro ops o ⟨opNames o ++ [bk l], S0, [(bk l, some (.blk (.app n len (cs.map (Col.shift i))))), (sl d, some (.av (.own l (len - 1))))], []⟩ := by
  intro E S a w hs hf hok ⟨V, M, ha, hw⟩ Q hpn
  have hd : d < E.nt := hok.2 d (by simp [Ax.names])
  have hg : Given E S0 o [l] true V M a w := given_of (rn := opNames o ++ [bk l]) hs (fun n hn => by simp [hn]) (fun m hm => by simp only [List.mem_singleton] at hm; subst hm; simp) rfl ha hw
  have hyo : y ∈ o.op.operands := by rw [ho]; simp [Op.operands, Call.operands]
  have hxo : x ∈ o.op.operands := by rw [ho]; simp [Op.operands, Call.operands]
  obtain ⟨b1, b2, b3⟩ := hg.blk l (by simp) _ hb
  have hsr : SrcOf S0 y [l] n (len - (i + 1)) (cs.map (Col.dropC (i + 1))) := .sl (tot := len) (cs := cs) ey hb rfl (by omega) (by simpa using b1) (fun c hc => by
      obtain ⟨c0, h0, rfl⟩ := List.mem_map.1 hc
      rw [dropC_len, b2 c0 h0]) (fun j c' hj => by
      simp only [List.getElem?_map, Option.map_eq_some_iff] at hj
      obtain ⟨c0, h0, rfl⟩ := hj
      exact ⟨c0, h0, fun k hk => dropC_at _ _ _⟩)
  obtain ⟨news, hsrc, hrows⟩ := src_of (P := P) (tx := tx) hsr hg (fun l hl => hl) hyo hk (fun c hc => by
    obtain ⟨c0, h0, rfl⟩ := List.mem_map.1 hc
    exact dropC_one _ (h1 c0 h0))
  unfold stepIn
  rw [if_pos (by simp [Region.wanted, hgd])]
  have hnd : ∀ d, o.op ≠ .defer d := fun d h => by rw [ho] at h; cases h
  have hrun : ∀ {v : Value} {w' : World} {ux : Value}, a.eval x = ux → (Builtin.append_ #[t, tx] o.type #[ux, a.eval y]).run P w = .ok v w' → (execOp a.eval o).run P w = .ok (.value v) w' := by
    intro v w' ux hux hr
    generalize a.eval = ρ at *
    simp only [execOp, ho, resolve, Sem.run_bind, Sem.run_pure, Result.andThen, invoke, builtin]
    simp [hux, hr]
  unfold appOK at ht
  split at ht
  · rename_i e hu
    split at ht
    · rename_i inf hinf
      simp only [Bool.and_eq_true] at ht
      obtain ⟨⟨ht1, _⟩, _⟩ := ht
      have e1 := Nat.eq_of_beq_eq_true ht1
      rw [← e1] at hsrc
      have hxd := hg.opd x hxo _ ex
      have hSl : S.get (bk l) = some (.blk (.app n len cs)) := by rw [hs (bk l) (by simp)]; exact hb
      generalize hex : a.eval x = v at hxd
      cases hxd with
      | ownNil _ hkl => rw [hkl] at b3; simp only at b3; omega
      | own _ _ cap hkl hcl =>
        rw [hkl] at b3
        obtain ⟨hcap, vs, tt, hh, hsz, hr⟩ := b3
        have hnl : news.length = (len - (i + 1)) * n := hrows.2.2.1
        have hroom : i + (len - (i + 1)) ≤ cap := by omega
        have hfit : i * inf.size + news.length ≤ vs.size := by
          rw [e1, hnl, hsz, ← Nat.add_mul]; exact Nat.mul_le_mul_right n hroom
        refine wpIn_of_value hnd (hrun hex (run_append_room' hu hinf hsrc hroom hh hfit)) ?_
        rw [hdst]
        have hbl : HasB V S l := ⟨⟨_, hSl⟩, by rw [hkl]; simp⟩
        have hln : i + (len - (i + 1)) = len - 1 := by omega
        rw [hln]
        have hst := WStep.setRow w (V.ρ l) (spliceL vs.toList (i * inf.size) news).toArray (hw.bd l hbl)
        have hfit' : i * inf.size + news.length ≤ vs.toList.length := by simpa using hfit
        have hB : BlkAt V M (w.setRow (V.ρ l) (spliceL vs.toList (i * inf.size) news).toArray) l (.app n len (cs.map (Col.shift i))) := by
          refine ⟨by simpa using b1, fun c hc => ?_, ?_⟩
          · obtain ⟨c0, h0, rfl⟩ := List.mem_map.1 hc
            have := b2 c0 h0
            rw [shift_len _ (by omega)]; omega
          · rw [hkl]
            refine ⟨by omega, _, tt, setRow_heap w _ _ _ _ _ hh, ?_, by simpa using b1, fun c hc => ?_, fun k j c hk hj => ?_⟩
            · rw [List.size_toArray, spliceL_length hfit']; simpa using hsz
            · obtain ⟨c0, h0, rfl⟩ := List.mem_map.1 hc
              have := b2 c0 h0
              rw [shift_len _ (by omega)]; omega
            · simp only [List.getElem?_map, Option.map_eq_some_iff] at hj
              obtain ⟨c0, h0, rfl⟩ := hj
              have hjn : j < n := by rw [← b1]; exact (List.getElem?_eq_some_iff.1 h0).1
              have hsp := spliceL_get hfit' (k * n + j)
              rw [shift_at _ (by rw [b2 c0 (List.mem_of_getElem? h0)]; omega) (by rw [b2 c0 (List.mem_of_getElem? h0)]; exact hk), b2 c0 (List.mem_of_getElem? h0)]
              simp only [List.getElem?_toArray, hsp]
              rw [e1]
              by_cases hki : k < i
              · have hlt : k * n + j < i * n := by
                  have : (k + 1) * n ≤ i * n := Nat.mul_le_mul_right n hki
                  rw [Nat.add_mul] at this; omega
                rw [if_pos hki, if_neg (by omega)]
                obtain ⟨u, hu', hdu⟩ := hr.2.2 k j c0 (by omega) h0
                exact ⟨u, by simpa using hu', hdu⟩
              · by_cases hkl2 : k + 1 < len
                case neg =>
                  have hke : k = len - 1 := by omega
                  have hgt : i * n + (len - (i + 1)) * n ≤ k * n := by rw [← Nat.add_mul]; exact Nat.mul_le_mul_right n (by omega)
                  rw [if_neg hki, if_neg hkl2, if_neg (by rw [hnl]; omega)]
                  obtain ⟨u, hu', hdu⟩ := hr.2.2 k j c0 (by omega) h0
                  exact ⟨u, by simpa using hu', hdu⟩
                have hge : i * n ≤ k * n := Nat.mul_le_mul_right n (by omega)
                have hlt : (k - i) * n + n ≤ (len - (i + 1)) * n := by
                  have : (k - i + 1) * n ≤ (len - (i + 1)) * n := Nat.mul_le_mul_right n (by omega)
                  rw [Nat.add_mul] at this; omega
                have hsub : k * n + j - i * n = (k - i) * n + j := by rw [Nat.sub_mul]; omega
                rw [if_neg hki, if_pos hkl2, if_pos ⟨by omega, by rw [hnl]; omega⟩, hsub]
                obtain ⟨u, hu', hdu⟩ := hrows.2.2.2 (k - i) j (c0.dropC (i + 1)) (by omega) (by rw [List.getElem?_map, h0]; rfl)
                refine ⟨u, hu', ?_⟩
                rw [dropC_at, show i + 1 + (k - i) = k + 1 by omega] at hdu
                exact hdu
        refine ⟨V, M, ⟨fun t x e => ?_, by simp [Act.put, ha.size], ha.defers⟩, (repW_write hw hSl (by rw [hkl]; simp) hst hB).blks_only fun m B e => ?_⟩
        · have e : St.get ((S.put1 (bk l, some (.blk (.app n len (cs.map (Col.shift i)))))).put1 (sl d, some (.av (.own l (len - 1))))) (sl t) = some (.av x) := e
          rw [St.get_put1, St.get_put1] at e
          by_cases htd : t = d
          · subst htd
            rw [if_pos rfl] at e
            injection e with e; injection e with e; subst e
            exact ⟨_, by simp [Act.put, ha.size, hd], .own l (len - 1) cap hkl (by omega)⟩
          · rw [if_neg (fun e => htd (sl_inj e).symm), if_neg (Ne.symm (sl_ne_bk t l))] at e
            obtain ⟨u, hu', hdu⟩ := ha.slots t x e
            exact ⟨u, by simp [Act.put, Ne.symm htd, hu'], hdu⟩
        · have e : St.get ((S.put1 (bk l, some (.blk (.app n len (cs.map (Col.shift i)))))).put1 (sl d, some (.av (.own l (len - 1))))) (bk m) = some (.blk B) := e
          rw [St.get_put1, if_neg (sl_ne_bk d m)] at e
          exact e
    · cases ht
  · cases ht
theorem Trace.cutKeep {S0 S' : St} {r : List Oper} {L : List Ax} {x y : Operand} {t tx ty : TypeId} {pos : String} {af : Array Edge} {d l n bytes len i : Nat} {cs : List Col}
    (ht : appOK P t n bytes = true) (hk : kindOK P tx = true) (hn : 0 < n) (ex : Ev S0 true x (.own l i)) (ey : Ev S0 true y (.sl l n (i + 1) (len - (i + 1)))) (hb : S0.get (bk l) = some (.blk (.app n len cs))) (hi : i < len) (h1 : ∀ c ∈ cs, c.oneB = true)
    (h : Trace P ro ops r ((sl d, .av (.own l (len - 1))) :: (bk l, .blk (.app n len (cs.map (Col.shift i)))) :: S0) L S') :
    Trace P ro ops (⟨some d, .call ⟨.builtin .append, #[x, y], #[t, tx]⟩, ty, pos, af, none⟩ :: r) S0 (⟨opNames ⟨some d, .call ⟨.builtin .append, #[x, y], #[t, tx]⟩, ty, pos, af, none⟩ ++ [bk l], S0, [(bk l, some (.blk (.app n len (cs.map (Col.shift i))))), (sl d, some (.av (.own l (len - 1))))], []⟩ :: L) S' :=
  .cons (axOp_cutKeep rfl rfl rfl ht hk hn ex ey hb hi h1) (fun _ _ => rfl) (fun l hl => by cases hl) (fun m => by
    rw [get_cons, get_cons]
    dsimp only
    rw [upd_two, St.get_put1, St.get_put1]) h

/-- x[lo:hi:mx] of a slice that the function owns, of which no use is made. -/
theorem axOp_cut3 {S0 : St} {o : Oper} {x y z u : Operand} {t e : TypeId} {k k' k'' : IntKind} {n len lb d : Nat} {l h m : Int} (ho : o.op = .slice t x (some y) (some z) (some u)) (hdst : o.dst = some d) (hgd : o.guard = none) (ht : sliceOf P t e n = true) (e1 : Ev S0 true x (.own lb len)) (e2 : Ev S0 true y (iv k l)) (e3 : Ev S0 true z (iv k' h)) (e4 : Ev S0 true u (iv k'' m)) (hle : 0 ≤ l ∧ l ≤ h ∧ h ≤ m ∧ m ≤ len) :
    AxOp P ro ops o ⟨opNames o, S0, [(sl d, none)], []⟩ := by
  intro E S a w hs _ hok ⟨V, M, ha, hw⟩ Q hpn
  have hg : Given E S0 o [] true V M a w := given_of (rn := opNames o) hs (fun n hn => by simp [hn]) (fun m hm => by cases hm) rfl ha hw
  obtain ⟨h1, h2, h3, h4⟩ := hle
  have hx := hg.opd x (by rw [ho]; simp [Op.operands]) _ e1
  have hy := hg.val (by rw [ho]; simp [Op.operands]) e2
  have hz := hg.val (by rw [ho]; simp [Op.operands]) e3
  have hv := hg.val (by rw [ho]; simp [Op.operands]) e4
  obtain ⟨hu, hsz⟩ := sliceOf_of ht
  unfold stepIn
  rw [if_pos (by simp [Region.wanted, hgd])]
  generalize hex : a.eval x = v at hx
  have key : ∀ (ad : Option Addr) (cap : Nat), len ≤ cap → ∃ v', (Instr.sliceAt t (.slice ad len cap) (some (.int k l)) (some (.int k' h)) (some (.int k'' m))).run P w = .ok v' w := by
    intro ad cap hcap
    have b1 : m ≤ (cap : Int) := by omega
    have b0 : 0 ≤ m := by omega
    have b2 : h ≤ (m.toNat : Int) := by omega
    have b3 : h ≤ max m 0 := by omega
    have b4 : 0 ≤ h := by omega
    have b5 : l ≤ (h.toNat : Int) := by omega
    have b6 : l ≤ max h 0 := by omega
    refine ⟨.slice (if m.toNat = l.toNat then ad else ad.map (·.add (l.toNat * n))) (h.toNat - l.toNat) (m.toNat - l.toNat), ?_⟩
    simp [Instr.sliceAt, Instr.slice, Instr.sliceBounds, Instr.sliceBound, run_underlying hu, Sem.run_bind, Result.andThen, asIntOf, Sem.run_pure, b0, b1, h1, b2, b3, b4, b5, b6, hsz]
  have hrun : ∃ v', (execOp a.eval o).run P w = .ok (.value v') w := by
    generalize a.eval = ρ at *
    cases hx with
    | ownNil _ hk =>
      obtain ⟨v', hv'⟩ := key none 0 (Nat.le_refl _)
      exact ⟨v', by simp only [execOp, ho, hex, hy, hz, hv, Option.map_some, Sem.run_bind, hv', Result.andThen]; rfl⟩
    | own _ _ cap hk hcap =>
      obtain ⟨v', hv'⟩ := key (some ⟨V.ρ lb, 0, none⟩) cap hcap
      exact ⟨v', by simp only [execOp, ho, hex, hy, hz, hv, Option.map_some, Sem.run_bind, hv', Result.andThen]; rfl⟩
  obtain ⟨v', hv'⟩ := hrun
  refine wpIn_of_value (fun d h => by rw [ho] at h; cases h) hv' ?_
  rw [hdst]
  have hle : St.le (S.upd [(sl d, none)]) S := fun m c e => by
    have e : (St.del (sl d) S).get m = some c := e
    rw [St.get_del] at e
    split at e
    · cases e
    · exact e
  refine ⟨V, M, ⟨fun t x e => ?_, by simp [Act.put, ha.size], ha.defers⟩, hw.weaken hle⟩
  have e : (St.del (sl d) S).get (sl t) = some (.av x) := e
  rw [St.get_del] at e
  split at e
  · cases e
  · rename_i hne
    obtain ⟨u, hu', hdu⟩ := ha.slots t x e
    refine ⟨u, ?_, hdu⟩
    have : d ≠ t := fun h => hne (by rw [h])
    simp [Act.put, this, hu']
theorem Trace.cut3 {S0 S' : St} {r : List Oper} {L : List Ax} {x y z u : Operand} {t e ty : TypeId} {pos : String} {af : Array Edge} {k k' k'' : IntKind} {n len lb d : Nat} {l h m : Int} (ht : sliceOf P t e n = true) (e1 : Ev S0 true x (.own lb len)) (e2 : Ev S0 true y (iv k l)) (e3 : Ev S0 true z (iv k' h)) (e4 : Ev S0 true u (iv k'' m)) (hle : 0 ≤ l ∧ l ≤ h ∧ h ≤ m ∧ m ≤ len)
    (hh : Trace P ro ops r (St.del (sl d) S0) L S') :
    Trace P ro ops (⟨some d, .slice t x (some y) (some z) (some u), ty, pos, af, none⟩ :: r) S0 (⟨opNames ⟨some d, .slice t x (some y) (some z) (some u), ty, pos, af, none⟩, S0, [(sl d, none)], []⟩ :: L) S' :=
  .cons (axOp_cut3 rfl rfl rfl ht e1 e2 e3 e4 hle) (fun _ _ => rfl) (fun l hl => by cases hl) (fun n => rfl) hh

/-- The first rows alone. -/
theorem Ghost.shrink {l n len len' : Nat} {cs cs' : List Col} (hb : S.get (bk l) = some (.blk (.app n len cs))) (hle : len' ≤ len) (hn : cs'.length = n) (hl : ∀ c ∈ cs', c.len = len') (hat : ∀ (j : Nat) (c' : Col), cs'[j]? = some c' → ∃ c, cs[j]? = some c ∧ ∀ i, i < len' → c'.at i = c.at i) :
    Ghost E S ((bk l, .blk (.app n len' cs')) :: S) := by
  refine (Ghost.reblk (B' := .app n len' cs') hb fun V M w h => ?_).trans (Ghost.weaken fun n c e => by rw [← cons_upd]; exact e)
  obtain ⟨h1, h2, h3⟩ := h
  refine ⟨hn, hl, ?_⟩
  cases hk : V.κ l with
  | none => rw [hk] at h3; simp only at h3 ⊢; omega
  | some cap =>
    rw [hk] at h3
    obtain ⟨h4, vs, t, h5, h6, h7⟩ := h3
    refine ⟨by omega, vs, t, h5, h6, hn, hl, fun i j c hi hc => ?_⟩
    obtain ⟨c0, hc0, ha⟩ := hat j c hc
    obtain ⟨v, hv, hd⟩ := h7.2.2 i j c0 (by omega) hc0
    exact ⟨v, hv, by rw [ha i hi]; exact hd⟩

/-- clear of a cut of one element. -/
theorem axOp_clear1 {S0 : St} {o : Oper} {x : Operand} {t el : TypeId} {l len lo : Nat} {z : Value} {cs cs' : List Col} (ho : o.op = .call ⟨.builtin .clear, #[x], #[t]⟩) (hdst : o.dst = none) (hgd : o.guard = none)
    (hu : P.underlying t = some (.slice el)) (hz : ZeroIs P el [z]) (ex : Ev S0 true x (.sl l 1 lo 1)) (hb : S0.get (bk l) = some (.blk (.app 1 len cs))) (hlo : lo < len) (h1 : (AV.d (.v z)).oneB = true) (hset : setCols cs 0 lo [.v z] = some cs') :
    AxOp P ro ops o ⟨opNames o ++ [bk l], S0, [(bk l, some (.blk (.app 1 len cs')))], []⟩ := by
  intro E S a w hs _ hok ⟨V, M, ha, hw⟩ Q hpn
  have hg : Given E S0 o [l] true V M a w := given_of (rn := opNames o ++ [bk l]) hs (fun n hn => by simp [hn]) (fun m hm => by simp at hm; subst hm; simp) rfl ha hw
  have hx := hg.opd x (by rw [ho]; simp [Op.operands, Call.operands]) _ ex
  obtain ⟨g1, g2, g3⟩ := hg.blk l (by simp) _ hb
  unfold stepIn
  rw [if_pos (by simp [Region.wanted, hgd])]
  obtain ⟨zv, hzl, hzr⟩ := zeroIs_run hz
  have hzc : Builtin.zeroCells zv.cells 1 = #[z] := by
    have : zv.cells = #[z] := by apply Array.ext'; simpa using hzl
    rw [this]; apply Array.ext'; simp [Builtin.zeroCells, List.range, List.range.loop]
  have hone : z.oneCell' = true := one_of (V := ⟨fun _ => 0, fun _ => none⟩) (M := M) (.d _ _ (.v z)) h1
  generalize hex : a.eval x = v at hx
  cases hx with
  | sl _ _ _ _ cap hcap hk =>
    rw [hk] at g3
    obtain ⟨hcp, vs, tt, hh, hsz, hr⟩ := g3
    have hSl : S.get (bk l) = some (.blk (.app 1 len cs)) := by rw [hs (bk l) (by simp)]; exact hb
    have hlt : V.ρ l < w.heap.size := hw.bd l ⟨⟨_, hSl⟩, by rw [hk]; simp⟩
    obtain ⟨hb1, hb2⟩ := rows_splice (us := [z]) hr (by rw [hsz]; exact Nat.mul_le_mul_right 1 hcp) hset hlo (by simp) rfl (fun k x y hx hy => by
      cases k with
      | zero =>
        simp only [List.getElem?_cons_zero, Option.some.injEq] at hx hy
        subst hx; subst hy; exact .v z
      | succ k => simp at hx)
    rw [Nat.add_zero] at hb1 hb2
    have hst := run_storeCells_at (P := P) (V.ρ l) (lo * 1) tt [z] 0 vs w hh (by simpa using hb1) (fun u hu => by simp only [List.mem_singleton] at hu; subst hu; exact hone)
    simp only [Nat.add_zero, Nat.mul_one] at hst hex hb1 hb2
    have hrun : (execOp a.eval o).run P w = .ok (.value (.tuple #[])) (w.setRow (V.ρ l) (spliceL vs.toList lo [z]).toArray) := by
      generalize a.eval = ρ at *
      simp only [execOp, ho, resolve, Sem.run_bind, Sem.run_pure, Result.andThen, invoke, builtin]
      simp [hex, Builtin.clear_, run_underlying hu, hzr, hzc, hst, spliceL, Result.andThen]
    refine wpIn_of_value (fun d h => by rw [ho] at h; cases h) hrun ?_
    rw [hdst]
    refine ⟨V, M, repA_blk ha l _, repW_write hw hSl (by rw [hk]; simp) (WStep.setRow w _ _ hlt) ⟨hb2.1, hb2.2.1, ?_⟩⟩
    rw [hk]
    exact ⟨hcp, _, tt, setRow_heap w _ _ _ _ _ hh, by rw [List.size_toArray, spliceL_length (by simpa using hb1)]; simpa using hsz, hb2⟩
theorem Trace.clear1 {S0 S' : St} {r : List Oper} {L : List Ax} {x : Operand} {t el ty : TypeId} {pos : String} {af : Array Edge} {l len lo : Nat} {z : Value} {cs cs' : List Col}
    (hu : P.underlying t = some (.slice el)) (hz : ZeroIs P el [z]) (ex : Ev S0 true x (.sl l 1 lo 1)) (hb : S0.get (bk l) = some (.blk (.app 1 len cs))) (hlo : lo < len) (h1 : (AV.d (.v z)).oneB = true) (hset : setCols cs 0 lo [.v z] = some cs')
    (h : Trace P ro ops r ((bk l, .blk (.app 1 len cs')) :: S0) L S') :
    Trace P ro ops (⟨none, .call ⟨.builtin .clear, #[x], #[t]⟩, ty, pos, af, none⟩ :: r) S0 (⟨opNames ⟨none, .call ⟨.builtin .clear, #[x], #[t]⟩, ty, pos, af, none⟩ ++ [bk l], S0, [(bk l, some (.blk (.app 1 len cs')))], []⟩ :: L) S' :=
  Trace.store (axOp_clear1 rfl rfl rfl hu hz ex hb hlo h1 hset) h

end Go.Proofs.Ytglokdfdogmmhaa

/- order.Parts: the searches. -/
namespace Go.Proofs.Ytglokdfdogmmhaa
open Go
set_option linter.unusedVariables false
set_option linter.unusedSimpArgs false
set_option maxRecDepth 10000
set_option maxHeartbeats 1000000

abbrev nextD (rows : List (List Int)) : D := .rows 1 rows.length fun i => [rowD (rows.getD i [])]
theorem ownL {l m k : Nat} (h : m = k) : some (Cont.blk (.cells [.own l m])) = some (Cont.blk (.cells [.own l k])) := by rw [h]
theorem app_n {m k : Nat} {xs ys : List Int} (h : m = k) (e : xs = ys) : some (Cont.blk (.app 1 m [.ints .i64 xs])) = some (Cont.blk (.app 1 k [.ints .i64 ys])) := by rw [h, e]
abbrev visA : List AV := [.loc 9 0, .loc 5 0, .loc 11 0, .loc 10 0]
abbrev CsV (n : Nat) (rows : List (List Int)) (s : DS) : St := [(bk 9, .blk (.cells [.own 53 n])), (bk 53, .blk (.app 1 n [.bools s.1])), (bk 10, .blk (.cells [.own 90 s.2.length])), (bk 90, .blk (.app 1 s.2.length [.ints .i64 s.2])), (bk 5, .blk (.cells [.d (nextD rows)])), (bk 11, .blk (.cells [.fn 26 visA]))]
/-- soundpost/order.Parts$1 -/
theorem visit_new {n : Nat} {rows : List (List Int)} (hrl : rows.length = n) (hr : ∀ v, ∀ t ∈ rows.getD v [], 0 ≤ t ∧ t.toNat < n) (hrr : ∀ v, (rows.getD v []).length ≤ 1048576) (hn4 : n ≤ 1048576) {k : Nat} (ih : ∀ (s : DS) (v : Nat), s.1.length = n → v < n → unseen s.1 ≤ k → seen s.1 v = false → s.2.length + unseen s.1 ≤ 1048576 → FnSpec Try.prog 26 [iv .i64 v, .loc 9 0, .loc 5 0, .loc 11 0, .loc 10 0] (CsV n rows s) (.tup []) (CsV n rows (dfsP rows k s v)) [9, 53, 10, 5, 11]) {s : DS} {v : Nat} (hl : s.1.length = n) (hv : v < n) (hk1 : unseen s.1 ≤ k + 1) (hs : seen s.1 v = false) (hc : s.2.length + unseen s.1 ≤ 1048576) : FnSpec Try.prog 26 [iv .i64 v, .loc 9 0, .loc 5 0, .loc 11 0, .loc 10 0] (CsV n rows s) (.tup []) (CsV n rows (dfsP rows (k + 1) s v)) [9, 53, 10, 5, 11] := by
  have hu := unseen_set s.1 v (by omega) hs
  have hrv := hrr v
  refine fnSpec_of (rs := []) Try.func26 rfl rfl (Nat.le_of_ble_eq_true rfl) (odd_of rfl) fun E hk hn => ?_
  apply WPA.seq
  apply WPA.region
  · first | apply Trace.pu [_] (.loadLoc1D ty45 (.plain rfl) rfl rfl) | apply Trace.pu [_] (.loadLoc1 ty45 (.plain rfl) rfl rfl) | apply Trace.pu [] (.loadRp1 ty45 (.plain rfl) rfl) | apply Trace.pu [_] (.loadCol1 ty45 (.plain rfl) rfl rfl rfl (fun _ => by omega))
    apply Trace.pu [] (.move (.plain rfl))
    first | apply Trace.pu [] (.indexRows el45 (.plain rfl) (.plain rfl) (fun _ => ⟨by omega, by omega⟩)) | apply Trace.pu [] (.indexOwn el45 (.plain rfl) (.plain rfl) (fun _ => ⟨by omega, by omega⟩)) | apply Trace.pu [] (.indexSl el45 (.plain rfl) (.plain rfl) (fun _ => ⟨by omega, by omega⟩))
    first | apply Trace.storeD ty4 (.plain rfl) (.plain rfl) rfl rfl rfl (by simp [AV.oneB, single]) (Nat.le_of_ble_eq_true rfl) rfl | apply Trace.storeDA ty4 (.plain rfl) (.plain rfl) rfl rfl rfl (by simp [AV.oneB, single]) (Nat.le_of_ble_eq_true rfl) rfl | apply Trace.storeLoc ty4 (.plain rfl) (.plain rfl) rfl rfl rfl (by simp [AV.oneB, single]) (Nat.le_of_ble_eq_true rfl) rfl | apply Trace.storeRow ty4 (.plain rfl) (.plain rfl) rfl rfl rfl rfl (by decide) (by simp [AV.oneB, single]) rfl (by omega)
    exact .nil _
  · exact keepOK_of hk hn rfl
  apply WPA.seq
  apply WPA.seq
  apply WPA.region
  · first | apply Trace.pu [_] (.loadLoc1D ty28 (.plain rfl) rfl rfl) | apply Trace.pu [_] (.loadLoc1 ty28 (.plain rfl) rfl rfl) | apply Trace.pu [] (.loadRp1 ty28 (.plain rfl) rfl) | apply Trace.pu [_] (.loadCol1 ty28 (.plain rfl) rfl rfl rfl (fun _ => by omega))
    apply Trace.pu [] (.move (.plain rfl))
    first | apply Trace.pu [] (.indexRows el28 (.plain rfl) (.plain rfl) (fun _ => ⟨by omega, by omega⟩)) | apply Trace.pu [] (.indexOwn el28 (.plain rfl) (.plain rfl) (fun _ => ⟨by omega, by omega⟩)) | apply Trace.pu [] (.indexSl el28 (.plain rfl) (.plain rfl) (fun _ => ⟨by omega, by omega⟩))
    first | apply Trace.pu [_] (.loadLoc1D ty22 (.plain rfl) rfl rfl) | apply Trace.pu [_] (.loadLoc1 ty22 (.plain rfl) rfl rfl) | apply Trace.pu [] (.loadRp1 ty22 (.plain rfl) rfl) | apply Trace.pu [_] (.loadCol1 ty22 (.plain rfl) rfl rfl rfl (fun _ => by omega))
    apply Trace.pu [] (.len rfl Try.underlying22 (.plain rfl) rfl)
    apply Trace.pu [] (.move (.plain rfl))
    exact .nil _
  · exact keepOK_of hk hn rfl
  apply WPA.block
  refine WPA.loop (σ := Nat) (fun i => [(sl 0, .av (iv .i64 (v))), (sl 1, .av (.loc 9 0)), (sl 2, .av (.loc 5 0)), (sl 3, .av (.loc 11 0)), (sl 4, .av (.loc 10 0)), (sl 14, .av (.d (rowD (rows.getD v [])))), (sl 15, .av (iv .i64 ((rows.getD v []).length))), (sl 16, .av (iv .i64 (i))), (bk 9, .blk (.cells [.own 53 n])), (bk 53, .blk (.app 1 n [.bools (dfsPTo rows k ((s.1.set v true, s.2) : DS) (rows.getD v []) i).1])), (bk 10, .blk (.cells [.own 90 (dfsPTo rows k ((s.1.set v true, s.2) : DS) (rows.getD v []) i).2.length])), (bk 90, .blk (.app 1 (dfsPTo rows k ((s.1.set v true, s.2) : DS) (rows.getD v []) i).2.length [.ints .i64 (dfsPTo rows k ((s.1.set v true, s.2) : DS) (rows.getD v []) i).2])), (bk 5, .blk (.cells [.d (nextD rows)])), (bk 11, .blk (.cells [.fn 26 visA]))]) (fun i => i ≤ (rows.getD v []).length) (fun i => (rows.getD v []).length - i) 0
    (St.le_cons rfl (St.le_cons rfl (St.le_cons rfl (St.le_cons rfl (St.le_cons rfl (St.le_cons rfl (St.le_cons rfl (St.le_cons rfl (St.le_cons rfl (St.le_cons rfl (St.le_cons rfl (St.le_cons rfl (St.le_cons rfl (St.le_cons rfl (St.le_nil _))))))))))))))) (Nat.zero_le _) fun i hi => ?_
  apply WPA.seq
  apply WPA.region
  · apply Trace.pu [] (.cmp (.plain rfl) (.plain rfl) rfl)
    exact .nil _
  · exact keepOK_of hk hn rfl
  apply WPA.seq
  refine WPA.cond rfl (fun hc1 => ?_) (fun hc1 => ?_)
  · have hlt : i < (rows.getD v []).length := by simpa using hc1
    obtain ⟨m1, m2, m3⟩ := dfsPTo_more hr (k := k) (v := v) (s := ((s.1.set v true, s.2) : DS)) (by simpa using hl) (by show unseen (s.1.set v true) ≤ k; omega) i hi
    have hsu := dfsPTo_succ rows k ((s.1.set v true, s.2) : DS) hlt
    have hb : 0 ≤ (rows.getD v []).getD i 0 ∧ ((rows.getD v []).getD i 0).toNat < n := hr v _ (by rw [getD_lt _ _ hlt]; exact List.getElem_mem _)
    have m3 : (dfsPTo rows k ((s.1.set v true, s.2) : DS) (rows.getD v []) i).2.length + unseen (dfsPTo rows k ((s.1.set v true, s.2) : DS) (rows.getD v []) i).1 = s.2.length + unseen (s.1.set v true) := m3
    generalize dfsPTo rows k ((s.1.set v true, s.2) : DS) (rows.getD v []) i = a at m1 m2 m3 hsu ⊢
    obtain ⟨t, ht⟩ : ∃ t : Nat, ((rows.getD v []).getD i 0).toNat = t := ⟨_, rfl⟩
    have ht2 : (rows.getD v []).getD i 0 = (t : Int) := by omega
    rw [ht] at hb hsu
    apply WPA.skip
    apply WPA.seq
    apply WPA.block
    apply WPA.seq
    apply WPA.region
    · first | apply Trace.pu [] (.indexRows el22 (.plain rfl) (.plain rfl) (fun _ => ⟨by omega, by omega⟩)) | apply Trace.pu [] (.indexOwn el22 (.plain rfl) (.plain rfl) (fun _ => ⟨by omega, by omega⟩)) | apply Trace.pu [] (.indexSl el22 (.plain rfl) (.plain rfl) (fun _ => ⟨by omega, by omega⟩))
      apply Trace.pu [] ((Pure.loadRp1 ty3 (.plain rfl) rfl).to (y := iv .i64 (t : Nat)) (congrArg (iv .i64) ht2))
      apply Trace.pu [] (.assign (.plain rfl))
      exact .nil _
    · exact keepOK_of hk hn rfl
    apply WPA.seq
    apply WPA.region
    · first | apply Trace.pu [_] (.loadLoc1D ty45 (.plain rfl) rfl rfl) | apply Trace.pu [_] (.loadLoc1 ty45 (.plain rfl) rfl rfl) | apply Trace.pu [] (.loadRp1 ty45 (.plain rfl) rfl) | apply Trace.pu [_] (.loadCol1 ty45 (.plain rfl) rfl rfl rfl (fun _ => by omega))
      apply Trace.pu [] (.move (.plain rfl))
      first | apply Trace.pu [] (.indexRows el45 (.plain rfl) (.plain rfl) (fun _ => ⟨by omega, by omega⟩)) | apply Trace.pu [] (.indexOwn el45 (.plain rfl) (.plain rfl) (fun _ => ⟨by omega, by omega⟩)) | apply Trace.pu [] (.indexSl el45 (.plain rfl) (.plain rfl) (fun _ => ⟨by omega, by omega⟩))
      first | apply Trace.pu [_] (.loadLoc1D ty4 (.plain rfl) rfl rfl) | apply Trace.pu [_] (.loadLoc1 ty4 (.plain rfl) rfl rfl) | apply Trace.pu [] (.loadRp1 ty4 (.plain rfl) rfl) | apply Trace.pu [_] (.loadCol1 ty4 (.plain rfl) rfl rfl rfl (fun _ => by omega))
      apply Trace.pu [] (.not (.plain rfl))
      exact .nil _
    · exact keepOK_of hk hn rfl
    refine WPA.cond rfl (fun hc2 => ?_) (fun hc2 => ?_)
    · have hst : seen a.1 t = false := by simpa [seen] using hc2
      have hrec := ih a t m1 hb.2 m2 hst (by omega)
      rw [if_neg (by rw [hst]; decide)] at hsu
      obtain ⟨d, hd⟩ : ∃ d, dfsP rows k a t = d := ⟨_, rfl⟩
      rw [hd] at hrec hsu
      apply WPA.region
      · first | apply Trace.pu [_] (.loadLoc1D ty50 (.plain rfl) rfl rfl) | apply Trace.pu [_] (.loadLoc1 ty50 (.plain rfl) rfl rfl) | apply Trace.pu [] (.loadRp1 ty50 (.plain rfl) rfl) | apply Trace.pu [_] (.loadCol1 ty50 (.plain rfl) rfl rfl rfl (fun _ => by omega))
        apply Trace.pu [] (.move (.plain rfl))
        apply Trace.cb [90] [bk 9, bk 53, bk 10, bk 90, bk 5, bk 11] (callArgs (.plain rfl) (.cons (.plain rfl) .nil)) hrec en26 (.cons rfl (.cons rfl (.cons rfl (.cons rfl (.cons rfl (.cons rfl (.nil))))))) rfl rfl
        exact .nil _
      · exact keepOK_of hk hn rfl
      apply WPA.region
      · apply Trace.pu [] (.arith (.plain rfl) (.plain rfl) rfl (fun _ => bd64 (by omega)))
        apply Trace.pu [] (.move (.plain rfl))
        exact .nil _
      · exact keepOK_of hk hn rfl
      refine ⟨i + 1, by omega, by omega, ?_⟩
      rw [hsu]
      exact (St.le_cons rfl (St.le_cons rfl (St.le_cons rfl (St.le_cons rfl (St.le_cons rfl (St.le_cons rfl (St.le_cons rfl (St.le_cons (slI (by omega)) (St.le_cons rfl (St.le_cons rfl (St.le_cons rfl (St.le_cons rfl (St.le_cons rfl (St.le_cons rfl (St.le_nil _)))))))))))))))
    · have hst : seen a.1 t = true := by simpa [seen] using hc2
      rw [if_pos hst] at hsu
      apply WPA.skip
      apply WPA.region
      · apply Trace.pu [] (.arith (.plain rfl) (.plain rfl) rfl (fun _ => bd64 (by omega)))
        apply Trace.pu [] (.move (.plain rfl))
        exact .nil _
      · exact keepOK_of hk hn rfl
      refine ⟨i + 1, by omega, by omega, ?_⟩
      rw [hsu]
      exact (St.le_cons rfl (St.le_cons rfl (St.le_cons rfl (St.le_cons rfl (St.le_cons rfl (St.le_cons rfl (St.le_cons rfl (St.le_cons (slI (by omega)) (St.le_cons rfl (St.le_cons rfl (St.le_cons rfl (St.le_cons rfl (St.le_cons rfl (St.le_cons rfl (St.le_nil _)))))))))))))))
  · have hie : i = (rows.getD v []).length := by
      have : ¬ ((i : Int) < (rows.getD v []).length) := by simpa using hc1
      omega
    subst hie
    obtain ⟨m1, m2, m3⟩ := dfsPTo_more hr (k := k) (v := v) (s := ((s.1.set v true, s.2) : DS)) (by simpa using hl) (by show unseen (s.1.set v true) ≤ k; omega) _ (Nat.le_refl _)
    rw [dfsP_new]
    have m3 : (dfsPTo rows k ((s.1.set v true, s.2) : DS) (rows.getD v []) (rows.getD v []).length).2.length + unseen (dfsPTo rows k ((s.1.set v true, s.2) : DS) (rows.getD v []) (rows.getD v []).length).1 = s.2.length + unseen (s.1.set v true) := m3
    generalize dfsPTo rows k ((s.1.set v true, s.2) : DS) (rows.getD v []) (rows.getD v []).length = a at m1 m2 m3 ⊢
    apply WPA.exit
    refine WPA.ghost (Ghost.swap 90 18 (by rw [hk]; decide) (by rw [hk]; decide) rfl) ?_
    apply WPA.region
    · first | apply Trace.pu [_] (.loadLoc1D ty22 (.plain rfl) rfl rfl) | apply Trace.pu [_] (.loadLoc1 ty22 (.plain rfl) rfl rfl) | apply Trace.pu [] (.loadRp1 ty22 (.plain rfl) rfl) | apply Trace.pu [_] (.loadCol1 ty22 (.plain rfl) rfl rfl rfl (fun _ => by omega))
      apply Trace.pu [] (.move (.plain rfl))
      apply Trace.buildSlice 31 [] so22 zo3 rfl (by decide) (by decide) (.cons (.plain rfl) rfl rfl (Nat.le_of_ble_eq_true rfl) (.nil _ _)) rfl rfl rfl
      apply Trace.append 90 [bk 18, bk 31, sl 29, sl 31] ap22 kd22 (by decide) (.own (.plain rfl) rfl) (.own (.plain rfl) rfl) (Col.ones rfl) (labs_ok rfl) (by omega) (by omega) rfl rfl
      first | apply Trace.storeD ty22 (.plain rfl) (.plain rfl) rfl rfl rfl (by simp [AV.oneB, single]) (Nat.le_of_ble_eq_true rfl) rfl | apply Trace.storeDA ty22 (.plain rfl) (.plain rfl) rfl rfl rfl (by simp [AV.oneB, single]) (Nat.le_of_ble_eq_true rfl) rfl | apply Trace.storeLoc ty22 (.plain rfl) (.plain rfl) rfl rfl rfl (by simp [AV.oneB, single]) (Nat.le_of_ble_eq_true rfl) rfl | apply Trace.storeRow ty22 (.plain rfl) (.plain rfl) rfl rfl rfl rfl (by decide) (by simp [AV.oneB, single]) rfl (by omega)
      exact .nil _
    · exact keepOK_of hk hn rfl
    refine ⟨.inl rfl, ⟨_, (.nil), ?_⟩, blks_of (.cons rfl (.cons rfl (.cons (ownL (by show _ = (a.2 ++ [(v : Int)]).length; simp)) (.cons (app_n (by show _ = (a.2 ++ [(v : Int)]).length; simp) rfl) (.cons rfl (.cons rfl .nil))))))⟩
    rfl

theorem spec26 {n : Nat} {rows : List (List Int)} (hrl : rows.length = n) (hr : ∀ v, ∀ t ∈ rows.getD v [], 0 ≤ t ∧ t.toNat < n) (hrr : ∀ v, (rows.getD v []).length ≤ 1048576) (hn4 : n ≤ 1048576) : ∀ (k : Nat) (s : DS) (v : Nat), s.1.length = n → v < n → unseen s.1 ≤ k → seen s.1 v = false → s.2.length + unseen s.1 ≤ 1048576 → FnSpec Try.prog 26 [iv .i64 v, .loc 9 0, .loc 5 0, .loc 11 0, .loc 10 0] (CsV n rows s) (.tup []) (CsV n rows (dfsP rows k s v)) [9, 53, 10, 5, 11]
  | 0, s, v, hl, hv, hk, hs, hc => by rw [unseen_none s.1 (by omega) v (by omega)] at hs; cases hs
  | k + 1, s, v, hl, hv, hk, hs, hc => visit_new hrl hr hrr hn4 (fun s v a b c d e => spec26 hrl hr hrr hn4 k s v a b c d e) hl hv hk hs hc

end Go.Proofs.Ytglokdfdogmmhaa


/- order.Parts: what leads to a node. -/
namespace Go.Proofs.Ytglokdfdogmmhaa
open Go
set_option linter.unusedVariables false
set_option linter.unusedSimpArgs false
set_option maxRecDepth 10000
set_option maxHeartbeats 1000000

theorem drawB_of {ops : List Oper} {S : St} {L : List Ax} (h1 : (edgesBack ops 0 && pairsB (masks ops []) 0 L) = true) (h2 : ∀ A ∈ L, freshB A S = true) : drawB ops S L = true := by
  unfold drawB
  rw [h1, List.all_eq_true.2 h2]; rfl
theorem freshL_nil {S : St} : ∀ A ∈ ([] : List Ax), freshB A S = true := fun A h => by cases h
theorem freshL_cons {S : St} {A : Ax} {L : List Ax} (h : freshB A S = true) (t : ∀ A ∈ L, freshB A S = true) : ∀ B ∈ A :: L, freshB B S = true := fun B hB => by
  rcases List.mem_cons.1 hB with rfl | hB
  · exact h
  · exact t B hB
theorem nm_nil {l : Nat} {ns : List Nat} : NM ([] : St) l ns := fun n c e => by cases e
/-! The parts so far, and the one that grows. -/
abbrev pushC (all : List (List Int)) (l m : Nat) : List AV := matC all ++ [.own l m]
theorem pushC_get (all : List (List Int)) (l m : Nat) : (pushC all l m)[all.length]? = some (.own l m) := by
  rw [List.getElem?_append_right (by rw [matC_length]; exact Nat.le_refl _), matC_length]; simp
theorem pushC_set (all : List (List Int)) (l m : Nat) (x : AV) : (pushC all l m).set all.length x = matC all ++ [x] := by
  rw [List.set_append_right _ _ (by rw [matC_length]; exact Nat.le_refl _), matC_length]; simp
theorem pushC_len (all : List (List Int)) (l m : Nat) : (pushC all l m).length = all.length + 1 := by simp [matC_length]
theorem pushC_ment {all : List (List Int)} {l m k : Nat} (hk : k < 400) (hne : l ≠ k) : ∀ x ∈ pushC all l m, ¬ Ment x k := by
  intro x hx hm
  rcases List.mem_append.1 hx with hx | hx
  · exact matC_ment hk x hx hm
  · rw [List.mem_singleton] at hx; subst hx
    cases hm with
    | own => exact hne rfl
theorem pushC_within {all : List (List Int)} {l m : Nat} {ls : List Nat} (hr : all.length ≤ 12) (hl : ∀ l ∈ padL, l ∈ ls) (h : memB l ls = true) : ∀ x ∈ pushC all l m, x.within ls = true := by
  intro x hx
  rcases List.mem_append.1 hx with hx | hx
  · exact matC_within hr hl x hx
  · rw [List.mem_singleton] at hx; subst hx; exact h
abbrev colA : List AV := [.loc 14 0, .loc 13 0, .loc 6 0, .loc 15 0]
abbrev CsC (n : Nat) (rows all : List (List Int)) (s : CS) : St := [(bk 14, .blk (.cells [.own 12 (all.length + 1)])), (bk 12, .blk (.appv (pushC all 95 s.2.length))), (bk 95, .blk (.app 1 s.2.length [.ints .i64 s.2])), (bk 13, .blk (.cells [.own 54 n])), (bk 54, .blk (.app 1 n [.ints .i64 s.1])), (bk 6, .blk (.cells [.d (nextD rows)])), (bk 15, .blk (.cells [.fn 27 colA]))]
abbrev keepC : List Nat := [14, 12, 13, 54, 6, 15, 400, 401, 402, 403, 404, 405, 406, 407, 408, 409, 410, 411]
/-- soundpost/order.Parts$2 -/
theorem collect_new {n : Nat} {rows all : List (List Int)} (hrl : rows.length = n) (hr : ∀ v, ∀ t ∈ rows.getD v [], 0 ≤ t ∧ t.toNat < n) (hrr : ∀ v, (rows.getD v []).length ≤ 1048576) (hn4 : n ≤ 1048576) (hal : all.length < 12) {c : Int} (hca : c = ((all.length + 1 : Nat) : Int)) {k : Nat} (ih : ∀ (s : CS) (v : Nat), s.1.length = n → v < n → free0 s.1 ≤ k → s.1.getD v 0 = 0 → s.2.length + free0 s.1 ≤ 1048576 → FnSpec Try.prog 27 [iv .i64 v, .loc 14 0, .loc 13 0, .loc 6 0, .loc 15 0] (CsC n rows all s) (.tup []) (CsC n rows all (colP rows c k s v)) keepC) {s : CS} {v : Nat} (hl : s.1.length = n) (hv : v < n) (hk1 : free0 s.1 ≤ k + 1) (hs : s.1.getD v 0 = 0) (hc : s.2.length + free0 s.1 ≤ 1048576) : FnSpec Try.prog 27 [iv .i64 v, .loc 14 0, .loc 13 0, .loc 6 0, .loc 15 0] (CsC n rows all s) (.tup []) (CsC n rows all (colP rows c (k + 1) s v)) keepC := by
  have hc0 : c ≠ 0 := by omega
  have hu := free0_set s.1 v hc0 (by omega) hs
  have hrv := hrr v
  refine fnSpec_of (rs := []) Try.func27 rfl rfl (Nat.le_of_ble_eq_true rfl) (odd_of rfl) fun E hk hn => ?_
  apply WPA.seq
  apply WPA.region
  · first | apply Trace.pu [_] (.loadLoc1D ty22 (.plain rfl) rfl rfl) | apply Trace.pu [_] (.loadLoc1 ty22 (.plain rfl) rfl rfl) | apply Trace.pu [] (.loadRp1 ty22 (.plain rfl) rfl) | apply Trace.pu [_] (.loadCol1 ty22 (.plain rfl) rfl rfl rfl (fun _ => by omega))
    apply Trace.pu [] (.move (.plain rfl))
    first | apply Trace.pu [_] (.loadLoc1D ty28 (.plain rfl) rfl rfl) | apply Trace.pu [_] (.loadLoc1 ty28 (.plain rfl) rfl rfl) | apply Trace.pu [] (.loadRp1 ty28 (.plain rfl) rfl) | apply Trace.pu [_] (.loadCol1 ty28 (.plain rfl) rfl rfl rfl (fun _ => by omega))
    apply Trace.pu [] (.len rfl Try.underlying28 (.plain rfl) rfl)
    first | apply Trace.pu [] (.indexRows el22 (.plain rfl) (.plain rfl) (fun _ => ⟨by omega, by omega⟩)) | apply Trace.pu [] (.indexOwn el22 (.plain rfl) (.plain rfl) (fun _ => ⟨by omega, by omega⟩)) | apply Trace.pu [] (.indexSl el22 (.plain rfl) (.plain rfl) (fun _ => ⟨by omega, by omega⟩))
    first | apply Trace.storeD ty3 (.plain rfl) (.plain rfl) rfl rfl rfl (by simp [AV.oneB, single]) (Nat.le_of_ble_eq_true rfl) rfl | apply Trace.storeDA ty3 (.plain rfl) (.plain rfl) rfl rfl rfl (by simp [AV.oneB, single]) (Nat.le_of_ble_eq_true rfl) rfl | apply Trace.storeLoc ty3 (.plain rfl) (.plain rfl) rfl rfl rfl (by simp [AV.oneB, single]) (Nat.le_of_ble_eq_true rfl) rfl | apply Trace.storeRow ty3 (.plain rfl) (.plain rfl) rfl rfl rfl rfl (by decide) (by simp [AV.oneB, single]) rfl (by omega)
    exact .nil _
  · exact keepOK_of hk hn rfl
  apply WPA.seq
  refine WPA.weaken (T := [(sl 0, .av (iv .i64 (v))), (sl 1, .av (.loc 14 0)), (sl 2, .av (.loc 13 0)), (sl 3, .av (.loc 6 0)), (sl 4, .av (.loc 15 0)), (bk 14, .blk (.cells [.own 12 (all.length + 1)])), (bk 13, .blk (.cells [.own 54 n])), (bk 54, .blk (.app 1 n [.ints .i64 (s.1.set v c)])), (bk 6, .blk (.cells [.d (nextD rows)])), (bk 15, .blk (.cells [.fn 27 colA])), (bk 12, .blk (.appv (pushC all 95 s.2.length))), (bk 95, .blk (.app 1 s.2.length [.ints .i64 s.2]))]) ?_ (St.le_cons rfl (St.le_cons rfl (St.le_cons rfl (St.le_cons rfl (St.le_cons rfl (St.le_cons rfl (St.le_cons rfl (St.le_cons (by rw [hca]; rfl) (St.le_cons rfl (St.le_cons rfl (St.le_cons rfl (St.le_cons rfl (St.le_nil _)))))))))))))
  apply WPA.draw mixed
  · first | apply Trace.pu [_] (.loadLoc1D ty28 (.plain rfl) rfl rfl) | apply Trace.pu [_] (.loadLoc1 ty28 (.plain rfl) rfl rfl) | apply Trace.pu [] (.loadRp1 ty28 (.plain rfl) rfl) | apply Trace.pu [_] (.loadCol1 ty28 (.plain rfl) rfl rfl rfl (fun _ => by omega))
    first | apply Trace.pu [_] (.loadLoc1D ty28 (.plain rfl) rfl rfl) | apply Trace.pu [_] (.loadLoc1 ty28 (.plain rfl) rfl rfl) | apply Trace.pu [] (.loadRp1 ty28 (.plain rfl) rfl) | apply Trace.pu [_] (.loadCol1 ty28 (.plain rfl) rfl rfl rfl (fun _ => by omega))
    apply Trace.pu [] (.len rfl Try.underlying28 (.plain rfl) rfl)
    apply Trace.pu [] ((Pure.arith (.plain rfl) (.plain rfl) rfl (fun _ => bd64 (by omega))).to (y := iv .i64 (all.length : Nat)) (congrArg (iv .i64) (by show ((all.length + 1 : Nat) : Int) - 1 = _; omega)))
    first | apply Trace.pu [_] (.loadLoc1D ty28 (.plain rfl) rfl rfl) | apply Trace.pu [_] (.loadLoc1 ty28 (.plain rfl) rfl rfl) | apply Trace.pu [] (.loadRp1 ty28 (.plain rfl) rfl) | apply Trace.pu [_] (.loadCol1 ty28 (.plain rfl) rfl rfl rfl (fun _ => by omega))
    first | apply Trace.pu [_] (.loadLoc1D ty28 (.plain rfl) rfl rfl) | apply Trace.pu [_] (.loadLoc1 ty28 (.plain rfl) rfl rfl) | apply Trace.pu [] (.loadRp1 ty28 (.plain rfl) rfl) | apply Trace.pu [_] (.loadCol1 ty28 (.plain rfl) rfl rfl rfl (fun _ => by omega))
    apply Trace.pu [] (.len rfl Try.underlying28 (.plain rfl) rfl)
    apply Trace.pu [] ((Pure.arith (.plain rfl) (.plain rfl) rfl (fun _ => bd64 (by omega))).to (y := iv .i64 (all.length : Nat)) (congrArg (iv .i64) (by show ((all.length + 1 : Nat) : Int) - 1 = _; omega)))
    first | apply Trace.pu [] (.indexRows el28 (.plain rfl) (.plain rfl) (fun _ => ⟨by omega, by omega⟩)) | apply Trace.pu [] (.indexOwn el28 (.plain rfl) (.plain rfl) (fun _ => ⟨by omega, by omega⟩)) | apply Trace.pu [] (.indexSl el28 (.plain rfl) (.plain rfl) (fun _ => ⟨by omega, by omega⟩))
    apply Trace.pu [12] (.loadRowV ty22 (.plain rfl) rfl (fun _ => pushC_get all 95 s.2.length))
    apply Trace.pu [] (.move (.plain rfl))
    apply Trace.buildSlice 24 [] so22 zo3 rfl (by decide) (by decide) (.cons (.plain rfl) rfl rfl (Nat.le_of_ble_eq_true rfl) (.nil _ _)) rfl rfl (freshB_of (fun l hl => by
        simp only [List.mem_singleton] at hl; subst hl
        repeat (first | exact nm_nil | refine nm_appv (pushC_ment (by decide) (by decide)) ?_ | refine nm_cons rfl ?_)))
    apply Trace.append 18 [bk 95, bk 24, sl 22, sl 24] ap22 kd22 (by decide) (.own (.plain rfl) rfl) (.own (.plain rfl) rfl) (Col.ones rfl) (labs_ok rfl) (by omega) (by omega) rfl (freshB_of (fun l hl => by
        simp only [List.mem_singleton] at hl; subst hl
        repeat (first | exact nm_nil | refine nm_appv (pushC_ment (by decide) (by decide)) ?_ | refine nm_cons rfl ?_)))
    first | apply Trace.pu [] (.indexRows el28 (.plain rfl) (.plain rfl) (fun _ => ⟨by omega, by omega⟩)) | apply Trace.pu [] (.indexOwn el28 (.plain rfl) (.plain rfl) (fun _ => ⟨by omega, by omega⟩)) | apply Trace.pu [] (.indexSl el28 (.plain rfl) (.plain rfl) (fun _ => ⟨by omega, by omega⟩))
    apply Trace.storeRowV ty22 (.plain rfl) (.plain rfl) rfl rfl rfl (by rw [pushC_len]; omega) (pushC_set all 95 s.2.length _)
    exact .nil _
  · exact drawB_of rfl (by repeat (first | exact freshL_nil | refine freshL_cons (by first | exact rfl | exact (freshB_of (fun l hl => by
    simp only [List.mem_singleton] at hl; subst hl
    repeat (first | exact nm_nil | refine nm_appv (pushC_ment (by decide) (by decide)) ?_ | refine nm_cons rfl ?_)))) ?_))
  · repeat (first | exact keepOK_nil | refine keepOK_cons (by first | exact axOK_of hk hn rfl | exact axOK_blk) ?_)
  apply WPA.seq
  refine WPA.weaken (T := [(sl 0, .av (iv .i64 (v))), (sl 1, .av (.loc 14 0)), (sl 2, .av (.loc 13 0)), (sl 3, .av (.loc 6 0)), (sl 4, .av (.loc 15 0)), (bk 14, .blk (.cells [.own 12 (all.length + 1)])), (bk 13, .blk (.cells [.own 54 n])), (bk 54, .blk (.app 1 n [.ints .i64 (s.1.set v c)])), (bk 6, .blk (.cells [.d (nextD rows)])), (bk 15, .blk (.cells [.fn 27 colA])), (bk 12, .blk (.appv (pushC all 18 (s.2.length + 1)))), (bk 18, .blk (.app 1 (s.2.length + 1) [.ints .i64 (s.2 ++ [(v : Int)])]))]) ?_ (St.le_cons rfl (St.le_cons rfl (St.le_cons rfl (St.le_cons rfl (St.le_cons rfl (St.le_cons rfl (St.le_cons rfl (St.le_cons rfl (St.le_cons rfl (St.le_cons rfl (St.le_cons rfl (St.le_cons rfl (St.le_nil _)))))))))))))
  refine WPA.ghost (Ghost.alias' (L := 12) (i := all.length) (a := 18) (b := 95) (S' := [(sl 0, .av (iv .i64 (v))), (sl 1, .av (.loc 14 0)), (sl 2, .av (.loc 13 0)), (sl 3, .av (.loc 6 0)), (sl 4, .av (.loc 15 0)), (bk 14, .blk (.cells [.own 12 (all.length + 1)])), (bk 13, .blk (.cells [.own 54 n])), (bk 54, .blk (.app 1 n [.ints .i64 (s.1.set v c)])), (bk 6, .blk (.cells [.d (nextD rows)])), (bk 15, .blk (.cells [.fn 27 colA]))]) rfl (pushC_get all 18 _) rfl (by decide) rfl (by repeat (first | exact nm_nil | refine nm_appv (pushC_ment (by decide) (by decide)) ?_ | refine nm_cons rfl ?_)) (by rw [hk]; decide) (St.le_cons rfl (St.le_cons rfl (St.le_cons rfl (St.le_cons rfl (St.le_cons rfl (St.le_cons rfl (St.le_cons rfl (St.le_cons rfl (St.le_cons rfl (St.le_cons rfl (St.le_nil _))))))))))) rfl) ?_
  refine WPA.weaken (T := [(sl 0, .av (iv .i64 (v))), (sl 1, .av (.loc 14 0)), (sl 2, .av (.loc 13 0)), (sl 3, .av (.loc 6 0)), (sl 4, .av (.loc 15 0)), (bk 14, .blk (.cells [.own 12 (all.length + 1)])), (bk 12, .blk (.appv (pushC all 95 (((s.1.set v c, s.2 ++ [(v : Int)]) : CS)).2.length))), (bk 95, .blk (.app 1 (((s.1.set v c, s.2 ++ [(v : Int)]) : CS)).2.length [.ints .i64 (((s.1.set v c, s.2 ++ [(v : Int)]) : CS)).2])), (bk 13, .blk (.cells [.own 54 n])), (bk 54, .blk (.app 1 n [.ints .i64 (((s.1.set v c, s.2 ++ [(v : Int)]) : CS)).1])), (bk 6, .blk (.cells [.d (nextD rows)])), (bk 15, .blk (.cells [.fn 27 colA]))]) ?_ (St.le_cons rfl (St.le_cons rfl (St.le_cons rfl (St.le_cons rfl (St.le_cons rfl (St.le_cons rfl (St.le_cons (appv_eq (by rw [pushC_set]; simp [pushC])) (St.le_cons (app_n (by simp) rfl) (St.le_cons rfl (St.le_cons rfl (St.le_cons rfl (St.le_cons rfl (St.le_nil _)))))))))))))
  apply WPA.region
  · first | apply Trace.pu [_] (.loadLoc1D ty28 (.plain rfl) rfl rfl) | apply Trace.pu [_] (.loadLoc1 ty28 (.plain rfl) rfl rfl) | apply Trace.pu [] (.loadRp1 ty28 (.plain rfl) rfl) | apply Trace.pu [_] (.loadCol1 ty28 (.plain rfl) rfl rfl rfl (fun _ => by omega))
    apply Trace.pu [] (.move (.plain rfl))
    first | apply Trace.pu [] (.indexRows el28 (.plain rfl) (.plain rfl) (fun _ => ⟨by omega, by omega⟩)) | apply Trace.pu [] (.indexOwn el28 (.plain rfl) (.plain rfl) (fun _ => ⟨by omega, by omega⟩)) | apply Trace.pu [] (.indexSl el28 (.plain rfl) (.plain rfl) (fun _ => ⟨by omega, by omega⟩))
    first | apply Trace.pu [_] (.loadLoc1D ty22 (.plain rfl) rfl rfl) | apply Trace.pu [_] (.loadLoc1 ty22 (.plain rfl) rfl rfl) | apply Trace.pu [] (.loadRp1 ty22 (.plain rfl) rfl) | apply Trace.pu [_] (.loadCol1 ty22 (.plain rfl) rfl rfl rfl (fun _ => by omega))
    apply Trace.pu [] (.len rfl Try.underlying22 (.plain rfl) rfl)
    apply Trace.pu [] (.move (.plain rfl))
    exact .nil _
  · exact keepOK_of hk hn rfl
  apply WPA.block
  refine WPA.loop (σ := Nat) (fun i => [(sl 0, .av (iv .i64 (v))), (sl 1, .av (.loc 14 0)), (sl 2, .av (.loc 13 0)), (sl 3, .av (.loc 6 0)), (sl 4, .av (.loc 15 0)), (sl 30, .av (.d (rowD (rows.getD v [])))), (sl 31, .av (iv .i64 ((rows.getD v []).length))), (sl 32, .av (iv .i64 (i))), (bk 14, .blk (.cells [.own 12 (all.length + 1)])), (bk 12, .blk (.appv (pushC all 95 (colTo rows c k ((s.1.set v c, s.2 ++ [(v : Int)]) : CS) (rows.getD v []) i).2.length))), (bk 95, .blk (.app 1 (colTo rows c k ((s.1.set v c, s.2 ++ [(v : Int)]) : CS) (rows.getD v []) i).2.length [.ints .i64 (colTo rows c k ((s.1.set v c, s.2 ++ [(v : Int)]) : CS) (rows.getD v []) i).2])), (bk 13, .blk (.cells [.own 54 n])), (bk 54, .blk (.app 1 n [.ints .i64 (colTo rows c k ((s.1.set v c, s.2 ++ [(v : Int)]) : CS) (rows.getD v []) i).1])), (bk 6, .blk (.cells [.d (nextD rows)])), (bk 15, .blk (.cells [.fn 27 colA]))]) (fun i => i ≤ (rows.getD v []).length) (fun i => (rows.getD v []).length - i) 0
    (St.le_cons rfl (St.le_cons rfl (St.le_cons rfl (St.le_cons rfl (St.le_cons rfl (St.le_cons rfl (St.le_cons rfl (St.le_cons rfl (St.le_cons rfl (St.le_cons rfl (St.le_cons rfl (St.le_cons rfl (St.le_cons rfl (St.le_cons rfl (St.le_cons rfl (St.le_nil _)))))))))))))))) (Nat.zero_le _) fun i hi => ?_
  apply WPA.seq
  apply WPA.region
  · apply Trace.pu [] (.cmp (.plain rfl) (.plain rfl) rfl)
    exact .nil _
  · exact keepOK_of hk hn rfl
  apply WPA.seq
  refine WPA.cond rfl (fun hc1 => ?_) (fun hc1 => ?_)
  · have hlt : i < (rows.getD v []).length := by simpa using hc1
    obtain ⟨m1, m2, m3⟩ := colTo_more hr hc0 (k := k) (v := v) (s := ((s.1.set v c, s.2 ++ [(v : Int)]) : CS)) (by simpa using hl) (by show free0 (s.1.set v c) ≤ k; omega) i hi
    have hsu := colTo_succ rows c k ((s.1.set v c, s.2 ++ [(v : Int)]) : CS) hlt
    have hb : 0 ≤ (rows.getD v []).getD i 0 ∧ ((rows.getD v []).getD i 0).toNat < n := hr v _ (by rw [getD_lt _ _ hlt]; exact List.getElem_mem _)
    have m3 : (colTo rows c k ((s.1.set v c, s.2 ++ [(v : Int)]) : CS) (rows.getD v []) i).2.length + free0 (colTo rows c k ((s.1.set v c, s.2 ++ [(v : Int)]) : CS) (rows.getD v []) i).1 = (s.2 ++ [(v : Int)]).length + free0 (s.1.set v c) := m3
    rw [List.length_append, List.length_singleton] at m3
    generalize colTo rows c k ((s.1.set v c, s.2 ++ [(v : Int)]) : CS) (rows.getD v []) i = a at m1 m2 m3 hsu ⊢
    obtain ⟨t, ht⟩ : ∃ t : Nat, ((rows.getD v []).getD i 0).toNat = t := ⟨_, rfl⟩
    have ht2 : (rows.getD v []).getD i 0 = (t : Int) := by omega
    rw [ht] at hb hsu
    apply WPA.skip
    apply WPA.seq
    apply WPA.block
    apply WPA.seq
    apply WPA.region
    · first | apply Trace.pu [] (.indexRows el22 (.plain rfl) (.plain rfl) (fun _ => ⟨by omega, by omega⟩)) | apply Trace.pu [] (.indexOwn el22 (.plain rfl) (.plain rfl) (fun _ => ⟨by omega, by omega⟩)) | apply Trace.pu [] (.indexSl el22 (.plain rfl) (.plain rfl) (fun _ => ⟨by omega, by omega⟩))
      apply Trace.pu [] ((Pure.loadRp1 ty3 (.plain rfl) rfl).to (y := iv .i64 (t : Nat)) (congrArg (iv .i64) ht2))
      apply Trace.pu [] (.assign (.plain rfl))
      exact .nil _
    · exact keepOK_of hk hn rfl
    apply WPA.seq
    apply WPA.region
    · first | apply Trace.pu [_] (.loadLoc1D ty22 (.plain rfl) rfl rfl) | apply Trace.pu [_] (.loadLoc1 ty22 (.plain rfl) rfl rfl) | apply Trace.pu [] (.loadRp1 ty22 (.plain rfl) rfl) | apply Trace.pu [_] (.loadCol1 ty22 (.plain rfl) rfl rfl rfl (fun _ => by omega))
      apply Trace.pu [] (.move (.plain rfl))
      first | apply Trace.pu [] (.indexRows el22 (.plain rfl) (.plain rfl) (fun _ => ⟨by omega, by omega⟩)) | apply Trace.pu [] (.indexOwn el22 (.plain rfl) (.plain rfl) (fun _ => ⟨by omega, by omega⟩)) | apply Trace.pu [] (.indexSl el22 (.plain rfl) (.plain rfl) (fun _ => ⟨by omega, by omega⟩))
      first | apply Trace.pu [_] (.loadLoc1D ty3 (.plain rfl) rfl rfl) | apply Trace.pu [_] (.loadLoc1 ty3 (.plain rfl) rfl rfl) | apply Trace.pu [] (.loadRp1 ty3 (.plain rfl) rfl) | apply Trace.pu [_] (.loadCol1 ty3 (.plain rfl) rfl rfl rfl (fun _ => by omega))
      apply Trace.pu [] (.cmp (.plain rfl) (.plain rfl) rfl)
      exact .nil _
    · exact keepOK_of hk hn rfl
    refine WPA.cond rfl (fun hc2 => ?_) (fun hc2 => ?_)
    · have hst : a.1.getD t 0 = 0 := by simpa using hc2
      have hrec := ih a t m1 hb.2 m2 hst (by omega)
      rw [if_pos hst] at hsu
      obtain ⟨d, hd⟩ : ∃ d, colP rows c k a t = d := ⟨_, rfl⟩
      rw [hd] at hrec hsu
      apply WPA.region
      · first | apply Trace.pu [_] (.loadLoc1D ty50 (.plain rfl) rfl rfl) | apply Trace.pu [_] (.loadLoc1 ty50 (.plain rfl) rfl rfl) | apply Trace.pu [] (.loadRp1 ty50 (.plain rfl) rfl) | apply Trace.pu [_] (.loadCol1 ty50 (.plain rfl) rfl rfl rfl (fun _ => by omega))
        apply Trace.pu [] (.move (.plain rfl))
        apply Trace.cbW [95] [bk 14, bk 12, bk 95, bk 13, bk 54, bk 6, bk 15] (callArgs (.plain rfl) (.cons (.plain rfl) .nil)) hrec en27 (.cons rfl (.cons rfl (.cons rfl (.cons rfl (.cons rfl (.cons rfl (.cons rfl (.nil)))))))) (.cons rfl (.cons (cont_appv (pushC_within (by omega) (by decide) rfl)) (.cons rfl (.cons rfl (.cons rfl (.cons rfl (.cons rfl (.nil)))))))) rfl rfl
        exact .nil _
      · exact keepOK_of hk hn rfl
      apply WPA.region
      · apply Trace.pu [] (.arith (.plain rfl) (.plain rfl) rfl (fun _ => bd64 (by omega)))
        apply Trace.pu [] (.move (.plain rfl))
        exact .nil _
      · exact keepOK_of hk hn rfl
      refine ⟨i + 1, by omega, by omega, ?_⟩
      rw [hsu]
      exact (St.le_cons rfl (St.le_cons rfl (St.le_cons rfl (St.le_cons rfl (St.le_cons rfl (St.le_cons rfl (St.le_cons rfl (St.le_cons (slI (by omega)) (St.le_cons rfl (St.le_cons rfl (St.le_cons rfl (St.le_cons rfl (St.le_cons rfl (St.le_cons rfl (St.le_cons rfl (St.le_nil _))))))))))))))))
    · have hst : ¬ a.1.getD t 0 = 0 := by simpa using hc2
      rw [if_neg hst] at hsu
      apply WPA.skip
      apply WPA.region
      · apply Trace.pu [] (.arith (.plain rfl) (.plain rfl) rfl (fun _ => bd64 (by omega)))
        apply Trace.pu [] (.move (.plain rfl))
        exact .nil _
      · exact keepOK_of hk hn rfl
      refine ⟨i + 1, by omega, by omega, ?_⟩
      rw [hsu]
      exact (St.le_cons rfl (St.le_cons rfl (St.le_cons rfl (St.le_cons rfl (St.le_cons rfl (St.le_cons rfl (St.le_cons rfl (St.le_cons (slI (by omega)) (St.le_cons rfl (St.le_cons rfl (St.le_cons rfl (St.le_cons rfl (St.le_cons rfl (St.le_cons rfl (St.le_cons rfl (St.le_nil _))))))))))))))))
  · have hie : i = (rows.getD v []).length := by
      have : ¬ ((i : Int) < (rows.getD v []).length) := by simpa using hc1
      omega
    subst hie
    rw [colP_new]
    apply WPA.exit
    refine ⟨.inl rfl, ⟨_, (.nil), ?_⟩, blks_of (.cons rfl (.cons rfl (.cons rfl (.cons rfl (.cons rfl (.cons rfl (.cons rfl (.nil))))))))⟩
    rfl

theorem spec27 {n : Nat} {rows all : List (List Int)} (hrl : rows.length = n) (hr : ∀ v, ∀ t ∈ rows.getD v [], 0 ≤ t ∧ t.toNat < n) (hrr : ∀ v, (rows.getD v []).length ≤ 1048576) (hn4 : n ≤ 1048576) (hal : all.length < 12) {c : Int} (hca : c = ((all.length + 1 : Nat) : Int)) : ∀ (k : Nat) (s : CS) (v : Nat), s.1.length = n → v < n → free0 s.1 ≤ k → s.1.getD v 0 = 0 → s.2.length + free0 s.1 ≤ 1048576 → FnSpec Try.prog 27 [iv .i64 v, .loc 14 0, .loc 13 0, .loc 6 0, .loc 15 0] (CsC n rows all s) (.tup []) (CsC n rows all (colP rows c k s v)) keepC
  | 0, s, v, hl, hv, hk, hs, hc => absurd hs (free0_none s.1 (by omega) v (by omega))
  | k + 1, s, v, hl, hv, hk, hs, hc => collect_new hrl hr hrr hn4 hal hca (fun s v a b c d e => spec27 hrl hr hrr hn4 hal hca k s v a b c d e) hl hv hk hs hc

end Go.Proofs.Ytglokdfdogmmhaa


/- slices.Backward, over the loop that collects the parts. -/
namespace Go.Proofs.Ytglokdfdogmmhaa
open Go
set_option linter.unusedVariables false
set_option linter.unusedSimpArgs false
set_option maxRecDepth 10000
set_option maxHeartbeats 1000000

abbrev CsA (n : Nat) (rows : List (List Int)) (s : AS) : St := (bk 14, .blk (.cells [.own 12 s.2.length])) :: (bk 12, .blk (.appv (matC s.2))) :: (bk 13, .blk (.cells [.own 54 n])) :: (bk 54, .blk (.app 1 n [.ints .i64 s.1])) :: (bk 6, .blk (.cells [.d (nextD rows)])) :: (bk 15, .blk (.cells [.fn 27 colA])) :: pad s.2
abbrev keepA : List Nat := [70, 14, 13, 54, 6, 15]
abbrev newA : List Nat := [12, 400, 401, 402, 403, 404, 405, 406, 407, 408, 409, 410, 411]
abbrev tsA : List (Nat × AV) := [(13, .loc 13 0), (14, .loc 14 0), (15, .loc 15 0)]
abbrev lhA (ac bo : Code) : LH := ⟨.ready, none, #[86, 87], ac, bo, 103⟩
/-- slices.Backward[[]int,int] -/
theorem spec28 (xs : List Int) : FnSpec Try.prog 28 [.d (intsD xs)] [] (.fn 42 [.loc 60 0]) [(bk 60, .blk (.data [intsD xs]))] [] := by
  refine fnSpec_of (rs := [.tmp 2]) Try.func28 rfl rfl (Nat.le_of_ble_eq_true rfl) (by simp [St.get]) fun E hk hn => ?_
  apply WPA.seq
  apply WPA.region
  · apply Trace.boxD 60 [] (.plain rfl) rfl rfl
    apply Trace.pu [] (.assign (.plain rfl))
    exact .nil _
  · exact keepOK_of hk hn rfl
  apply WPA.seq
  apply WPA.region
  · apply Trace.pu [] (.funcL (.cons (.plain rfl) .nil))
    apply Trace.pu [] (.assign (.plain rfl))
    exact .nil _
  · exact keepOK_of hk hn rfl
  apply WPA.ret
  refine ⟨.inr rfl, ⟨_, (.cons (.tmp rfl) .nil), ?_⟩, blks_of (.cons rfl .nil)⟩
  rfl

/-- slices.Backward[[]int,int]$1 -/
theorem itA {n : Nat} {rows : List (List Int)} {xs : List Int} (hxl : xs.length ≤ 1048576) (h12 : ∀ m, m ≤ xs.length → (colAll rows n xs m).2.length ≤ 12) {ac bo : Code} (hY : ∀ m, m < xs.length → ∀ v, xs.getD (xs.length - 1 - m) 0 = v → YSpec Try.prog 70 [iv .i64 ((xs.length : Int) - 1 - (m : Nat)), iv .i64 v] ((bk 70, .blk (.lp (lhA ac bo) tsA)) :: CsA n rows (colAll rows n xs m)) (bv true) ((bk 70, .blk (.lp (lhA ac bo) tsA)) :: CsA n rows (colAll rows n xs (m + 1))) keepA) : FnSpec Try.prog 42 [.yld 70, .loc 60 0] ((bk 70, .blk (.lp (lhA ac bo) tsA)) :: (bk 60, .blk (.data [intsD xs])) :: CsA n rows (colAll rows n xs 0)) (.tup []) ((bk 70, .blk (.lp (lhA ac bo) tsA)) :: (bk 60, .blk (.data [intsD xs])) :: CsA n rows (colAll rows n xs xs.length)) [70, 60, 14, 13, 54, 6, 15] := by
  refine fnSpec_of (rs := []) Try.func42 rfl rfl (Nat.le_of_ble_eq_true rfl) (odd_of rfl) fun E hk hn => ?_
  apply WPA.seq
  apply WPA.region
  · first | apply Trace.pu [_] (.loadLoc1D ty22 (.plain rfl) rfl rfl) | apply Trace.pu [_] (.loadLoc1 ty22 (.plain rfl) rfl rfl) | apply Trace.pu [] (.loadRp1 ty22 (.plain rfl) rfl) | apply Trace.pu [_] (.loadCol1 ty22 (.plain rfl) rfl rfl rfl (fun _ => by omega))
    apply Trace.pu [] (.len rfl Try.underlying22 (.plain rfl) rfl)
    apply Trace.pu [] (.arith (.plain rfl) (.plain rfl) rfl (fun _ => bd64 (by omega)))
    apply Trace.pu [] (.assign (.plain rfl))
    exact .nil _
  · exact keepOK_of hk hn rfl
  apply WPA.block
  refine WPA.loop (σ := Nat) (fun i => [(sl 0, .av (.yld 70)), (sl 1, .av (.loc 60 0)), (sl 3, .av (iv .i64 ((xs.length : Int) - 1 - (i : Nat)))), (bk 60, .blk (.data [intsD xs])), (bk 70, .blk (.lp (lhA ac bo) tsA)), (bk 14, .blk (.cells [.own 12 (colAll rows n xs i).2.length])), (bk 12, .blk (.appv (matC (colAll rows n xs i).2))), (bk 13, .blk (.cells [.own 54 n])), (bk 54, .blk (.app 1 n [.ints .i64 (colAll rows n xs i).1])), (bk 6, .blk (.cells [.d (nextD rows)])), (bk 15, .blk (.cells [.fn 27 colA])), (bk 400, .blk (.app 1 ((colAll rows n xs i).2.getD 0 []).length [.ints .i64 ((colAll rows n xs i).2.getD 0 [])])), (bk 401, .blk (.app 1 ((colAll rows n xs i).2.getD 1 []).length [.ints .i64 ((colAll rows n xs i).2.getD 1 [])])), (bk 402, .blk (.app 1 ((colAll rows n xs i).2.getD 2 []).length [.ints .i64 ((colAll rows n xs i).2.getD 2 [])])), (bk 403, .blk (.app 1 ((colAll rows n xs i).2.getD 3 []).length [.ints .i64 ((colAll rows n xs i).2.getD 3 [])])), (bk 404, .blk (.app 1 ((colAll rows n xs i).2.getD 4 []).length [.ints .i64 ((colAll rows n xs i).2.getD 4 [])])), (bk 405, .blk (.app 1 ((colAll rows n xs i).2.getD 5 []).length [.ints .i64 ((colAll rows n xs i).2.getD 5 [])])), (bk 406, .blk (.app 1 ((colAll rows n xs i).2.getD 6 []).length [.ints .i64 ((colAll rows n xs i).2.getD 6 [])])), (bk 407, .blk (.app 1 ((colAll rows n xs i).2.getD 7 []).length [.ints .i64 ((colAll rows n xs i).2.getD 7 [])])), (bk 408, .blk (.app 1 ((colAll rows n xs i).2.getD 8 []).length [.ints .i64 ((colAll rows n xs i).2.getD 8 [])])), (bk 409, .blk (.app 1 ((colAll rows n xs i).2.getD 9 []).length [.ints .i64 ((colAll rows n xs i).2.getD 9 [])])), (bk 410, .blk (.app 1 ((colAll rows n xs i).2.getD 10 []).length [.ints .i64 ((colAll rows n xs i).2.getD 10 [])])), (bk 411, .blk (.app 1 ((colAll rows n xs i).2.getD 11 []).length [.ints .i64 ((colAll rows n xs i).2.getD 11 [])]))]) (fun i => i ≤ xs.length) (fun i => xs.length - i) 0
    (St.le_cons rfl (St.le_cons rfl (St.le_cons (slI (by omega)) (St.le_cons rfl (St.le_cons rfl (St.le_cons rfl (St.le_cons rfl (St.le_cons rfl (St.le_cons rfl (St.le_cons rfl (St.le_cons rfl (St.le_cons rfl (St.le_cons rfl (St.le_cons rfl (St.le_cons rfl (St.le_cons rfl (St.le_cons rfl (St.le_cons rfl (St.le_cons rfl (St.le_cons rfl (St.le_cons rfl (St.le_cons rfl (St.le_cons rfl (St.le_nil _)))))))))))))))))))))))) (Nat.zero_le _) fun i hi => ?_
  apply WPA.seq
  apply WPA.seq
  apply WPA.region
  · apply Trace.pu [] (.move (.plain rfl))
    apply Trace.pu [] (.cmp (.plain rfl) (.plain rfl) rfl)
    exact .nil _
  · exact keepOK_of hk hn rfl
  refine WPA.cond rfl (fun hc1 => ?_) (fun hc1 => ?_)
  · have hlt : i < xs.length := by
      have : (0 : Int) ≤ (xs.length : Int) - 1 - (i : Nat) := by simpa using hc1
      omega
    have h13 := h12 (i + 1) hlt
    have hidx : (((xs.length : Int) - 1 - (i : Nat)).toNat) = xs.length - 1 - i := by omega
    obtain ⟨e, he⟩ : ∃ e, xs.getD (xs.length - 1 - i) 0 = e := ⟨_, rfl⟩
    apply WPA.skip
    apply WPA.seq
    apply WPA.block
    apply WPA.seq
    apply WPA.region
    · apply Trace.pu [] (.move (.plain rfl))
      apply Trace.pu [] (.move (.plain rfl))
      first | apply Trace.pu [_] (.loadLoc1D ty22 (.plain rfl) rfl rfl) | apply Trace.pu [_] (.loadLoc1 ty22 (.plain rfl) rfl rfl) | apply Trace.pu [] (.loadRp1 ty22 (.plain rfl) rfl) | apply Trace.pu [_] (.loadCol1 ty22 (.plain rfl) rfl rfl rfl (fun _ => by omega))
      apply Trace.pu [] (.move (.plain rfl))
      first | apply Trace.pu [] (.indexRows el22 (.plain rfl) (.plain rfl) (fun _ => ⟨by omega, by omega⟩)) | apply Trace.pu [] (.indexOwn el22 (.plain rfl) (.plain rfl) (fun _ => ⟨by omega, by omega⟩)) | apply Trace.pu [] (.indexSl el22 (.plain rfl) (.plain rfl) (fun _ => ⟨by omega, by omega⟩))
      apply Trace.pu [] ((Pure.loadRp1 ty3 (.plain rfl) rfl).to (y := iv .i64 e) (by show iv .i64 (xs.getD ((xs.length : Int) - 1 - (i : Nat)).toNat 0) = _; rw [hidx, he]))
      apply Trace.cyH (gs := []) newA [bk 70, bk 14, bk 12, bk 13, bk 54, bk 6, bk 15, bk 400, bk 401, bk 402, bk 403, bk 404, bk 405, bk 406, bk 407, bk 408, bk 409, bk 410, bk 411] (yieldArgs (.plain rfl) (.cons (.plain rfl) (.cons (.plain rfl) .nil))) (hY i hlt e he) rfl (handedW_of (.cons rfl (.cons rfl (.cons rfl (.cons rfl (.cons rfl (.cons rfl (.cons rfl (.cons rfl (.cons rfl (.cons rfl (.cons rfl (.cons rfl (.cons rfl (.cons rfl (.cons rfl (.cons rfl (.cons rfl (.cons rfl (.cons rfl (.nil)))))))))))))))))))) (.cons rfl (.cons rfl (.cons (cont_appv (matC_within h13 (by decide))) (.cons rfl (.cons rfl (.cons rfl (.cons rfl (.cons rfl (.cons rfl (.cons rfl (.cons rfl (.cons rfl (.cons rfl (.cons rfl (.cons rfl (.cons rfl (.cons rfl (.cons rfl (.cons rfl (.nil)))))))))))))))))))) (by kernel_rfl)) (by kernel_rfl)
      apply Trace.pu [] (.not (.plain rfl))
      exact .nil _
    · exact keepOK_of hk hn (by kernel_rfl)
    refine WPA.cond rfl (fun hc2 => ?_) (fun hc2 => ?_)
    · cases hc2
    · apply WPA.skip
      refine WPA.weaken (T := [(sl 0, .av (.yld 70)), (sl 1, .av (.loc 60 0)), (sl 3, .av (iv .i64 ((xs.length : Int) - 1 - (i : Nat)))), (bk 60, .blk (.data [intsD xs])), (bk 70, .blk (.lp (lhA ac bo) tsA)), (bk 14, .blk (.cells [.own 12 (colAll rows n xs (i + 1)).2.length])), (bk 12, .blk (.appv (matC (colAll rows n xs (i + 1)).2))), (bk 13, .blk (.cells [.own 54 n])), (bk 54, .blk (.app 1 n [.ints .i64 (colAll rows n xs (i + 1)).1])), (bk 6, .blk (.cells [.d (nextD rows)])), (bk 15, .blk (.cells [.fn 27 colA])), (bk 400, .blk (.app 1 ((colAll rows n xs (i + 1)).2.getD 0 []).length [.ints .i64 ((colAll rows n xs (i + 1)).2.getD 0 [])])), (bk 401, .blk (.app 1 ((colAll rows n xs (i + 1)).2.getD 1 []).length [.ints .i64 ((colAll rows n xs (i + 1)).2.getD 1 [])])), (bk 402, .blk (.app 1 ((colAll rows n xs (i + 1)).2.getD 2 []).length [.ints .i64 ((colAll rows n xs (i + 1)).2.getD 2 [])])), (bk 403, .blk (.app 1 ((colAll rows n xs (i + 1)).2.getD 3 []).length [.ints .i64 ((colAll rows n xs (i + 1)).2.getD 3 [])])), (bk 404, .blk (.app 1 ((colAll rows n xs (i + 1)).2.getD 4 []).length [.ints .i64 ((colAll rows n xs (i + 1)).2.getD 4 [])])), (bk 405, .blk (.app 1 ((colAll rows n xs (i + 1)).2.getD 5 []).length [.ints .i64 ((colAll rows n xs (i + 1)).2.getD 5 [])])), (bk 406, .blk (.app 1 ((colAll rows n xs (i + 1)).2.getD 6 []).length [.ints .i64 ((colAll rows n xs (i + 1)).2.getD 6 [])])), (bk 407, .blk (.app 1 ((colAll rows n xs (i + 1)).2.getD 7 []).length [.ints .i64 ((colAll rows n xs (i + 1)).2.getD 7 [])])), (bk 408, .blk (.app 1 ((colAll rows n xs (i + 1)).2.getD 8 []).length [.ints .i64 ((colAll rows n xs (i + 1)).2.getD 8 [])])), (bk 409, .blk (.app 1 ((colAll rows n xs (i + 1)).2.getD 9 []).length [.ints .i64 ((colAll rows n xs (i + 1)).2.getD 9 [])])), (bk 410, .blk (.app 1 ((colAll rows n xs (i + 1)).2.getD 10 []).length [.ints .i64 ((colAll rows n xs (i + 1)).2.getD 10 [])])), (bk 411, .blk (.app 1 ((colAll rows n xs (i + 1)).2.getD 11 []).length [.ints .i64 ((colAll rows n xs (i + 1)).2.getD 11 [])]))]) ?_ (St.le_cons (by kernel_rfl) (St.le_cons (by kernel_rfl) (St.le_cons (by kernel_rfl) (St.le_cons (by kernel_rfl) (St.le_cons (by kernel_rfl) (St.le_cons (by kernel_rfl) (St.le_cons (by kernel_rfl) (St.le_cons (by kernel_rfl) (St.le_cons (by kernel_rfl) (St.le_cons (by kernel_rfl) (St.le_cons (by kernel_rfl) (St.le_cons (by kernel_rfl) (St.le_cons (by kernel_rfl) (St.le_cons (by kernel_rfl) (St.le_cons (by kernel_rfl) (St.le_cons (by kernel_rfl) (St.le_cons (by kernel_rfl) (St.le_cons (by kernel_rfl) (St.le_cons (by kernel_rfl) (St.le_cons (by kernel_rfl) (St.le_cons (by kernel_rfl) (St.le_cons (by kernel_rfl) (St.le_cons (by kernel_rfl) (St.le_nil _))))))))))))))))))))))))
      apply WPA.region
      · apply Trace.pu [] (.move (.plain rfl))
        apply Trace.pu [] (.arith (.plain rfl) (.plain rfl) rfl (fun _ => bd64 (by omega)))
        apply Trace.pu [] (.assign (.plain rfl))
        exact .nil _
      · exact keepOK_of hk hn rfl
      refine ⟨i + 1, by omega, by omega, ?_⟩
      exact (St.le_cons (by kernel_rfl) (St.le_cons (by kernel_rfl) (St.le_cons (slI (by omega)) (St.le_cons (by kernel_rfl) (St.le_cons (by kernel_rfl) (St.le_cons (by kernel_rfl) (St.le_cons (by kernel_rfl) (St.le_cons (by kernel_rfl) (St.le_cons (by kernel_rfl) (St.le_cons (by kernel_rfl) (St.le_cons (by kernel_rfl) (St.le_cons (by kernel_rfl) (St.le_cons (by kernel_rfl) (St.le_cons (by kernel_rfl) (St.le_cons (by kernel_rfl) (St.le_cons (by kernel_rfl) (St.le_cons (by kernel_rfl) (St.le_cons (by kernel_rfl) (St.le_cons (by kernel_rfl) (St.le_cons (by kernel_rfl) (St.le_cons (by kernel_rfl) (St.le_cons (by kernel_rfl) (St.le_cons (by kernel_rfl) (St.le_nil _))))))))))))))))))))))))
  · have hie : i = xs.length := by
      have : ¬ ((0 : Int) ≤ (xs.length : Int) - 1 - (i : Nat)) := by simpa using hc1
      omega
    subst hie
    apply WPA.exit
    refine ⟨.inl rfl, ⟨_, (.nil), ?_⟩, blks_of (.cons rfl (.cons rfl (.cons rfl (.cons rfl (.cons rfl (.cons rfl (.cons rfl (.cons rfl (.cons rfl (.cons rfl (.cons rfl (.cons rfl (.cons rfl (.cons rfl (.cons rfl (.cons rfl (.cons rfl (.cons rfl (.cons rfl (.cons rfl (.nil)))))))))))))))))))))⟩
    rfl

end Go.Proofs.Ytglokdfdogmmhaa


/- arrange: the sort by heads, the search for a part. -/
namespace Go.Proofs.Ytglokdfdogmmhaa
open Go
set_option linter.unusedVariables false
set_option linter.unusedSimpArgs false
set_option maxRecDepth 10000
set_option maxHeartbeats 1000000

abbrev dsC (c : RL) : List D := c.map rowD
theorem dsC_at {c : RL} {i : Nat} (h : i < c.length) : Col.at (.ds (dsC c)) i = rowD (c.getD i []) := getD_map' rowD c [] _ h
theorem app_ds {m : Nat} {xs ys : List D} (h : xs = ys) : some (Cont.blk (.app 1 m [.ds xs])) = some (Cont.blk (.app 1 m [.ds ys])) := by rw [h]
theorem Pure.never {P : Program} {S : St} {o : Oper} {x : AV} (h : ∀ d, o.op ≠ .defer d) : Pure P S [] o false x := ⟨h, fun _ _ _ _ _ _ h => by cases h⟩
/-- soundpost/order.arrange$1 -/
theorem spec45 {a b : List Int} (ha : 0 < a.length) (hb : 0 < b.length) (h1 : 0 ≤ hd a ∧ hd a ≤ 1048576) (h2 : 0 ≤ hd b ∧ hd b ≤ 1048576) : FnSpec Try.prog 45 [.d (rowD a), .d (rowD b)] [] (iv .i64 (hd a - hd b)) [] [] := by
  have g1 : 0 ≤ a.getD (0 : Int).toNat 0 ∧ a.getD (0 : Int).toNat 0 ≤ 1048576 := h1
  have g2 : 0 ≤ b.getD (0 : Int).toNat 0 ∧ b.getD (0 : Int).toNat 0 ≤ 1048576 := h2
  refine fnSpec_of (rs := [.tmp 4]) Try.func45 rfl rfl (Nat.le_of_ble_eq_true rfl) (by simp [St.get]) fun E hk hn => ?_
  apply WPA.seq
  apply WPA.region
  · apply Trace.pu [] (.assign (.plain rfl))
    exact .nil _
  · exact keepOK_of hk hn rfl
  apply WPA.seq
  apply WPA.draw mixed
  · apply Trace.pu [] (.move (.plain rfl))
    first | apply Trace.pu [] (.indexRows el22 (.plain rfl) (.plain rfl) (fun _ => ⟨by omega, by omega⟩)) | apply Trace.pu [] (.indexOwn el22 (.plain rfl) (.plain rfl) (fun _ => ⟨by omega, by omega⟩)) | apply Trace.pu [] (.indexSl el22 (.plain rfl) (.plain rfl) (fun _ => ⟨by omega, by omega⟩))
    first | apply Trace.pu [_] (.loadLoc1D ty3 (.plain rfl) rfl rfl) | apply Trace.pu [_] (.loadLoc1 ty3 (.plain rfl) rfl rfl) | apply Trace.pu [] (.loadRp1 ty3 (.plain rfl) rfl) | apply Trace.pu [_] (.loadCol1 ty3 (.plain rfl) rfl rfl rfl (fun _ => by omega))
    apply Trace.pu [] (.move (.plain rfl))
    first | apply Trace.pu [] (.indexRows el22 (.plain rfl) (.plain rfl) (fun _ => ⟨by omega, by omega⟩)) | apply Trace.pu [] (.indexOwn el22 (.plain rfl) (.plain rfl) (fun _ => ⟨by omega, by omega⟩)) | apply Trace.pu [] (.indexSl el22 (.plain rfl) (.plain rfl) (fun _ => ⟨by omega, by omega⟩))
    first | apply Trace.pu [_] (.loadLoc1D ty3 (.plain rfl) rfl rfl) | apply Trace.pu [_] (.loadLoc1 ty3 (.plain rfl) rfl rfl) | apply Trace.pu [] (.loadRp1 ty3 (.plain rfl) rfl) | apply Trace.pu [_] (.loadCol1 ty3 (.plain rfl) rfl rfl rfl (fun _ => by omega))
    apply Trace.pu [] (.arith (.plain rfl) (.plain rfl) rfl (fun _ => bd64 (by omega)))
    apply Trace.pu [] (.assign (.plain rfl))
    exact .nil _
  · rfl
  · exact keepOK_of hk hn rfl
  apply WPA.ret
  refine ⟨.inr rfl, ⟨_, (.cons (.tmp rfl) .nil), ?_⟩, by simp [St.get]⟩
  rfl

/-- slices.insertionSortCmpFunc[[]int] -/
theorem spec69 {c : RL} {m : Nat} (hm : c.length = m) (h12 : m ≤ 1048576) (hh : Hds c) : FnSpec Try.prog 69 [.own 97 m, iv .i64 0, iv .i64 m, .fn 45 []] [(bk 97, .blk (.app 1 m [.ds (dsC c)]))] (.tup []) [(bk 97, .blk (.app 1 m [.ds (dsC (byHead c))]))] [97] := by
  refine fnSpec_of (rs := []) Try.func69 rfl rfl (Nat.le_of_ble_eq_true rfl) (odd_of rfl) fun E hk hn => ?_
  apply WPA.seq
  apply WPA.region
  · apply Trace.pu [] (.move (.plain rfl))
    apply Trace.pu [] (.arith (.plain rfl) (.plain rfl) rfl (fun _ => bd64 (by omega)))
    apply Trace.pu [] (.assign (.plain rfl))
    exact .nil _
  · exact keepOK_of hk hn rfl
  apply WPA.block
  refine WPA.loop (σ := Nat) (fun i => [(sl 0, .av (.own 97 m)), (sl 1, .av (iv .i64 (0))), (sl 2, .av (iv .i64 (m))), (sl 3, .av (.fn 45 [])), (sl 8, .av (iv .i64 (i + 1))), (bk 97, .blk (.app 1 m [.ds (dsC (insTo c i))]))]) (fun i => i + 1 ≤ m ∨ i = 0) (fun i => m - i) 0
    (St.le_cons rfl (St.le_cons rfl (St.le_cons rfl (St.le_cons rfl (St.le_cons rfl (St.le_cons rfl (St.le_nil _))))))) (.inr rfl) fun i hi => ?_
  apply WPA.seq
  apply WPA.seq
  apply WPA.region
  · apply Trace.pu [] (.move (.plain rfl))
    apply Trace.pu [] (.move (.plain rfl))
    apply Trace.pu [] (.cmp (.plain rfl) (.plain rfl) rfl)
    exact .nil _
  · exact keepOK_of hk hn rfl
  refine WPA.cond rfl (fun hc1 => ?_) (fun hc1 => ?_)
  · have hlt : i + 1 < m := by
      have : (i : Int) + 1 < m := by simpa using hc1
      omega
    apply WPA.skip
    apply WPA.seq
    apply WPA.block
    apply WPA.seq
    apply WPA.region
    · apply Trace.pu [] (.move (.plain rfl))
      apply Trace.pu [] (.assign (.plain rfl))
      exact .nil _
    · exact keepOK_of hk hn rfl
    apply WPA.block
    refine WPA.loop (σ := RL × Nat) (fun s => [(sl 0, .av (.own 97 m)), (sl 1, .av (iv .i64 (0))), (sl 2, .av (iv .i64 (m))), (sl 3, .av (.fn 45 [])), (sl 8, .av (iv .i64 (i + 1))), (sl 9, .av (iv .i64 (s.2))), (bk 97, .blk (.app 1 m [.ds (dsC (s.1))]))]) (fun s => s.1.length = m ∧ Hds s.1 ∧ s.2 ≤ i + 1 ∧ sink s.1 s.2 = sink (insTo c i) (i + 1)) (fun s => s.2) (insTo c i, i + 1)
      (St.le_cons rfl (St.le_cons rfl (St.le_cons rfl (St.le_cons rfl (St.le_cons rfl (St.le_cons rfl (St.le_cons rfl (St.le_nil _)))))))) ⟨by rw [insTo_len, hm], hh.sub (insTo_mem c i (by omega)), Nat.le_refl _, rfl⟩ fun s hs => ?_
    apply WPA.seq
    apply WPA.seq
    obtain ⟨d, j⟩ := s
    obtain ⟨hdl, hdh, hji, hsk⟩ := hs
    simp only at hdl hdh hji hsk ⊢
    rcases j with _ | j
    · apply WPA.draw mixed
      · apply Trace.pu [] (.move (.plain rfl))
        apply Trace.pu [] (.move (.plain rfl))
        apply Trace.pu [] ((Pure.cmp (.plain rfl) (.plain rfl) rfl).to (y := bv false) (congrArg bv (decide_eq_false (by decide))))
        apply Trace.pu [] (.move (.plain rfl))
        apply Trace.pg [] rfl (Pure.never (x := bv true) (by intro d h; cases h))
        apply Trace.pg [] rfl (Pure.never (x := bv true) (by intro d h; cases h))
        apply Trace.pg [] rfl (Pure.never (x := bv true) (by intro d h; cases h))
        apply Trace.pg [] rfl (Pure.never (x := bv true) (by intro d h; cases h))
        apply Trace.pg [] rfl (Pure.never (x := bv true) (by intro d h; cases h))
        apply Trace.pg [] rfl (Pure.never (x := bv true) (by intro d h; cases h))
        apply Trace.pg [] rfl (Pure.never (x := bv true) (by intro d h; cases h))
        apply Trace.pg [] rfl (Pure.never (x := bv true) (by intro d h; cases h))
        apply Trace.pg [] rfl (Pure.never (x := bv true) (by intro d h; cases h))
        apply Trace.pg [] rfl (Pure.never (x := bv true) (by intro d h; cases h))
        apply Trace.pg [] rfl (Pure.never (x := bv true) (by intro d h; cases h))
        apply Trace.pg [] rfl (Pure.never (x := bv true) (by intro d h; cases h))
        apply Trace.pu [] (.pick (.plain rfl) (.gd rfl (by simp)) (.plain rfl))
        exact .nil _
      · rfl
      · exact keepOK_of hk hn rfl
      refine WPA.cond rfl (fun hc2 => ?_) (fun hc2 => ?_)
      · cases hc2
      · have hfin : insTo c (i + 1) = d := hsk.symm
        apply WPA.exit
        apply WPA.region
        · apply Trace.pu [] (.move (.plain rfl))
          apply Trace.pu [] (.arith (.plain rfl) (.plain rfl) rfl (fun _ => bd64 (by omega)))
          apply Trace.pu [] (.assign (.plain rfl))
          exact .nil _
        · exact keepOK_of hk hn rfl
        refine ⟨i + 1, .inl (by omega), by omega, ?_⟩
        rw [hfin]
        exact (St.le_cons rfl (St.le_cons rfl (St.le_cons rfl (St.le_cons rfl (St.le_cons (slI (by omega)) (St.le_cons rfl (St.le_nil _)))))))
    · have hj1 := hdh.at (j := j) (by omega)
      have hj2 := hdh.at (j := j + 1) (by omega)
      apply WPA.draw mixed
      · apply Trace.pu [] (.move (.plain rfl))
        apply Trace.pu [] (.move (.plain rfl))
        apply Trace.pu [] ((Pure.cmp (.plain rfl) (.plain rfl) rfl).to (y := bv true) (congrArg bv (decide_eq_true (by show (0 : Int) < ((j + 1 : Nat) : Int); omega))))
        apply Trace.pu [] (.move (.plain rfl))
        apply Trace.pg [] rfl (.move (.plain rfl))
        apply Trace.pg [] rfl (.move (.plain rfl))
        apply Trace.pg [] rfl (.move (.plain rfl))
        first | apply Trace.pg [] rfl (.indexRows el28 (.gd rfl (fun h => h)) (.gd rfl (fun h => h)) (fun _ => ⟨by omega, by omega⟩)) | apply Trace.pg [] rfl (.indexOwn el28 (.gd rfl (fun h => h)) (.gd rfl (fun h => h)) (fun _ => ⟨by omega, by omega⟩)) | apply Trace.pg [] rfl (.indexSl el28 (.gd rfl (fun h => h)) (.gd rfl (fun h => h)) (fun _ => ⟨by omega, by omega⟩))
        apply Trace.pg [97] rfl ((Pure.loadCol1 ty22 (.gd rfl (fun h => h)) rfl rfl rfl (fun _ => by omega)).to (y := .d (rowD (d.getD (j + 1) []))) (by exact congrArg AV.d (dsC_at (by omega))))
        apply Trace.pg [] rfl (.move (.plain rfl))
        apply Trace.pg [] rfl (.move (.plain rfl))
        apply Trace.pg [] rfl ((Pure.arith (.gd rfl (fun h => h)) (.plain rfl) rfl (fun _ => bd64 (by omega))).to (y := iv .i64 (j : Nat)) (congrArg (iv .i64) (by show ((j + 1 : Nat) : Int) - 1 = _; omega)))
        first | apply Trace.pg [] rfl (.indexRows el28 (.gd rfl (fun h => h)) (.gd rfl (fun h => h)) (fun _ => ⟨by omega, by omega⟩)) | apply Trace.pg [] rfl (.indexOwn el28 (.gd rfl (fun h => h)) (.gd rfl (fun h => h)) (fun _ => ⟨by omega, by omega⟩)) | apply Trace.pg [] rfl (.indexSl el28 (.gd rfl (fun h => h)) (.gd rfl (fun h => h)) (fun _ => ⟨by omega, by omega⟩))
        apply Trace.pg [97] rfl ((Pure.loadCol1 ty22 (.gd rfl (fun h => h)) rfl rfl rfl (fun _ => by omega)).to (y := .d (rowD (d.getD j []))) (by exact congrArg AV.d (dsC_at (by omega))))
        apply Trace.cg rfl (callArgs (.gd rfl (fun h => h)) (.cons (.gd rfl (fun h => h)) (.cons (.gd rfl (fun h => h)) .nil))) (fun _ => spec45 hj2.1 hj1.1 hj2.2 hj1.2) en45
        apply Trace.pg [] rfl (.cmp (.gd rfl (fun h => h)) (.plain rfl) rfl)
        apply Trace.pu [] (.pick (.plain rfl) (.gd rfl (by simp)) (.plain rfl))
        exact .nil _
      · rfl
      · exact keepOK_of hk hn rfl
      refine WPA.cond rfl (fun hc3 => ?_) (fun hc3 => ?_)
      · have hneg : hd (d.getD (j + 1) []) - hd (d.getD j []) < 0 := of_decide_eq_true hc3
        have hsw : sink (swapL d j) j = sink d (j + 1) := (if_pos hneg).symm
        apply WPA.skip
        apply WPA.seq
        apply WPA.block
        apply WPA.draw mixed
        · apply Trace.pu [] (.move (.plain rfl))
          apply Trace.pu [] (.move (.plain rfl))
          apply Trace.pu [] (.move (.plain rfl))
          apply Trace.pu [] (.move (.plain rfl))
          apply Trace.pu [] ((Pure.arith (.plain rfl) (.plain rfl) rfl (fun _ => bd64 (by omega))).to (y := iv .i64 (j : Nat)) (congrArg (iv .i64) (by show ((j + 1 : Nat) : Int) - 1 = _; omega)))
          apply Trace.pu [] (.move (.plain rfl))
          apply Trace.pu [] (.move (.plain rfl))
          apply Trace.pu [] ((Pure.arith (.plain rfl) (.plain rfl) rfl (fun _ => bd64 (by omega))).to (y := iv .i64 (j : Nat)) (congrArg (iv .i64) (by show ((j + 1 : Nat) : Int) - 1 = _; omega)))
          first | apply Trace.pu [] (.indexRows el28 (.plain rfl) (.plain rfl) (fun _ => ⟨by omega, by omega⟩)) | apply Trace.pu [] (.indexOwn el28 (.plain rfl) (.plain rfl) (fun _ => ⟨by omega, by omega⟩)) | apply Trace.pu [] (.indexSl el28 (.plain rfl) (.plain rfl) (fun _ => ⟨by omega, by omega⟩))
          apply Trace.pu [97] ((Pure.loadCol1 ty22 (.plain rfl) rfl rfl rfl (fun _ => by omega)).to (y := .d (rowD (d.getD j []))) (by exact congrArg AV.d (dsC_at (by omega))))
          apply Trace.pu [] (.move (.plain rfl))
          apply Trace.pu [] (.move (.plain rfl))
          first | apply Trace.pu [] (.indexRows el28 (.plain rfl) (.plain rfl) (fun _ => ⟨by omega, by omega⟩)) | apply Trace.pu [] (.indexOwn el28 (.plain rfl) (.plain rfl) (fun _ => ⟨by omega, by omega⟩)) | apply Trace.pu [] (.indexSl el28 (.plain rfl) (.plain rfl) (fun _ => ⟨by omega, by omega⟩))
          apply Trace.pu [97] ((Pure.loadCol1 ty22 (.plain rfl) rfl rfl rfl (fun _ => by omega)).to (y := .d (rowD (d.getD (j + 1) []))) (by exact congrArg AV.d (dsC_at (by omega))))
          first | apply Trace.pu [] (.indexRows el28 (.plain rfl) (.plain rfl) (fun _ => ⟨by omega, by omega⟩)) | apply Trace.pu [] (.indexOwn el28 (.plain rfl) (.plain rfl) (fun _ => ⟨by omega, by omega⟩)) | apply Trace.pu [] (.indexSl el28 (.plain rfl) (.plain rfl) (fun _ => ⟨by omega, by omega⟩))
          first | apply Trace.storeD ty22 (.plain rfl) (.plain rfl) rfl rfl rfl (by simp [AV.oneB, single]) (Nat.le_of_ble_eq_true rfl) rfl | apply Trace.storeDA ty22 (.plain rfl) (.plain rfl) rfl rfl rfl (by simp [AV.oneB, single]) (Nat.le_of_ble_eq_true rfl) rfl | apply Trace.storeLoc ty22 (.plain rfl) (.plain rfl) rfl rfl rfl (by simp [AV.oneB, single]) (Nat.le_of_ble_eq_true rfl) rfl | apply Trace.storeRow ty22 (.plain rfl) (.plain rfl) rfl rfl rfl rfl (by decide) (by simp [AV.oneB, single]) rfl (by omega)
          first | apply Trace.pu [] (.indexRows el28 (.plain rfl) (.plain rfl) (fun _ => ⟨by omega, by omega⟩)) | apply Trace.pu [] (.indexOwn el28 (.plain rfl) (.plain rfl) (fun _ => ⟨by omega, by omega⟩)) | apply Trace.pu [] (.indexSl el28 (.plain rfl) (.plain rfl) (fun _ => ⟨by omega, by omega⟩))
          first | apply Trace.storeD ty22 (.plain rfl) (.plain rfl) rfl rfl rfl (by simp [AV.oneB, single]) (Nat.le_of_ble_eq_true rfl) rfl | apply Trace.storeDA ty22 (.plain rfl) (.plain rfl) rfl rfl rfl (by simp [AV.oneB, single]) (Nat.le_of_ble_eq_true rfl) rfl | apply Trace.storeLoc ty22 (.plain rfl) (.plain rfl) rfl rfl rfl (by simp [AV.oneB, single]) (Nat.le_of_ble_eq_true rfl) rfl | apply Trace.storeRow ty22 (.plain rfl) (.plain rfl) rfl rfl rfl rfl (by decide) (by simp [AV.oneB, single]) rfl (by omega)
          exact .nil _
        · rfl
        · exact keepOK_of hk hn rfl
        apply WPA.region
        · apply Trace.pu [] (.move (.plain rfl))
          apply Trace.pu [] (.arith (.plain rfl) (.plain rfl) rfl (fun _ => bd64 (by omega)))
          apply Trace.pu [] (.assign (.plain rfl))
          exact .nil _
        · exact keepOK_of hk hn rfl
        refine ⟨(swapL d j, j), ⟨by rw [swapL_len]; exact hdl, hdh.sub (fun r hr => swapL_mem (by omega) hr), by show j ≤ i + 1; omega, hsw.trans hsk⟩, by show j < j + 1; omega, ?_⟩
        exact (St.le_cons rfl (St.le_cons rfl (St.le_cons rfl (St.le_cons rfl (St.le_cons rfl (St.le_cons (slI (by show ((j + 1 : Nat) : Int) - 1 = (j : Nat); omega)) (St.le_cons (app_ds (by simp only [swapL, dsC, List.map_set]; rfl)) (St.le_nil _))))))))
      · have hneg : ¬ hd (d.getD (j + 1) []) - hd (d.getD j []) < 0 := of_decide_eq_false hc3
        have hfin : insTo c (i + 1) = d := hsk.symm.trans (if_neg hneg)
        apply WPA.exit
        apply WPA.region
        · apply Trace.pu [] (.move (.plain rfl))
          apply Trace.pu [] (.arith (.plain rfl) (.plain rfl) rfl (fun _ => bd64 (by omega)))
          apply Trace.pu [] (.assign (.plain rfl))
          exact .nil _
        · exact keepOK_of hk hn rfl
        refine ⟨i + 1, .inl (by omega), by omega, ?_⟩
        rw [hfin]
        exact (St.le_cons rfl (St.le_cons rfl (St.le_cons rfl (St.le_cons rfl (St.le_cons (slI (by omega)) (St.le_cons rfl (St.le_nil _)))))))
  · have hie : i = c.length - 1 := by
      have : ¬ ((i : Int) + 1 < m) := by simpa using hc1
      omega
    subst hie
    apply WPA.exit
    refine ⟨.inl rfl, ⟨_, (.nil), ?_⟩, blks_of (.cons rfl .nil)⟩
    rfl

end Go.Proofs.Ytglokdfdogmmhaa


/- arrange: slices.SortFunc, Clone, IndexFunc, Delete. -/
namespace Go.Proofs.Ytglokdfdogmmhaa
open Go
set_option linter.unusedVariables false
set_option linter.unusedSimpArgs false
set_option maxRecDepth 10000
set_option maxHeartbeats 1000000

theorem wr_u8 {n : Int} (h : 0 ≤ n ∧ n < 256) : IntKind.u8.wrap n = n := by
  have : IntKind.u8.wrap n = n % 256 := by simp [IntKind.wrap, IntKind.bits, IntKind.signed]
  rw [this]; omega
theorem wr_u64 {n : Int} (h : 0 ≤ n ∧ n < 18446744073709551616) : IntKind.u64.wrap n = n := by
  have : IntKind.u64.wrap n = n % 18446744073709551616 := by simp [IntKind.wrap, IntKind.bits, IntKind.signed]
  rw [this]; omega
theorem wr_i64 {n : Int} (h : -9223372036854775808 ≤ n ∧ n ≤ 9223372036854775807) : IntKind.i64.wrap n = n := by
  have : IntKind.i64.wrap n = if 9223372036854775808 ≤ n % 18446744073709551616 then n % 18446744073709551616 - 18446744073709551616 else n % 18446744073709551616 := by simp [IntKind.wrap, IntKind.bits, IntKind.signed]
  rw [this]; split <;> omega
theorem wr_byte (b : UInt8) : iv .i64 (IntKind.i64.wrap ((b.toNat : Nat) : Int)) = iv .i64 ((b.toNat : Nat) : Int) := by
  have := b.toNat_lt
  rw [wr_i64 (by omega)]
theorem bd_byte (b : UInt8) : -9223372036854775808 ≤ (0 : Int) + ((b.toNat : Nat) : Int) ∧ (0 : Int) + ((b.toNat : Nat) : Int) ≤ 9223372036854775807 := by
  have := b.toNat_lt
  omega
/-- math/bits.Len64 -/
theorem spec67 {x : Int} (hx : 0 ≤ x ∧ x ≤ 12) : ∃ r : Int, FnSpec Try.prog 67 [iv .u64 x] [] (iv .i64 r) [] [] := by
  apply Exists.intro
  refine fnSpec_of (rs := [.tmp 2]) Try.func67 rfl rfl (Nat.le_of_ble_eq_true rfl) (by simp [St.get]) fun E hk hn => ?_
  apply WPA.seq
  apply WPA.region
  · apply Trace.pu [] (.assign (.plain rfl))
    exact .nil _
  · exact keepOK_of hk hn rfl
  apply WPA.seq
  apply WPA.seq
  apply WPA.region
  · apply Trace.pu [] (.move (.plain rfl))
    apply Trace.pu [] (.cmp (.plain rfl) (.plain rfl) rfl)
    exact .nil _
  · exact keepOK_of hk hn rfl
  refine WPA.cond rfl (fun hc1 => ?_) (fun hc1 => ?_)
  · exact absurd (of_decide_eq_true hc1) (by omega)
  · apply WPA.skip
    apply WPA.seq
    apply WPA.seq
    apply WPA.region
    · apply Trace.pu [] (.move (.plain rfl))
      apply Trace.pu [] (.cmp (.plain rfl) (.plain rfl) rfl)
      exact .nil _
    · exact keepOK_of hk hn rfl
    refine WPA.cond rfl (fun hc2 => ?_) (fun hc2 => ?_)
    · exact absurd (of_decide_eq_true hc2) (by omega)
    · apply WPA.skip
      apply WPA.seq
      apply WPA.seq
      apply WPA.region
      · apply Trace.pu [] (.move (.plain rfl))
        apply Trace.pu [] (.cmp (.plain rfl) (.plain rfl) rfl)
        exact .nil _
      · exact keepOK_of hk hn rfl
      refine WPA.cond rfl (fun hc3 => ?_) (fun hc3 => ?_)
      · exact absurd (of_decide_eq_true hc3) (by omega)
      · apply WPA.skip
        apply WPA.seq
        apply WPA.region
        · apply Trace.pu [] (.move (.plain rfl))
          apply Trace.pu [] (.move (.plain rfl))
          apply Trace.pu [] ((Pure.conv Try.underlying92 Try.underlying5 (.plain rfl)).to (y := iv .u8 x) (by rw [wr_u8 (by omega)]))
          apply Trace.pu [] (.indexStr Try.underlying9 (.plain rfl) (.plain rfl) (fun _ => ⟨by omega, by show x.toNat < 256; omega⟩))
          apply Trace.pu [] ((Pure.conv Try.underlying5 Try.underlying3 (.plain rfl)).to (wr_byte _))
          apply Trace.pu [] (.arith (.plain rfl) (.plain rfl) rfl (fun _ => bd64 (bd_byte _)))
          apply Trace.pu [] (.assign (.plain rfl))
          exact .nil _
        · exact keepOK_of hk hn rfl
        apply WPA.ret
        refine ⟨.inr rfl, ⟨_, (.cons (.tmp rfl) .nil), ?_⟩, by simp [St.get]⟩
        rfl

/-- math/bits.Len -/
theorem spec53 {x : Int} (hx : 0 ≤ x ∧ x ≤ 12) : ∃ r : Int, FnSpec Try.prog 53 [iv .u64 x] [] (iv .i64 r) [] [] := by
  apply Exists.intro
  refine fnSpec_of (rs := [.tmp 2]) Try.func53 rfl rfl (Nat.le_of_ble_eq_true rfl) (by simp [St.get]) fun E hk hn => ?_
  apply WPA.seq
  apply WPA.region
  · apply Trace.pu [] (.assign (.plain rfl))
    exact .nil _
  · exact keepOK_of hk hn rfl
  apply WPA.seq
  refine WPA.cond rfl (fun hc1 => ?_) (fun hc1 => ?_)
  · cases hc1
  · apply WPA.skip
    apply WPA.seq
    apply WPA.region
    · apply Trace.pu [] (.move (.plain rfl))
      apply Trace.cu (callArgs0 (.cons (.plain rfl) .nil)) (spec67 hx).choose_spec en67
      apply Trace.pu [] (.assign (.plain rfl))
      exact .nil _
    · exact keepOK_of hk hn rfl
    apply WPA.ret
    refine ⟨.inr rfl, ⟨_, (.cons (.tmp rfl) .nil), ?_⟩, by simp [St.get]⟩
    rfl

/-- slices.pdqsortCmpFunc[[]int] -/
theorem spec56 {c : RL} {m : Nat} (hm : c.length = m) (h12 : m ≤ 12) (hh : Hds c) (q : Int) : FnSpec Try.prog 56 [.own 97 m, iv .i64 0, iv .i64 m, iv .i64 q, .fn 45 []] [(bk 97, .blk (.app 1 m [.ds (dsC c)]))] (.tup []) [(bk 97, .blk (.app 1 m [.ds (dsC (byHead c))]))] [97] := by
  refine fnSpec_of (rs := []) Try.func56 rfl rfl (Nat.le_of_ble_eq_true rfl) (odd_of rfl) fun E hk hn => ?_
  apply WPA.seq
  apply WPA.region
  · apply Trace.pu [] (.assign (.plain rfl))
    exact .nil _
  · exact keepOK_of hk hn rfl
  apply WPA.seq
  apply WPA.region
  · apply Trace.pu [] (.assign (.plain rfl))
    exact .nil _
  · exact keepOK_of hk hn rfl
  apply WPA.block
  refine WPA.loop (σ := Nat) (fun _ => [(sl 0, .av (.own 97 m)), (sl 1, .av (iv .i64 (0))), (sl 2, .av (iv .i64 (m))), (sl 3, .av (iv .i64 (q))), (sl 4, .av (.fn 45 [])), (bk 97, .blk (.app 1 m [.ds (dsC (c))]))]) (fun _ => True) (fun i => i) 0
    (St.le_cons rfl (St.le_cons rfl (St.le_cons rfl (St.le_cons rfl (St.le_cons rfl (St.le_cons rfl (St.le_nil _))))))) trivial fun i hi => ?_
  apply WPA.block
  apply WPA.seq
  apply WPA.region
  · apply Trace.pu [] (.move (.plain rfl))
    apply Trace.pu [] (.move (.plain rfl))
    apply Trace.pu [] (.arith (.plain rfl) (.plain rfl) rfl (fun _ => bd64 (by omega)))
    apply Trace.pu [] (.assign (.plain rfl))
    exact .nil _
  · exact keepOK_of hk hn rfl
  apply WPA.seq
  apply WPA.seq
  apply WPA.region
  · apply Trace.pu [] (.move (.plain rfl))
    apply Trace.pu [] (.cmp (.plain rfl) (.plain rfl) rfl)
    exact .nil _
  · exact keepOK_of hk hn rfl
  refine WPA.cond rfl (fun hc1 => ?_) (fun hc1 => ?_)
  · apply WPA.seq
    apply WPA.region
    · apply Trace.pu [] (.move (.plain rfl))
      apply Trace.pu [] (.move (.plain rfl))
      apply Trace.pu [] (.move (.plain rfl))
      apply Trace.pu [] (.move (.plain rfl))
      apply Trace.cb [] [bk 97] (callArgs0 (.cons (.plain rfl) (.cons (.plain rfl) (.cons (.plain rfl) (.cons (.plain rfl) .nil))))) (spec69 hm (by omega) hh) en69 (.cons rfl .nil) rfl rfl
      exact .nil _
    · exact keepOK_of hk hn rfl
    apply WPA.ret
    refine ⟨.inr rfl, ⟨_, (.nil), ?_⟩, blks_of (.cons rfl .nil)⟩
    rfl
  · exact absurd (of_decide_eq_false hc1) (by omega)

/-- slices.SortFunc[[][]int,[]int] -/
theorem spec44 {c : RL} {m : Nat} (hm : c.length = m) (h12 : m ≤ 12) (hh : Hds c) : FnSpec Try.prog 44 [.own 97 m, .fn 45 []] [(bk 97, .blk (.app 1 m [.ds (dsC c)]))] (.tup []) [(bk 97, .blk (.app 1 m [.ds (dsC (byHead c))]))] [97] := by
  refine fnSpec_of (rs := []) Try.func44 rfl rfl (Nat.le_of_ble_eq_true rfl) (odd_of rfl) fun E hk hn => ?_
  apply WPA.seq
  apply WPA.region
  · apply Trace.pu [] (.move (.plain rfl))
    apply Trace.pu [] (.len rfl Try.underlying28 (.plain rfl) rfl)
    apply Trace.pu [] (.assign (.plain rfl))
    exact .nil _
  · exact keepOK_of hk hn rfl
  apply WPA.region
  · apply Trace.pu [] (.move (.plain rfl))
    apply Trace.pu [] (.move (.plain rfl))
    apply Trace.pu [] (.move (.plain rfl))
    apply Trace.pu [] ((Pure.conv Try.underlying3 Try.underlying78 (.plain rfl)).to (y := iv .u64 (m : Nat)) (by rw [wr_u64 (by omega)]))
    apply Trace.cu (callArgs0 (.cons (.plain rfl) .nil)) (spec53 (x := (m : Nat)) (by omega)).choose_spec en53
    apply Trace.pu [] (.move (.plain rfl))
    apply Trace.cb [] [bk 97] (callArgs0 (.cons (.plain rfl) (.cons (.plain rfl) (.cons (.plain rfl) (.cons (.plain rfl) (.cons (.plain rfl) .nil)))))) (spec56 hm h12 hh _) en56 (.cons rfl .nil) rfl rfl
    exact .nil _
  · exact keepOK_of hk hn rfl
  refine ⟨.inl rfl, ⟨_, (.nil), ?_⟩, blks_of (.cons rfl .nil)⟩
  rfl

end Go.Proofs.Ytglokdfdogmmhaa


/- arrange: slices.Clone, IndexFunc, Delete. -/
namespace Go.Proofs.Ytglokdfdogmmhaa
open Go
set_option linter.unusedVariables false
set_option linter.unusedSimpArgs false
set_option maxRecDepth 10000
set_option maxHeartbeats 1000000

/-- A part that may be asked for: its first node has a part of a number below k. -/
structure Fit (part : List Int) (n k : Nat) (r : List Int) : Prop where
  ne : 0 < r.length
  lo : 0 ≤ hd r
  hi : (hd r).toNat < n
  plo : 0 ≤ part.getD (hd r).toNat 0
  phi : (part.getD (hd r).toNat 0).toNat < k
theorem eras_map (c : RL) (i : Nat) : (dsC c).eraseIdx i = dsC (c.eraseIdx i) := by
  apply List.ext_getElem?
  intro j
  simp only [dsC, List.getElem?_eraseIdx, List.getElem?_map]
  split <;> rfl
theorem dsC_ones (c : RL) : ∀ c' ∈ [Col.ds (dsC c)], c'.oneB = true := fun c' h => by
  rw [List.mem_singleton.1 h]
  simp only [Col.oneB, dsC, List.all_map, List.all_eq_true]
  intro r hr; rfl
abbrev CsW (n k : Nat) (part w : List Int) : St := [(bk 9, .blk (.cells [.own 98 k])), (bk 98, .blk (.app 1 k [.ints .i64 w])), (bk 4, .blk (.cells [.own 54 n])), (bk 54, .blk (.app 1 n [.ints .i64 part]))]
/-- soundpost/order.arrange$2 -/
theorem spec47 {n k : Nat} {part w r : List Int} (hf : Fit part n k r) : FnSpec Try.prog 47 [.d (rowD r), .loc 9 0, .loc 4 0] (CsW n k part w) (bv (isFree part w r)) (CsW n k part w) [9, 98, 4, 54] := by
  obtain ⟨h1, h2, h3, h4, h5⟩ := hf
  refine fnSpec_of (rs := [.tmp 4]) Try.func47 rfl rfl (Nat.le_of_ble_eq_true rfl) (odd_of rfl) fun E hk hn => ?_
  apply WPA.seq
  apply WPA.region
  · apply Trace.pu [] (.assign (.plain rfl))
    exact .nil _
  · exact keepOK_of hk hn rfl
  apply WPA.seq
  apply WPA.draw mixed
  · first | apply Trace.pu [_] (.loadLoc1D ty22 (.plain rfl) rfl rfl) | apply Trace.pu [_] (.loadLoc1 ty22 (.plain rfl) rfl rfl) | apply Trace.pu [] (.loadRp1 ty22 (.plain rfl) rfl) | apply Trace.pu [_] (.loadCol1 ty22 (.plain rfl) rfl rfl rfl (fun _ => by omega))
    first | apply Trace.pu [_] (.loadLoc1D ty22 (.plain rfl) rfl rfl) | apply Trace.pu [_] (.loadLoc1 ty22 (.plain rfl) rfl rfl) | apply Trace.pu [] (.loadRp1 ty22 (.plain rfl) rfl) | apply Trace.pu [_] (.loadCol1 ty22 (.plain rfl) rfl rfl rfl (fun _ => by omega))
    apply Trace.pu [] (.move (.plain rfl))
    first | apply Trace.pu [] (.indexRows el22 (.plain rfl) (.plain rfl) (fun _ => ⟨by omega, by omega⟩)) | apply Trace.pu [] (.indexOwn el22 (.plain rfl) (.plain rfl) (fun _ => ⟨by omega, by omega⟩)) | apply Trace.pu [] (.indexSl el22 (.plain rfl) (.plain rfl) (fun _ => ⟨by omega, by omega⟩))
    apply Trace.pu [] ((Pure.loadRp1 ty3 (.plain rfl) rfl).to (y := iv .i64 (hd r)) rfl)
    first | apply Trace.pu [] (.indexRows el22 (.plain rfl) (.plain rfl) (fun _ => ⟨by omega, by omega⟩)) | apply Trace.pu [] (.indexOwn el22 (.plain rfl) (.plain rfl) (fun _ => ⟨by omega, by omega⟩)) | apply Trace.pu [] (.indexSl el22 (.plain rfl) (.plain rfl) (fun _ => ⟨by omega, by omega⟩))
    apply Trace.pu [54] ((Pure.loadCol1 ty3 (.plain rfl) rfl rfl rfl (fun _ => by omega)).to (y := iv .i64 (part.getD (hd r).toNat 0)) rfl)
    first | apply Trace.pu [] (.indexRows el22 (.plain rfl) (.plain rfl) (fun _ => ⟨by omega, by omega⟩)) | apply Trace.pu [] (.indexOwn el22 (.plain rfl) (.plain rfl) (fun _ => ⟨by omega, by omega⟩)) | apply Trace.pu [] (.indexSl el22 (.plain rfl) (.plain rfl) (fun _ => ⟨by omega, by omega⟩))
    first | apply Trace.pu [_] (.loadLoc1D ty3 (.plain rfl) rfl rfl) | apply Trace.pu [_] (.loadLoc1 ty3 (.plain rfl) rfl rfl) | apply Trace.pu [] (.loadRp1 ty3 (.plain rfl) rfl) | apply Trace.pu [_] (.loadCol1 ty3 (.plain rfl) rfl rfl rfl (fun _ => by omega))
    apply Trace.pu [] (.cmp (.plain rfl) (.plain rfl) rfl)
    apply Trace.pu [] (.assign (.plain rfl))
    exact .nil _
  · rfl
  · exact keepOK_of hk hn rfl
  apply WPA.ret
  refine ⟨.inr rfl, ⟨_, (.cons (.tmp rfl) .nil), ?_⟩, blks_of (.cons rfl (.cons rfl (.cons rfl (.cons rfl (.nil)))))⟩
  rfl

/-- slices.IndexFunc[[][]int,[]int] -/
theorem spec46 {n k m ix : Nat} {part w : List Int} {c : RL} (hm : c.length = m) (hmb : m ≤ 1048576) (hf : ∀ r ∈ c, Fit part n k r) (hx : firstFree part w c = some ix) : FnSpec Try.prog 46 [.own 97 m, .fn 47 [.loc 9 0, .loc 4 0]] ((bk 97, .blk (.app 1 m [.ds (dsC c)])) :: CsW n k part w) (iv .i64 (ix : Nat)) ((bk 97, .blk (.app 1 m [.ds (dsC c)])) :: CsW n k part w) [97, 9, 98, 4, 54] := by
  obtain ⟨hx1, hx2, hx3⟩ := firstFree_some part w hx
  refine fnSpec_of (rs := [.tmp 4]) Try.func46 rfl rfl (Nat.le_of_ble_eq_true rfl) (odd_of rfl) fun E hk hn => ?_
  apply WPA.seq
  apply WPA.region
  · apply Trace.pu [] (.assign (.plain rfl))
    exact .nil _
  · exact keepOK_of hk hn rfl
  apply WPA.seq
  apply WPA.seq
  apply WPA.region
  · apply Trace.pu [] (.move (.plain rfl))
    apply Trace.pu [] (.len rfl Try.underlying28 (.plain rfl) rfl)
    apply Trace.pu [] (.move (.plain rfl))
    exact .nil _
  · exact keepOK_of hk hn rfl
  apply WPA.block
  refine WPA.loop (σ := Nat) (fun i => [(sl 0, .av (.own 97 m)), (sl 1, .av (.fn 47 [.loc 9 0, .loc 4 0])), (sl 7, .av (iv .i64 (m))), (sl 8, .av (iv .i64 (i))), (bk 97, .blk (.app 1 m [.ds (dsC (c))])), (bk 9, .blk (.cells [.own 98 k])), (bk 98, .blk (.app 1 k [.ints .i64 w])), (bk 4, .blk (.cells [.own 54 n])), (bk 54, .blk (.app 1 n [.ints .i64 part]))]) (fun i => i ≤ ix) (fun i => ix - i) 0
    (St.le_cons rfl (St.le_cons rfl (St.le_cons rfl (St.le_cons rfl (St.le_cons rfl (St.le_cons rfl (St.le_cons rfl (St.le_cons rfl (St.le_cons rfl (St.le_nil _)))))))))) (Nat.zero_le _) fun i hi => ?_
  apply WPA.seq
  apply WPA.region
  · apply Trace.pu [] (.cmp (.plain rfl) (.plain rfl) rfl)
    exact .nil _
  · exact keepOK_of hk hn rfl
  apply WPA.seq
  refine WPA.cond rfl (fun hc1 => ?_) (fun hc1 => ?_)
  · have hlt : i < m := by simpa using hc1
    have hfi := hf _ (getD_in [] (by omega : i < c.length))
    apply WPA.skip
    apply WPA.seq
    apply WPA.block
    apply WPA.seq
    apply WPA.region
    · apply Trace.pu [] (.move (.plain rfl))
      apply Trace.pu [] (.assign (.plain rfl))
      exact .nil _
    · exact keepOK_of hk hn rfl
    apply WPA.seq
    apply WPA.region
    · apply Trace.pu [] (.move (.plain rfl))
      apply Trace.pu [] (.move (.plain rfl))
      apply Trace.pu [] (.move (.plain rfl))
      first | apply Trace.pu [] (.indexRows el28 (.plain rfl) (.plain rfl) (fun _ => ⟨by omega, by omega⟩)) | apply Trace.pu [] (.indexOwn el28 (.plain rfl) (.plain rfl) (fun _ => ⟨by omega, by omega⟩)) | apply Trace.pu [] (.indexSl el28 (.plain rfl) (.plain rfl) (fun _ => ⟨by omega, by omega⟩))
      apply Trace.pu [97] ((Pure.loadCol1 ty22 (.plain rfl) rfl rfl rfl (fun _ => by omega)).to (y := .d (rowD (c.getD i []))) (by exact congrArg AV.d (dsC_at (by omega))))
      apply Trace.cb [] [bk 9, bk 98, bk 4, bk 54] (callArgs (.plain rfl) (.cons (.plain rfl) .nil)) (spec47 (w := w) hfi) en47 (.cons rfl (.cons rfl (.cons rfl (.cons rfl (.nil))))) rfl rfl
      exact .nil _
    · exact keepOK_of hk hn rfl
    refine WPA.cond rfl (fun hc2 => ?_) (fun hc2 => ?_)
    · have hie : i = ix := by
        by_cases h9 : i < ix
        · have h8 := hx3 i h9
          rw [h8] at hc2; cases hc2
        · omega
      subst hie
      apply WPA.seq
      apply WPA.region
      · apply Trace.pu [] (.move (.plain rfl))
        apply Trace.pu [] (.assign (.plain rfl))
        exact .nil _
      · exact keepOK_of hk hn rfl
      apply WPA.ret
      refine ⟨.inr rfl, ⟨_, (.cons (.tmp rfl) .nil), ?_⟩, blks_of (.cons rfl (.cons rfl (.cons rfl (.cons rfl (.cons rfl (.nil))))))⟩
      rfl
    · have hne : i ≠ ix := fun e => by
        subst e
        rw [hx2] at hc2; cases hc2
      apply WPA.skip
      apply WPA.region
      · apply Trace.pu [] (.arith (.plain rfl) (.plain rfl) rfl (fun _ => bd64 (by omega)))
        apply Trace.pu [] (.move (.plain rfl))
        exact .nil _
      · exact keepOK_of hk hn rfl
      refine ⟨i + 1, by omega, by omega, ?_⟩
      exact (St.le_cons rfl (St.le_cons rfl (St.le_cons rfl (St.le_cons (slI (by omega)) (St.le_cons rfl (St.le_cons rfl (St.le_cons rfl (St.le_cons rfl (St.le_cons rfl (St.le_nil _))))))))))
  · exact absurd (of_decide_eq_false hc1) (by omega)

/-- slices.Delete[[][]int,[]int] -/
theorem spec48 {m i : Nat} {c : RL} (hm : c.length = m) (hmb : m ≤ 1048576) (hi : i < m) : FnSpec Try.prog 48 [.own 97 m, iv .i64 (i : Nat), iv .i64 ((i : Int) + 1)] [(bk 97, .blk (.app 1 m [.ds (dsC c)]))] (.own 97 (m - 1)) [(bk 97, .blk (.app 1 (m - 1) [.ds (dsC (c.eraseIdx i))]))] [97] := by
  refine fnSpec_of (rs := [.tmp 6]) Try.func48 rfl rfl (Nat.le_of_ble_eq_true rfl) (odd_of rfl) fun E hk hn => ?_
  apply WPA.seq
  apply WPA.region
  · apply Trace.pu [] (.assign (.plain rfl))
    exact .nil _
  · exact keepOK_of hk hn rfl
  apply WPA.seq
  apply WPA.region
  · apply Trace.pu [] (.move (.plain rfl))
    apply Trace.pu [] (.move (.plain rfl))
    apply Trace.pu [] (.move (.plain rfl))
    apply Trace.pu [] (.move (.plain rfl))
    apply Trace.pu [] (.len rfl Try.underlying28 (.plain rfl) rfl)
    apply Trace.cut3 so28 (.plain rfl) (.plain rfl) (.plain rfl) (.plain rfl) ⟨by omega, by omega, by omega, by omega⟩
    exact .nil _
  · exact keepOK_of hk hn rfl
  apply WPA.seq
  apply WPA.seq
  apply WPA.region
  · apply Trace.pu [] (.move (.plain rfl))
    apply Trace.pu [] (.move (.plain rfl))
    apply Trace.pu [] (.cmp (.plain rfl) (.plain rfl) rfl)
    exact .nil _
  · exact keepOK_of hk hn rfl
  refine WPA.cond rfl (fun hc1 => ?_) (fun hc1 => ?_)
  · exact absurd (of_decide_eq_true hc1) (by omega)
  · apply WPA.skip
    apply WPA.seq
    apply WPA.region
    · apply Trace.pu [] (.move (.plain rfl))
      apply Trace.pu [] (.len rfl Try.underlying28 (.plain rfl) rfl)
      apply Trace.pu [] (.assign (.plain rfl))
      exact .nil _
    · exact keepOK_of hk hn rfl
    apply WPA.seq
    apply WPA.draw mixed
    · apply Trace.pu [] (.move (.plain rfl))
      apply Trace.pu [] (.move (.plain rfl))
      apply Trace.pu [] (.cutPre so28 (.plain rfl) (.to _ (.plain rfl) (fun _ => by omega)) (fun _ => by omega))
      apply Trace.pu [] (.move (.plain rfl))
      apply Trace.pu [] (.move (.plain rfl))
      apply Trace.pu [] ((Pure.cutOwn so28 (.plain rfl) (.to _ (.plain rfl) (fun _ => by omega)) (.no _) (fun _ => ⟨by omega, by omega⟩)).to (y := .sl 97 1 (i + 1) (m - (i + 1))) (by rw [show ((i : Int) + 1).toNat = i + 1 by omega]))
      apply Trace.cutKeep (i := i) (len := m) ap28 kd28 (by decide) (.plain rfl) (.plain rfl) rfl hi (dsC_ones c)
      apply Trace.pu [] (.assign (.plain rfl))
      exact .nil _
    · rfl
    · exact keepOK_of hk hn rfl
    apply WPA.seq
    apply WPA.region
    · apply Trace.pu [] (.move (.plain rfl))
      apply Trace.pu [] (.move (.plain rfl))
      apply Trace.pu [] (.len rfl Try.underlying28 (.plain rfl) rfl)
      apply Trace.pu [] (.move (.plain rfl))
      apply Trace.pu [97] ((Pure.cutPast (N := m) so28 (.plain rfl) rfl (.to _ (.plain rfl) (fun _ => by omega)) (.to _ (.plain rfl) (fun _ => by omega)) (fun _ => ⟨by omega, by omega⟩)).to (y := .sl 97 1 (m - 1) 1) (by show AV.sl 97 1 (((m - 1 : Nat) : Int)).toNat (((m : Nat) : Int).toNat - (((m - 1 : Nat) : Int)).toNat) = _; rw [show (((m - 1 : Nat) : Int)).toNat = m - 1 by omega, show ((m : Nat) : Int).toNat - (m - 1) = 1 by omega]))
      apply Trace.clear1 (lo := m - 1) (len := m) Try.underlying28 zo22 (.plain rfl) rfl (by omega) rfl rfl
      exact .nil _
    · exact keepOK_of hk hn rfl
    apply WPA.seq
    apply WPA.region
    · apply Trace.pu [] (.move (.plain rfl))
      apply Trace.pu [] (.assign (.plain rfl))
      exact .nil _
    · exact keepOK_of hk hn rfl
    refine WPA.ghost (Ghost.shrink (l := 97) (len' := m - 1) (cs' := [.ds (dsC (c.eraseIdx i))]) rfl (by omega) rfl (fun c' hc' => by
      simp only [List.mem_singleton] at hc'; subst hc'
      show (List.map rowD (c.eraseIdx i)).length = m - 1
      rw [List.length_map, List.length_eraseIdx, if_pos (by omega)]; omega) (fun j c' hj => by
      cases j with
      | succ j => simp at hj
      | zero =>
        simp only [List.getElem?_cons_zero, Option.some.injEq] at hj
        subst hj
        refine ⟨_, rfl, fun k hk => ?_⟩
        show (dsC (c.eraseIdx i)).getD k _ = (((dsC c).eraseIdx i ++ (dsC c).drop ((dsC c).length - 1)).set (m - 1) _).getD k _
        have hl : (dsC c).length = m := by simp [dsC, hm]
        have hl2 : ((dsC c).eraseIdx i).length = m - 1 := by rw [List.length_eraseIdx, if_pos (by omega), hl]
        rw [← eras_map]
        simp only [List.getD_eq_getElem?_getD, List.getElem?_set, List.getElem?_append, hl2]
        rw [if_neg (by omega), if_pos hk])) ?_
    apply WPA.ret
    refine ⟨.inr rfl, ⟨_, (.cons (.tmp rfl) .nil), ?_⟩, blks_of (.cons rfl .nil)⟩
    rfl

end Go.Proofs.Ytglokdfdogmmhaa


/- arrange: slices.Clone. -/
namespace Go.Proofs.Ytglokdfdogmmhaa
open Go
set_option linter.unusedVariables false
set_option linter.unusedSimpArgs false
set_option maxRecDepth 10000
set_option maxHeartbeats 1000000

theorem Ghost.slotEmp {E : Env} {S : St} {t n cap : Nat} {a : Option Addr} {g : Nat → List D} (hs : S.get (sl t) = some (.av (.d (.v (.slice a 0 cap))))) : Ghost E S ((sl t, .av (.d (.rows n 0 g))) :: S) := by
  rintro ac w ⟨V, M, ha, hw⟩
  refine ⟨V, M, ⟨fun t' x e => ?_, ha.size, ha.defers⟩, hw.blks_only fun l B e => ?_⟩
  · rw [get_cons] at e
    by_cases h : sl t = sl t'
    · rw [if_pos h] at e
      injection e with e; injection e with e; subst e
      obtain ⟨v, hv, hd⟩ := ha.slots t _ hs
      have := sl_inj h
      subst this
      exact ⟨v, hv, den_emp V M v hd⟩
    · rw [if_neg h] at e; exact ha.slots t' x e
  · rw [get_cons, if_neg (sl_ne_bk t l)] at e; exact e
/-- slices.Clone[[][]int,[]int] -/
theorem clone_some {c : RL} (hb : c.length ≤ 1048576) (h0 : 0 < c.length) : FnSpec Try.prog 43 [.d (nextD c)] [] (.own 97 c.length) [(bk 97, .blk (.app 1 c.length [.ds (dsC c)]))] [] := by
  refine fnSpec_of (rs := [.tmp 2]) Try.func43 rfl rfl (Nat.le_of_ble_eq_true rfl) (by simp [St.get]) fun E hk hn => ?_
  apply WPA.seq
  apply WPA.region
  · apply Trace.pu [] (.assign (.plain rfl))
    exact .nil _
  · exact keepOK_of hk hn rfl
  apply WPA.seq
  apply WPA.seq
  apply WPA.region
  · apply Trace.pu [] (.move (.plain rfl))
    apply Trace.pu [] (.eqNilRows h0 Try.underlying28 (.plain rfl) (.plain rfl))
    exact .nil _
  · exact keepOK_of hk hn rfl
  refine WPA.cond rfl (fun hc1 => ?_) (fun hc1 => ?_)
  · cases hc1
  · apply WPA.skip
    apply WPA.seq
    apply WPA.region
    · apply Trace.buildSlice 5 [] so28 zo22 rfl (by decide) (by decide) (.nil _ _) rfl rfl rfl
      apply Trace.pu [] (.move (.plain rfl))
      apply Trace.append 97 [bk 5, sl 5] ap28 kd28 (by decide) (.own (.plain rfl) rfl) (.rows (cs := [.ds (dsC c)]) (.plain rfl) rfl (fun c' h => by rw [List.mem_singleton.1 h]; simp [Col.len, dsC]) (fun i hi => by show [rowD (c.getD i [])] = [Col.at (.ds (dsC c)) i]; rw [dsC_at hi])) (fun c' h => dsC_ones _ c' h) (labs_ok rfl) (by omega) (by omega) rfl rfl
      apply Trace.pu [] (.assign (.plain rfl))
      exact .nil _
    · exact keepOK_of hk hn rfl
    apply WPA.ret
    refine ⟨.inr rfl, ⟨_, (.cons (.tmp rfl) .nil), ?_⟩, blks_of (.cons (by show some (Cont.blk (.app 1 (0 + c.length) _)) = some (Cont.blk (.app 1 c.length _)); rw [Nat.zero_add]; rfl) .nil)⟩
    show AV.own 97 c.length = _; simp [resOf]

/-- slices.Clone[[][]int,[]int] -/
theorem clone_none (a : Option Addr) (cap : Nat) : FnSpec Try.prog 43 ([] ++ .d (.v (.slice a 0 cap)) :: []) [] (.own 97 0) [(bk 97, .blk (.app 1 0 [.ds []]))] [] := by
  refine fnSpec_of (rs := [.tmp 2]) Try.func43 rfl rfl (Nat.le_of_ble_eq_true rfl) (by simp [St.get]) fun E hk hn => ?_
  apply WPA.seq
  apply WPA.region
  · apply Trace.pu [] (.assign (.plain rfl))
    exact .nil _
  · exact keepOK_of hk hn rfl
  apply WPA.seq
  apply WPA.seq
  apply WPA.region
  · apply Trace.pu [] (.move (.plain rfl))
    apply Trace.pu [] (.eqNilV Try.underlying28 (.plain rfl) (.plain rfl))
    exact .nil _
  · exact keepOK_of hk hn rfl
  refine WPA.cond rfl (fun hc1 => ?_) (fun hc1 => ?_)
  · apply WPA.seq
    apply WPA.region
    · apply Trace.pu [] (.assign (.plain rfl))
      exact .nil _
    · exact keepOK_of hk hn rfl
    refine WPA.weaken (T := [(sl 2, .av nilS)]) ?_ (St.le_cons rfl (St.le_nil _))
    refine WPA.ghost (Ghost.ownNil (t := 2) (l := 97) (n := 1) (cs := [.ds []]) rfl (fun m c e hm hc => ?_) (by rw [hk]; simp) (by rw [hn]; decide) rfl (by simp [Col.len])) ?_
    · exact (nm_cons (ns := []) rfl nm_nil) m c e (by simp) hc
    apply WPA.ret
    refine ⟨.inr rfl, ⟨_, (.cons (.tmp rfl) .nil), ?_⟩, blks_of (.cons rfl .nil)⟩
    rfl
  · apply WPA.skip
    apply WPA.seq
    refine WPA.ghost (Ghost.slotEmp (t := 0) (n := 1) (g := fun i => [Col.at (.ds (dsC [])) i]) rfl) ?_
    apply WPA.region
    · apply Trace.buildSlice 5 [] so28 zo22 rfl (by decide) (by decide) (.nil _ _) rfl rfl rfl
      apply Trace.pu [] (.move (.plain rfl))
      apply Trace.append 97 [bk 5, sl 5] ap28 kd28 (by decide) (.own (.plain rfl) rfl) (.rows (cs := [.ds (dsC [])]) (.plain rfl) rfl (fun c' h => by rw [List.mem_singleton.1 h]; rfl) (fun i hi => rfl)) (fun c' h => dsC_ones _ c' h) (labs_ok rfl) (by decide) (by decide) rfl rfl
      apply Trace.pu [] (.assign (.plain rfl))
      exact .nil _
    · exact keepOK_of hk hn rfl
    apply WPA.ret
    refine ⟨.inr rfl, ⟨_, (.cons (.tmp rfl) .nil), ?_⟩, blks_of (.cons rfl .nil)⟩
    rfl

theorem spec43 {c : RL} (hb : c.length ≤ 1048576) : FnSpec Try.prog 43 [.d (nextD c)] [] (.own 97 c.length) [(bk 97, .blk (.app 1 c.length [.ds (dsC c)]))] [] := by
  cases c with
  | nil => exact FnSpec.argNil (A1 := []) (A2 := []) clone_none
  | cons r l => exact clone_some hb (by simp)

end Go.Proofs.Ytglokdfdogmmhaa


/- order.Sequence. -/
namespace Go.Proofs.Ytglokdfdogmmhaa
open Go
set_option linter.unusedVariables false
set_option linter.unusedSimpArgs false
set_option maxRecDepth 10000
set_option maxHeartbeats 1000000

theorem check_ok2 {g : Gr} (h : g.check = 0) : g.OK := by
  unfold Gr.check at h
  split at h
  · omega
  · exact Gr.ok_of h
def Gr.seqE (g : Gr) (dl : List Int) : List Int × Int := if g.check ≠ 0 then ([], g.check) else if g.dlBad dl = true then ([], 1) else match g.seqO dl with
  | some l => (l, 0)
  | none => ([], 211)
theorem seqE_bad {g : Gr} {dl : List Int} (h : g.check ≠ 0) : g.seqE dl = ([], g.check) := if_pos h
theorem seqE_arg {g : Gr} {dl : List Int} (h : g.check = 0) (hd : g.dlBad dl = true) : g.seqE dl = ([], 1) := by unfold Gr.seqE; rw [if_neg (fun e => e h), if_pos hd]
theorem seqE_loop {g : Gr} {dl : List Int} (h : g.check = 0) (hd : g.dlBad dl = false) {i : Nat} (hi : i < g.lat.length) {s : DS} (hs : g.seqTo dl i = some s) (hf : g.firstS dl s.1 = none) : g.seqE dl = ([], 211) := by
  have h1 : g.seqTo dl (i + 1) = none := by rw [seqTo_step hs, hf]; rfl
  have h2 := seqTo_none h1 (g.lat.length - (i + 1))
  rw [show i + 1 + (g.lat.length - (i + 1)) = g.lat.length from by omega] at h2
  unfold Gr.seqE
  rw [if_neg (fun e => e h), if_neg (by rw [hd]; decide)]
  have : g.seqO dl = none := by unfold Gr.seqO; rw [h2]; rfl
  rw [this]
theorem seqE_ok {g : Gr} {dl : List Int} (h : g.check = 0) (hd : g.dlBad dl = false) {s : DS} (hs : g.seqTo dl g.lat.length = some s) : g.seqE dl = (s.2, 0) := by
  unfold Gr.seqE
  rw [if_neg (fun e => e h), if_neg (by rw [hd]; decide)]
  have : g.seqO dl = some s.2 := by unfold Gr.seqO; rw [hs]; rfl
  rw [this]

/-- The first element that fits. -/
def idxF (p : Int → Bool) (l : List Int) : Int := if l.any p = true then (l.findIdx p : Int) else -1
theorem idxF_ge (p : Int → Bool) (l : List Int) : decide (0 ≤ idxF p l) = l.any p := by
  unfold idxF
  split
  · rename_i h; rw [h]; exact decide_eq_true (by omega)
  · rename_i h; rw [decide_eq_false (by omega)]; simpa using h
theorem idxF_hit {p : Int → Bool} {l : List Int} {i : Nat} (hi : i < l.length) (h : p (l.getD i 0) = true) (hb : ∀ j, j < i → p (l.getD j 0) = false) : idxF p l = (i : Int) := by
  rw [getD_lt _ _ hi] at h
  have ha : l.any p = true := List.any_eq_true.2 ⟨_, List.getElem_mem hi, h⟩
  unfold idxF
  rw [if_pos ha]
  have : l.findIdx p = i := (List.findIdx_eq hi).2 ⟨h, fun j hj => by have := hb j hj; rwa [getD_lt _ _ (by omega)] at this⟩
  rw [this]
theorem idxF_miss {p : Int → Bool} {l : List Int} (hb : ∀ j, j < l.length → p (l.getD j 0) = false) : idxF p l = -1 := by
  have ha : l.any p = false := List.any_eq_false.2 fun x hx => by
    obtain ⟨j, hj, rfl⟩ := List.mem_iff_getElem.1 hx
    have := hb j hj
    rw [getD_lt _ _ hj] at this
    simp [this]
  unfold idxF
  rw [if_neg (by rw [ha]; decide)]
theorem bif_or' (a b : Bool) : (bif a then true else b) = (a || b) := by cases a <;> rfl
theorem bif_and' (a b : Bool) : (bif a then b else false) = (a && b) := by cases a <;> rfl
theorem jumpQ_or {Q : Exit → St → Prop} {S : St} {id : Nat} {c : Prop} [Decidable c] (h : Q .normal S) (he : Q .normal S → Q (.exit id) S) : jumpQ Q S (if c then some (.exit id) else none) := by
  split
  · exact he h
  · exact h
/-- What the loop over the nodes that are ready holds. -/
abbrev CsR (x : Int) : St := [(bk 7, .blk (.data [.v (.int .i64 x)]))]
abbrev tsR : List (Nat × AV) := [(7, .loc 7 0)]
abbrev lhR (ac bo : Code) : LH := ⟨.ready, none, #[36], ac, bo, 49⟩
def firI : Option Nat → Int
  | some v => v
  | none => -1
abbrev peR (f : Option Nat) : Option Code := if f.isSome = true then some (.exit 2) else none
theorem blkE_eq {g : Gr} {dl : List Int} {pl : List Bool} {v i : Nat} {e : Edg} (he : g.es.getD i default = e) : g.blkE dl pl v i = (bif (bif decide (e.t = (v : Int)) then decide (dl.getD i 0 = 0) else false) then !seen pl e.f.toNat else false) := by
  unfold Gr.blkE
  rw [he, bif_and', bif_and', Bool.and_assoc]
/-- slices.IndexFunc[[]int,int] -/
theorem spec49 {p : Int → Bool} {F : FuncId} (hF : ∀ x, FnSpec Try.prog F [iv .i64 x] [] (bv (p x)) [] []) (he : enterOK Try.prog F = true) (l : List Int) (hl : l.length ≤ 4611686018427387904) : FnSpec Try.prog 49 [.d (intsD l), .fn F []] [] (iv .i64 (idxF p l)) [] [] := by
  refine fnSpec_of (rs := [.tmp 4]) Try.func49 rfl rfl (Nat.le_of_ble_eq_true rfl) (by simp [St.get]) fun E hk hn => ?_
  apply WPA.seq
  apply WPA.region
  · apply Trace.pu [] (.assign (.plain rfl))
    exact .nil _
  · exact keepOK_of hk hn rfl
  apply WPA.seq
  apply WPA.seq
  apply WPA.region
  · apply Trace.pu [] (.move (.plain rfl))
    apply Trace.pu [] (.len rfl Try.underlying22 (.plain rfl) rfl)
    apply Trace.pu [] (.move (.plain rfl))
    exact .nil _
  · exact keepOK_of hk hn rfl
  apply WPA.block
  refine WPA.loop (σ := Nat) (fun i => [(sl 0, .av (.d (intsD l))), (sl 1, .av (.fn F [])), (sl 7, .av (iv .i64 (l.length))), (sl 8, .av (iv .i64 (i)))]) (fun i => i ≤ l.length ∧ ∀ j, j < i → p (l.getD j 0) = false) (fun i => l.length - i) 0
    (St.le_cons rfl (St.le_cons rfl (St.le_cons rfl (St.le_cons rfl (St.le_nil _))))) ⟨Nat.zero_le _, fun j h => by omega⟩ fun i hi => ?_
  apply WPA.seq
  apply WPA.region
  · apply Trace.pu [] (.cmp (.plain rfl) (.plain rfl) rfl)
    exact .nil _
  · exact keepOK_of hk hn rfl
  apply WPA.seq
  refine WPA.cond rfl (fun hc1 => ?_) (fun hc1 => ?_)
  · have hlt : i < l.length := by simpa using hc1
    apply WPA.skip
    apply WPA.seq
    apply WPA.block
    apply WPA.seq
    apply WPA.region
    · apply Trace.pu [] (.move (.plain rfl))
      apply Trace.pu [] (.assign (.plain rfl))
      exact .nil _
    · exact keepOK_of hk hn rfl
    apply WPA.seq
    apply WPA.region
    · apply Trace.pu [] (.move (.plain rfl))
      apply Trace.pu [] (.move (.plain rfl))
      apply Trace.pu [] (.move (.plain rfl))
      first | apply Trace.pu [] (.indexRows el22 (.plain rfl) (.plain rfl) (fun _ => ⟨by omega, by omega⟩)) | apply Trace.pu [] (.indexOwn el22 (.plain rfl) (.plain rfl) (fun _ => ⟨by omega, by omega⟩)) | apply Trace.pu [] (.indexSl el22 (.plain rfl) (.plain rfl) (fun _ => ⟨by omega, by omega⟩))
      first | apply Trace.pu [_] (.loadLoc1D ty3 (.plain rfl) rfl rfl) | apply Trace.pu [_] (.loadLoc1 ty3 (.plain rfl) rfl rfl) | apply Trace.pu [] (.loadRp1 ty3 (.plain rfl) rfl) | apply Trace.pu [_] (.loadCol1 ty3 (.plain rfl) rfl rfl rfl (fun _ => by omega))
      apply Trace.cu (callArgs (.plain rfl) (.cons (.plain rfl) .nil)) (hF _) he
      exact .nil _
    · exact keepOK_of hk hn rfl
    refine WPA.cond rfl (fun hc2 => ?_) (fun hc2 => ?_)
    · apply WPA.seq
      apply WPA.region
      · apply Trace.pu [] (.move (.plain rfl))
        apply Trace.pu [] (.assign (.plain rfl))
        exact .nil _
      · exact keepOK_of hk hn rfl
      apply WPA.ret
      refine ⟨.inr rfl, ⟨_, (.cons (.tmp rfl) .nil), ?_⟩, by simp [St.get]⟩
      rw [idxF_hit hlt hc2 hi.2]; rfl
    · apply WPA.skip
      apply WPA.region
      · apply Trace.pu [] (.arith (.plain rfl) (.plain rfl) rfl (fun _ => bd64 (by omega)))
        apply Trace.pu [] (.move (.plain rfl))
        exact .nil _
      · exact keepOK_of hk hn rfl
      exact ⟨i + 1, ⟨by omega, fun j h => by
        by_cases hj : j = i
        · rw [hj]; exact hc2
        · exact hi.2 j (by omega)⟩, by omega, St.le_cons rfl (St.le_cons rfl (St.le_cons rfl (St.le_cons (slI (by omega)) (St.le_nil _))))⟩
  · apply WPA.exit
    apply WPA.seq
    apply WPA.region
    · apply Trace.pu [] (.assign (.plain rfl))
      exact .nil _
    · exact keepOK_of hk hn rfl
    apply WPA.ret
    refine ⟨.inr rfl, ⟨_, (.cons (.tmp rfl) .nil), ?_⟩, by simp [St.get]⟩
    rw [idxF_miss fun j hj => hi.2 j (by
      have : ¬ ((i : Int) < l.length) := by simpa using hc1
      omega)]
    rfl

/-- slices.ContainsFunc[[]int,int] -/
theorem spec32 {p : Int → Bool} {F : FuncId} (hF : ∀ x, FnSpec Try.prog F [iv .i64 x] [] (bv (p x)) [] []) (he : enterOK Try.prog F = true) (l : List Int) (hl : l.length ≤ 4611686018427387904) : FnSpec Try.prog 32 [.d (intsD l), .fn F []] [] (bv (l.any p)) [] [] := by
  refine fnSpec_of (rs := [.tmp 4]) Try.func32 rfl rfl (Nat.le_of_ble_eq_true rfl) (by simp [St.get]) fun E hk hn => ?_
  apply WPA.seq
  apply WPA.region
  · apply Trace.pu [] (.assign (.plain rfl))
    exact .nil _
  · exact keepOK_of hk hn rfl
  apply WPA.seq
  apply WPA.region
  · apply Trace.pu [] (.move (.plain rfl))
    apply Trace.pu [] (.move (.plain rfl))
    apply Trace.cu (callArgs0 (.cons (.plain rfl) (.cons (.plain rfl) .nil))) (spec49 hF he l hl) en49
    apply Trace.pu [] (.cmp (.plain rfl) (.plain rfl) rfl)
    apply Trace.pu [] (.assign (.plain rfl))
    exact .nil _
  · exact keepOK_of hk hn rfl
  apply WPA.ret
  refine ⟨.inr rfl, ⟨_, (.cons (.tmp rfl) .nil), ?_⟩, by simp [St.get]⟩
  rw [← idxF_ge]; rfl

/-- soundpost/order.Sequence$1 -/
theorem spec33 (x : Int) : FnSpec Try.prog 33 [iv .i64 x] [] (bv (decide (x < 0))) [] [] := by
  refine fnSpec_of (rs := [.tmp 2]) Try.func33 rfl rfl (Nat.le_of_ble_eq_true rfl) (by simp [St.get]) fun E hk hn => ?_
  apply WPA.seq
  apply WPA.region
  · apply Trace.pu [] (.assign (.plain rfl))
    exact .nil _
  · exact keepOK_of hk hn rfl
  apply WPA.seq
  apply WPA.region
  · apply Trace.pu [] (.move (.plain rfl))
    apply Trace.pu [] (.cmp (.plain rfl) (.plain rfl) rfl)
    apply Trace.pu [] (.assign (.plain rfl))
    exact .nil _
  · exact keepOK_of hk hn rfl
  apply WPA.ret
  refine ⟨.inr rfl, ⟨_, (.cons (.tmp rfl) .nil), ?_⟩, by simp [St.get]⟩
  rfl

/-- soundpost/order.ready -/
theorem spec34 (g : Gr) (dl : List Int) (pl : List Bool) : FnSpec Try.prog 34 [g.av, .d (intsD dl), .own 27 g.lat.length] [(bk 27, .blk (.app 1 g.lat.length [.bools pl]))] (.fn 50 [.loc 62 0, .loc 60 0, .loc 61 0]) [(bk 62, .blk (.cells [.own 27 g.lat.length])), (bk 60, .blk (.data g.ds)), (bk 61, .blk (.data [intsD dl])), (bk 27, .blk (.app 1 g.lat.length [.bools pl]))] [27] := by
  refine fnSpec_of (rs := [.tmp 6]) Try.func34 rfl rfl (Nat.le_of_ble_eq_true rfl) (odd_of rfl) fun E hk hn => ?_
  apply WPA.seq
  apply WPA.region
  · apply Trace.boxD 60 [] (.plain rfl) rfl rfl
    apply Trace.boxD 61 [] (.plain rfl) rfl rfl
    apply Trace.box 62 [] (.plain rfl) rfl rfl rfl
    apply Trace.pu [] (.assign (.plain rfl))
    exact .nil _
  · exact keepOK_of hk hn rfl
  apply WPA.seq
  apply WPA.region
  · apply Trace.pu [] (.funcL (.cons (.plain rfl) (.cons (.plain rfl) (.cons (.plain rfl) .nil))))
    apply Trace.pu [] (.assign (.plain rfl))
    exact .nil _
  · exact keepOK_of hk hn rfl
  apply WPA.ret
  refine ⟨.inr rfl, ⟨_, (.cons (.tmp rfl) .nil), ?_⟩, blks_of (.cons rfl (.cons rfl (.cons rfl (.cons rfl (.nil)))))⟩
  rfl

/-- soundpost/order.ready$1 -/
theorem itR {g : Gr} (h : g.OK) {dl : List Int} (hdl : dl.length = g.es.length) {pl : List Bool} (hpl : pl.length = g.lat.length) {ac bo : Code} (hY : ∀ v, g.firstS dl pl = some v → YSpec Try.prog 70 [iv .i64 (v : Nat)] ((bk 70, .blk (.lp (lhR ac bo) tsR)) :: CsR (-1)) (bv false) ((bk 70, .blk (.lp ((lhR ac bo).out (some (.exit 2))) tsR)) :: CsR (v : Nat)) [70, 7]) : FnSpec Try.prog 50 [.yld 70, .loc 62 0, .loc 60 0, .loc 61 0] ((bk 70, .blk (.lp (lhR ac bo) tsR)) :: (bk 62, .blk (.cells [.own 27 g.lat.length])) :: (bk 60, .blk (.data g.ds)) :: (bk 61, .blk (.data [intsD dl])) :: (bk 27, .blk (.app 1 g.lat.length [.bools pl])) :: CsR (-1)) (.tup []) ((bk 70, .blk (.lp ((lhR ac bo).out (peR (g.firstS dl pl))) tsR)) :: (bk 62, .blk (.cells [.own 27 g.lat.length])) :: (bk 60, .blk (.data g.ds)) :: (bk 61, .blk (.data [intsD dl])) :: (bk 27, .blk (.app 1 g.lat.length [.bools pl])) :: CsR (firI (g.firstS dl pl))) [70, 62, 60, 61, 27, 7] := by
  have hn1 := h.n
  have hn2 := h.m
  refine fnSpec_of (rs := []) Try.func50 rfl rfl (Nat.le_of_ble_eq_true rfl) (odd_of rfl) fun E hk hn => ?_
  apply WPA.scope
  apply WPA.seq
  apply WPA.label
  apply WPA.seq
  apply WPA.region
  · first | apply Trace.pu [_] (.loadLoc1D ty45 (.plain rfl) rfl rfl) | apply Trace.pu [_] (.loadLoc1 ty45 (.plain rfl) rfl rfl) | apply Trace.pu [] (.loadRp1 ty45 (.plain rfl) rfl) | apply Trace.pu [_] (.loadCol1 ty45 (.plain rfl) rfl rfl rfl (fun _ => by omega))
    apply Trace.pu [] (.len rfl Try.underlying45 (.plain rfl) rfl)
    apply Trace.pu [] (.move (.plain rfl))
    exact .nil _
  · exact keepOK_of hk hn rfl
  apply WPA.block
  refine WPA.loop (σ := Nat) (fun i => [(sl 0, .av (.yld 70)), (sl 1, .av (.loc 62 0)), (sl 2, .av (.loc 60 0)), (sl 3, .av (.loc 61 0)), (sl 9, .av (iv .i64 (g.lat.length))), (sl 10, .av (iv .i64 (i))), (bk 70, .blk (.lp (lhR ac bo) tsR)), (bk 62, .blk (.cells [.own 27 g.lat.length])), (bk 60, .blk (.data g.ds)), (bk 61, .blk (.data [intsD dl])), (bk 27, .blk (.app 1 g.lat.length [.bools pl])), (bk 7, .blk (.data [.v (.int .i64 (-1))]))]) (fun i => i ≤ g.lat.length ∧ ∀ w, w < i → g.rdy dl pl w = false) (fun i => g.lat.length - i) 0
    (St.le_cons rfl (St.le_cons rfl (St.le_cons rfl (St.le_cons rfl (St.le_cons rfl (St.le_cons rfl (St.le_cons rfl (St.le_cons rfl (St.le_cons rfl (St.le_cons rfl (St.le_cons rfl (St.le_cons rfl (St.le_nil _))))))))))))) ⟨Nat.zero_le _, fun w hw => by omega⟩ fun v hv => ?_
  apply WPA.seq
  apply WPA.region
  · apply Trace.pu [] (.cmp (.plain rfl) (.plain rfl) rfl)
    exact .nil _
  · exact keepOK_of hk hn rfl
  apply WPA.seq
  refine WPA.cond rfl (fun hc1 => ?_) (fun hc1 => ?_)
  · have hlt : v < g.lat.length := by simpa using hc1
    apply WPA.skip
    apply WPA.seq
    apply WPA.block
    apply WPA.seq
    apply WPA.region
    · apply Trace.pu [] (.move (.plain rfl))
      apply Trace.pu [] (.assign (.plain rfl))
      exact .nil _
    · exact keepOK_of hk hn rfl
    apply WPA.seq
    apply WPA.seq
    apply WPA.region
    · first | apply Trace.pu [_] (.loadLoc1D ty45 (.plain rfl) rfl rfl) | apply Trace.pu [_] (.loadLoc1 ty45 (.plain rfl) rfl rfl) | apply Trace.pu [] (.loadRp1 ty45 (.plain rfl) rfl) | apply Trace.pu [_] (.loadCol1 ty45 (.plain rfl) rfl rfl rfl (fun _ => by omega))
      apply Trace.pu [] (.move (.plain rfl))
      first | apply Trace.pu [] (.indexRows el45 (.plain rfl) (.plain rfl) (fun _ => ⟨by omega, by omega⟩)) | apply Trace.pu [] (.indexOwn el45 (.plain rfl) (.plain rfl) (fun _ => ⟨by omega, by omega⟩)) | apply Trace.pu [] (.indexSl el45 (.plain rfl) (.plain rfl) (fun _ => ⟨by omega, by omega⟩))
      first | apply Trace.pu [_] (.loadLoc1D ty4 (.plain rfl) rfl rfl) | apply Trace.pu [_] (.loadLoc1 ty4 (.plain rfl) rfl rfl) | apply Trace.pu [] (.loadRp1 ty4 (.plain rfl) rfl) | apply Trace.pu [_] (.loadCol1 ty4 (.plain rfl) rfl rfl rfl (fun _ => by omega))
      exact .nil _
    · exact keepOK_of hk hn rfl
    refine WPA.cond rfl (fun hc2 => ?_) (fun hc2 => ?_)
    · have hrd : g.rdy dl pl v = false := by
        have h9 : seen pl v = true := by simpa [seen] using hc2
        unfold Gr.rdy; rw [h9]; rfl
      apply WPA.exit
      apply WPA.region
      · apply Trace.pu [] (.arith (.plain rfl) (.plain rfl) rfl (fun _ => bd64 (by omega)))
        apply Trace.pu [] (.move (.plain rfl))
        exact .nil _
      · exact keepOK_of hk hn rfl
      refine ⟨v + 1, ⟨by omega, fun w hw => by
        by_cases e : w = v
        · rw [e]; exact hrd
        · exact hv.2 w (by omega)⟩, by omega, ?_⟩
      exact (St.le_cons rfl (St.le_cons rfl (St.le_cons rfl (St.le_cons rfl (St.le_cons rfl (St.le_cons (slI (by omega)) (St.le_cons rfl (St.le_cons rfl (St.le_cons rfl (St.le_cons rfl (St.le_cons rfl (St.le_cons rfl (St.le_nil _)))))))))))))
    · have hsf : seen pl v = false := by simpa [seen] using hc2
      apply WPA.skip
      apply WPA.seq
      apply WPA.seq
      apply WPA.region
      · apply Trace.pu [] (.fieldAddr fl25_1 (.plain rfl) rfl)
        first | apply Trace.pu [_] (.loadLoc1D ty23 (.plain rfl) rfl rfl) | apply Trace.pu [_] (.loadLoc1 ty23 (.plain rfl) rfl rfl) | apply Trace.pu [] (.loadRp1 ty23 (.plain rfl) rfl) | apply Trace.pu [_] (.loadCol1 ty23 (.plain rfl) rfl rfl rfl (fun _ => by omega))
        apply Trace.pu [] (.len rfl Try.underlying23 (.plain rfl) rfl)
        apply Trace.pu [] (.move (.plain rfl))
        exact .nil _
      · exact keepOK_of hk hn rfl
      apply WPA.block
      refine WPA.loop (σ := Nat) (fun i => [(sl 0, .av (.yld 70)), (sl 1, .av (.loc 62 0)), (sl 2, .av (.loc 60 0)), (sl 3, .av (.loc 61 0)), (sl 5, .av (iv .i64 (v))), (sl 9, .av (iv .i64 (g.lat.length))), (sl 10, .av (iv .i64 (v))), (sl 18, .av (.d (edgesD g.es))), (sl 19, .av (iv .i64 (g.es.length))), (sl 20, .av (iv .i64 (i))), (bk 70, .blk (.lp (lhR ac bo) tsR)), (bk 62, .blk (.cells [.own 27 g.lat.length])), (bk 60, .blk (.data g.ds)), (bk 61, .blk (.data [intsD dl])), (bk 27, .blk (.app 1 g.lat.length [.bools pl])), (bk 7, .blk (.data [.v (.int .i64 (-1))]))]) (fun i => i ≤ g.es.length ∧ ∀ j, j < i → g.blkE dl pl v j = false) (fun i => g.es.length - i) 0
        (St.le_cons rfl (St.le_cons rfl (St.le_cons rfl (St.le_cons rfl (St.le_cons rfl (St.le_cons rfl (St.le_cons rfl (St.le_cons rfl (St.le_cons rfl (St.le_cons rfl (St.le_cons rfl (St.le_cons rfl (St.le_cons rfl (St.le_cons rfl (St.le_cons rfl (St.le_cons rfl (St.le_nil _))))))))))))))))) ⟨Nat.zero_le _, fun j hj => by omega⟩ fun i hi => ?_
      apply WPA.seq
      apply WPA.region
      · apply Trace.pu [] (.cmp (.plain rfl) (.plain rfl) rfl)
        exact .nil _
      · exact keepOK_of hk hn rfl
      apply WPA.seq
      refine WPA.cond rfl (fun hc3 => ?_) (fun hc3 => ?_)
      · have hlt2 : i < g.es.length := by simpa using hc3
        obtain ⟨e, he⟩ : ∃ e, g.es.getD i default = e := ⟨_, rfl⟩
        obtain ⟨hem, hef, het, hef0, het0⟩ := he ▸ Gr.edge h hlt2
        have hbe := blkE_eq (dl := dl) (pl := pl) (v := v) he
        apply WPA.skip
        apply WPA.seq
        apply WPA.block
        apply WPA.seq
        apply WPA.region
        · apply Trace.pu [] (.move (.plain rfl))
          apply Trace.pu [] ((Pure.indexRows el23 (.plain rfl) (.plain rfl) (fun _ => ⟨by omega, by omega⟩)).to (y := .rp e.ds) (by show AV.rp (g.es.getD i default).ds = _; rw [he]))
          first | apply Trace.pu [_] (.loadAllD ty43 (.plain rfl) rfl (by simp)) | apply Trace.pu [_] (.loadLocD ty43 (.plain rfl) rfl (fun _ => by simp)) | apply Trace.pu [_] (.loadLoc ty43 (.plain rfl) rfl (fun _ => Nat.le_of_ble_eq_true rfl)) | apply Trace.pu [] (.loadRp ty43 (.plain rfl) (fun _ => by decide)) | apply Trace.pu [] (.loadRp ty43 (.plain rfl) (fun _ => Nat.le_of_ble_eq_true rfl)) | apply Trace.pu [_] (.loadCol ty43 (.plain rfl) rfl rfl (fun _ => by decide) (fun _ => by omega)) | apply Trace.pu [_] (.loadArr ty43 (.plain rfl) rfl)
          apply Trace.alloc 80 [] (.data _) zo43 (cellsAs_data _) rfl
          apply Trace.pu [] (.assign (.plain rfl))
          first | apply Trace.storeD ty43 (.plain rfl) (.plain rfl) rfl rfl (by simp) (by simp [AV.oneB, single]) (by simp) (spliceL_all (by simp)) | apply Trace.storeD ty43 (.plain rfl) (.plain rfl) rfl rfl (by simp) (by simp [AV.oneB, single]) (by simp) rfl | apply Trace.storeDA ty43 (.plain rfl) (.plain rfl) rfl rfl (by simp) (by simp [AV.oneB, single]) (by simp) rfl | apply Trace.storeLoc ty43 (.plain rfl) (.plain rfl) rfl rfl (by simp) (by simp [AV.oneB, single]) (by simp) rfl | apply Trace.storeRow ty43 (.plain rfl) (.plain rfl) rfl rfl rfl rfl (by decide) (by simp [AV.oneB, single]) rfl (by omega)
          exact .nil _
        · exact keepOK_of hk hn rfl
        apply WPA.seq
        apply WPA.region
        · apply Trace.pu [] (.fieldAddr fl43_1 (.plain rfl) rfl)
          first | apply Trace.pu [_] (.loadLoc1D ty3 (.plain rfl) rfl rfl) | apply Trace.pu [_] (.loadLoc1 ty3 (.plain rfl) rfl rfl) | apply Trace.pu [] (.loadRp1 ty3 (.plain rfl) rfl) | apply Trace.pu [_] (.loadCol1 ty3 (.plain rfl) rfl rfl rfl (fun _ => by omega))
          apply Trace.pu [] (.move (.plain rfl))
          apply Trace.pu [] (.cmp (.plain rfl) (.plain rfl) rfl)
          apply Trace.pu [] (.move (.plain rfl))
          first | apply Trace.pg [_] rfl (.loadLoc1D ty22 (.plain rfl) rfl rfl) | apply Trace.pg [_] rfl (.loadLoc1 ty22 (.plain rfl) rfl rfl) | apply Trace.pg [] rfl (.loadRp1 ty22 (.plain rfl) rfl) | apply Trace.pg [_] rfl (.loadCol1 ty22 (.plain rfl) rfl rfl rfl (fun _ => by omega))
          apply Trace.pg [] rfl (.move (.plain rfl))
          first | apply Trace.pg [] rfl (.indexRows el22 (.gd rfl (fun h => h)) (.gd rfl (fun h => h)) (fun _ => ⟨by omega, by omega⟩)) | apply Trace.pg [] rfl (.indexOwn el22 (.gd rfl (fun h => h)) (.gd rfl (fun h => h)) (fun _ => ⟨by omega, by omega⟩)) | apply Trace.pg [] rfl (.indexSl el22 (.gd rfl (fun h => h)) (.gd rfl (fun h => h)) (fun _ => ⟨by omega, by omega⟩))
          first | apply Trace.pg [_] rfl (.loadLoc1D ty3 (.gd rfl (fun h => h)) rfl rfl) | apply Trace.pg [_] rfl (.loadLoc1 ty3 (.gd rfl (fun h => h)) rfl rfl) | apply Trace.pg [] rfl (.loadRp1 ty3 (.gd rfl (fun h => h)) rfl) | apply Trace.pg [_] rfl (.loadCol1 ty3 (.gd rfl (fun h => h)) rfl rfl rfl (fun _ => by omega))
          apply Trace.pg [] rfl (.cmp (.gd rfl (fun h => h)) (.plain rfl) rfl)
          apply Trace.pu [] (.pick (.plain rfl) (.gd rfl (by simp)) (.plain rfl))
          apply Trace.pu [] (.move (.plain rfl))
          first | apply Trace.pg [_] rfl (.loadLoc1D ty45 (.plain rfl) rfl rfl) | apply Trace.pg [_] rfl (.loadLoc1 ty45 (.plain rfl) rfl rfl) | apply Trace.pg [] rfl (.loadRp1 ty45 (.plain rfl) rfl) | apply Trace.pg [_] rfl (.loadCol1 ty45 (.plain rfl) rfl rfl rfl (fun _ => by omega))
          apply Trace.pg [] rfl (.fieldAddr fl43_0 (.plain rfl) rfl)
          first | apply Trace.pg [_] rfl (.loadLoc1D ty3 (.gd rfl (fun h => h)) rfl rfl) | apply Trace.pg [_] rfl (.loadLoc1 ty3 (.gd rfl (fun h => h)) rfl rfl) | apply Trace.pg [] rfl (.loadRp1 ty3 (.gd rfl (fun h => h)) rfl) | apply Trace.pg [_] rfl (.loadCol1 ty3 (.gd rfl (fun h => h)) rfl rfl rfl (fun _ => by omega))
          first | apply Trace.pg [] rfl (.indexRows el45 (.gd rfl (fun h => h)) (.gd rfl (fun h => h)) (fun _ => ⟨by omega, by omega⟩)) | apply Trace.pg [] rfl (.indexOwn el45 (.gd rfl (fun h => h)) (.gd rfl (fun h => h)) (fun _ => ⟨by omega, by omega⟩)) | apply Trace.pg [] rfl (.indexSl el45 (.gd rfl (fun h => h)) (.gd rfl (fun h => h)) (fun _ => ⟨by omega, by omega⟩))
          first | apply Trace.pg [_] rfl (.loadLoc1D ty4 (.gd rfl (fun h => h)) rfl rfl) | apply Trace.pg [_] rfl (.loadLoc1 ty4 (.gd rfl (fun h => h)) rfl rfl) | apply Trace.pg [] rfl (.loadRp1 ty4 (.gd rfl (fun h => h)) rfl) | apply Trace.pg [_] rfl (.loadCol1 ty4 (.gd rfl (fun h => h)) rfl rfl rfl (fun _ => by omega))
          apply Trace.pg [] rfl (.not (.gd rfl (fun h => h)))
          apply Trace.pu [] (.pick (.plain rfl) (.gd rfl (by simp)) (.plain rfl))
          exact .nil _
        · exact keepOK_of hk hn rfl
        refine WPA.cond rfl (fun hc4 => ?_) (fun hc4 => ?_)
        · have hbk : g.blkE dl pl v i = true := by rw [hbe]; exact hc4
          have hrd : g.rdy dl pl v = false := by unfold Gr.rdy; rw [freeS_not hlt2 hbk]; simp
          apply WPA.exit
          apply WPA.region
          · apply Trace.pu [] (.arith (.plain rfl) (.plain rfl) rfl (fun _ => bd64 (by omega)))
            apply Trace.pu [] (.move (.plain rfl))
            exact .nil _
          · exact keepOK_of hk hn rfl
          refine ⟨v + 1, ⟨by omega, fun w hw => by
            by_cases e : w = v
            · rw [e]; exact hrd
            · exact hv.2 w (by omega)⟩, by omega, ?_⟩
          exact (St.le_cons rfl (St.le_cons rfl (St.le_cons rfl (St.le_cons rfl (St.le_cons rfl (St.le_cons (slI (by omega)) (St.le_cons rfl (St.le_cons rfl (St.le_cons rfl (St.le_cons rfl (St.le_cons rfl (St.le_cons rfl (St.le_nil _)))))))))))))
        · have hbk : g.blkE dl pl v i = false := by rw [hbe]; exact hc4
          apply WPA.skip
          apply WPA.region
          · apply Trace.pu [] (.arith (.plain rfl) (.plain rfl) rfl (fun _ => bd64 (by omega)))
            apply Trace.pu [] (.move (.plain rfl))
            exact .nil _
          · exact keepOK_of hk hn rfl
          exact ⟨i + 1, ⟨by omega, fun j hj => by
            by_cases e : j = i
            · rw [e]; exact hbk
            · exact hi.2 j (by omega)⟩, by omega, St.le_cons rfl (St.le_cons rfl (St.le_cons rfl (St.le_cons rfl (St.le_cons rfl (St.le_cons rfl (St.le_cons rfl (St.le_cons rfl (St.le_cons rfl (St.le_cons (slI (by omega)) (St.le_cons rfl (St.le_cons rfl (St.le_cons rfl (St.le_cons rfl (St.le_cons rfl (St.le_cons rfl (St.le_nil _))))))))))))))))⟩
      · have hie : i = g.es.length := by
          have : ¬ ((i : Int) < g.es.length) := by simpa using hc3
          omega
        subst hie
        have hrd : g.rdy dl pl v = true := by unfold Gr.rdy; rw [hsf, freeS_of hi.2]; rfl
        have hfs : g.firstS dl pl = some v := firstS_some.2 ⟨hlt, hrd, hv.2⟩
        apply WPA.exit
        apply WPA.seq
        refine WPA.weaken (T := [(sl 0, .av (.yld 70)), (sl 1, .av (.loc 62 0)), (sl 2, .av (.loc 60 0)), (sl 3, .av (.loc 61 0)), (sl 5, .av (iv .i64 (v))), (sl 9, .av (iv .i64 (g.lat.length))), (sl 10, .av (iv .i64 (v))), (bk 70, .blk (.lp (lhR ac bo) tsR)), (bk 62, .blk (.cells [.own 27 g.lat.length])), (bk 60, .blk (.data g.ds)), (bk 61, .blk (.data [intsD dl])), (bk 27, .blk (.app 1 g.lat.length [.bools pl])), (bk 7, .blk (.data [.v (.int .i64 (-1))]))]) ?_ (St.le_cons rfl (St.le_cons rfl (St.le_cons rfl (St.le_cons rfl (St.le_cons rfl (St.le_cons rfl (St.le_cons rfl (St.le_cons rfl (St.le_cons rfl (St.le_cons rfl (St.le_cons rfl (St.le_cons rfl (St.le_cons rfl (St.le_nil _))))))))))))))
        apply WPA.region
        · apply Trace.pu [] (.move (.plain rfl))
          apply Trace.pu [] (.move (.plain rfl))
          apply Trace.cyG (gs := []) [] [bk 70, bk 7] (yieldArgs (.plain rfl) (.cons (.plain rfl) .nil)) (hY v hfs) rfl (.cons rfl (.cons rfl (.nil))) rfl rfl
          apply Trace.pu [] (.not (.plain rfl))
          exact .nil _
        · exact keepOK_of hk hn rfl
        refine WPA.cond rfl (fun hc5 => ?_) (fun hc5 => ?_)
        · apply WPA.ret
          refine ⟨.inr rfl, ⟨_, (.nil), ?_⟩, blks_of (by rw [hfs]; exact .cons rfl (.cons rfl (.cons rfl (.cons rfl (.cons rfl (.cons rfl (.nil)))))))⟩
          rfl
        · cases hc5
  · have hfs : g.firstS dl pl = none := firstS_none.2 fun w hw => hv.2 w (by
      have : ¬ ((v : Int) < g.lat.length) := by simpa using hc1
      omega)
    apply WPA.exit
    refine ⟨.inl rfl, ⟨_, (.nil), ?_⟩, blks_of (by rw [hfs]; exact .cons rfl (.cons rfl (.cons rfl (.cons rfl (.cons rfl (.cons rfl (.nil)))))))⟩
    rfl

/-- soundpost/order.Sequence -/
theorem spec13 (g : Gr) (hz : g.Sz) (dl : List Int) (hd : dl.length ≤ 4611686018427387904) : FnSpec Try.prog 13 [g.av, .d (intsD dl)] [] (.tup ([intsD (g.seqE dl).1, .v (.int .i64 (g.seqE dl).2)].map .d)) [] [] := by
  have hn1 := hz.n
  have hn2 := hz.m
  refine fnSpec_of_marks (rs := [.tmp 4, .tmp 5]) Try.func13 rfl rfl (Nat.le_of_ble_eq_true rfl) (by simp [St.get]) fun E hk hn => ?_
  apply WPA.seq
  apply WPA.region
  · first | apply Trace.boxD 2 [] (.plain rfl) rfl rfl | apply Trace.box 2 [] (.plain rfl) rfl rfl rfl
    apply Trace.pu [] (.assign (.plain rfl))
    apply Trace.pu [] (.assign (.plain rfl))
    exact .nil _
  · exact keepOK_of hk hn rfl
  apply WPA.seq
  apply WPA.seq
  apply WPA.region
  · first | apply Trace.pu [_] (.loadAllD ty25 (.plain rfl) rfl (by simp)) | apply Trace.pu [_] (.loadLocD ty25 (.plain rfl) rfl (fun _ => by simp)) | apply Trace.pu [_] (.loadLoc ty25 (.plain rfl) rfl (fun _ => Nat.le_of_ble_eq_true rfl)) | apply Trace.pu [] (.loadRp ty25 (.plain rfl) (fun _ => by decide)) | apply Trace.pu [] (.loadRp ty25 (.plain rfl) (fun _ => Nat.le_of_ble_eq_true rfl)) | apply Trace.pu [_] (.loadCol ty25 (.plain rfl) rfl rfl (fun _ => by decide) (fun _ => by omega)) | apply Trace.pu [_] (.loadArr ty25 (.plain rfl) rfl)
    apply Trace.cu (callArgs0 (.cons (.plain rfl) .nil)) (spec25 g hz) en25
    apply Trace.pu [] (.assign (.plain rfl))
    exact .nil _
  · exact keepOK_of hk hn rfl
  apply WPA.seq
  apply WPA.region
  · apply Trace.pu [] (.move (.plain rfl))
    apply Trace.pu [] (.cmp (.plain rfl) (.plain rfl) rfl)
    exact .nil _
  · exact keepOK_of hk hn rfl
  refine WPA.cond rfl (fun hc1 => ?_) (fun hc1 => ?_)
  · have hC : g.check ≠ 0 := by simpa using hc1
    apply WPA.seq
    apply WPA.region
    · apply Trace.pu [] (.move (.plain rfl))
      apply Trace.pu [] (.assign (.plain rfl))
      apply Trace.pu [] (.assign (.plain rfl))
      exact .nil _
    · exact keepOK_of hk hn rfl
    refine WPA.ghost (Ghost.slotEmp (t := 4) (n := 1) (g := fun i => [Col.at (.ints .i64 []) i]) rfl) ?_
    apply WPA.ret
    refine ⟨.inr rfl, ⟨_, (.cons (.tmp rfl) (.cons (.tmp rfl) .nil)), ?_⟩, by simp [St.get]⟩
    rw [seqE_bad hC]; rfl
  · have hC : g.check = 0 := by simpa using hc1
    have hok := check_ok2 hC
    have hm5 := hok.m
    have hn5 := hok.n
    apply WPA.skip
    apply WPA.seq
    apply WPA.seq
    apply WPA.region
    · apply Trace.pu [] (.move (.plain rfl))
      apply Trace.pu [] (.len rfl Try.underlying22 (.plain rfl) rfl)
      apply Trace.pu [] (.fieldAddr fl25_1 (.plain rfl) rfl)
      first | apply Trace.pu [_] (.loadLoc1D ty23 (.plain rfl) rfl rfl) | apply Trace.pu [_] (.loadLoc1 ty23 (.plain rfl) rfl rfl) | apply Trace.pu [] (.loadRp1 ty23 (.plain rfl) rfl) | apply Trace.pu [_] (.loadCol1 ty23 (.plain rfl) rfl rfl rfl (fun _ => by omega))
      apply Trace.pu [] (.len rfl Try.underlying23 (.plain rfl) rfl)
      apply Trace.pu [] (.cmp (.plain rfl) (.plain rfl) rfl)
      apply Trace.pu [] (.move (.plain rfl))
      apply Trace.pg [] rfl (.move (.plain rfl))
      apply Trace.cg rfl (callArgs0 (.cons (.gd rfl (fun h => h)) (.cons (.plain rfl) .nil))) (fun h => spec32 spec33 en33 dl (by omega)) en32
      apply Trace.pu [] (.pick (.plain rfl) (.plain rfl) (.gd rfl (by simp)))
      exact .nil _
    · exact keepOK_of hk hn rfl
    refine WPA.cond rfl (fun hc2 => ?_) (fun hc2 => ?_)
    · have hB : g.dlBad dl = true := by
        have h9 : (bif !decide ((dl.length : Int) = g.es.length) then true else dl.any fun x => decide (x < 0)) = true := hc2
        rw [bif_or'] at h9
        unfold Gr.dlBad
        rw [← h9]
        congr 2
        exact decide_eq_decide.2 ⟨fun h => by omega, fun h => by omega⟩
      apply WPA.seq
      apply WPA.region
      · apply Trace.pu [] (.assign (.plain rfl))
        apply Trace.pu [] (.assign (.plain rfl))
        exact .nil _
      · exact keepOK_of hk hn rfl
      refine WPA.ghost (Ghost.slotEmp (t := 4) (n := 1) (g := fun i => [Col.at (.ints .i64 []) i]) rfl) ?_
      apply WPA.ret
      refine ⟨.inr rfl, ⟨_, (.cons (.tmp rfl) (.cons (.tmp rfl) .nil)), ?_⟩, by simp [St.get]⟩
      rw [seqE_arg hC hB]; rfl
    · have hB : g.dlBad dl = false := by
        have h9 : (bif !decide ((dl.length : Int) = g.es.length) then true else dl.any fun x => decide (x < 0)) = false := hc2
        rw [bif_or'] at h9
        unfold Gr.dlBad
        rw [← h9]
        congr 2
        exact decide_eq_decide.2 ⟨fun h => by omega, fun h => by omega⟩
      obtain ⟨hdl, hdp⟩ := dlBad_not hB
      apply WPA.skip
      apply WPA.seq
      apply WPA.region
      · apply Trace.pu [] (.fieldAddr fl25_0 (.plain rfl) rfl)
        first | apply Trace.pu [_] (.loadLoc1D ty22 (.plain rfl) rfl rfl) | apply Trace.pu [_] (.loadLoc1 ty22 (.plain rfl) rfl rfl) | apply Trace.pu [] (.loadRp1 ty22 (.plain rfl) rfl) | apply Trace.pu [_] (.loadCol1 ty22 (.plain rfl) rfl rfl rfl (fun _ => by omega))
        apply Trace.pu [] (.len rfl Try.underlying22 (.plain rfl) rfl)
        apply Trace.makeSlice 27 [] so45 by4 zo4 rfl (by decide) (.plain rfl) (.plain rfl) ⟨by omega, by omega⟩ (by omega) (by omega) rfl rfl
        apply Trace.pu [] (.assign (.plain rfl))
        exact .nil _
      · exact keepOK_of hk hn rfl
      apply WPA.seq
      apply WPA.seq
      apply WPA.region
      · apply Trace.pu [] (.move (.plain rfl))
        apply Trace.pu [] (.len rfl Try.underlying45 (.plain rfl) rfl)
        apply Trace.pu [] (.move (.plain rfl))
        exact .nil _
      · exact keepOK_of hk hn rfl
      apply WPA.block
      refine WPA.ghost (Ghost.ownNil (t := 4) (l := 95) (n := 1) (cs := [.ints .i64 []]) rfl (fun m c e hm hc => ?_) (by rw [hk]; simp) (by rw [hn]; decide) rfl (by simp [Col.len])) ?_
      · exact fresh_of (A := ⟨[], [], [(bk 95, none)], [95]⟩) rfl 95 (by simp) m c e (by simpa [Ax.names] using hm) hc
      refine WPA.loop (σ := DS) (fun s => [(sl 1, .av (.d (intsD dl))), (sl 2, .av (.loc 2 0)), (sl 4, .av (.own 95 s.2.length)), (sl 6, .av (.own 27 g.lat.length)), (sl 29, .av (iv .i64 (g.lat.length))), (sl 30, .av (iv .i64 (s.2.length))), (bk 2, .blk (.data g.ds)), (bk 95, .blk (.app 1 s.2.length [.ints .i64 s.2])), (bk 27, .blk (.app 1 g.lat.length [.bools s.1]))]) (fun s => g.seqTo dl s.2.length = some s ∧ s.2.length ≤ g.lat.length) (fun s => g.lat.length - s.2.length) (List.replicate g.lat.length false, [])
        (St.le_cons rfl (St.le_cons rfl (St.le_cons rfl (St.le_cons rfl (St.le_cons rfl (St.le_cons rfl (St.le_cons rfl (St.le_cons rfl (St.le_cons rfl (St.le_nil _)))))))))) ⟨rfl, Nat.zero_le _⟩ fun s hs => ?_
      apply WPA.seq
      apply WPA.region
      · apply Trace.pu [] (.cmp (.plain rfl) (.plain rfl) rfl)
        exact .nil _
      · exact keepOK_of hk hn rfl
      apply WPA.seq
      refine WPA.cond rfl (fun hc3 => ?_) (fun hc3 => ?_)
      · obtain ⟨hs1, hs2⟩ := hs
        have hlt : s.2.length < g.lat.length := by
          have : (s.2.length : Int) < g.lat.length := of_decide_eq_true hc3
          omega
        obtain ⟨hsl, _⟩ := seqTo_len hs1
        apply WPA.skip
        apply WPA.seq
        apply WPA.block
        apply WPA.seq
        apply WPA.region
        · apply Trace.alloc 7 [] (.data _) zo3 (cellsAs_data _) rfl
          first | apply Trace.storeD ty3 (.plain rfl) (.plain rfl) rfl rfl rfl (by simp [AV.oneB, single]) (Nat.le_of_ble_eq_true rfl) rfl | apply Trace.storeDA ty3 (.plain rfl) (.plain rfl) rfl rfl rfl (by simp [AV.oneB, single]) (Nat.le_of_ble_eq_true rfl) rfl | apply Trace.storeLoc ty3 (.plain rfl) (.plain rfl) rfl rfl rfl (by simp [AV.oneB, single]) (Nat.le_of_ble_eq_true rfl) rfl | apply Trace.storeRow ty3 (.plain rfl) (.plain rfl) rfl rfl rfl rfl (by decide) (by simp [AV.oneB, single]) rfl (by omega)
          exact .nil _
        · exact keepOK_of hk hn rfl
        apply WPA.seq
        apply WPA.seq
        apply WPA.region
        · first | apply Trace.pu [_] (.loadAllD ty25 (.plain rfl) rfl (by simp)) | apply Trace.pu [_] (.loadLocD ty25 (.plain rfl) rfl (fun _ => by simp)) | apply Trace.pu [_] (.loadLoc ty25 (.plain rfl) rfl (fun _ => Nat.le_of_ble_eq_true rfl)) | apply Trace.pu [] (.loadRp ty25 (.plain rfl) (fun _ => by decide)) | apply Trace.pu [] (.loadRp ty25 (.plain rfl) (fun _ => Nat.le_of_ble_eq_true rfl)) | apply Trace.pu [_] (.loadCol ty25 (.plain rfl) rfl rfl (fun _ => by decide) (fun _ => by omega)) | apply Trace.pu [_] (.loadArr ty25 (.plain rfl) rfl)
          apply Trace.pu [] (.move (.plain rfl))
          apply Trace.pu [] (.move (.plain rfl))
          apply Trace.cb [62, 60, 61] [bk 27] (callArgs0 (.cons (.plain rfl) (.cons (.plain rfl) (.cons (.plain rfl) .nil)))) (spec34 g dl s.1) en34 (.cons rfl (.nil)) rfl rfl
          exact .nil _
        · exact keepOK_of hk hn rfl
        apply WPA.block
        refine WPA.rangeFunc (L := 70) (ts := tsR) (ts' := tsR) (new := []) (ds := [bk 62, bk 60, bk 61, bk 27, bk 7]) rfl rfl rfl en50 (.cons rfl (.nil)) hn rfl rfl (by rw [hk]; decide) (by split <;> simp) (itR hok hdl hsl (fun v hv => ?_)) (.cons rfl (.cons rfl (.cons rfl (.cons rfl (.cons rfl (.cons rfl (.nil))))))) rfl rfl rfl rfl (by simp) ?_
        · refine ySpec_of (pe := some (.exit 2)) (S1 := [(sl 8, .av (iv .i64 (v : Nat))), (sl 7, .av (.loc 7 0)), (bk 7, .blk (.data [.v (.int .i64 (-1))]))]) rfl rfl rfl rfl rfl rfl rfl rfl ?_ ?_
          · intro E l hk hn
            apply WPA.region
            · apply Trace.pu [] (.assign (.plain rfl))
              exact .nil _
            · exact keepOK_of hk hn rfl
            exact ⟨rfl, St.le_cons rfl (St.le_cons rfl (St.le_cons rfl (St.le_nil _)))⟩
          · intro E l hk hn
            apply WPA.block
            apply WPA.seq
            apply WPA.region
            · apply Trace.pu [] (.move (.plain rfl))
              first | apply Trace.storeD ty3 (.plain rfl) (.plain rfl) rfl rfl rfl (by simp [AV.oneB, single]) (Nat.le_of_ble_eq_true rfl) rfl | apply Trace.storeDA ty3 (.plain rfl) (.plain rfl) rfl rfl rfl (by simp [AV.oneB, single]) (Nat.le_of_ble_eq_true rfl) rfl | apply Trace.storeLoc ty3 (.plain rfl) (.plain rfl) rfl rfl rfl (by simp [AV.oneB, single]) (Nat.le_of_ble_eq_true rfl) rfl | apply Trace.storeRow ty3 (.plain rfl) (.plain rfl) rfl rfl rfl rfl (by decide) (by simp [AV.oneB, single]) rfl (by omega)
              exact .nil _
            · exact keepOK_of hk hn rfl
            apply WPA.exit
            exact ⟨rfl, blks_of (.cons rfl (.nil))⟩
        · refine jumpQ_or ?h1 ?h2
          case h2 => exact fun h => h
          refine WPA.weaken (T := [(sl 1, .av (.d (intsD dl))), (sl 2, .av (.loc 2 0)), (sl 4, .av (.own 95 s.2.length)), (sl 6, .av (.own 27 g.lat.length)), (sl 7, .av (.loc 7 0)), (sl 29, .av (iv .i64 (g.lat.length))), (sl 30, .av (iv .i64 (s.2.length))), (bk 2, .blk (.data g.ds)), (bk 95, .blk (.app 1 s.2.length [.ints .i64 s.2])), (bk 27, .blk (.app 1 g.lat.length [.bools s.1])), (bk 7, .blk (.data [.v (.int .i64 (firI (g.firstS dl s.1)))]))]) ?_ (St.le_cons rfl (St.le_cons rfl (St.le_cons rfl (St.le_cons rfl (St.le_cons rfl (St.le_cons rfl (St.le_cons rfl (St.le_cons rfl (St.le_cons rfl (St.le_cons rfl (St.le_cons rfl (St.le_nil _))))))))))))
          apply WPA.seq
          apply WPA.seq
          apply WPA.region
          · first | apply Trace.pu [_] (.loadLoc1D ty3 (.plain rfl) rfl rfl) | apply Trace.pu [_] (.loadLoc1 ty3 (.plain rfl) rfl rfl) | apply Trace.pu [] (.loadRp1 ty3 (.plain rfl) rfl) | apply Trace.pu [_] (.loadCol1 ty3 (.plain rfl) rfl rfl rfl (fun _ => by omega))
            apply Trace.pu [] (.cmp (.plain rfl) (.plain rfl) rfl)
            exact .nil _
          · exact keepOK_of hk hn rfl
          refine WPA.cond rfl (fun hc4 => ?_) (fun hc4 => ?_)
          · have hf : g.firstS dl s.1 = none := by
              have h9 : firI (g.firstS dl s.1) < 0 := of_decide_eq_true hc4
              cases hx : g.firstS dl s.1 with
              | none => rfl
              | some v => rw [hx] at h9; have h9 : ((v : Nat) : Int) < 0 := h9; omega
            apply WPA.seq
            apply WPA.region
            · apply Trace.pu [] (.assign (.plain rfl))
              apply Trace.pu [] (.assign (.plain rfl))
              exact .nil _
            · exact keepOK_of hk hn rfl
            refine WPA.ghost (Ghost.slotEmp (t := 4) (n := 1) (g := fun i => [Col.at (.ints .i64 []) i]) rfl) ?_
            apply WPA.ret
            refine ⟨.inr rfl, ⟨_, (.cons (.tmp rfl) (.cons (.tmp rfl) .nil)), ?_⟩, by simp [St.get]⟩
            rw [seqE_loop hC hB hlt hs1 hf]; rfl
          · obtain ⟨v, hf⟩ : ∃ v, g.firstS dl s.1 = some v := by
              have h9 : ¬ firI (g.firstS dl s.1) < 0 := of_decide_eq_false hc4
              cases hx : g.firstS dl s.1 with
              | none => rw [hx] at h9; exact absurd (show (-1 : Int) < 0 from by decide) h9
              | some v => exact ⟨v, rfl⟩
            have hst := seqTo_step hs1
            rw [hf] at hst ⊢
            rw [show firI (some v) = ((v : Nat) : Int) from rfl]
            have hvn := (firstS_some.1 hf).1
            apply WPA.skip
            apply WPA.seq
            apply WPA.region
            · apply Trace.pu [] (.move (.plain rfl))
              first | apply Trace.pu [_] (.loadLoc1D ty3 (.plain rfl) rfl rfl) | apply Trace.pu [_] (.loadLoc1 ty3 (.plain rfl) rfl rfl) | apply Trace.pu [] (.loadRp1 ty3 (.plain rfl) rfl) | apply Trace.pu [_] (.loadCol1 ty3 (.plain rfl) rfl rfl rfl (fun _ => by omega))
              first | apply Trace.pu [] (.indexRows el45 (.plain rfl) (.plain rfl) (fun _ => ⟨by omega, by omega⟩)) | apply Trace.pu [] (.indexOwn el45 (.plain rfl) (.plain rfl) (fun _ => ⟨by omega, by omega⟩)) | apply Trace.pu [] (.indexSl el45 (.plain rfl) (.plain rfl) (fun _ => ⟨by omega, by omega⟩))
              first | apply Trace.storeD ty4 (.plain rfl) (.plain rfl) rfl rfl rfl (by simp [AV.oneB, single]) (Nat.le_of_ble_eq_true rfl) rfl | apply Trace.storeDA ty4 (.plain rfl) (.plain rfl) rfl rfl rfl (by simp [AV.oneB, single]) (Nat.le_of_ble_eq_true rfl) rfl | apply Trace.storeLoc ty4 (.plain rfl) (.plain rfl) rfl rfl rfl (by simp [AV.oneB, single]) (Nat.le_of_ble_eq_true rfl) rfl | apply Trace.storeRow ty4 (.plain rfl) (.plain rfl) rfl rfl rfl rfl (by decide) (by simp [AV.oneB, single]) rfl (by omega)
              exact .nil _
            · exact keepOK_of hk hn rfl
            apply WPA.region
            · apply Trace.pu [] (.move (.plain rfl))
              first | apply Trace.pu [_] (.loadLoc1D ty3 (.plain rfl) rfl rfl) | apply Trace.pu [_] (.loadLoc1 ty3 (.plain rfl) rfl rfl) | apply Trace.pu [] (.loadRp1 ty3 (.plain rfl) rfl) | apply Trace.pu [_] (.loadCol1 ty3 (.plain rfl) rfl rfl rfl (fun _ => by omega))
              apply Trace.buildSlice 45 [] so22 zo3 rfl (by decide) (by decide) (.cons (.plain rfl) rfl rfl (Nat.le_of_ble_eq_true rfl) (.nil _ _)) rfl rfl rfl
              apply Trace.append 46 [bk 95, bk 45, sl 43, sl 45] ap22 kd22 (by decide) (.own (.plain rfl) rfl) (.own (.plain rfl) rfl) (Col.ones rfl) (labs_ok rfl) (by omega) (by omega) rfl rfl
              apply Trace.pu [] (.assign (.plain rfl))
              exact .nil _
            · exact keepOK_of hk hn rfl
            refine WPA.ghost (Ghost.swap 95 46 (by rw [hk]; decide) (by rw [hk]; decide) rfl) ?_
            apply WPA.region
            · apply Trace.pu [] (.arith (.plain rfl) (.plain rfl) rfl (fun _ => bd64 (by omega)))
              apply Trace.pu [] (.move (.plain rfl))
              exact .nil _
            · exact keepOK_of hk hn rfl
            refine ⟨(s.1.set v true, s.2 ++ [(v : Int)]), ⟨?_, ?_⟩, ?_, ?_⟩
            · show g.seqTo dl (s.2 ++ [(v : Int)]).length = _
              rw [List.length_append, List.length_singleton]; exact hst
            · show (s.2 ++ [(v : Int)]).length ≤ _
              rw [List.length_append, List.length_singleton]; omega
            · show g.lat.length - (s.2 ++ [(v : Int)]).length < _
              rw [List.length_append, List.length_singleton]; omega
            exact (St.le_cons rfl (St.le_cons rfl (St.le_cons (by show some (Cont.av (.own 95 (s.2.length + 1))) = some (Cont.av (.own 95 (s.2 ++ [(v : Int)]).length)); simp) (St.le_cons rfl (St.le_cons rfl (St.le_cons (slI (by simp)) (St.le_cons rfl (St.le_cons (app_n (by simp) rfl) (St.le_cons rfl (St.le_nil _))))))))))
      · obtain ⟨hs1, hs2⟩ := hs
        have hle : s.2.length = g.lat.length := by
          have : ¬ ((s.2.length : Int) < g.lat.length) := of_decide_eq_false hc3
          omega
        rw [hle] at hs1
        apply WPA.exit
        apply WPA.seq
        refine WPA.ghost (Ghost.freezeAs (t := 4) (l := 95) (g := fun i => [Col.at (.ints .i64 s.2) i]) rfl rfl (fun i hi => rfl)) ?_
        apply WPA.region
        · apply Trace.pu [] (.move (.plain rfl))
          apply Trace.pu [] (.assign (.plain rfl))
          apply Trace.pu [] (.assign (.plain rfl))
          exact .nil _
        · exact keepOK_of hk hn rfl
        apply WPA.ret
        refine ⟨.inr rfl, ⟨_, (.cons (.tmp rfl) (.cons (.tmp rfl) .nil)), ?_⟩, by simp [St.get]⟩
        rw [seqE_ok hC hB hs1]; rfl

end Go.Proofs.Ytglokdfdogmmhaa


/- The reference of layer 22. -/
namespace Go.Proofs.Ytglokdfdogmmhaa
open Go
set_option linter.unusedVariables false
set_option linter.unusedSimpArgs false
set_option maxRecDepth 10000
set_option maxHeartbeats 2000000

def Gr.few22 (g : Gr) : Bool := decide (g.lat.length ≤ 12) && decide (g.es.length ≤ 40)
theorem few22_of {g : Gr} (h : g.few22 = true) : g.lat.length ≤ 12 ∧ g.es.length ≤ 40 := by
  unfold Gr.few22 at h
  simpa using h
theorem eq_fn' {a b : List Int} (hl : a.length = b.length) (h : ∀ j, j < a.length → a.getD j 0 = b.getD j 0) : a = b := by
  refine List.ext_getElem hl fun j h1 h2 => ?_
  have := h j h1
  rwa [getD_lt _ _ h1, getD_lt _ _ h2] at this
theorem eq_rows {a b : RL} (hl : a.length = b.length) (h : ∀ j, j < a.length → a.getD j [] = b.getD j []) : a = b := by
  refine List.ext_getElem hl fun j h1 h2 => ?_
  have := h j h1
  rwa [getD_lt _ _ h1, getD_lt _ _ h2] at this
abbrev boolsD (l : List Bool) : D := rowsD 1 l.length [.bools l]
abbrev Gr.mD (g : Gr) : D := .rows 1 g.lat.length fun i => [boolsD (g.markR i g.lat.length)]
abbrev mRows (g : Gr) (i : Nat) : List D := (List.range i).map fun v => boolsD (g.markR v g.lat.length)
theorem mRows_at {g : Gr} {i n : Nat} (h : i < n) : Col.at (.ds (mRows g n)) i = boolsD (g.markR i g.lat.length) := by
  show (mRows g n).getD i _ = _
  simp [mRows, List.getD_eq_getElem?_getD, h]
theorem mRows_succ (g : Gr) (i : Nat) : mRows g (i + 1) = mRows g i ++ [boolsD (g.markR i g.lat.length)] := by
  simp [mRows, List.range_succ]
theorem three {v n : Nat} {pl : List Bool} (h : v ≤ n) : v = n ∨ (v < n ∧ seen pl v = true) ∨ (v < n ∧ seen pl v = false) := by
  rcases Nat.lt_or_ge v n with h1 | h1
  · cases h2 : seen pl v
    · exact .inr (.inr ⟨h1, rfl⟩)
    · exact .inr (.inl ⟨h1, rfl⟩)
  · left; omega
theorem two_ways (b : Bool) : b = true ∨ b = false := by cases b <;> simp
theorem total_le {g : Gr} {s : RS} (h : RInv g s) : total s.2 ≤ g.lat.length := by have := h.tot; omega
theorem app_d {m k : Nat} {xs ys : List D} (h : m = k) (e : xs = ys) : some (Cont.blk (.app 1 m [.ds xs])) = some (Cont.blk (.app 1 k [.ds ys])) := by rw [h, e]
/-- soundpost/soundpostref21.Check -/
theorem spec17 (g : Gr) (hz : g.Sz) : FnSpec Try.prog 17 [g.av] [] (iv .i64 g.check) [] [] := by
  refine fnSpec_of (rs := [.tmp 2]) Try.func17 rfl rfl (Nat.le_of_ble_eq_true rfl) (by simp [St.get]) fun E hk hn => ?_
  apply WPA.seq
  apply WPA.region
  · first | apply Trace.boxD 1 [] (.plain rfl) rfl rfl | apply Trace.box 1 [] (.plain rfl) rfl rfl rfl
    apply Trace.pu [] (.assign (.plain rfl))
    exact .nil _
  · exact keepOK_of hk hn rfl
  apply WPA.seq
  apply WPA.region
  · first | apply Trace.pu [_] (.loadAllD ty25 (.plain rfl) rfl (by simp)) | apply Trace.pu [_] (.loadLocD ty25 (.plain rfl) rfl (fun _ => by simp)) | apply Trace.pu [_] (.loadLoc ty25 (.plain rfl) rfl (fun _ => Nat.le_of_ble_eq_true rfl)) | apply Trace.pu [] (.loadRp ty25 (.plain rfl) (fun _ => by decide)) | apply Trace.pu [] (.loadRp ty25 (.plain rfl) (fun _ => Nat.le_of_ble_eq_true rfl)) | apply Trace.pu [_] (.loadCol ty25 (.plain rfl) rfl rfl (fun _ => by decide) (fun _ => by omega)) | apply Trace.pu [_] (.loadArr ty25 (.plain rfl) rfl)
    apply Trace.cu (callArgs0 (.cons (.plain rfl) .nil)) (spec36 g hz) en36
    apply Trace.pu [] (.assign (.plain rfl))
    exact .nil _
  · exact keepOK_of hk hn rfl
  apply WPA.seq
  apply WPA.seq
  apply WPA.region
  · apply Trace.pu [] (.move (.plain rfl))
    apply Trace.pu [] (.cmp (.plain rfl) (.plain rfl) rfl)
    exact .nil _
  · exact keepOK_of hk hn rfl
  refine WPA.cond rfl (fun hc1 => ?_) (fun hc1 => ?_)
  · apply WPA.seq
    apply WPA.region
    · apply Trace.pu [] (.move (.plain rfl))
      apply Trace.pu [] (.assign (.plain rfl))
      exact .nil _
    · exact keepOK_of hk hn rfl
    apply WPA.ret
    refine ⟨.inr rfl, ⟨_, (.cons (.tmp rfl) .nil), ?_⟩, by simp [St.get]⟩
    have hF : g.formed ≠ 0 := by simpa using hc1
    unfold Gr.check
    rw [if_neg (by simp [Gr.looped, hF])]
    rfl
  · have hF : g.formed = 0 := by simpa using hc1
    have hok := g.ok_of hF
    apply WPA.skip
    apply WPA.seq
    apply WPA.seq
    apply WPA.region
    · first | apply Trace.pu [_] (.loadAllD ty25 (.plain rfl) rfl (by simp)) | apply Trace.pu [_] (.loadLocD ty25 (.plain rfl) rfl (fun _ => by simp)) | apply Trace.pu [_] (.loadLoc ty25 (.plain rfl) rfl (fun _ => Nat.le_of_ble_eq_true rfl)) | apply Trace.pu [] (.loadRp ty25 (.plain rfl) (fun _ => by decide)) | apply Trace.pu [] (.loadRp ty25 (.plain rfl) (fun _ => Nat.le_of_ble_eq_true rfl)) | apply Trace.pu [_] (.loadCol ty25 (.plain rfl) rfl rfl (fun _ => by decide) (fun _ => by omega)) | apply Trace.pu [_] (.loadArr ty25 (.plain rfl) rfl)
      apply Trace.cu (callArgs0 (.cons (.plain rfl) .nil)) (spec37 g hok) en37
      exact .nil _
    · exact keepOK_of hk hn rfl
    refine WPA.cond rfl (fun hc2 => ?_) (fun hc2 => ?_)
    · apply WPA.seq
      apply WPA.region
      · apply Trace.pu [] (.assign (.plain rfl))
        exact .nil _
      · exact keepOK_of hk hn rfl
      apply WPA.ret
      refine ⟨.inr rfl, ⟨_, (.cons (.tmp rfl) .nil), ?_⟩, by simp [St.get]⟩
      unfold Gr.check
      rw [if_pos (by simp [Gr.looped, hF, hc2])]
      rfl
    · apply WPA.skip
      apply WPA.seq
      apply WPA.region
      · apply Trace.pu [] (.assign (.plain rfl))
        exact .nil _
      · exact keepOK_of hk hn rfl
      apply WPA.ret
      refine ⟨.inr rfl, ⟨_, (.cons (.tmp rfl) .nil), ?_⟩, by simp [St.get]⟩
      unfold Gr.check
      rw [if_neg (by simp [Gr.looped, hc2]), hF]
      rfl

/-- soundpost/soundpostref22.Same -/
theorem spec16 (a b : List Int) (ha : a.length ≤ 4611686018427387904) (hb : b.length ≤ 4611686018427387904) : FnSpec Try.prog 16 [.d (intsD a), .d (intsD b)] [] (bv (decide (a = b))) [] [] := by
  refine fnSpec_of (rs := [.tmp 4]) Try.func16 rfl rfl (Nat.le_of_ble_eq_true rfl) (by simp [St.get]) fun E hk hn => ?_
  apply WPA.seq
  apply WPA.region
  · apply Trace.pu [] (.assign (.plain rfl))
    exact .nil _
  · exact keepOK_of hk hn rfl
  apply WPA.seq
  apply WPA.seq
  apply WPA.region
  · apply Trace.pu [] (.move (.plain rfl))
    apply Trace.pu [] (.len rfl Try.underlying22 (.plain rfl) rfl)
    apply Trace.pu [] (.move (.plain rfl))
    apply Trace.pu [] (.len rfl Try.underlying22 (.plain rfl) rfl)
    apply Trace.pu [] (.cmp (.plain rfl) (.plain rfl) rfl)
    exact .nil _
  · exact keepOK_of hk hn rfl
  refine WPA.cond rfl (fun hc1 => ?_) (fun hc1 => ?_)
  · apply WPA.seq
    apply WPA.region
    · apply Trace.pu [] (.assign (.plain rfl))
      exact .nil _
    · exact keepOK_of hk hn rfl
    apply WPA.ret
    refine ⟨.inr rfl, ⟨_, (.cons (.tmp rfl) .nil), ?_⟩, by simp [St.get]⟩
    have hl : a.length ≠ b.length := by
      have : ((a.length : Int) ≠ b.length) := by simpa using hc1
      omega
    rw [decide_eq_false (fun e => hl (congrArg List.length e))]
    rfl
  · have hl : a.length = b.length := by
      have : ¬ ((a.length : Int) ≠ b.length) := by simpa using hc1
      omega
    apply WPA.skip
    apply WPA.seq
    apply WPA.seq
    apply WPA.region
    · apply Trace.pu [] (.assign (.plain rfl))
      exact .nil _
    · exact keepOK_of hk hn rfl
    apply WPA.block
    refine WPA.loop (σ := Nat) (fun i => [(sl 0, .av (.d (intsD a))), (sl 1, .av (.d (intsD b))), (sl 5, .av (iv .i64 (i)))]) (fun i => i ≤ a.length ∧ ∀ j, j < i → a.getD j 0 = b.getD j 0) (fun i => a.length - i) 0
      (St.le_cons rfl (St.le_cons rfl (St.le_cons rfl (St.le_nil _)))) ⟨Nat.zero_le _, fun j h => by omega⟩ fun i hi => ?_
    apply WPA.seq
    apply WPA.seq
    apply WPA.region
    · apply Trace.pu [] (.move (.plain rfl))
      apply Trace.pu [] (.move (.plain rfl))
      apply Trace.pu [] (.len rfl Try.underlying22 (.plain rfl) rfl)
      apply Trace.pu [] (.cmp (.plain rfl) (.plain rfl) rfl)
      exact .nil _
    · exact keepOK_of hk hn rfl
    refine WPA.cond rfl (fun hc2 => ?_) (fun hc2 => ?_)
    · have hlt : i < a.length := by simpa using hc2
      have hbn : b.length = a.length := hl.symm
      apply WPA.skip
      apply WPA.seq
      apply WPA.block
      apply WPA.seq
      apply WPA.draw mixed
      · apply Trace.pu [] (.move (.plain rfl))
        apply Trace.pu [] (.move (.plain rfl))
        first | apply Trace.pu [] (.indexRows el22 (.plain rfl) (.plain rfl) (fun _ => ⟨by omega, by omega⟩)) | apply Trace.pu [] (.indexOwn el22 (.plain rfl) (.plain rfl) (fun _ => ⟨by omega, by omega⟩)) | apply Trace.pu [] (.indexSl el22 (.plain rfl) (.plain rfl) (fun _ => ⟨by omega, by omega⟩))
        first | apply Trace.pu [_] (.loadLoc1D ty3 (.plain rfl) rfl rfl) | apply Trace.pu [_] (.loadLoc1 ty3 (.plain rfl) rfl rfl) | apply Trace.pu [] (.loadRp1 ty3 (.plain rfl) rfl) | apply Trace.pu [_] (.loadCol1 ty3 (.plain rfl) rfl rfl rfl (fun _ => by omega))
        apply Trace.pu [] (.move (.plain rfl))
        apply Trace.pu [] (.move (.plain rfl))
        first | apply Trace.pu [] (.indexRows el22 (.plain rfl) (.plain rfl) (fun _ => ⟨by omega, by omega⟩)) | apply Trace.pu [] (.indexOwn el22 (.plain rfl) (.plain rfl) (fun _ => ⟨by omega, by omega⟩)) | apply Trace.pu [] (.indexSl el22 (.plain rfl) (.plain rfl) (fun _ => ⟨by omega, by omega⟩))
        first | apply Trace.pu [_] (.loadLoc1D ty3 (.plain rfl) rfl rfl) | apply Trace.pu [_] (.loadLoc1 ty3 (.plain rfl) rfl rfl) | apply Trace.pu [] (.loadRp1 ty3 (.plain rfl) rfl) | apply Trace.pu [_] (.loadCol1 ty3 (.plain rfl) rfl rfl rfl (fun _ => by omega))
        apply Trace.pu [] (.cmp (.plain rfl) (.plain rfl) rfl)
        exact .nil _
      · rfl
      · exact keepOK_of hk hn rfl
      refine WPA.cond rfl (fun hc3 => ?_) (fun hc3 => ?_)
      · apply WPA.seq
        apply WPA.region
        · apply Trace.pu [] (.assign (.plain rfl))
          exact .nil _
        · exact keepOK_of hk hn rfl
        apply WPA.ret
        refine ⟨.inr rfl, ⟨_, (.cons (.tmp rfl) .nil), ?_⟩, by simp [St.get]⟩
        have hx : ¬ (a.getD i 0 = b.getD i 0) := by simpa using hc3
        rw [decide_eq_false (fun e => hx (by rw [e]))]
        rfl
      · apply WPA.skip
        apply WPA.region
        · apply Trace.pu [] (.move (.plain rfl))
          apply Trace.pu [] (.arith (.plain rfl) (.plain rfl) rfl (fun _ => bd64 (by omega)))
          apply Trace.pu [] (.assign (.plain rfl))
          exact .nil _
        · exact keepOK_of hk hn rfl
        have hx : a.getD i 0 = b.getD i 0 := by simpa using hc3
        exact ⟨i + 1, ⟨by omega, fun j h => by
          by_cases hj : j = i
          · rw [hj]; exact hx
          · exact hi.2 j (by omega)⟩, by omega, St.le_cons rfl (St.le_cons rfl (St.le_cons (slI (by omega)) (St.le_nil _)))⟩
    · apply WPA.exit
      apply WPA.seq
      apply WPA.region
      · apply Trace.pu [] (.assign (.plain rfl))
        exact .nil _
      · exact keepOK_of hk hn rfl
      apply WPA.ret
      refine ⟨.inr rfl, ⟨_, (.cons (.tmp rfl) .nil), ?_⟩, by simp [St.get]⟩
      have hn : a.length ≤ i := by
        have : ¬ ((i : Int) < a.length) := by simpa using hc2
        omega
      rw [decide_eq_true (eq_fn' hl fun j hj => hi.2 j (by omega))]
      rfl

/-- soundpost/soundpostref22.SameAll -/
theorem spec15 (a b : RL) (ha : a.length ≤ 4611686018427387904) (hb : b.length ≤ 4611686018427387904) (har : ∀ i, (a.getD i []).length ≤ 4611686018427387904) (hbr : ∀ i, (b.getD i []).length ≤ 4611686018427387904) : FnSpec Try.prog 15 [.d (nextD a), .d (nextD b)] [] (bv (decide (a = b))) [] [] := by
  refine fnSpec_of (rs := [.tmp 4]) Try.func15 rfl rfl (Nat.le_of_ble_eq_true rfl) (by simp [St.get]) fun E hk hn => ?_
  apply WPA.seq
  apply WPA.region
  · apply Trace.pu [] (.assign (.plain rfl))
    exact .nil _
  · exact keepOK_of hk hn rfl
  apply WPA.seq
  apply WPA.seq
  apply WPA.region
  · apply Trace.pu [] (.move (.plain rfl))
    apply Trace.pu [] (.len rfl Try.underlying28 (.plain rfl) rfl)
    apply Trace.pu [] (.move (.plain rfl))
    apply Trace.pu [] (.len rfl Try.underlying28 (.plain rfl) rfl)
    apply Trace.pu [] (.cmp (.plain rfl) (.plain rfl) rfl)
    exact .nil _
  · exact keepOK_of hk hn rfl
  refine WPA.cond rfl (fun hc1 => ?_) (fun hc1 => ?_)
  · apply WPA.seq
    apply WPA.region
    · apply Trace.pu [] (.assign (.plain rfl))
      exact .nil _
    · exact keepOK_of hk hn rfl
    apply WPA.ret
    refine ⟨.inr rfl, ⟨_, (.cons (.tmp rfl) .nil), ?_⟩, by simp [St.get]⟩
    have hl : a.length ≠ b.length := by
      have : ((a.length : Int) ≠ b.length) := by simpa using hc1
      omega
    rw [decide_eq_false (fun e => hl (congrArg List.length e))]
    rfl
  · have hl : a.length = b.length := by
      have : ¬ ((a.length : Int) ≠ b.length) := by simpa using hc1
      omega
    apply WPA.skip
    apply WPA.seq
    apply WPA.seq
    apply WPA.region
    · apply Trace.pu [] (.assign (.plain rfl))
      exact .nil _
    · exact keepOK_of hk hn rfl
    apply WPA.block
    refine WPA.loop (σ := Nat) (fun i => [(sl 0, .av (.d (nextD a))), (sl 1, .av (.d (nextD b))), (sl 5, .av (iv .i64 (i)))]) (fun i => i ≤ a.length ∧ ∀ j, j < i → a.getD j [] = b.getD j []) (fun i => a.length - i) 0
      (St.le_cons rfl (St.le_cons rfl (St.le_cons rfl (St.le_nil _)))) ⟨Nat.zero_le _, fun j h => by omega⟩ fun i hi => ?_
    apply WPA.seq
    apply WPA.seq
    apply WPA.region
    · apply Trace.pu [] (.move (.plain rfl))
      apply Trace.pu [] (.move (.plain rfl))
      apply Trace.pu [] (.len rfl Try.underlying28 (.plain rfl) rfl)
      apply Trace.pu [] (.cmp (.plain rfl) (.plain rfl) rfl)
      exact .nil _
    · exact keepOK_of hk hn rfl
    refine WPA.cond rfl (fun hc2 => ?_) (fun hc2 => ?_)
    · have hlt : i < a.length := by simpa using hc2
      have hbn : b.length = a.length := hl.symm
      apply WPA.skip
      apply WPA.seq
      apply WPA.block
      apply WPA.seq
      apply WPA.draw mixed
      · apply Trace.pu [] (.move (.plain rfl))
        apply Trace.pu [] (.move (.plain rfl))
        first | apply Trace.pu [] (.indexRows el28 (.plain rfl) (.plain rfl) (fun _ => ⟨by omega, by omega⟩)) | apply Trace.pu [] (.indexOwn el28 (.plain rfl) (.plain rfl) (fun _ => ⟨by omega, by omega⟩)) | apply Trace.pu [] (.indexSl el28 (.plain rfl) (.plain rfl) (fun _ => ⟨by omega, by omega⟩))
        first | apply Trace.pu [_] (.loadLoc1D ty22 (.plain rfl) rfl rfl) | apply Trace.pu [_] (.loadLoc1 ty22 (.plain rfl) rfl rfl) | apply Trace.pu [] (.loadRp1 ty22 (.plain rfl) rfl) | apply Trace.pu [_] (.loadCol1 ty22 (.plain rfl) rfl rfl rfl (fun _ => by omega))
        apply Trace.pu [] (.move (.plain rfl))
        apply Trace.pu [] (.move (.plain rfl))
        first | apply Trace.pu [] (.indexRows el28 (.plain rfl) (.plain rfl) (fun _ => ⟨by omega, by omega⟩)) | apply Trace.pu [] (.indexOwn el28 (.plain rfl) (.plain rfl) (fun _ => ⟨by omega, by omega⟩)) | apply Trace.pu [] (.indexSl el28 (.plain rfl) (.plain rfl) (fun _ => ⟨by omega, by omega⟩))
        first | apply Trace.pu [_] (.loadLoc1D ty22 (.plain rfl) rfl rfl) | apply Trace.pu [_] (.loadLoc1 ty22 (.plain rfl) rfl rfl) | apply Trace.pu [] (.loadRp1 ty22 (.plain rfl) rfl) | apply Trace.pu [_] (.loadCol1 ty22 (.plain rfl) rfl rfl rfl (fun _ => by omega))
        apply Trace.cu (callArgs0 (.cons (.plain rfl) (.cons (.plain rfl) .nil))) (spec16 (a.getD i []) (b.getD i []) (har i) (hbr i)) en16
        apply Trace.pu [] (.not (.plain rfl))
        exact .nil _
      · rfl
      · exact keepOK_of hk hn rfl
      refine WPA.cond rfl (fun hc3 => ?_) (fun hc3 => ?_)
      · apply WPA.seq
        apply WPA.region
        · apply Trace.pu [] (.assign (.plain rfl))
          exact .nil _
        · exact keepOK_of hk hn rfl
        apply WPA.ret
        refine ⟨.inr rfl, ⟨_, (.cons (.tmp rfl) .nil), ?_⟩, by simp [St.get]⟩
        have hx : ¬ (a.getD i [] = b.getD i []) := by simpa using hc3
        rw [decide_eq_false (fun e => hx (by rw [e]))]
        rfl
      · apply WPA.skip
        apply WPA.region
        · apply Trace.pu [] (.move (.plain rfl))
          apply Trace.pu [] (.arith (.plain rfl) (.plain rfl) rfl (fun _ => bd64 (by omega)))
          apply Trace.pu [] (.assign (.plain rfl))
          exact .nil _
        · exact keepOK_of hk hn rfl
        have hx : a.getD i [] = b.getD i [] := by simpa using hc3
        exact ⟨i + 1, ⟨by omega, fun j h => by
          by_cases hj : j = i
          · rw [hj]; exact hx
          · exact hi.2 j (by omega)⟩, by omega, St.le_cons rfl (St.le_cons rfl (St.le_cons (slI (by omega)) (St.le_nil _)))⟩
    · apply WPA.exit
      apply WPA.seq
      apply WPA.region
      · apply Trace.pu [] (.assign (.plain rfl))
        exact .nil _
      · exact keepOK_of hk hn rfl
      apply WPA.ret
      refine ⟨.inr rfl, ⟨_, (.cons (.tmp rfl) .nil), ?_⟩, by simp [St.get]⟩
      have hn : a.length ≤ i := by
        have : ¬ ((i : Int) < a.length) := by simpa using hc2
        omega
      rw [decide_eq_true (eq_rows hl fun j hj => hi.2 j (by omega))]
      rfl

/-- soundpost/soundpostref22.Few -/
theorem spec10 (g : Gr) (hz : g.Sz) : FnSpec Try.prog 10 [g.av] [] (bv g.few22) [] [] := by
  have hn1 := hz.n
  have hn2 := hz.m
  refine fnSpec_of (rs := [.tmp 2]) Try.func10 rfl rfl (Nat.le_of_ble_eq_true rfl) (by simp [St.get]) fun E hk hn => ?_
  apply WPA.seq
  apply WPA.region
  · first | apply Trace.boxD 1 [] (.plain rfl) rfl rfl | apply Trace.box 1 [] (.plain rfl) rfl rfl rfl
    apply Trace.pu [] (.assign (.plain rfl))
    exact .nil _
  · exact keepOK_of hk hn rfl
  apply WPA.seq
  apply WPA.region
  · apply Trace.pu [] (.fieldAddr fl25_0 (.plain rfl) rfl)
    first | apply Trace.pu [_] (.loadLoc1D ty22 (.plain rfl) rfl rfl) | apply Trace.pu [_] (.loadLoc1 ty22 (.plain rfl) rfl rfl) | apply Trace.pu [] (.loadRp1 ty22 (.plain rfl) rfl) | apply Trace.pu [_] (.loadCol1 ty22 (.plain rfl) rfl rfl rfl (fun _ => by omega))
    apply Trace.pu [] (.len rfl Try.underlying22 (.plain rfl) rfl)
    apply Trace.pu [] (.cmp (.plain rfl) (.plain rfl) rfl)
    apply Trace.pu [] (.move (.plain rfl))
    apply Trace.pg [] rfl (.fieldAddr fl25_1 (.plain rfl) rfl)
    first | apply Trace.pg [_] rfl (.loadLoc1D ty23 (.gd rfl (fun h => h)) rfl rfl) | apply Trace.pg [_] rfl (.loadLoc1 ty23 (.gd rfl (fun h => h)) rfl rfl) | apply Trace.pg [] rfl (.loadRp1 ty23 (.gd rfl (fun h => h)) rfl) | apply Trace.pg [_] rfl (.loadCol1 ty23 (.gd rfl (fun h => h)) rfl rfl rfl (fun _ => by omega))
    apply Trace.pg [] rfl (.len rfl Try.underlying23 (.gd rfl (fun h => h)) rfl)
    apply Trace.pg [] rfl (.cmp (.gd rfl (fun h => h)) (.plain rfl) rfl)
    apply Trace.pu [] (.pick (.plain rfl) (.gd rfl (by simp)) (.plain rfl))
    apply Trace.pu [] (.assign (.plain rfl))
    exact .nil _
  · exact keepOK_of hk hn rfl
  apply WPA.ret
  refine ⟨.inr rfl, ⟨_, (.cons (.tmp rfl) .nil), ?_⟩, by simp [St.get]⟩
  have e : g.few22 = (bif decide ((g.lat.length : Int) ≤ 12) then decide ((g.es.length : Int) ≤ 40) else false) := by
    rw [bif_and']; unfold Gr.few22
    congr 1
    · exact decide_eq_decide.2 (by omega)
    · exact decide_eq_decide.2 (by omega)
  rw [e]; rfl

end Go.Proofs.Ytglokdfdogmmhaa

