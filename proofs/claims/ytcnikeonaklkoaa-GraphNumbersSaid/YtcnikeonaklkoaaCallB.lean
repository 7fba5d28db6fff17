/- A call that takes over blocks of ours, and hands blocks back; contracts under other names of labels. No program in sight. -/
import Derived.Test.YtcnikeonaklkoaaGhost
import Derived.Test.YtcnikeonaklkoaaAppend
namespace Go.Proofs.Ytcnikeonaklkoaa
open Go
set_option linter.unusedVariables false
set_option linter.unusedSimpArgs false
variable {P : Program} {S : St} {ro : Ro} {ops : Array Oper}

/-! Labels under other names: a swap of two. -/
def trn (a b n : Nat) : Nat := bif Nat.beq n a then b else bif Nat.beq n b then a else n
theorem trn_trn (a b n : Nat) : trn a b (trn a b n) = n := by
  simp only [trn, nbeq]
  by_cases h1 : n = a
  · subst h1
    by_cases h2 : b = n
    · subst h2; simp
    · simp [h2]
  · by_cases h2 : n = b
    · subst h2; simp [h1]
    · simp [h1, h2]
mutual
def AV.swp (a b : Nat) : AV → AV
  | .d x => .d x
  | .loc l j => .loc (trn a b l) j
  | .locr l n i j => .locr (trn a b l) n i j
  | .rp l => .rp l
  | .own l n => .own (trn a b l) n
  | .sl l n lo len => .sl (trn a b l) n lo len
  | .fn f cs => .fn f (AV.swps a b cs)
  | .agg cs => .agg (AV.swps a b cs)
  | .tup cs => .tup (AV.swps a b cs)
  | .gd c x => .gd c (AV.swp a b x)
  | .yld l => .yld (trn a b l)
def AV.swps (a b : Nat) : List AV → List AV
  | [] => []
  | x :: r => AV.swp a b x :: AV.swps a b r
end
theorem swps_map (a b : Nat) (l : List AV) : AV.swps a b l = l.map (AV.swp a b) := by
  induction l with
  | nil => rfl
  | cons x r ih => simp [AV.swps, ih]
mutual
theorem swp_swp (a b : Nat) : ∀ x : AV, (x.swp a b).swp a b = x
  | .d x => rfl
  | .loc l j => by simp [AV.swp, trn_trn]
  | .locr l n i j => by simp [AV.swp, trn_trn]
  | .rp l => rfl
  | .own l n => by simp [AV.swp, trn_trn]
  | .sl l n lo len => by simp [AV.swp, trn_trn]
  | .fn f cs => by simp [AV.swp, swps_swps a b cs]
  | .agg cs => by simp [AV.swp, swps_swps a b cs]
  | .tup cs => by simp [AV.swp, swps_swps a b cs]
  | .gd c x => by simp [AV.swp, swp_swp a b x]
  | .yld l => by simp [AV.swp, trn_trn]
theorem swps_swps (a b : Nat) : ∀ l : List AV, AV.swps a b (AV.swps a b l) = l
  | [] => rfl
  | x :: r => by simp [AV.swps, swp_swp a b x, swps_swps a b r]
end
def Vals.swp (a b : Nat) (V : Vals) : Vals := ⟨fun l => V.ρ (trn a b l), fun l => V.κ (trn a b l)⟩
theorem vals_swp (a b : Nat) (V : Vals) : (V.swp a b).swp a b = V := by
  cases V; simp [Vals.swp, trn_trn]
theorem Den.swp {V : Vals} {M : Mem} {x : AV} {v : Value} (a b : Nat) (h : Den V M x v) : Den (V.swp a b) M (x.swp a b) v := by
  have hg : ∀ (cs : List AV) (j : Nat) (x : AV), (cs.map (AV.swp a b))[j]? = some x → ∃ y, cs[j]? = some y ∧ x = y.swp a b := fun cs j x hx => by
    simp only [List.getElem?_map, Option.map_eq_some_iff] at hx
    obtain ⟨y, hy, rfl⟩ := hx
    exact ⟨y, hy, rfl⟩
  have hρ : ∀ l, V.ρ l = (V.swp a b).ρ (trn a b l) := fun l => by simp [Vals.swp, trn_trn]
  have hκ : ∀ l, V.κ l = (V.swp a b).κ (trn a b l) := fun l => by simp [Vals.swp, trn_trn]
  induction h with
  | d x v h => exact .d x v h
  | loc l j => rw [hρ]; exact .loc _ _
  | locr l n i j => rw [hρ]; exact .locr _ _ _ _
  | rp l bb o c hm h => exact .rp l bb o c hm h
  | own l len cap hk hc => rw [hρ]; exact .own _ _ _ (by rw [← hκ]; exact hk) hc
  | ownNil l hk => exact .ownNil _ (by rw [← hκ]; exact hk)
  | sl l n lo len cap hc hk => rw [hρ]; exact .sl _ _ _ _ _ hc (by rw [← hκ]; exact hk)
  | slEmp l n lo aa cap => exact .slEmp _ _ _ _ _
  | fn f cs vs hl _ ih => simp only [AV.swp, swps_map]; exact .fn f _ vs (by simpa using hl) fun j x y hx hy => by obtain ⟨z, hz, rfl⟩ := hg cs j x hx; exact ih j z y hz hy
  | agg cs vs hl _ ih => simp only [AV.swp, swps_map]; exact .agg _ vs (by simpa using hl) fun j x y hx hy => by obtain ⟨z, hz, rfl⟩ := hg cs j x hx; exact ih j z y hz hy
  | tup cs vs hl _ ih => simp only [AV.swp, swps_map]; exact .tup _ vs (by simpa using hl) fun j x y hx hy => by obtain ⟨z, hz, rfl⟩ := hg cs j x hx; exact ih j z y hz hy
  | gd c x v _ hu ih => exact .gd c _ v (fun hc => ih hc) hu
  | yld l => rw [hρ]; exact .yld _

def slotsSwp (a b : Nat) : List (Nat × AV) → List (Nat × AV)
  | [] => []
  | p :: r => (p.1, p.2.swp a b) :: slotsSwp a b r
theorem slotsSwp_map (a b : Nat) (l : List (Nat × AV)) : slotsSwp a b l = l.map fun p => (p.1, p.2.swp a b) := by
  induction l with
  | nil => rfl
  | cons x r ih => simp [slotsSwp, ih]
theorem slotsSwp_swp (a b : Nat) (l : List (Nat × AV)) : slotsSwp a b (slotsSwp a b l) = l := by
  induction l with
  | nil => rfl
  | cons x r ih => simp [slotsSwp, ih, swp_swp]
def Blk.swp (a b : Nat) : Blk → Blk
  | .cells cs => .cells (AV.swps a b cs)
  | .lp h ts => .lp h (slotsSwp a b ts)
  | .appv cs => .appv (AV.swps a b cs)
  | B => B
def Cont.swp (a b : Nat) : Cont → Cont
  | .av x => .av (x.swp a b)
  | .blk B => .blk (B.swp a b)
/-- A state of blocks alone, under swapped names. -/
def St.swp (a b : Nat) : St → St
  | [] => []
  | (n, c) :: r => (bk (trn a b (n / 2)), c.swp a b) :: St.swp a b r
theorem blk_swp (a b : Nat) (B : Blk) : (B.swp a b).swp a b = B := by
  cases B with
  | cells cs => simp [Blk.swp, swps_swps]
  | lp h ts => simp [Blk.swp, slotsSwp_swp]
  | appv cs => simp [Blk.swp, swps_swps]
  | _ => rfl
theorem cont_swp (a b : Nat) (c : Cont) : (c.swp a b).swp a b = c := by
  cases c with
  | av x => simp [Cont.swp, swp_swp]
  | blk B => simp [Cont.swp, blk_swp]
theorem trn_inj (a b m n : Nat) : trn a b m = trn a b n ↔ m = n := ⟨fun h => by rw [← trn_trn a b m, h, trn_trn], fun h => by rw [h]⟩
theorem St.get_swp (a b : Nat) : ∀ (S : St) (_ : ∀ p ∈ S, p.1 % 2 = 1) (l : Nat), (S.swp a b).get (bk (trn a b l)) = (S.get (bk l)).map (Cont.swp a b)
  | [], _, l => rfl
  | (n, c) :: r, h, l => by
    have hn : n % 2 = 1 := h (n, c) (by simp)
    have ih := St.get_swp a b r (fun p hp => h p (by simp [hp])) l
    simp only [St.swp]
    rw [get_cons, get_cons, ih]
    have h1 : bk (trn a b (n / 2)) = bk (trn a b l) ↔ n = bk l := by
      constructor
      · intro e
        have : trn a b (n / 2) = trn a b l := by unfold bk at e; omega
        have := (trn_inj a b _ _).1 this
        unfold bk; omega
      · intro e
        have : n / 2 = l := by unfold bk at e; omega
        rw [this]
    by_cases hc : n = bk l
    · rw [if_pos (h1.2 hc), if_pos hc]; rfl
    · rw [if_neg (fun e => hc (h1.1 e)), if_neg hc]
theorem St.swp_odd (a b : Nat) : ∀ (S : St), ∀ p ∈ S.swp a b, p.1 % 2 = 1
  | [], p, hp => by cases hp
  | (n, c) :: r, p, hp => by
    simp only [St.swp, List.mem_cons] at hp
    rcases hp with rfl | hp
    · show bk _ % 2 = 1
      unfold bk; omega
    · exact St.swp_odd a b r p hp
theorem get_swp' (a b : Nat) {S : St} (h : ∀ p ∈ S, p.1 % 2 = 1) (l : Nat) : (S.swp a b).get (bk l) = (S.get (bk (trn a b l))).map (Cont.swp a b) := by
  have := St.get_swp a b S h (trn a b l)
  rwa [trn_trn] at this

theorem BlkAt.swp {V : Vals} {M : Mem} {w : World} {l : Nat} {B : Blk} (a b : Nat) (h : BlkAt V M w l B) : BlkAt (V.swp a b) M w (trn a b l) (B.swp a b) := by
  have hρ : (V.swp a b).ρ (trn a b l) = V.ρ l := by simp [Vals.swp, trn_trn]
  have hκ : (V.swp a b).κ (trn a b l) = V.κ l := by simp [Vals.swp, trn_trn]
  cases B with
  | cells cs =>
    obtain ⟨h1, vs, t, h2, h3, h4⟩ := h
    refine ⟨by rw [hκ]; exact h1, vs, t, by rw [hρ]; exact h2, by simpa [swps_map] using h3, fun j x y hx hy => ?_⟩
    simp only [swps_map, List.getElem?_map, Option.map_eq_some_iff] at hx
    obtain ⟨z, hz, rfl⟩ := hx
    exact (h4 j z y hz hy).swp a b
  | data ds =>
    obtain ⟨h1, vs, t, h2, h3, h4⟩ := h
    refine ⟨by rw [hκ]; exact h1, vs, t, by rw [hρ]; exact h2, h3, fun j x y hx hy => ?_⟩
    have := h4 j x y hx hy
    simp only [List.getElem?_map, Option.map_eq_some_iff] at hx
    obtain ⟨z, hz, rfl⟩ := hx
    cases this with | d _ _ h => exact .d _ _ h
  | cols n len cs => obtain ⟨h1, vs, t, h2, h3⟩ := h; exact ⟨by rw [hκ]; exact h1, vs, t, by rw [hρ]; exact h2, h3⟩
  | app n len cs =>
    obtain ⟨h1, h2, h3⟩ := h
    refine ⟨h1, h2, ?_⟩
    rw [hκ]
    split
    · rename_i hk; rw [hk] at h3; exact h3
    · rename_i cap hk
      rw [hk] at h3
      obtain ⟨h4, vs, t, h5, h6⟩ := h3
      exact ⟨h4, vs, t, by rw [hρ]; exact h5, h6⟩
  | lp h' ts =>
    obtain ⟨hk, fn, tmps, d, h1, h2, h3⟩ := h
    refine ⟨by rw [hκ]; exact hk, fn, tmps, d, by rw [hρ]; exact h1, h2, fun p hp => ?_⟩
    rw [slotsSwp_map] at hp
    obtain ⟨q, hq, rfl⟩ := List.mem_map.1 hp
    obtain ⟨v, hv, hd⟩ := h3 q hq
    exact ⟨v, hv, hd.swp a b⟩
  | appv cs =>
    have h : appvAt V M w l cs := h
    show appvAt (V.swp a b) M w (trn a b l) (AV.swps a b cs)
    unfold appvAt at *
    rw [hκ, hρ]
    cases hk : V.κ l with
    | none => rw [hk] at h; subst h; rfl
    | some cap =>
      rw [hk] at h
      obtain ⟨h1, vs, t, h2, h3, h4⟩ := h
      refine ⟨by simpa [swps_map] using h1, vs, t, h2, h3, fun j x hx => ?_⟩
      simp only [swps_map, List.getElem?_map, Option.map_eq_some_iff] at hx
      obtain ⟨z, hz, rfl⟩ := hx
      obtain ⟨v, hv, hd⟩ := h4 j z hz
      exact ⟨v, hv, hd.swp a b⟩

theorem RepW.swp {w0 : World} {passed : List Nat} {M0 : Mem} {V0 : Vals} {keep : List Nat} {S : St} {V : Vals} {M : Mem} {w : World} (a b : Nat) (hS : ∀ p ∈ S, p.1 % 2 = 1)
    (h : RepW (.of w0 passed M0 (V0) (keep) 0) S V M w) : RepW (.of w0 passed M0 (V0.swp a b) (keep.map (trn a b)) 0) (S.swp a b) (V.swp a b) M w := by
  have hH : ∀ l, HasB (V.swp a b) (S.swp a b) l → HasB V S (trn a b l) := by
    rintro l ⟨⟨B, e⟩, k⟩
    rw [get_swp' a b hS, Option.map_eq_some_iff] at e
    obtain ⟨c, hc, e⟩ := e
    cases c with
    | av x => cases e
    | blk B' => exact ⟨⟨B', hc⟩, k⟩
  exact
    { blks := fun l B e => by
        rw [get_swp' a b hS, Option.map_eq_some_iff] at e
        obtain ⟨c, hc, e⟩ := e
        cases c with
        | av x => cases e
        | blk B' =>
          have := (h.blks _ _ hc).swp a b
          rw [trn_trn] at this
          simp only [Cont.swp, Cont.blk.injEq] at e
          rw [← e]; exact this
      inj := fun l l' h1 h2 hne => h.inj _ _ (hH l h1) (hH l' h2) (fun e => hne ((trn_inj a b _ _).1 e))
      sep := fun l h1 => h.sep _ (hH l h1)
      fresh := fun l h1 => h.fresh _ (hH l h1)
      bd := fun l h1 => h.bd _ (hH l h1)
      mem := h.mem, mle := h.mle, mnew := h.mnew
      keep := fun l hl => by
        obtain ⟨l', hl', rfl⟩ := List.mem_map.1 hl
        have := h.keep l' hl'
        simpa [Vals.swp, trn_trn] using this
      frame := ⟨h.frame.os, h.frame.tape, h.frame.output, h.frame.size, h.frame.block⟩ }

/-- **A contract under swapped names.** -/
theorem FnSpec.swp {f : FuncId} {args : List AV} {Bs Bs' : St} {res : AV} {keep : List Nat} (h : FnSpec P f args Bs res Bs' keep) (a b : Nat) (h1 : ∀ p ∈ Bs, p.1 % 2 = 1) (h2 : ∀ p ∈ Bs', p.1 % 2 = 1) :
    FnSpec P f (AV.swps a b args) (Bs.swp a b) (res.swp a b) (Bs'.swp a b) (keep.map (trn a b)) := by
  intro V M w passed vs hw hd
  have e1 : (Bs.swp a b).swp a b = Bs := by
    induction Bs with
    | nil => rfl
    | cons p r ih =>
      obtain ⟨n, c⟩ := p
      have hn : n % 2 = 1 := h1 (n, c) (by simp)
      simp only [St.swp, cont_swp]
      have : bk (trn a b (bk (trn a b (n / 2)) / 2)) = n := by
        have : bk (trn a b (n / 2)) / 2 = trn a b (n / 2) := by unfold bk; omega
        rw [this, trn_trn]; unfold bk; omega
      rw [this]
      congr 1
      have key : ∀ r : St, (∀ p ∈ r, p.1 % 2 = 1) → (r.swp a b).swp a b = r := by
        intro r
        induction r with
        | nil => intro _; rfl
        | cons p r ih =>
          obtain ⟨n, c⟩ := p
          intro hr
          have hn : n % 2 = 1 := hr (n, c) (by simp)
          simp only [St.swp, cont_swp]
          have : bk (trn a b (bk (trn a b (n / 2)) / 2)) = n := by
            have : bk (trn a b (n / 2)) / 2 = trn a b (n / 2) := by unfold bk; omega
            rw [this, trn_trn]; unfold bk; omega
          rw [this, ih (fun p hp => hr p (by simp [hp]))]
      exact key r (fun p hp => h1 p (by simp [hp]))
  have hk : (keep.map (trn a b)).map (trn a b) = keep := by
    rw [List.map_map]
    conv => rhs; rw [← List.map_id keep]
    exact List.map_congr_left fun n _ => trn_trn a b n
  have hw1 := hw.swp a b (St.swp_odd a b Bs)
  rw [e1, hk] at hw1
  have hd1 : DenL (V.swp a b) M args vs := ⟨by have := hd.len; simpa [swps_map] using this, fun j x y hx hy => by
    have := (hd.at' j (x.swp a b) y (by simp [swps_map, hx]) hy).swp a b
    rwa [swp_swp] at this⟩
  refine (h (V.swp a b) M w passed vs hw1 hd1).mono ?_
  rintro e w' ⟨v, V', M', rfl, hv, hw'⟩
  have hw2 := hw'.swp a b h2
  rw [vals_swp] at hw2
  exact ⟨v, V'.swp a b, M', rfl, hv.swp a b, hw2⟩

/-! The call. -/
mutual
/-- Does a value name labels of this list alone? -/
def AV.within (ls : List Nat) : AV → Bool
  | .d _ => true
  | .loc a _ => memB a ls
  | .locr a _ _ _ => memB a ls
  | .rp _ => true
  | .own a _ => memB a ls
  | .sl a _ _ _ => memB a ls
  | .fn _ cs => AV.withins ls cs
  | .agg cs => AV.withins ls cs
  | .tup cs => AV.withins ls cs
  | .gd _ x => AV.within ls x
  | .yld a => memB a ls
def AV.withins (ls : List Nat) : List AV → Bool
  | [] => true
  | x :: r => AV.within ls x && AV.withins ls r
end
theorem withins_mem {ls : List Nat} {cs : List AV} (h : AV.withins ls cs = true) {x : AV} (hx : x ∈ cs) : x.within ls = true := by
  induction cs with
  | nil => cases hx
  | cons y r ih =>
    simp only [AV.withins, Bool.and_eq_true] at h
    rcases List.mem_cons.1 hx with rfl | hx
    · exact h.1
    · exact ih h.2 hx
theorem within_ment {ls : List Nat} {x : AV} {l : Nat} (hm : Ment x l) : x.within ls = true → l ∈ ls := by
  induction hm with
  | loc l j => exact fun h => memB_iff.1 h
  | locr l n i j => exact fun h => memB_iff.1 h
  | own l n => exact fun h => memB_iff.1 h
  | sl l n lo len => exact fun h => memB_iff.1 h
  | fn f cs x l hx _ ih => exact fun h => ih (withins_mem (by simpa only [AV.within] using h) hx)
  | agg cs x l hx _ ih => exact fun h => ih (withins_mem (by simpa only [AV.within] using h) hx)
  | tup cs x l hx _ ih => exact fun h => ih (withins_mem (by simpa only [AV.within] using h) hx)
  | gd c x l _ ih => exact fun h => ih (by simpa only [AV.within] using h)
  | yld l => exact fun h => memB_iff.1 h
def slotsWithin (ls : List Nat) : List (Nat × AV) → Bool
  | [] => true
  | p :: r => p.2.within ls && slotsWithin ls r
theorem slotsWithin_mem {ls : List Nat} {ts : List (Nat × AV)} (h : slotsWithin ls ts = true) {p : Nat × AV} (hp : p ∈ ts) : p.2.within ls = true := by
  induction ts with
  | nil => cases hp
  | cons q r ih =>
    simp only [slotsWithin, Bool.and_eq_true] at h
    rcases List.mem_cons.1 hp with rfl | hp
    · exact h.1
    · exact ih h.2 hp
def Blk.within (ls : List Nat) : Blk → Bool
  | .cells cs => AV.withins ls cs
  | .lp _ ts => slotsWithin ls ts
  | .appv cs => AV.withins ls cs
  | _ => true
def contWithin (ls : List Nat) : Cont → Bool
  | .blk B => B.within ls
  | .av _ => false
def labs (S : St) : List Nat := S.map fun p => p.1 / 2
def allKeys (f : Nat → Bool) : St → Bool
  | [] => true
  | (n, _) :: r => f n && allKeys f r
theorem allKeys_mem {f : Nat → Bool} : ∀ {S : St}, allKeys f S = true → ∀ p ∈ S, f p.1 = true
  | [], _, p, hp => by cases hp
  | (n, c) :: r, h, p, hp => by
    simp only [allKeys, Bool.and_eq_true] at h
    rcases List.mem_cons.1 hp with rfl | hp
    · exact h.1
    · exact allKeys_mem h.2 p hp
def keysOf : St → List Nat
  | [] => []
  | (n, _) :: r => n :: keysOf r
theorem keysOf_eq : ∀ (S : St), keysOf S = S.map Prod.fst
  | [] => rfl
  | (n, c) :: r => by simp [keysOf, keysOf_eq r]
def allConts (f : Cont → Bool) : St → Bool
  | [] => true
  | (_, c) :: r => f c && allConts f r
theorem allConts_mem {f : Cont → Bool} : ∀ {S : St}, allConts f S = true → ∀ p ∈ S, f p.2 = true
  | [], _, p, hp => by cases hp
  | (n, c) :: r, h, p, hp => by
    simp only [allConts, Bool.and_eq_true] at h
    rcases List.mem_cons.1 hp with rfl | hp
    · exact h.1
    · exact allConts_mem h.2 p hp
def blocksOnly (S : St) : Bool := allKeys (fun n => Nat.beq (n % 2) 1) S

theorem Den.relab2 {V V' : Vals} {M : Mem} {x : AV} {v : Value} (h : Den V M x v) (hv : ∀ l, Ment x l → V'.ρ l = V.ρ l ∧ V'.κ l = V.κ l) : Den V' M x v := h.mono (Mem.le_refl _) hv

def delsA (Bs : St) : List Nat := keysOf Bs
def somes : St → List (Nat × Option Cont)
  | [] => []
  | (n, c) :: r => somes r ++ [(n, some c)]
theorem somes_eq : ∀ (S : St), somes S = (S.map fun p => (p.1, some p.2)).reverse
  | [] => rfl
  | (n, c) :: r => by simp [somes, somes_eq r]
abbrev postCall (ds : List Nat) (Bs' : St) (d : Nat) (x : AV) : List (Nat × Option Cont) := delsOf ds ++ (somes Bs' ++ [(sl d, some (.av x))])
theorem lastOf_back (n : Nat) (d : Option Cont) : ∀ (Bs : St), lastOf n d (Bs.map fun p => (p.1, some p.2)).reverse = match Bs.get n with | some c => some c | none => d
  | [] => rfl
  | (m, c) :: r => by
    simp only [List.map_cons, List.reverse_cons, lastOf_append, lastOf_back n d r, lastOf, St.get, nbeq]
    by_cases h : m = n <;> simp [h]
theorem get_postCall (S : St) (ds : List Nat) (Bs' : St) (d : Nat) (x : AV) (n : Nat) :
    (S.upd (postCall ds Bs' d x)).get n = if sl d = n then some (.av x) else match Bs'.get n with | some c => some c | none => if n ∈ ds then none else S.get n := by
  rw [St.get_upd, lastOf_append, lastOf_append, lastOf_dels, somes_eq, lastOf_back]
  simp only [lastOf]
/-- The state behind a call. -/
abbrev St.called (S : St) (ds : List Nat) (Bs' : St) (d : Nat) (x : AV) : St := (sl d, .av x) :: (Bs' ++ St.dels ds S)
theorem called_upd (S : St) (ds : List Nat) (Bs' : St) (d : Nat) (x : AV) : ∀ n, (S.called ds Bs' d x).get n = (S.upd (postCall ds Bs' d x)).get n := fun n => by
  rw [get_postCall, get_cons, St.get_append, get_dels]
  cases Bs'.get n <;> rfl
theorem names_postCall {ds : List Nat} {Bs' : St} {d : Nat} {x : AV} {n : Nat} : n ∈ (postCall ds Bs' d x).map Prod.fst ↔ n ∈ ds ∨ n ∈ Bs'.map Prod.fst ∨ n = sl d := by
  simp only [postCall, somes_eq, delsOf, List.map_append, List.map_map, List.map_reverse, List.mem_append, List.mem_map, List.mem_reverse, Function.comp, List.map_cons, List.map_nil, List.mem_cons, List.not_mem_nil, or_false]
  constructor
  · rintro (⟨y, hy, rfl⟩ | ⟨y, hy, rfl⟩ | h)
    · exact .inl hy
    · exact .inr (.inl ⟨y, hy, rfl⟩)
    · exact .inr (.inr h)
  · rintro (h | ⟨y, hy, rfl⟩ | h)
    · exact .inl ⟨n, h, rfl⟩
    · exact .inr (.inl ⟨y, hy, rfl⟩)
    · exact .inr (.inr h)

/-- What the caller must see of the blocks that go in and of those that come back. -/
structure Handed (S0 : St) (Bs Bs' : St) (res : AV) (keep new ds : List Nat) : Prop where
  odd : ∀ p ∈ Bs, p.1 % 2 = 1
  odd' : ∀ p ∈ Bs', p.1 % 2 = 1
  have_ : ∀ p ∈ Bs, S0.get p.1 = some p.2
  blk : ∀ p ∈ Bs, ∃ B, p.2 = .blk B
  drop : ∀ p ∈ Bs, p.1 ∈ ds
  lab : ∀ p ∈ Bs', p.1 / 2 ∈ new ∨ p.1 / 2 ∈ keep
  kept : ∀ l ∈ keep, l ∉ new
  res : res.within (new ++ keep) = true
  cell : ∀ p ∈ Bs', contWithin (new ++ keep) p.2 = true
  news : ∀ l ∈ new, bk l ∈ Bs'.map Prod.fst

theorem BlkAt.turn {V V' : Vals} {M M' : Mem} {w w' : World} {l : Nat} {B : Blk} (h : BlkAt V M w l B) (hM : M.le M') (hl : V'.ρ l = V.ρ l ∧ V'.κ l = V.κ l) (hm : ∀ l', BMent B l' → V'.ρ l' = V.ρ l' ∧ V'.κ l' = V.κ l')
    (hw : V.κ l ≠ none → w'.heap[V.ρ l]? = w.heap[V.ρ l]?) : BlkAt V' M' w' l B := by
  have h1 : BlkAt V M w' l B := h.kept hw
  cases B with
  | cells cs =>
    obtain ⟨a1, vs, t, a2, a3, a4⟩ := h1
    refine ⟨by rw [hl.2]; exact a1, vs, t, by rw [hl.1]; exact a2, a3, fun j x y hx hy => (a4 j x y hx hy).mono hM fun l' hm' => hm l' (.cells cs x l' (List.mem_of_getElem? hx) hm')⟩
  | data ds =>
    obtain ⟨a1, vs, t, a2, a3, a4⟩ := h1
    refine ⟨by rw [hl.2]; exact a1, vs, t, by rw [hl.1]; exact a2, a3, fun j x y hx hy => (a4 j x y hx hy).mono hM fun l' hm' => ?_⟩
    simp only [List.getElem?_map, Option.map_eq_some_iff] at hx
    obtain ⟨z, _, rfl⟩ := hx
    cases hm'
  | cols n len cs => obtain ⟨a1, vs, t, a2, a3, a4, a5, a6⟩ := h1; exact ⟨by rw [hl.2]; exact a1, vs, t, by rw [hl.1]; exact a2, a3, a4, a5, fun i j c hi hc => let ⟨v, hv, hd⟩ := a6 i j c hi hc; ⟨v, hv, hd.mono hM⟩⟩
  | app n len cs =>
    obtain ⟨a1, a2, a3⟩ := h1
    refine ⟨a1, a2, ?_⟩
    rw [hl.2]
    split
    · rename_i hkn; rw [hkn] at a3; exact a3
    · rename_i cap hkn
      rw [hkn] at a3
      obtain ⟨b1, vs, t, b2, b3, b4, b5, b6⟩ := a3
      exact ⟨b1, vs, t, by rw [hl.1]; exact b2, b3, b4, b5, fun i j c hi hc => let ⟨v, hv, hd⟩ := b6 i j c hi hc; ⟨v, hv, hd.mono hM⟩⟩
  | lp h' ts => exact lpAt.turn h1 hM hl hm (fun _ => rfl)
  | appv cs => exact appvAt.turn h1 hM hl hm (fun _ => rfl)

theorem axOp_callB {S0 : St} {o : Oper} {cl : Call} {t : Nat} {g : FuncId} {args : List AV} {res : AV} {Bs Bs' : St} {keep new ds : List Nat} (ho : o.op = .call cl) (hdst : o.dst = some t) (hgd : o.guard = none)
    (hca : CallArgs S0 true cl g args) (hg : enterOK P g = true) (hs : FnSpec P g args Bs res Bs' keep) (hh : Handed S0 Bs Bs' res keep new ds) :
    AxOp P ro ops o ⟨opNames o ++ delsA Bs, S0, postCall ds Bs' t res, new⟩ := by
  intro E S a w hag hfr hok ⟨V, M, ha, hw⟩ Q hpn
  have ht : t < E.nt := hok.2 t (names_postCall.2 (.inr (.inr rfl)))
  unfold stepIn
  rw [if_pos (by simp [Region.wanted, hgd])]
  obtain ⟨vs, hr, hd⟩ := run_call ho (given_of hag (fun n hn => by simp [hn]) (fun l hl => by cases hl) rfl ha hw : Given E S0 o [] true V M a w) hca hg
  refine wpIn_of_enter (fun d h => by rw [ho] at h; cases h) hr ?_
  have hget : ∀ l B, Bs.get (bk l) = some (.blk B) → S.get (bk l) = some (.blk B) := fun l B e => by
    have hm := St.mem_of_get e
    rw [hag (bk l) (by simp only [delsA, keysOf_eq, List.mem_append, List.mem_map]; exact .inr ⟨_, hm, rfl⟩)]
    exact hh.have_ _ hm
  have hB : ∀ l, HasB V Bs l → HasB V S l := fun l ⟨⟨B, e⟩, k⟩ => ⟨⟨B, hget l B e⟩, k⟩
  let pl : List Nat := (labs Bs).filter fun l => (V.κ l).isSome
  let passed : List Nat := pl.map V.ρ
  have hpl : ∀ l, l ∈ pl → HasB V S l ∧ bk l ∈ ds := fun l hl => by
    simp only [pl, List.mem_filter, labs, List.mem_map] at hl
    obtain ⟨⟨p, hp, rfl⟩, hk⟩ := hl
    have hodd := hh.odd p hp
    have e : bk (p.1 / 2) = p.1 := by unfold bk; omega
    obtain ⟨B, hBp⟩ := hh.blk p hp
    have h1 := hh.have_ p hp
    rw [hBp] at h1
    rw [e]
    refine ⟨⟨⟨B, ?_⟩, by cases hx : V.κ (p.1 / 2) <;> simp_all⟩, hh.drop p hp⟩
    rw [e, hag p.1 (by simp only [delsA, keysOf_eq, List.mem_append, List.mem_map]; exact .inr ⟨p, hp, rfl⟩)]
    exact h1
  have hpre : RepW (.of w passed M (V) (keep) 0) Bs V M w :=
    { blks := fun l B e => hw.blks l B (hget l B e), inj := fun l l' a b => hw.inj l l' (hB l a) (hB l' b), sep := fun l a => hw.sep l (hB l a)
      fresh := fun l a => .inr (by
        obtain ⟨⟨B, e⟩, k⟩ := a
        have hm := St.mem_of_get e
        simp only [passed, pl, List.mem_map, List.mem_filter, labs]
        exact ⟨l, ⟨⟨_, hm, by unfold bk; omega⟩, by cases hx : V.κ l <;> simp_all⟩, rfl⟩)
      bd := fun l a => hw.bd l (hB l a)
      mem := hw.mem, mle := Mem.le_refl M, mnew := fun b o h => .inl h, keep := fun l hl => ⟨rfl, rfl⟩, frame := ⟨rfl, rfl, rfl, Nat.le_refl _, fun _ _ _ => rfl⟩ }
  refine (hs V M w passed vs hpre hd).mono ?_
  rintro e w' ⟨v, V', M', rfl, hdv, hw'⟩
  refine ⟨v, rfl, ?_⟩
  rw [hdst]
  have hf := hw'.frame
  -- the new valuation
  let Vn : Vals := ⟨fun l => if l ∈ new then V'.ρ l else V.ρ l, fun l => if l ∈ new then V'.κ l else V.κ l⟩
  have hVold : ∀ l, l ∉ new → Vn.ρ l = V.ρ l ∧ Vn.κ l = V.κ l := fun l hl => by simp [Vn, hl]
  have hVnew : ∀ l, l ∈ new ++ keep → Vn.ρ l = V'.ρ l ∧ Vn.κ l = V'.κ l := fun l hl => by
    by_cases h : l ∈ new
    · simp [Vn, h]
    · have hk : l ∈ keep := by simpa [h] using hl
      have := hw'.keep l hk
      simp only [Vn, h, if_false]
      exact ⟨this.1.symm, this.2.symm⟩
  have hdvn : Den Vn M' res v := hdv.relab2 fun l hl => hVnew l (within_ment hl hh.res)
  -- names
  let T := S.upd (postCall ds Bs' t res)
  have hT : ∀ n, T.get n = if sl t = n then some (.av res) else match Bs'.get n with | some c => some c | none => if n ∈ ds then none else S.get n := get_postCall S ds Bs' t res
  have hodd' : ∀ n c, Bs'.get n = some c → n % 2 = 1 := fun n c e => hh.odd' _ (St.mem_of_get e)
  have hnames : ∀ n, n ∈ (postCall ds Bs' t res).map Prod.fst → n ∈ ds ∨ n ∈ Bs'.map Prod.fst ∨ n = sl t := fun n h => names_postCall.1 h
  have hold : ∀ n c, sl t ≠ n → Bs'.get n = none → n ∉ ds → S.get n = some c → ∀ l, l ∈ new → ¬ CMent c l := fun n c h1 h2 h3 h4 l hl => by
    refine hfr l hl n c h4 fun hn => ?_
    rcases hnames n hn with h | h | h
    · exact h3 h
    · obtain ⟨p, hp, rfl⟩ := List.mem_map.1 h
      have key : ∀ (B : St) (p : Nat × Cont), p ∈ B → B.get p.1 ≠ none := by
        intro B
        induction B with
        | nil => intro p hp; cases hp
        | cons q r ih =>
          obtain ⟨m, d⟩ := q
          intro p hp hne
          rw [get_cons] at hne
          by_cases hm : m = p.1
          · rw [if_pos hm] at hne; cases hne
          · rw [if_neg hm] at hne
            rcases List.mem_cons.1 hp with rfl | hp
            · exact hm rfl
            · exact ih p hp hne
      exact key Bs' p hp h2
    · exact h1 h.symm
  have hfin : ∀ l, HasB V S l → bk l ∉ ds → V.ρ l ∉ passed := fun l hl hd hp => by
    obtain ⟨l', hl', he⟩ := List.mem_map.1 hp
    obtain ⟨h1, h2⟩ := hpl l' hl'
    have hne : l ≠ l' := fun e => hd (e ▸ h2)
    exact hw.inj l l' hl h1 hne he.symm
  -- a block of T: handed back, or kept
  have hcases : ∀ l B, T.get (bk l) = some (.blk B) → (Bs'.get (bk l) = some (.blk B) ∧ l ∈ new ++ keep) ∨ (S.get (bk l) = some (.blk B) ∧ bk l ∉ ds ∧ Bs'.get (bk l) = none) := fun l B e => by
    rw [hT, if_neg (sl_ne_bk t l)] at e
    cases hb : Bs'.get (bk l) with
    | some c =>
      rw [hb] at e
      refine .inl ⟨by rw [← hb]; simpa [hb] using e, ?_⟩
      have hm := St.mem_of_get hb
      have := hh.lab _ hm
      have e2 : bk l / 2 = l := by unfold bk; omega
      simp only [e2] at this
      exact List.mem_append.2 this
    | none =>
      rw [hb] at e
      simp only at e
      by_cases hd : bk l ∈ ds
      · rw [if_pos hd] at e; cases e
      · rw [if_neg hd] at e; exact .inr ⟨e, hd, rfl⟩
  have hnn : ∀ l B, S.get (bk l) = some (.blk B) → Bs'.get (bk l) = none → l ∉ new := fun l B _ h2 hl => by
    have hm := hh.news l hl
    obtain ⟨p, hp, he⟩ := List.mem_map.1 hm
    have key : ∀ (B : St) (p : Nat × Cont), p ∈ B → B.get p.1 ≠ none := by
      intro B
      induction B with
      | nil => intro p hp; cases hp
      | cons q r ih =>
        obtain ⟨m, d⟩ := q
        intro p hp hne
        rw [get_cons] at hne
        by_cases hm : m = p.1
        · rw [if_pos hm] at hne; cases hne
        · rw [if_neg hm] at hne
          rcases List.mem_cons.1 hp with rfl | hp
          · exact hm rfl
          · exact ih p hp hne
    exact key Bs' p hp (he ▸ h2)
  have hHas : ∀ l, HasB Vn T l → (HasB V' Bs' l ∧ Vn.ρ l = V'.ρ l) ∨ (HasB V S l ∧ bk l ∉ ds ∧ Vn.ρ l = V.ρ l) := fun l ⟨⟨B, e⟩, k⟩ => by
    rcases hcases l B e with ⟨h1, h2⟩ | ⟨h1, h2, h3⟩
    · have := hVnew l h2
      exact .inl ⟨⟨⟨B, h1⟩, by rw [← this.2]; exact k⟩, this.1⟩
    · have := hVold l (hnn l B h1 h3)
      exact .inr ⟨⟨⟨B, h1⟩, by rw [← this.2]; exact k⟩, h2, this.1⟩
  have hsz : ∀ l, HasB V' Bs' l → w.heap.size ≤ V'.ρ l ∨ V'.ρ l ∈ passed := fun l hl => hw'.fresh l hl
  have hapart : ∀ l l', HasB V' Bs' l → HasB V S l' → bk l' ∉ ds → V'.ρ l ≠ V.ρ l' := fun l l' h1 h2 h3 e => by
    rcases hsz l h1 with h | h
    · have := hw.bd l' h2; omega
    · exact hfin l' h2 h3 (e ▸ h)
  refine ⟨Vn, M', ⟨fun s x hx => ?_, by simp [Act.put, ha.size], ha.defers⟩, ?_⟩
  · have hx : T.get (sl s) = some (.av x) := hx
    rw [hT] at hx
    by_cases hst : t = s
    · subst hst
      rw [if_pos rfl] at hx
      injection hx with hx; injection hx with hx; subst hx
      exact ⟨v, by simp [Act.put, ha.size, ht], hdvn⟩
    · have hne : sl t ≠ sl s := fun e => hst (sl_inj e)
      rw [if_neg hne] at hx
      have hbn : Bs'.get (sl s) = none := by
        cases hb : Bs'.get (sl s) with
        | none => rfl
        | some c => have := hodd' _ _ hb; unfold sl at this; omega
      rw [hbn] at hx
      simp only at hx
      by_cases hd : sl s ∈ ds
      · rw [if_pos hd] at hx; cases hx
      · rw [if_neg hd] at hx
        obtain ⟨u, hu, hdu⟩ := ha.slots s x hx
        refine ⟨u, by simpa [Act.put, Array.getElem?_setIfInBounds, hst] using hu, hdu.mono hw'.mle fun l hl => hVold l fun hn => hold (sl s) _ hne hbn hd hx l hn hl⟩
  · exact
    { blks := fun l B e => by
        rcases hcases l B e with ⟨h1, h2⟩ | ⟨h1, h2, h3⟩
        · have hm := hh.cell _ (St.mem_of_get h1)
          exact (hw'.blks l B h1).turn (Mem.le_refl _) (hVnew l h2) (fun l' hl' => hVnew l' (by
            cases hl' with
            | cells cs x _ hx hmx => exact within_ment hmx (withins_mem hm hx)
            | lp h' ts p _ hx hmx => exact within_ment hmx (slotsWithin_mem hm hx)
            | appv cs x _ hx hmx => exact within_ment hmx (withins_mem hm hx))) (fun _ => rfl)
        · have hln := hnn l B h1 h3
          exact (hw.blks l B h1).turn hw'.mle (hVold l hln) (fun l' hl' => hVold l' fun hn => hold (bk l) _ (sl_ne_bk t l) h3 h2 h1 l' hn hl') (fun hk => hf.block _ (hw.bd l ⟨⟨B, h1⟩, hk⟩) (hfin l ⟨⟨B, h1⟩, hk⟩ h2))
      inj := fun l l' h1 h2 hne => by
        rcases hHas l h1 with ⟨a1, a2⟩ | ⟨a1, a2, a3⟩
        · rcases hHas l' h2 with ⟨b1, b2⟩ | ⟨b1, b2, b3⟩
          · rw [a2, b2]; exact hw'.inj l l' a1 b1 hne
          · rw [a2, b3]; exact hapart l l' a1 b1 b2
        · rcases hHas l' h2 with ⟨b1, b2⟩ | ⟨b1, b2, b3⟩
          · rw [a3, b2]; exact (hapart l' l b1 a1 a2).symm
          · rw [a3, b3]; exact hw.inj l l' a1 b1 hne
      sep := fun l h1 o => by
        rcases hHas l h1 with ⟨a1, a2⟩ | ⟨a1, a2, a3⟩
        · rw [a2]; exact hw'.sep l a1 o
        · rw [a3]
          cases hc : M' (V.ρ l) o with
          | none => rfl
          | some u =>
            rcases hw'.mnew (V.ρ l) o (by rw [hc]; simp) with h | h | h
            · exact absurd (hw.sep l a1 o) h
            · have := hw.bd l a1
              have h : w.heap.size ≤ V.ρ l := h
              omega
            · exact absurd h (hfin l a1 a2)
      fresh := fun l h1 => by
        rcases hHas l h1 with ⟨a1, a2⟩ | ⟨a1, a2, a3⟩
        · rw [a2]
          rcases hsz l a1 with h | h
          · exact .inl (Nat.le_trans hw.frame.size h)
          · obtain ⟨l', hl', he⟩ := List.mem_map.1 h
            rw [← he]
            exact hw.fresh l' (hpl l' hl').1
        · rw [a3]; exact hw.fresh l a1
      bd := fun l h1 => by
        rcases hHas l h1 with ⟨a1, a2⟩ | ⟨a1, a2, a3⟩
        · rw [a2]; exact hw'.bd l a1
        · rw [a3]; exact Nat.lt_of_lt_of_le (hw.bd l a1) hf.size
      mem := hw'.mem
      mle := Mem.le_trans hw.mle hw'.mle
      mnew := fun b o h => by
        rcases hw'.mnew b o h with h | h | h
        · exact hw.mnew b o h
        · have h : w.heap.size ≤ b := h
          exact .inr (.inl (Nat.le_trans hw.frame.size h))
        · obtain ⟨l', hl', he⟩ := List.mem_map.1 h
          rw [← he]
          rcases hw.fresh l' (hpl l' hl').1 with h | h
          · exact .inr (.inl h)
          · exact .inr (.inr h)
      keep := fun l hl => by
        have hn : l ∉ new := fun h => hok.1 l h hl
        have := hVold l hn
        rw [this.1, this.2]
        exact hw.keep l hl
      frame := ⟨hf.os.trans hw.frame.os, hf.tape.trans hw.frame.tape, hf.output.trans hw.frame.output, Nat.le_trans hw.frame.size hf.size, fun b hb hp => (hf.block b (Nat.lt_of_lt_of_le hb hw.frame.size) (fun h => by
        obtain ⟨l', hl', he⟩ := List.mem_map.1 h
        rcases hw.fresh l' (hpl l' hl').1 with h | h
        · omega
        · exact hp (he ▸ h))).trans (hw.frame.block b hb hp)⟩ }

/-- The same, as a check. -/
def handedB (S0 : St) (Bs Bs' : St) (res : AV) (keep new ds : List Nat) : Bool :=
  blocksOnly Bs && blocksOnly Bs' && allKeys (fun n => memB n ds) Bs && allKeys (fun n => memB (n / 2) (new ++ keep)) Bs' && keep.all (fun l => !memB l new) && res.within (new ++ keep) && allConts (contWithin (new ++ keep)) Bs' && new.all (fun l => memB (bk l) (keysOf Bs'))
inductive Haves (S : St) : St → Prop
  | nil : Haves S []
  | cons {n : Nat} {B : Blk} {r : St} (h : S.get n = some (.blk B)) (t : Haves S r) : Haves S ((n, .blk B) :: r)
theorem handed_of {S0 : St} {Bs Bs' : St} {res : AV} {keep new ds : List Nat} (h0 : Haves S0 Bs) (h : handedB S0 Bs Bs' res keep new ds = true) : Handed S0 Bs Bs' res keep new ds := by
  have hv : ∀ p ∈ Bs, S0.get p.1 = some p.2 ∧ ∃ B, p.2 = .blk B := by
    clear h
    induction h0 with
    | nil => intro p hp; cases hp
    | cons h t ih =>
      intro p hp
      rcases List.mem_cons.1 hp with rfl | hp
      · exact ⟨h, _, rfl⟩
      · exact ih p hp
  simp only [handedB, Bool.and_eq_true, List.all_eq_true, Bool.not_eq_true'] at h
  obtain ⟨⟨⟨⟨⟨⟨⟨h1, h2⟩, h3⟩, h4⟩, h5⟩, h6⟩, h7⟩, h8⟩ := h
  have h1 : ∀ p ∈ Bs, p.1 % 2 = 1 := fun p hp => by simpa [nbeq] using allKeys_mem h1 p hp
  have h2 : ∀ p ∈ Bs', p.1 % 2 = 1 := fun p hp => by simpa [nbeq] using allKeys_mem h2 p hp
  have h3 : ∀ p ∈ Bs, p.1 ∈ ds := fun p hp => memB_iff.1 (allKeys_mem h3 p hp)
  have h4 : ∀ p ∈ Bs', p.1 / 2 ∈ new ++ keep := fun p hp => memB_iff.1 (allKeys_mem h4 p hp)
  have h7 : ∀ p ∈ Bs', contWithin (new ++ keep) p.2 = true := fun p hp => allConts_mem h7 p hp
  have h8 : ∀ l ∈ new, bk l ∈ Bs'.map Prod.fst := fun l hl => by rw [← keysOf_eq]; exact memB_iff.1 (h8 l hl)
  refine ⟨h1, h2, fun p hp => (hv p hp).1, fun p hp => (hv p hp).2, h3, fun p hp => List.mem_append.1 (h4 p hp), fun l hl hn => ?_, h6, h7, h8⟩
  have := h5 l hl
  rw [memB_iff.2 hn] at this
  cases this

/-- **A call that takes blocks over.** 'ds': what the caller forgets (the blocks that go in, and more); 'new': the labels that are new behind the call. -/
theorem Trace.callB {S0 S' : St} {o : Oper} {cl : Call} {r : List Oper} {L : List Ax} {t : Nat} {g : FuncId} {args : List AV} {res : AV} {Bs Bs' : St} {keep : List Nat} (new ds : List Nat) (hs : FnSpec P g args Bs res Bs' keep) (ho : o.op = .call cl) (hdst : o.dst = some t) (hgd : o.guard = none)
    (hca : CallArgs S0 true cl g args) (hg : enterOK P g = true) (hv : Haves S0 Bs) (hh : handedB S0 Bs Bs' res keep new ds = true) (hf : freshB ⟨opNames o ++ delsA Bs, S0, postCall ds Bs' t res, new⟩ S0 = true)
    (h : Trace P ro ops r (S0.called ds Bs' t res) L S') : Trace P ro ops (o :: r) S0 (⟨opNames o ++ delsA Bs, S0, postCall ds Bs' t res, new⟩ :: L) S' :=
  .cons (axOp_callB ho hdst hgd hca hg hs (handed_of hv hh)) (fun _ _ => rfl) (fresh_of hf) (called_upd _ _ _ _ _) h

theorem odd_of {S : St} (h : blocksOnly S = true) : ∀ n c, S.get n = some c → n % 2 = 1 := fun n c e => by
  have := allKeys_mem h _ (St.mem_of_get e)
  simpa [nbeq] using this
theorem odd_mem {S : St} (h : blocksOnly S = true) : ∀ p ∈ S, p.1 % 2 = 1 := fun p hp => by
  have := allKeys_mem h _ hp
  simpa [nbeq] using this
theorem blks_of {S T : St} (h : Haves S T) : ∀ l B, T.get (bk l) = some (.blk B) → S.get (bk l) = some (.blk B) := by
  intro l B
  generalize bk l = m
  induction h with
  | nil => intro e; cases e
  | @cons n B' r h t ih =>
    intro e
    rw [get_cons] at e
    by_cases hn : n = m
    · subst hn; rw [if_pos rfl] at e; rw [h]; exact e
    · rw [if_neg hn] at e; exact ih e
theorem own_eq {l m n : Nat} (h : m = n) : AV.own l m = AV.own l n := by rw [h]
theorem app_eq {k : IntKind} {m n : Nat} {xs ys : List Int} (h : xs = ys) (hl : m = n) : some (Cont.blk (.app 1 m [.ints k xs])) = some (Cont.blk (.app 1 n [.ints k ys])) := by rw [h, hl]
/-- Swapped names, by a check. -/
theorem FnSpec.as {f : FuncId} {args : List AV} {Bs Bs' : St} {res : AV} {keep : List Nat} (a b : Nat) (h : FnSpec P f args Bs res Bs' keep) (h1 : blocksOnly Bs = true) (h2 : blocksOnly Bs' = true) {args' : List AV} {Cs Cs' : St} {res' : AV} {keep' : List Nat}
    (e1 : AV.swps a b args = args') (e2 : Bs.swp a b = Cs) (e3 : res.swp a b = res') (e4 : Bs'.swp a b = Cs') (e5 : keep.map (trn a b) = keep') : FnSpec P f args' Cs res' Cs' keep' := by
  subst e1; subst e2; subst e3; subst e4; subst e5
  exact h.swp a b (odd_mem h1) (odd_mem h2)
theorem labs_ok {bl ds : List Nat} {l' : Nat} (h : bl.all (fun l => Nat.beq l l' || memB (bk l) ds) = true) : ∀ l ∈ bl, l = l' ∨ bk l ∈ ds := fun l hl => by
  have := List.all_eq_true.1 h l hl
  simpa [nbeq, memB_iff] using this
theorem Col.ones {cs : List Col} (h : cs.all Col.oneB = true) : ∀ c ∈ cs, c.oneB = true := List.all_eq_true.1 h

/-- Without a guard, written out. -/
theorem Trace.cb {S0 S' : St} {cl : Call} {ty : TypeId} {pos : String} {af : Array Edge} {r : List Oper} {L : List Ax} {t : Nat} {g : FuncId} {args : List AV} {res : AV} {Bs Bs' : St} {keep : List Nat} (new ds : List Nat) (hca : CallArgs S0 true cl g args) (hs : FnSpec P g args Bs res Bs' keep) (hg : enterOK P g = true)
    (hv : Haves S0 Bs) (hh : handedB S0 Bs Bs' res keep new ds = true) (hf : freshB ⟨opNames ⟨some t, .call cl, ty, pos, af, none⟩ ++ delsA Bs, S0, postCall ds Bs' t res, new⟩ S0 = true)
    (h : Trace P ro ops r (S0.called ds Bs' t res) L S') : Trace P ro ops (⟨some t, .call cl, ty, pos, af, none⟩ :: r) S0 (⟨opNames ⟨some t, .call cl, ty, pos, af, none⟩ ++ delsA Bs, S0, postCall ds Bs' t res, new⟩ :: L) S' :=
  Trace.callB new ds hs rfl rfl rfl hca hg hv hh hf h

/-- A nil slice in the place of an own slice of no elements. -/
theorem FnSpec.nil {f : FuncId} {l n : Nat} {cs : List Col} {A1 A2 : List AV} {Bs Bs' : St} {res : AV} {keep : List Nat} (h : FnSpec P f (A1 ++ .own l 0 :: A2) ((bk l, .blk (.app n 0 cs)) :: Bs) res Bs' keep)
    (hcs : cs.length = n) (hc0 : ∀ c ∈ cs, c.len = 0) (h1 : AV.ments l A1 = false) (h2 : AV.ments l A2 = false) (h3 : (allKeys (fun n => !Nat.beq n (bk l)) Bs && allConts (fun c => !c.ment l) Bs) = true) (hk : memB l keep = false) :
    FnSpec P f (A1 ++ nilS :: A2) Bs res Bs' keep := by
  intro V M w passed vs hw hd
  let V1 : Vals := ⟨V.ρ, fun m => if m = l then none else V.κ m⟩
  have hVo : ∀ m, m ≠ l → V1.ρ m = V.ρ m ∧ V1.κ m = V.κ m := fun m hm => by simp [V1, hm]
  have hBs : ∀ n c, Bs.get n = some c → n ≠ bk l ∧ ¬ CMent c l := fun n c e => by
    simp only [Bool.and_eq_true] at h3
    have h4 := allKeys_mem h3.1 _ (St.mem_of_get e)
    have h5 := allConts_mem h3.2 _ (St.mem_of_get e)
    simp only [Bool.not_eq_true', nbeq, decide_eq_false_iff_not] at h4
    exact ⟨h4, fun hm => by simp [cment_of hm] at h5⟩
  have hkl : l ∉ keep := fun hm => by rw [memB_iff.2 hm] at hk; cases hk
  have hcase : ∀ m B, St.get ((bk l, .blk (.app n 0 cs)) :: Bs) (bk m) = some (.blk B) → (m = l ∧ B = .app n 0 cs) ∨ (m ≠ l ∧ Bs.get (bk m) = some (.blk B)) := fun m B e => by
    rw [get_cons] at e
    by_cases hm : bk l = bk m
    · rw [if_pos hm] at e
      refine .inl ⟨by unfold bk at hm; omega, ?_⟩
      injection e with e; injection e with e; exact e.symm
    · rw [if_neg hm] at e
      exact .inr ⟨fun h => hm (by rw [h]), e⟩
  have hHas : ∀ m, HasB V1 ((bk l, .blk (.app n 0 cs)) :: Bs) m → HasB V Bs m ∧ V1.ρ m = V.ρ m := fun m ⟨⟨B, e⟩, k⟩ => by
    rcases hcase m B e with ⟨rfl, _⟩ | ⟨hm, e⟩
    · simp [V1] at k
    · exact ⟨⟨⟨B, e⟩, by rw [← (hVo m hm).2]; exact k⟩, rfl⟩
  have hw1 : RepW (.of w passed M (V1) (keep) 0) ((bk l, .blk (.app n 0 cs)) :: Bs) V1 M w :=
    { blks := fun m B e => by
        rcases hcase m B e with ⟨rfl, rfl⟩ | ⟨hm, e⟩
        · refine ⟨hcs, hc0, ?_⟩
          have : V1.κ m = none := by simp [V1]
          rw [this]
        · exact (hw.blks m B e).turn (Mem.le_refl _) (hVo m hm) (fun l' hl' => hVo l' fun e' => (hBs _ _ e).2 (e' ▸ hl')) (fun _ => rfl)
      inj := fun m m' a b hne => by rw [(hHas m a).2, (hHas m' b).2]; exact hw.inj m m' (hHas m a).1 (hHas m' b).1 hne
      sep := fun m a o => by rw [(hHas m a).2]; exact hw.sep m (hHas m a).1 o
      fresh := fun m a => by rw [(hHas m a).2]; exact hw.fresh m (hHas m a).1
      bd := fun m a => by rw [(hHas m a).2]; exact hw.bd m (hHas m a).1
      mem := hw.mem, mle := hw.mle, mnew := hw.mnew, keep := fun l' _ => ⟨rfl, rfl⟩
      frame := ⟨hw.frame.os, hw.frame.tape, hw.frame.output, hw.frame.size, hw.frame.block⟩ }
  have hd1 : DenL V1 M (A1 ++ .own l 0 :: A2) vs := ⟨by have := hd.len; simpa using this, fun j x y hx hy => by
    have hold : ∀ x, (A1 ++ nilS :: A2)[j]? = some x → (x ∈ A1 ∨ x ∈ A2) → Den V1 M x y := fun x hx hm => by
      refine (hd.at' j x y hx hy).mono (Mem.le_refl _) fun l' hl' => hVo l' fun e => ?_
      subst e
      rcases hm with hm | hm
      · rw [ments_of_mem hm (ment_of hl')] at h1; cases h1
      · rw [ments_of_mem hm (ment_of hl')] at h2; cases h2
    rcases Nat.lt_trichotomy j A1.length with hj | hj | hj
    · rw [List.getElem?_append_left hj] at hx
      exact hold x (by rw [List.getElem?_append_left hj]; exact hx) (.inl (List.mem_of_getElem? hx))
    · subst hj
      rw [List.getElem?_append_right (Nat.le_refl _)] at hx
      simp at hx; subst hx
      have := hd.at' A1.length nilS y (by rw [List.getElem?_append_right (Nat.le_refl _)]; simp) hy
      cases this with
      | d _ _ h => cases h with | v _ => exact .ownNil l (by simp [V1])
    · obtain ⟨k, rfl⟩ : ∃ k, j = A1.length + 1 + k := ⟨j - (A1.length + 1), by omega⟩
      rw [List.getElem?_append_right (by omega)] at hx
      have e : A1.length + 1 + k - A1.length = k + 1 := by omega
      rw [e] at hx
      simp at hx
      refine hold x ?_ (.inr (List.mem_of_getElem? hx))
      rw [List.getElem?_append_right (by omega), e]; simpa using hx⟩
  refine (h V1 M w passed vs hw1 hd1).mono ?_
  rintro e w' ⟨v, V', M', rfl, hv, hw'⟩
  refine ⟨v, V', M', rfl, hv, { blks := hw'.blks, inj := hw'.inj, sep := hw'.sep, fresh := hw'.fresh, bd := hw'.bd, mem := hw'.mem, mle := hw'.mle, mnew := hw'.mnew, keep := fun l' hl' => ?_, frame := ⟨hw'.frame.os, hw'.frame.tape, hw'.frame.output, hw'.frame.size, hw'.frame.block⟩ }⟩
  have := hw'.keep l' hl'
  have hn := hVo l' fun e => hkl (e ▸ hl')
  exact ⟨this.1.trans hn.1, this.2.trans hn.2⟩

end Go.Proofs.Ytcnikeonaklkoaa
