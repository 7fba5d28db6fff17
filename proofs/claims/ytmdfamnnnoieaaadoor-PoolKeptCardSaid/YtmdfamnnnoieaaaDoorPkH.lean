import Derived.Test.YtmdfamnnnoieaaaDoorPkF
import Derived.Laws.BytesArg
import Derived.Lib.ConvBytes
import Derived.Recover
import Derived.WideLaws
import Derived.DeepKeys
import Derived.MapKept
import Derived.RangeFuncIn
import Derived.RangeFuncRecord
import Derived.RangeFuncLeaves
import Derived.RangeFuncSeq
import Derived.ChangeStays
import Derived.ChangeBook
import Derived.ChangeSame
import Derived.OpenShut
import Derived.SizedLaws
import Derived.WideShapes
import Derived.RowKit
import Derived.Below
import Derived.ChangeOld
/- A call that takes over blocks of ours, and hands blocks back; contracts under other names of labels. No program in sight. -/
namespace Go.Proofs.YtmdfamnnnoieaaaDoor
open Go
set_option linter.unusedVariables false
set_option linter.unusedSimpArgs false
variable {P : Program} {S : St} {ro : Ro} {ops : Array Oper}

/-! Labels under other names: a swap of two. -/
def trn (a b n : Nat) : Nat := bif Nat.beq n a then b else bif Nat.beq n b then a else n
theorem trn_trn (a b n : Nat) : trn a b (trn a b n) = n := by
  simp only [trn, nbeq]
  by_cases h1 : n = a
  · subst h1
    by_cases h2 : b = n
    · subst h2; simp
    · simp [h2]
  · by_cases h2 : n = b
    · subst h2; simp [h1]
    · simp [h1, h2]
mutual
def AV.swp (a b : Nat) : AV → AV
  | .d x => .d x
  | .loc l j => .loc (trn a b l) j
  | .locr l n i j => .locr (trn a b l) n i j
  | .rp l => .rp l
  | .own l n => .own (trn a b l) n
  | .sl l n lo len => .sl (trn a b l) n lo len
  | .fn f cs => .fn f (AV.swps a b cs)
  | .agg cs => .agg (AV.swps a b cs)
  | .tup cs => .tup (AV.swps a b cs)
  | .gd c x => .gd c (AV.swp a b x)
  | .yld l => .yld (trn a b l)
  | .sa l n lo len cap => .sa (trn a b l) n lo len cap
  | .bd f cs => .bd f (AV.swps a b cs)
  | .mp l => .mp (trn a b l)
def AV.swps (a b : Nat) : List AV → List AV
  | [] => []
  | x :: r => AV.swp a b x :: AV.swps a b r
end
theorem swps_map (a b : Nat) (l : List AV) : AV.swps a b l = l.map (AV.swp a b) := by
  induction l with
  | nil => rfl
  | cons x r ih => simp [AV.swps, ih]
mutual
theorem swp_swp (a b : Nat) : ∀ x : AV, (x.swp a b).swp a b = x
  | .d x => rfl
  | .loc l j => by simp [AV.swp, trn_trn]
  | .locr l n i j => by simp [AV.swp, trn_trn]
  | .rp l => rfl
  | .own l n => by simp [AV.swp, trn_trn]
  | .sl l n lo len => by simp [AV.swp, trn_trn]
  | .fn f cs => by simp [AV.swp, swps_swps a b cs]
  | .agg cs => by simp [AV.swp, swps_swps a b cs]
  | .tup cs => by simp [AV.swp, swps_swps a b cs]
  | .gd c x => by simp [AV.swp, swp_swp a b x]
  | .yld l => by simp [AV.swp, trn_trn]
  | .sa l n lo len cap => by simp [AV.swp, trn_trn]
  | .bd f cs => by simp [AV.swp, swps_swps a b cs]
  | .mp l => by simp [AV.swp, trn_trn]
theorem swps_swps (a b : Nat) : ∀ l : List AV, AV.swps a b (AV.swps a b l) = l
  | [] => rfl
  | x :: r => by simp [AV.swps, swp_swp a b x, swps_swps a b r]
end
def Vals.swp (a b : Nat) (V : Vals) : Vals := ⟨fun l => V.ρ (trn a b l), fun l => V.κ (trn a b l)⟩
theorem vals_swp (a b : Nat) (V : Vals) : (V.swp a b).swp a b = V := by
  cases V; simp [Vals.swp, trn_trn]
theorem Den.swp {V : Vals} {M : Mem} {x : AV} {v : Value} (a b : Nat) (h : Den V M x v) : Den (V.swp a b) M (x.swp a b) v := by
  have hg : ∀ (cs : List AV) (j : Nat) (x : AV), (cs.map (AV.swp a b))[j]? = some x → ∃ y, cs[j]? = some y ∧ x = y.swp a b := fun cs j x hx => by
    simp only [List.getElem?_map, Option.map_eq_some_iff] at hx
    obtain ⟨y, hy, rfl⟩ := hx
    exact ⟨y, hy, rfl⟩
  have hρ : ∀ l, V.ρ l = (V.swp a b).ρ (trn a b l) := fun l => by simp [Vals.swp, trn_trn]
  have hκ : ∀ l, V.κ l = (V.swp a b).κ (trn a b l) := fun l => by simp [Vals.swp, trn_trn]
  induction h with
  | d x v h => exact .d x v h
  | loc l j => rw [hρ]; exact .loc _ _
  | locr l n i j => rw [hρ]; exact .locr _ _ _ _
  | rp l bb o c hm h => exact .rp l bb o c hm h
  | own l len cap hk hc => rw [hρ]; exact .own _ _ _ (by rw [← hκ]; exact hk) hc
  | ownNil l hk => exact .ownNil _ (by rw [← hκ]; exact hk)
  | sl l n lo len cap hc hk => rw [hρ]; exact .sl _ _ _ _ _ hc (by rw [← hκ]; exact hk)
  | slEmp l n lo aa cap => exact .slEmp _ _ _ _ _
  | fn f cs vs hl _ ih => simp only [AV.swp, swps_map]; exact .fn f _ vs (by simpa using hl) fun j x y hx hy => by obtain ⟨z, hz, rfl⟩ := hg cs j x hx; exact ih j z y hz hy
  | agg cs vs hl _ ih => simp only [AV.swp, swps_map]; exact .agg _ vs (by simpa using hl) fun j x y hx hy => by obtain ⟨z, hz, rfl⟩ := hg cs j x hx; exact ih j z y hz hy
  | tup cs vs hl _ ih => simp only [AV.swp, swps_map]; exact .tup _ vs (by simpa using hl) fun j x y hx hy => by obtain ⟨z, hz, rfl⟩ := hg cs j x hx; exact ih j z y hz hy
  | gd c x v _ hu ih => exact .gd c _ v (fun hc => ih hc) hu
  | yld l => rw [hρ]; exact .yld _
  | sa l n lo len cap hc => rw [hρ]; exact .sa _ _ _ _ _ hc
  | bd f cs vs hl _ ih => simp only [AV.swp, swps_map]; exact .bd f _ vs (by simpa using hl) fun j x y hx hy => by obtain ⟨z, hz, rfl⟩ := hg cs j x hx; exact ih j z y hz hy
  | mp l => rw [hρ]; exact .mp _

def slotsSwp (a b : Nat) : List (Nat × AV) → List (Nat × AV)
  | [] => []
  | p :: r => (p.1, p.2.swp a b) :: slotsSwp a b r
theorem slotsSwp_map (a b : Nat) (l : List (Nat × AV)) : slotsSwp a b l = l.map fun p => (p.1, p.2.swp a b) := by
  induction l with
  | nil => rfl
  | cons x r ih => simp [slotsSwp, ih]
theorem slotsSwp_swp (a b : Nat) (l : List (Nat × AV)) : slotsSwp a b (slotsSwp a b l) = l := by
  induction l with
  | nil => rfl
  | cons x r ih => simp [slotsSwp, ih, swp_swp]
def Blk.swp (a b : Nat) : Blk → Blk
  | .cells cs => .cells (AV.swps a b cs)
  | .lp h ts => .lp h (slotsSwp a b ts)
  | .appv cs => .appv (AV.swps a b cs)
  | B => B
def Cont.swp (a b : Nat) : Cont → Cont
  | .av x => .av (x.swp a b)
  | .blk B => .blk (B.swp a b)
/-- A state of blocks alone, under swapped names. -/
def St.swp (a b : Nat) : St → St
  | [] => []
  | (n, c) :: r => (bk (trn a b (n / 2)), c.swp a b) :: St.swp a b r
theorem blk_swp (a b : Nat) (B : Blk) : (B.swp a b).swp a b = B := by
  cases B with
  | cells cs => simp [Blk.swp, swps_swps]
  | lp h ts => simp [Blk.swp, slotsSwp_swp]
  | appv cs => simp [Blk.swp, swps_swps]
  | _ => rfl
theorem cont_swp (a b : Nat) (c : Cont) : (c.swp a b).swp a b = c := by
  cases c with
  | av x => simp [Cont.swp, swp_swp]
  | blk B => simp [Cont.swp, blk_swp]
theorem trn_inj (a b m n : Nat) : trn a b m = trn a b n ↔ m = n := ⟨fun h => by rw [← trn_trn a b m, h, trn_trn], fun h => by rw [h]⟩
theorem St.get_swp (a b : Nat) : ∀ (S : St) (_ : ∀ p ∈ S, p.1 % 2 = 1) (l : Nat), (S.swp a b).get (bk (trn a b l)) = (S.get (bk l)).map (Cont.swp a b)
  | [], _, l => rfl
  | (n, c) :: r, h, l => by
    have hn : n % 2 = 1 := h (n, c) (by simp)
    have ih := St.get_swp a b r (fun p hp => h p (by simp [hp])) l
    simp only [St.swp]
    rw [get_cons, get_cons, ih]
    have h1 : bk (trn a b (n / 2)) = bk (trn a b l) ↔ n = bk l := by
      constructor
      · intro e
        have : trn a b (n / 2) = trn a b l := by unfold bk at e; omega
        have := (trn_inj a b _ _).1 this
        unfold bk; omega
      · intro e
        have : n / 2 = l := by unfold bk at e; omega
        rw [this]
    by_cases hc : n = bk l
    · rw [if_pos (h1.2 hc), if_pos hc]; rfl
    · rw [if_neg (fun e => hc (h1.1 e)), if_neg hc]
theorem St.swp_odd (a b : Nat) : ∀ (S : St), ∀ p ∈ S.swp a b, p.1 % 2 = 1
  | [], p, hp => by cases hp
  | (n, c) :: r, p, hp => by
    simp only [St.swp, List.mem_cons] at hp
    rcases hp with rfl | hp
    · show bk _ % 2 = 1
      unfold bk; omega
    · exact St.swp_odd a b r p hp
theorem get_swp' (a b : Nat) {S : St} (h : ∀ p ∈ S, p.1 % 2 = 1) (l : Nat) : (S.swp a b).get (bk l) = (S.get (bk (trn a b l))).map (Cont.swp a b) := by
  have := St.get_swp a b S h (trn a b l)
  rwa [trn_trn] at this

theorem BlkAt.swp {V : Vals} {M : Mem} {w : World} {l : Nat} {B : Blk} (a b : Nat) (h : BlkAt V M w l B) : BlkAt (V.swp a b) M w (trn a b l) (B.swp a b) := by
  have hρ : (V.swp a b).ρ (trn a b l) = V.ρ l := by simp [Vals.swp, trn_trn]
  have hκ : (V.swp a b).κ (trn a b l) = V.κ l := by simp [Vals.swp, trn_trn]
  cases B with
  | cells cs =>
    obtain ⟨h1, vs, t, h2, h3, h4⟩ := h
    refine ⟨by rw [hκ]; exact h1, vs, t, by rw [hρ]; exact h2, by simpa [swps_map] using h3, fun j x y hx hy => ?_⟩
    simp only [swps_map, List.getElem?_map, Option.map_eq_some_iff] at hx
    obtain ⟨z, hz, rfl⟩ := hx
    exact (h4 j z y hz hy).swp a b
  | data ds =>
    obtain ⟨h1, vs, t, h2, h3, h4⟩ := h
    refine ⟨by rw [hκ]; exact h1, vs, t, by rw [hρ]; exact h2, h3, fun j x y hx hy => ?_⟩
    have := h4 j x y hx hy
    simp only [List.getElem?_map, Option.map_eq_some_iff] at hx
    obtain ⟨z, hz, rfl⟩ := hx
    cases this with | d _ _ h => exact .d _ _ h
  | cols n len cs => obtain ⟨h1, vs, t, h2, h3⟩ := h; exact ⟨by rw [hκ]; exact h1, vs, t, by rw [hρ]; exact h2, h3⟩
  | keys ks => obtain ⟨h1, es, c, h2, h3⟩ := h; exact ⟨by rw [hκ]; exact h1, es, c, by rw [hρ]; exact h2, h3⟩
  | app n len cs =>
    obtain ⟨h1, h2, h3⟩ := h
    refine ⟨h1, h2, ?_⟩
    rw [hκ]
    split
    · rename_i hk; rw [hk] at h3; exact h3
    · rename_i cap hk
      rw [hk] at h3
      obtain ⟨h4, vs, t, h5, h6⟩ := h3
      exact ⟨h4, vs, t, by rw [hρ]; exact h5, h6⟩
  | lp h' ts =>
    obtain ⟨hk, fn, tmps, d, h1, h2, h3⟩ := h
    refine ⟨by rw [hκ]; exact hk, fn, tmps, d, by rw [hρ]; exact h1, h2, fun p hp => ?_⟩
    rw [slotsSwp_map] at hp
    obtain ⟨q, hq, rfl⟩ := List.mem_map.1 hp
    obtain ⟨v, hv, hd⟩ := h3 q hq
    exact ⟨v, hv, hd.swp a b⟩
  | appv cs =>
    have h : appvAt V M w l cs := h
    show appvAt (V.swp a b) M w (trn a b l) (AV.swps a b cs)
    unfold appvAt at *
    rw [hκ, hρ]
    cases hk : V.κ l with
    | none => rw [hk] at h; subst h; rfl
    | some cap =>
      rw [hk] at h
      obtain ⟨h1, vs, t, h2, h3, h4⟩ := h
      refine ⟨by simpa [swps_map] using h1, vs, t, h2, h3, fun j x hx => ?_⟩
      simp only [swps_map, List.getElem?_map, Option.map_eq_some_iff] at hx
      obtain ⟨z, hz, rfl⟩ := hx
      obtain ⟨v, hv, hd⟩ := h4 j z hz
      exact ⟨v, hv, hd.swp a b⟩

theorem RepW.swp {w0 : World} {passed : List Nat} {M0 : Mem} {V0 : Vals} {keep : List Nat} {S : St} {V : Vals} {M : Mem} {w : World} (a b : Nat) (hS : ∀ p ∈ S, p.1 % 2 = 1)
    (h : RepW (.of w0 passed M0 (V0) (keep) 0) S V M w) : RepW (.of w0 passed M0 (V0.swp a b) (keep.map (trn a b)) 0) (S.swp a b) (V.swp a b) M w := by
  have hH : ∀ l, HasB (V.swp a b) (S.swp a b) l → HasB V S (trn a b l) := by
    rintro l ⟨⟨B, e⟩, k⟩
    rw [get_swp' a b hS, Option.map_eq_some_iff] at e
    obtain ⟨c, hc, e⟩ := e
    cases c with
    | av x => cases e
    | blk B' => exact ⟨⟨B', hc⟩, k⟩
  exact
    { blks := fun l B e => by
        rw [get_swp' a b hS, Option.map_eq_some_iff] at e
        obtain ⟨c, hc, e⟩ := e
        cases c with
        | av x => cases e
        | blk B' =>
          have := (h.blks _ _ hc).swp a b
          rw [trn_trn] at this
          simp only [Cont.swp, Cont.blk.injEq] at e
          rw [← e]; exact this
      inj := fun l l' h1 h2 hne => h.inj _ _ (hH l h1) (hH l' h2) (fun e => hne ((trn_inj a b _ _).1 e))
      sep := fun l h1 => h.sep _ (hH l h1)
      fresh := fun l h1 => h.fresh _ (hH l h1)
      bd := fun l h1 => h.bd _ (hH l h1)
      mem := h.mem, mle := h.mle, glb := h.glb, mnew := h.mnew
      keep := fun l hl => by
        obtain ⟨l', hl', rfl⟩ := List.mem_map.1 hl
        have := h.keep l' hl'
        simpa [Vals.swp, trn_trn] using this
      frame := ⟨h.frame.os, h.frame.tape, h.frame.output, h.frame.size, h.frame.block⟩ }

/-- **A contract under swapped names.** -/
theorem FnSpec.swp {f : FuncId} {args : List AV} {Bs Bs' : St} {res : AV} {keep : List Nat} (h : FnSpec P f args Bs res Bs' keep) (a b : Nat) (h1 : ∀ p ∈ Bs, p.1 % 2 = 1) (h2 : ∀ p ∈ Bs', p.1 % 2 = 1) :
    FnSpec P f (AV.swps a b args) (Bs.swp a b) (res.swp a b) (Bs'.swp a b) (keep.map (trn a b)) := by
  intro V M w passed vs hw hd
  have e1 : (Bs.swp a b).swp a b = Bs := by
    induction Bs with
    | nil => rfl
    | cons p r ih =>
      obtain ⟨n, c⟩ := p
      have hn : n % 2 = 1 := h1 (n, c) (by simp)
      simp only [St.swp, cont_swp]
      have : bk (trn a b (bk (trn a b (n / 2)) / 2)) = n := by
        have : bk (trn a b (n / 2)) / 2 = trn a b (n / 2) := by unfold bk; omega
        rw [this, trn_trn]; unfold bk; omega
      rw [this]
      congr 1
      have key : ∀ r : St, (∀ p ∈ r, p.1 % 2 = 1) → (r.swp a b).swp a b = r := by
        intro r
        induction r with
        | nil => intro _; rfl
        | cons p r ih =>
          obtain ⟨n, c⟩ := p
          intro hr
          have hn : n % 2 = 1 := hr (n, c) (by simp)
          simp only [St.swp, cont_swp]
          have : bk (trn a b (bk (trn a b (n / 2)) / 2)) = n := by
            have : bk (trn a b (n / 2)) / 2 = trn a b (n / 2) := by unfold bk; omega
            rw [this, trn_trn]; unfold bk; omega
          rw [this, ih (fun p hp => hr p (by simp [hp]))]
      exact key r (fun p hp => h1 p (by simp [hp]))
  have hk : (keep.map (trn a b)).map (trn a b) = keep := by
    rw [List.map_map]
    conv => rhs; rw [← List.map_id keep]
    exact List.map_congr_left fun n _ => trn_trn a b n
  have hw1 := hw.swp a b (St.swp_odd a b Bs)
  rw [e1, hk] at hw1
  have hd1 : DenL (V.swp a b) M args vs := ⟨by have := hd.len; simpa [swps_map] using this, fun j x y hx hy => by
    have := (hd.at' j (x.swp a b) y (by simp [swps_map, hx]) hy).swp a b
    rwa [swp_swp] at this⟩
  refine (h (V.swp a b) M w passed vs hw1 hd1).mono ?_
  rintro e w' ⟨v, V', M', rfl, hv, hw'⟩
  have hw2 := hw'.swp a b h2
  rw [vals_swp] at hw2
  exact ⟨v, V'.swp a b, M', rfl, hv.swp a b, hw2⟩

/-! The call. -/
mutual
/-- Does a value name labels of this list alone? -/
def AV.within (ls : List Nat) : AV → Bool
  | .d _ => true
  | .loc a _ => memB a ls
  | .locr a _ _ _ => memB a ls
  | .rp _ => true
  | .own a _ => memB a ls
  | .sl a _ _ _ => memB a ls
  | .fn _ cs => AV.withins ls cs
  | .agg cs => AV.withins ls cs
  | .tup cs => AV.withins ls cs
  | .gd _ x => AV.within ls x
  | .yld a => memB a ls
  | .sa a _ _ _ _ => memB a ls
  | .bd _ cs => AV.withins ls cs
  | .mp a => memB a ls
def AV.withins (ls : List Nat) : List AV → Bool
  | [] => true
  | x :: r => AV.within ls x && AV.withins ls r
end
theorem withins_mem {ls : List Nat} {cs : List AV} (h : AV.withins ls cs = true) {x : AV} (hx : x ∈ cs) : x.within ls = true := by
  induction cs with
  | nil => cases hx
  | cons y r ih =>
    simp only [AV.withins, Bool.and_eq_true] at h
    rcases List.mem_cons.1 hx with rfl | hx
    · exact h.1
    · exact ih h.2 hx
theorem within_ment {ls : List Nat} {x : AV} {l : Nat} (hm : Ment x l) : x.within ls = true → l ∈ ls := by
  induction hm with
  | loc l j => exact fun h => memB_iff.1 h
  | locr l n i j => exact fun h => memB_iff.1 h
  | own l n => exact fun h => memB_iff.1 h
  | sl l n lo len => exact fun h => memB_iff.1 h
  | fn f cs x l hx _ ih => exact fun h => ih (withins_mem (by simpa only [AV.within] using h) hx)
  | agg cs x l hx _ ih => exact fun h => ih (withins_mem (by simpa only [AV.within] using h) hx)
  | tup cs x l hx _ ih => exact fun h => ih (withins_mem (by simpa only [AV.within] using h) hx)
  | gd c x l _ ih => exact fun h => ih (by simpa only [AV.within] using h)
  | yld l => exact fun h => memB_iff.1 h
  | sa l n lo len cap => exact fun h => memB_iff.1 h
  | bd f cs x l hx _ ih => exact fun h => ih (withins_mem (by simpa only [AV.within] using h) hx)
  | mp l => exact fun h => memB_iff.1 h
def slotsWithin (ls : List Nat) : List (Nat × AV) → Bool
  | [] => true
  | p :: r => p.2.within ls && slotsWithin ls r
theorem slotsWithin_mem {ls : List Nat} {ts : List (Nat × AV)} (h : slotsWithin ls ts = true) {p : Nat × AV} (hp : p ∈ ts) : p.2.within ls = true := by
  induction ts with
  | nil => cases hp
  | cons q r ih =>
    simp only [slotsWithin, Bool.and_eq_true] at h
    rcases List.mem_cons.1 hp with rfl | hp
    · exact h.1
    · exact ih h.2 hp
def Blk.within (ls : List Nat) : Blk → Bool
  | .cells cs => AV.withins ls cs
  | .lp _ ts => slotsWithin ls ts
  | .appv cs => AV.withins ls cs
  | _ => true
def contWithin (ls : List Nat) : Cont → Bool
  | .blk B => B.within ls
  | .av _ => false
def labs (S : St) : List Nat := S.map fun p => p.1 / 2
def allKeys (f : Nat → Bool) : St → Bool
  | [] => true
  | (n, _) :: r => f n && allKeys f r
theorem allKeys_mem {f : Nat → Bool} : ∀ {S : St}, allKeys f S = true → ∀ p ∈ S, f p.1 = true
  | [], _, p, hp => by cases hp
  | (n, c) :: r, h, p, hp => by
    simp only [allKeys, Bool.and_eq_true] at h
    rcases List.mem_cons.1 hp with rfl | hp
    · exact h.1
    · exact allKeys_mem h.2 p hp
def keysOf : St → List Nat
  | [] => []
  | (n, _) :: r => n :: keysOf r
theorem keysOf_eq : ∀ (S : St), keysOf S = S.map Prod.fst
  | [] => rfl
  | (n, c) :: r => by simp [keysOf, keysOf_eq r]
def allConts (f : Cont → Bool) : St → Bool
  | [] => true
  | (_, c) :: r => f c && allConts f r
theorem allConts_mem {f : Cont → Bool} : ∀ {S : St}, allConts f S = true → ∀ p ∈ S, f p.2 = true
  | [], _, p, hp => by cases hp
  | (n, c) :: r, h, p, hp => by
    simp only [allConts, Bool.and_eq_true] at h
    rcases List.mem_cons.1 hp with rfl | hp
    · exact h.1
    · exact allConts_mem h.2 p hp
def blocksOnly (S : St) : Bool := allKeys (fun n => Nat.beq (n % 2) 1) S

theorem Den.relab2 {V V' : Vals} {M : Mem} {x : AV} {v : Value} (h : Den V M x v) (hv : ∀ l, Ment x l → V'.ρ l = V.ρ l ∧ V'.κ l = V.κ l) : Den V' M x v := h.mono (Mem.le_refl _) hv

def delsA (Bs : St) : List Nat := keysOf Bs
def somes : St → List (Nat × Option Cont)
  | [] => []
  | (n, c) :: r => somes r ++ [(n, some c)]
theorem somes_eq : ∀ (S : St), somes S = (S.map fun p => (p.1, some p.2)).reverse
  | [] => rfl
  | (n, c) :: r => by simp [somes, somes_eq r]
abbrev postCall (ds : List Nat) (Bs' : St) (d : Nat) (x : AV) : List (Nat × Option Cont) := delsOf ds ++ (somes Bs' ++ [(sl d, some (.av x))])
theorem lastOf_back (n : Nat) (d : Option Cont) : ∀ (Bs : St), lastOf n d (Bs.map fun p => (p.1, some p.2)).reverse = match Bs.get n with | some c => some c | none => d
  | [] => rfl
  | (m, c) :: r => by
    simp only [List.map_cons, List.reverse_cons, lastOf_append, lastOf_back n d r, lastOf, St.get, nbeq]
    by_cases h : m = n <;> simp [h]
theorem get_postCall (S : St) (ds : List Nat) (Bs' : St) (d : Nat) (x : AV) (n : Nat) :
    (S.upd (postCall ds Bs' d x)).get n = if sl d = n then some (.av x) else match Bs'.get n with | some c => some c | none => if n ∈ ds then none else S.get n := by
  rw [St.get_upd, lastOf_append, lastOf_append, lastOf_dels, somes_eq, lastOf_back]
  simp only [lastOf]
/-- The state behind a call. -/
abbrev St.called (S : St) (ds : List Nat) (Bs' : St) (d : Nat) (x : AV) : St := (sl d, .av x) :: (Bs' ++ St.dels ds S)
theorem called_upd (S : St) (ds : List Nat) (Bs' : St) (d : Nat) (x : AV) : ∀ n, (S.called ds Bs' d x).get n = (S.upd (postCall ds Bs' d x)).get n := fun n => by
  rw [get_postCall, get_cons, St.get_append, get_dels]
  cases Bs'.get n <;> rfl
theorem names_postCall {ds : List Nat} {Bs' : St} {d : Nat} {x : AV} {n : Nat} : n ∈ (postCall ds Bs' d x).map Prod.fst ↔ n ∈ ds ∨ n ∈ Bs'.map Prod.fst ∨ n = sl d := by
  simp only [postCall, somes_eq, delsOf, List.map_append, List.map_map, List.map_reverse, List.mem_append, List.mem_map, List.mem_reverse, Function.comp, List.map_cons, List.map_nil, List.mem_cons, List.not_mem_nil, or_false]
  constructor
  · rintro (⟨y, hy, rfl⟩ | ⟨y, hy, rfl⟩ | h)
    · exact .inl hy
    · exact .inr (.inl ⟨y, hy, rfl⟩)
    · exact .inr (.inr h)
  · rintro (h | ⟨y, hy, rfl⟩ | h)
    · exact .inl ⟨n, h, rfl⟩
    · exact .inr (.inl ⟨y, hy, rfl⟩)
    · exact .inr (.inr h)

/-- What the caller must see of the blocks that go in and of those that come back. -/
structure Handed (S0 : St) (Bs Bs' : St) (res : AV) (keep new ds : List Nat) : Prop where
  odd : ∀ p ∈ Bs, p.1 % 2 = 1
  odd' : ∀ p ∈ Bs', p.1 % 2 = 1
  have_ : ∀ p ∈ Bs, S0.get p.1 = some p.2
  blk : ∀ p ∈ Bs, ∃ B, p.2 = .blk B
  drop : ∀ p ∈ Bs, p.1 ∈ ds
  lab : ∀ p ∈ Bs', p.1 / 2 ∈ new ∨ p.1 / 2 ∈ keep
  kept : ∀ l ∈ keep, l ∉ new
  res : res.within (new ++ keep) = true
  cell : ∀ p ∈ Bs', contWithin (new ++ keep) p.2 = true
  news : ∀ l ∈ new, bk l ∈ Bs'.map Prod.fst

theorem BlkAt.turn {V V' : Vals} {M M' : Mem} {w w' : World} {l : Nat} {B : Blk} (h : BlkAt V M w l B) (hM : M.le M') (hl : V'.ρ l = V.ρ l ∧ V'.κ l = V.κ l) (hm : ∀ l', BMent B l' → V'.ρ l' = V.ρ l' ∧ V'.κ l' = V.κ l')
    (hw : V.κ l ≠ none → w'.heap[V.ρ l]? = w.heap[V.ρ l]?) : BlkAt V' M' w' l B := by
  have h1 : BlkAt V M w' l B := h.kept hw
  cases B with
  | cells cs =>
    obtain ⟨a1, vs, t, a2, a3, a4⟩ := h1
    refine ⟨by rw [hl.2]; exact a1, vs, t, by rw [hl.1]; exact a2, a3, fun j x y hx hy => (a4 j x y hx hy).mono hM fun l' hm' => hm l' (.cells cs x l' (List.mem_of_getElem? hx) hm')⟩
  | data ds =>
    obtain ⟨a1, vs, t, a2, a3, a4⟩ := h1
    refine ⟨by rw [hl.2]; exact a1, vs, t, by rw [hl.1]; exact a2, a3, fun j x y hx hy => (a4 j x y hx hy).mono hM fun l' hm' => ?_⟩
    simp only [List.getElem?_map, Option.map_eq_some_iff] at hx
    obtain ⟨z, _, rfl⟩ := hx
    cases hm'
  | cols n len cs => obtain ⟨a1, vs, t, a2, a3, a4, a5, a6⟩ := h1; exact ⟨by rw [hl.2]; exact a1, vs, t, by rw [hl.1]; exact a2, a3, a4, a5, fun i j c hi hc => let ⟨v, hv, hd⟩ := a6 i j c hi hc; ⟨v, hv, hd.mono hM⟩⟩
  | keys ks => obtain ⟨a1, es, c, a2, a3⟩ := h1; exact ⟨by rw [hl.2]; exact a1, es, c, by rw [hl.1]; exact a2, a3⟩
  | app n len cs =>
    obtain ⟨a1, a2, a3⟩ := h1
    refine ⟨a1, a2, ?_⟩
    rw [hl.2]
    split
    · rename_i hkn; rw [hkn] at a3; exact a3
    · rename_i cap hkn
      rw [hkn] at a3
      obtain ⟨b1, vs, t, b2, b3, b4, b5, b6⟩ := a3
      exact ⟨b1, vs, t, by rw [hl.1]; exact b2, b3, b4, b5, fun i j c hi hc => let ⟨v, hv, hd⟩ := b6 i j c hi hc; ⟨v, hv, hd.mono hM⟩⟩
  | lp h' ts => exact lpAt.turn h1 hM hl hm (fun _ => rfl)
  | appv cs => exact appvAt.turn h1 hM hl hm (fun _ => rfl)

theorem axOp_callB {S0 : St} {o : Oper} {cl : Call} {t : Nat} {g : FuncId} {args : List AV} {res : AV} {Bs Bs' : St} {keep new ds : List Nat} (ho : o.op = .call cl) (hdst : o.dst = some t) (hgd : o.guard = none)
    (hca : CallArgs S0 true cl g args) (hg : enterOK P g = true) (hs : FnSpec P g args Bs res Bs' keep) (hh : Handed S0 Bs Bs' res keep new ds) :
    AxOp P ro ops o ⟨opNames o ++ delsA Bs, S0, postCall ds Bs' t res, new⟩ := by
  intro E S a w hag hfr hok ⟨V, M, ha, hw⟩ Q hpn
  have ht : t < E.nt := hok.2 t (names_postCall.2 (.inr (.inr rfl)))
  unfold stepIn
  rw [if_pos (by simp [Region.wanted, hgd])]
  obtain ⟨vs, hr, hd⟩ := run_call ho (given_of hag (fun n hn => by simp [hn]) (fun l hl => by cases hl) rfl ha hw : Given E S0 o [] true V M a w) hca hg
  refine wpIn_of_enter (fun d h => by rw [ho] at h; cases h) hr ?_
  have hget : ∀ l B, Bs.get (bk l) = some (.blk B) → S.get (bk l) = some (.blk B) := fun l B e => by
    have hm := St.mem_of_get e
    rw [hag (bk l) (by simp only [delsA, keysOf_eq, List.mem_append, List.mem_map]; exact .inr ⟨_, hm, rfl⟩)]
    exact hh.have_ _ hm
  have hB : ∀ l, HasB V Bs l → HasB V S l := fun l ⟨⟨B, e⟩, k⟩ => ⟨⟨B, hget l B e⟩, k⟩
  let pl : List Nat := (labs Bs).filter fun l => (V.κ l).isSome
  let passed : List Nat := pl.map V.ρ
  have hpl : ∀ l, l ∈ pl → HasB V S l ∧ bk l ∈ ds := fun l hl => by
    simp only [pl, List.mem_filter, labs, List.mem_map] at hl
    obtain ⟨⟨p, hp, rfl⟩, hk⟩ := hl
    have hodd := hh.odd p hp
    have e : bk (p.1 / 2) = p.1 := by unfold bk; omega
    obtain ⟨B, hBp⟩ := hh.blk p hp
    have h1 := hh.have_ p hp
    rw [hBp] at h1
    rw [e]
    refine ⟨⟨⟨B, ?_⟩, by cases hx : V.κ (p.1 / 2) <;> simp_all⟩, hh.drop p hp⟩
    rw [e, hag p.1 (by simp only [delsA, keysOf_eq, List.mem_append, List.mem_map]; exact .inr ⟨p, hp, rfl⟩)]
    exact h1
  have hpre : RepW (.of w passed M (V) (keep) 0) Bs V M w :=
    { blks := fun l B e => hw.blks l B (hget l B e), inj := fun l l' a b => hw.inj l l' (hB l a) (hB l' b), sep := fun l a => hw.sep l (hB l a)
      fresh := fun l a => .inr (by
        obtain ⟨⟨B, e⟩, k⟩ := a
        have hm := St.mem_of_get e
        simp only [passed, pl, List.mem_map, List.mem_filter, labs]
        exact ⟨l, ⟨⟨_, hm, by unfold bk; omega⟩, by cases hx : V.κ l <;> simp_all⟩, rfl⟩)
      bd := fun l a => hw.bd l (hB l a)
      mem := hw.mem, mle := Mem.le_refl M, glb := hw.gl, mnew := fun b o h => .inl h, keep := fun l hl => ⟨rfl, rfl⟩, frame := ⟨rfl, rfl, rfl, Nat.le_refl _, fun _ _ _ => rfl⟩ }
  refine (hs V M w passed vs hpre hd).mono ?_
  rintro e w' ⟨v, V', M', rfl, hdv, hw'⟩
  refine ⟨v, rfl, ?_⟩
  rw [hdst]
  have hf := hw'.frame
  -- the new valuation
  let Vn : Vals := ⟨fun l => if l ∈ new then V'.ρ l else V.ρ l, fun l => if l ∈ new then V'.κ l else V.κ l⟩
  have hVold : ∀ l, l ∉ new → Vn.ρ l = V.ρ l ∧ Vn.κ l = V.κ l := fun l hl => by simp [Vn, hl]
  have hVnew : ∀ l, l ∈ new ++ keep → Vn.ρ l = V'.ρ l ∧ Vn.κ l = V'.κ l := fun l hl => by
    by_cases h : l ∈ new
    · simp [Vn, h]
    · have hk : l ∈ keep := by simpa [h] using hl
      have := hw'.keep l hk
      simp only [Vn, h, if_false]
      exact ⟨this.1.symm, this.2.symm⟩
  have hdvn : Den Vn M' res v := hdv.relab2 fun l hl => hVnew l (within_ment hl hh.res)
  -- names
  let T := S.upd (postCall ds Bs' t res)
  have hT : ∀ n, T.get n = if sl t = n then some (.av res) else match Bs'.get n with | some c => some c | none => if n ∈ ds then none else S.get n := get_postCall S ds Bs' t res
  have hodd' : ∀ n c, Bs'.get n = some c → n % 2 = 1 := fun n c e => hh.odd' _ (St.mem_of_get e)
  have hnames : ∀ n, n ∈ (postCall ds Bs' t res).map Prod.fst → n ∈ ds ∨ n ∈ Bs'.map Prod.fst ∨ n = sl t := fun n h => names_postCall.1 h
  have hold : ∀ n c, sl t ≠ n → Bs'.get n = none → n ∉ ds → S.get n = some c → ∀ l, l ∈ new → ¬ CMent c l := fun n c h1 h2 h3 h4 l hl => by
    refine hfr l hl n c h4 fun hn => ?_
    rcases hnames n hn with h | h | h
    · exact h3 h
    · obtain ⟨p, hp, rfl⟩ := List.mem_map.1 h
      have key : ∀ (B : St) (p : Nat × Cont), p ∈ B → B.get p.1 ≠ none := by
        intro B
        induction B with
        | nil => intro p hp; cases hp
        | cons q r ih =>
          obtain ⟨m, d⟩ := q
          intro p hp hne
          rw [get_cons] at hne
          by_cases hm : m = p.1
          · rw [if_pos hm] at hne; cases hne
          · rw [if_neg hm] at hne
            rcases List.mem_cons.1 hp with rfl | hp
            · exact hm rfl
            · exact ih p hp hne
      exact key Bs' p hp h2
    · exact h1 h.symm
  have hfin : ∀ l, HasB V S l → bk l ∉ ds → V.ρ l ∉ passed := fun l hl hd hp => by
    obtain ⟨l', hl', he⟩ := List.mem_map.1 hp
    obtain ⟨h1, h2⟩ := hpl l' hl'
    have hne : l ≠ l' := fun e => hd (e ▸ h2)
    exact hw.inj l l' hl h1 hne he.symm
  -- a block of T: handed back, or kept
  have hcases : ∀ l B, T.get (bk l) = some (.blk B) → (Bs'.get (bk l) = some (.blk B) ∧ l ∈ new ++ keep) ∨ (S.get (bk l) = some (.blk B) ∧ bk l ∉ ds ∧ Bs'.get (bk l) = none) := fun l B e => by
    rw [hT, if_neg (sl_ne_bk t l)] at e
    cases hb : Bs'.get (bk l) with
    | some c =>
      rw [hb] at e
      refine .inl ⟨by rw [← hb]; simpa [hb] using e, ?_⟩
      have hm := St.mem_of_get hb
      have := hh.lab _ hm
      have e2 : bk l / 2 = l := by unfold bk; omega
      simp only [e2] at this
      exact List.mem_append.2 this
    | none =>
      rw [hb] at e
      simp only at e
      by_cases hd : bk l ∈ ds
      · rw [if_pos hd] at e; cases e
      · rw [if_neg hd] at e; exact .inr ⟨e, hd, rfl⟩
  have hnn : ∀ l B, S.get (bk l) = some (.blk B) → Bs'.get (bk l) = none → l ∉ new := fun l B _ h2 hl => by
    have hm := hh.news l hl
    obtain ⟨p, hp, he⟩ := List.mem_map.1 hm
    have key : ∀ (B : St) (p : Nat × Cont), p ∈ B → B.get p.1 ≠ none := by
      intro B
      induction B with
      | nil => intro p hp; cases hp
      | cons q r ih =>
        obtain ⟨m, d⟩ := q
        intro p hp hne
        rw [get_cons] at hne
        by_cases hm : m = p.1
        · rw [if_pos hm] at hne; cases hne
        · rw [if_neg hm] at hne
          rcases List.mem_cons.1 hp with rfl | hp
          · exact hm rfl
          · exact ih p hp hne
    exact key Bs' p hp (he ▸ h2)
  have hHas : ∀ l, HasB Vn T l → (HasB V' Bs' l ∧ Vn.ρ l = V'.ρ l) ∨ (HasB V S l ∧ bk l ∉ ds ∧ Vn.ρ l = V.ρ l) := fun l ⟨⟨B, e⟩, k⟩ => by
    rcases hcases l B e with ⟨h1, h2⟩ | ⟨h1, h2, h3⟩
    · have := hVnew l h2
      exact .inl ⟨⟨⟨B, h1⟩, by rw [← this.2]; exact k⟩, this.1⟩
    · have := hVold l (hnn l B h1 h3)
      exact .inr ⟨⟨⟨B, h1⟩, by rw [← this.2]; exact k⟩, h2, this.1⟩
  have hsz : ∀ l, HasB V' Bs' l → w.heap.size ≤ V'.ρ l ∨ V'.ρ l ∈ passed := fun l hl => hw'.fresh l hl
  have hapart : ∀ l l', HasB V' Bs' l → HasB V S l' → bk l' ∉ ds → V'.ρ l ≠ V.ρ l' := fun l l' h1 h2 h3 e => by
    rcases hsz l h1 with h | h
    · have := hw.bd l' h2; omega
    · exact hfin l' h2 h3 (e ▸ h)
  refine ⟨Vn, M', ⟨fun s x hx => ?_, by simp [Act.put, ha.size], ha.defers⟩, ?_⟩
  · have hx : T.get (sl s) = some (.av x) := hx
    rw [hT] at hx
    by_cases hst : t = s
    · subst hst
      rw [if_pos rfl] at hx
      injection hx with hx; injection hx with hx; subst hx
      exact ⟨v, by simp [Act.put, ha.size, ht], hdvn⟩
    · have hne : sl t ≠ sl s := fun e => hst (sl_inj e)
      rw [if_neg hne] at hx
      have hbn : Bs'.get (sl s) = none := by
        cases hb : Bs'.get (sl s) with
        | none => rfl
        | some c => have := hodd' _ _ hb; unfold sl at this; omega
      rw [hbn] at hx
      simp only at hx
      by_cases hd : sl s ∈ ds
      · rw [if_pos hd] at hx; cases hx
      · rw [if_neg hd] at hx
        obtain ⟨u, hu, hdu⟩ := ha.slots s x hx
        refine ⟨u, by simpa [Act.put, Array.getElem?_setIfInBounds, hst] using hu, hdu.mono hw'.mle fun l hl => hVold l fun hn => hold (sl s) _ hne hbn hd hx l hn hl⟩
  · exact
    { blks := fun l B e => by
        rcases hcases l B e with ⟨h1, h2⟩ | ⟨h1, h2, h3⟩
        · have hm := hh.cell _ (St.mem_of_get h1)
          exact (hw'.blks l B h1).turn (Mem.le_refl _) (hVnew l h2) (fun l' hl' => hVnew l' (by
            cases hl' with
            | cells cs x _ hx hmx => exact within_ment hmx (withins_mem hm hx)
            | lp h' ts p _ hx hmx => exact within_ment hmx (slotsWithin_mem hm hx)
            | appv cs x _ hx hmx => exact within_ment hmx (withins_mem hm hx))) (fun _ => rfl)
        · have hln := hnn l B h1 h3
          exact (hw.blks l B h1).turn hw'.mle (hVold l hln) (fun l' hl' => hVold l' fun hn => hold (bk l) _ (sl_ne_bk t l) h3 h2 h1 l' hn hl') (fun hk => hf.block _ (hw.bd l ⟨⟨B, h1⟩, hk⟩) (hfin l ⟨⟨B, h1⟩, hk⟩ h2))
      inj := fun l l' h1 h2 hne => by
        rcases hHas l h1 with ⟨a1, a2⟩ | ⟨a1, a2, a3⟩
        · rcases hHas l' h2 with ⟨b1, b2⟩ | ⟨b1, b2, b3⟩
          · rw [a2, b2]; exact hw'.inj l l' a1 b1 hne
          · rw [a2, b3]; exact hapart l l' a1 b1 b2
        · rcases hHas l' h2 with ⟨b1, b2⟩ | ⟨b1, b2, b3⟩
          · rw [a3, b2]; exact (hapart l' l b1 a1 a2).symm
          · rw [a3, b3]; exact hw.inj l l' a1 b1 hne
      sep := fun l h1 o => by
        rcases hHas l h1 with ⟨a1, a2⟩ | ⟨a1, a2, a3⟩
        · rw [a2]; exact hw'.sep l a1 o
        · rw [a3]
          cases hc : M' (V.ρ l) o with
          | none => rfl
          | some u =>
            rcases hw'.mnew (V.ρ l) o (by rw [hc]; simp) with h | h | h
            · exact absurd (hw.sep l a1 o) h
            · have := hw.bd l a1
              have h : w.heap.size ≤ V.ρ l := h
              omega
            · exact absurd h (hfin l a1 a2)
      fresh := fun l h1 => by
        rcases hHas l h1 with ⟨a1, a2⟩ | ⟨a1, a2, a3⟩
        · rw [a2]
          rcases hsz l a1 with h | h
          · exact .inl (Nat.le_trans hw.frame.size h)
          · obtain ⟨l', hl', he⟩ := List.mem_map.1 h
            rw [← he]
            exact hw.fresh l' (hpl l' hl').1
        · rw [a3]; exact hw.fresh l a1
      bd := fun l h1 => by
        rcases hHas l h1 with ⟨a1, a2⟩ | ⟨a1, a2, a3⟩
        · rw [a2]; exact hw'.bd l a1
        · rw [a3]; exact Nat.lt_of_lt_of_le (hw.bd l a1) hf.size
      mem := hw'.mem
      mle := Mem.le_trans hw.mle hw'.mle, glb := hw.glb
      mnew := fun b o h => by
        rcases hw'.mnew b o h with h | h | h
        · exact hw.mnew b o h
        · have h : w.heap.size ≤ b := h
          exact .inr (.inl (Nat.le_trans hw.frame.size h))
        · obtain ⟨l', hl', he⟩ := List.mem_map.1 h
          rw [← he]
          rcases hw.fresh l' (hpl l' hl').1 with h | h
          · exact .inr (.inl h)
          · exact .inr (.inr h)
      keep := fun l hl => by
        have hn : l ∉ new := fun h => hok.1 l h hl
        have := hVold l hn
        rw [this.1, this.2]
        exact hw.keep l hl
      frame := ⟨hf.os.trans hw.frame.os, hf.tape.trans hw.frame.tape, hf.output.trans hw.frame.output, Nat.le_trans hw.frame.size hf.size, fun b hb hp => (hf.block b (Nat.lt_of_lt_of_le hb hw.frame.size) (fun h => by
        obtain ⟨l', hl', he⟩ := List.mem_map.1 h
        rcases hw.fresh l' (hpl l' hl').1 with h | h
        · omega
        · exact hp (he ▸ h))).trans (hw.frame.block b hb hp)⟩ }

/-- The same, as a check. -/
def handedB (S0 : St) (Bs Bs' : St) (res : AV) (keep new ds : List Nat) : Bool :=
  blocksOnly Bs && blocksOnly Bs' && allKeys (fun n => memB n ds) Bs && allKeys (fun n => memB (n / 2) (new ++ keep)) Bs' && keep.all (fun l => !memB l new) && res.within (new ++ keep) && allConts (contWithin (new ++ keep)) Bs' && new.all (fun l => memB (bk l) (keysOf Bs'))
inductive Haves (S : St) : St → Prop
  | nil : Haves S []
  | cons {n : Nat} {B : Blk} {r : St} (h : S.get n = some (.blk B)) (t : Haves S r) : Haves S ((n, .blk B) :: r)
theorem handed_of {S0 : St} {Bs Bs' : St} {res : AV} {keep new ds : List Nat} (h0 : Haves S0 Bs) (h : handedB S0 Bs Bs' res keep new ds = true) : Handed S0 Bs Bs' res keep new ds := by
  have hv : ∀ p ∈ Bs, S0.get p.1 = some p.2 ∧ ∃ B, p.2 = .blk B := by
    clear h
    induction h0 with
    | nil => intro p hp; cases hp
    | cons h t ih =>
      intro p hp
      rcases List.mem_cons.1 hp with rfl | hp
      · exact ⟨h, _, rfl⟩
      · exact ih p hp
  simp only [handedB, Bool.and_eq_true, List.all_eq_true, Bool.not_eq_true'] at h
  obtain ⟨⟨⟨⟨⟨⟨⟨h1, h2⟩, h3⟩, h4⟩, h5⟩, h6⟩, h7⟩, h8⟩ := h
  have h1 : ∀ p ∈ Bs, p.1 % 2 = 1 := fun p hp => by simpa [nbeq] using allKeys_mem h1 p hp
  have h2 : ∀ p ∈ Bs', p.1 % 2 = 1 := fun p hp => by simpa [nbeq] using allKeys_mem h2 p hp
  have h3 : ∀ p ∈ Bs, p.1 ∈ ds := fun p hp => memB_iff.1 (allKeys_mem h3 p hp)
  have h4 : ∀ p ∈ Bs', p.1 / 2 ∈ new ++ keep := fun p hp => memB_iff.1 (allKeys_mem h4 p hp)
  have h7 : ∀ p ∈ Bs', contWithin (new ++ keep) p.2 = true := fun p hp => allConts_mem h7 p hp
  have h8 : ∀ l ∈ new, bk l ∈ Bs'.map Prod.fst := fun l hl => by rw [← keysOf_eq]; exact memB_iff.1 (h8 l hl)
  refine ⟨h1, h2, fun p hp => (hv p hp).1, fun p hp => (hv p hp).2, h3, fun p hp => List.mem_append.1 (h4 p hp), fun l hl hn => ?_, h6, h7, h8⟩
  have := h5 l hl
  rw [memB_iff.2 hn] at this
  cases this

/-- **A call that takes blocks over.** 'ds': what the caller forgets (the blocks that go in, and more); 'new': the labels that are new behind the call. -/
theorem Trace.callB {S0 S' : St} {o : Oper} {cl : Call} {r : List Oper} {L : List Ax} {t : Nat} {g : FuncId} {args : List AV} {res : AV} {Bs Bs' : St} {keep : List Nat} (new ds : List Nat) (hs : FnSpec P g args Bs res Bs' keep) (ho : o.op = .call cl) (hdst : o.dst = some t) (hgd : o.guard = none)
    (hca : CallArgs S0 true cl g args) (hg : enterOK P g = true) (hv : Haves S0 Bs) (hh : handedB S0 Bs Bs' res keep new ds = true) (hf : freshB ⟨opNames o ++ delsA Bs, S0, postCall ds Bs' t res, new⟩ S0 = true)
    (h : Trace P ro ops r (S0.called ds Bs' t res) L S') : Trace P ro ops (o :: r) S0 (⟨opNames o ++ delsA Bs, S0, postCall ds Bs' t res, new⟩ :: L) S' :=
  .cons (axOp_callB ho hdst hgd hca hg hs (handed_of hv hh)) (fun _ _ => rfl) (fresh_of hf) (called_upd _ _ _ _ _) h

theorem odd_of {S : St} (h : blocksOnly S = true) : ∀ n c, S.get n = some c → n % 2 = 1 := fun n c e => by
  have := allKeys_mem h _ (St.mem_of_get e)
  simpa [nbeq] using this
theorem odd_mem {S : St} (h : blocksOnly S = true) : ∀ p ∈ S, p.1 % 2 = 1 := fun p hp => by
  have := allKeys_mem h _ hp
  simpa [nbeq] using this
theorem blks_of {S T : St} (h : Haves S T) : ∀ l B, T.get (bk l) = some (.blk B) → S.get (bk l) = some (.blk B) := by
  intro l B
  generalize bk l = m
  induction h with
  | nil => intro e; cases e
  | @cons n B' r h t ih =>
    intro e
    rw [get_cons] at e
    by_cases hn : n = m
    · subst hn; rw [if_pos rfl] at e; rw [h]; exact e
    · rw [if_neg hn] at e; exact ih e
theorem own_eq {l m n : Nat} (h : m = n) : AV.own l m = AV.own l n := by rw [h]
theorem app_eq {k : IntKind} {m n : Nat} {xs ys : List Int} (h : xs = ys) (hl : m = n) : some (Cont.blk (.app 1 m [.ints k xs])) = some (Cont.blk (.app 1 n [.ints k ys])) := by rw [h, hl]
/-- Swapped names, by a check. -/
theorem FnSpec.as {f : FuncId} {args : List AV} {Bs Bs' : St} {res : AV} {keep : List Nat} (a b : Nat) (h : FnSpec P f args Bs res Bs' keep) (h1 : blocksOnly Bs = true) (h2 : blocksOnly Bs' = true) {args' : List AV} {Cs Cs' : St} {res' : AV} {keep' : List Nat}
    (e1 : AV.swps a b args = args') (e2 : Bs.swp a b = Cs) (e3 : res.swp a b = res') (e4 : Bs'.swp a b = Cs') (e5 : keep.map (trn a b) = keep') : FnSpec P f args' Cs res' Cs' keep' := by
  subst e1; subst e2; subst e3; subst e4; subst e5
  exact h.swp a b (odd_mem h1) (odd_mem h2)
theorem labs_ok {bl ds : List Nat} {l' : Nat} (h : bl.all (fun l => Nat.beq l l' || memB (bk l) ds) = true) : ∀ l ∈ bl, l = l' ∨ bk l ∈ ds := fun l hl => by
  have := List.all_eq_true.1 h l hl
  simpa [nbeq, memB_iff] using this
theorem Col.ones {cs : List Col} (h : cs.all Col.oneB = true) : ∀ c ∈ cs, c.oneB = true := List.all_eq_true.1 h

/-- Without a guard, written out. -/
theorem Trace.cb {S0 S' : St} {cl : Call} {ty : TypeId} {pos : String} {af : Array Edge} {r : List Oper} {L : List Ax} {t : Nat} {g : FuncId} {args : List AV} {res : AV} {Bs Bs' : St} {keep : List Nat} (new ds : List Nat) (hca : CallArgs S0 true cl g args) (hs : FnSpec P g args Bs res Bs' keep) (hg : enterOK P g = true)
    (hv : Haves S0 Bs) (hh : handedB S0 Bs Bs' res keep new ds = true) (hf : freshB ⟨opNames ⟨some t, .call cl, ty, pos, af, none⟩ ++ delsA Bs, S0, postCall ds Bs' t res, new⟩ S0 = true)
    (h : Trace P ro ops r (S0.called ds Bs' t res) L S') : Trace P ro ops (⟨some t, .call cl, ty, pos, af, none⟩ :: r) S0 (⟨opNames ⟨some t, .call cl, ty, pos, af, none⟩ ++ delsA Bs, S0, postCall ds Bs' t res, new⟩ :: L) S' :=
  Trace.callB new ds hs rfl rfl rfl hca hg hv hh hf h

/-- A nil slice in the place of an own slice of no elements. -/
theorem FnSpec.nil {f : FuncId} {l n : Nat} {cs : List Col} {A1 A2 : List AV} {Bs Bs' : St} {res : AV} {keep : List Nat} (h : FnSpec P f (A1 ++ .own l 0 :: A2) ((bk l, .blk (.app n 0 cs)) :: Bs) res Bs' keep)
    (hcs : cs.length = n) (hc0 : ∀ c ∈ cs, c.len = 0) (h1 : AV.ments l A1 = false) (h2 : AV.ments l A2 = false) (h3 : (allKeys (fun n => !Nat.beq n (bk l)) Bs && allConts (fun c => !c.ment l) Bs) = true) (hk : memB l keep = false) :
    FnSpec P f (A1 ++ nilS :: A2) Bs res Bs' keep := by
  intro V M w passed vs hw hd
  let V1 : Vals := ⟨V.ρ, fun m => if m = l then none else V.κ m⟩
  have hVo : ∀ m, m ≠ l → V1.ρ m = V.ρ m ∧ V1.κ m = V.κ m := fun m hm => by simp [V1, hm]
  have hBs : ∀ n c, Bs.get n = some c → n ≠ bk l ∧ ¬ CMent c l := fun n c e => by
    simp only [Bool.and_eq_true] at h3
    have h4 := allKeys_mem h3.1 _ (St.mem_of_get e)
    have h5 := allConts_mem h3.2 _ (St.mem_of_get e)
    simp only [Bool.not_eq_true', nbeq, decide_eq_false_iff_not] at h4
    exact ⟨h4, fun hm => by simp [cment_of hm] at h5⟩
  have hkl : l ∉ keep := fun hm => by rw [memB_iff.2 hm] at hk; cases hk
  have hcase : ∀ m B, St.get ((bk l, .blk (.app n 0 cs)) :: Bs) (bk m) = some (.blk B) → (m = l ∧ B = .app n 0 cs) ∨ (m ≠ l ∧ Bs.get (bk m) = some (.blk B)) := fun m B e => by
    rw [get_cons] at e
    by_cases hm : bk l = bk m
    · rw [if_pos hm] at e
      refine .inl ⟨by unfold bk at hm; omega, ?_⟩
      injection e with e; injection e with e; exact e.symm
    · rw [if_neg hm] at e
      exact .inr ⟨fun h => hm (by rw [h]), e⟩
  have hHas : ∀ m, HasB V1 ((bk l, .blk (.app n 0 cs)) :: Bs) m → HasB V Bs m ∧ V1.ρ m = V.ρ m := fun m ⟨⟨B, e⟩, k⟩ => by
    rcases hcase m B e with ⟨rfl, _⟩ | ⟨hm, e⟩
    · simp [V1] at k
    · exact ⟨⟨⟨B, e⟩, by rw [← (hVo m hm).2]; exact k⟩, rfl⟩
  have hw1 : RepW (.of w passed M (V1) (keep) 0) ((bk l, .blk (.app n 0 cs)) :: Bs) V1 M w :=
    { blks := fun m B e => by
        rcases hcase m B e with ⟨rfl, rfl⟩ | ⟨hm, e⟩
        · refine ⟨hcs, hc0, ?_⟩
          have : V1.κ m = none := by simp [V1]
          rw [this]
        · exact (hw.blks m B e).turn (Mem.le_refl _) (hVo m hm) (fun l' hl' => hVo l' fun e' => (hBs _ _ e).2 (e' ▸ hl')) (fun _ => rfl)
      inj := fun m m' a b hne => by rw [(hHas m a).2, (hHas m' b).2]; exact hw.inj m m' (hHas m a).1 (hHas m' b).1 hne
      sep := fun m a o => by rw [(hHas m a).2]; exact hw.sep m (hHas m a).1 o
      fresh := fun m a => by rw [(hHas m a).2]; exact hw.fresh m (hHas m a).1
      bd := fun m a => by rw [(hHas m a).2]; exact hw.bd m (hHas m a).1
      mem := hw.mem, mle := hw.mle, glb := hw.glb, mnew := hw.mnew, keep := fun l' _ => ⟨rfl, rfl⟩
      frame := ⟨hw.frame.os, hw.frame.tape, hw.frame.output, hw.frame.size, hw.frame.block⟩ }
  have hd1 : DenL V1 M (A1 ++ .own l 0 :: A2) vs := ⟨by have := hd.len; simpa using this, fun j x y hx hy => by
    have hold : ∀ x, (A1 ++ nilS :: A2)[j]? = some x → (x ∈ A1 ∨ x ∈ A2) → Den V1 M x y := fun x hx hm => by
      refine (hd.at' j x y hx hy).mono (Mem.le_refl _) fun l' hl' => hVo l' fun e => ?_
      subst e
      rcases hm with hm | hm
      · rw [ments_of_mem hm (ment_of hl')] at h1; cases h1
      · rw [ments_of_mem hm (ment_of hl')] at h2; cases h2
    rcases Nat.lt_trichotomy j A1.length with hj | hj | hj
    · rw [List.getElem?_append_left hj] at hx
      exact hold x (by rw [List.getElem?_append_left hj]; exact hx) (.inl (List.mem_of_getElem? hx))
    · subst hj
      rw [List.getElem?_append_right (Nat.le_refl _)] at hx
      simp at hx; subst hx
      have := hd.at' A1.length nilS y (by rw [List.getElem?_append_right (Nat.le_refl _)]; simp) hy
      cases this with
      | d _ _ h => cases h with | v _ => exact .ownNil l (by simp [V1])
    · obtain ⟨k, rfl⟩ : ∃ k, j = A1.length + 1 + k := ⟨j - (A1.length + 1), by omega⟩
      rw [List.getElem?_append_right (by omega)] at hx
      have e : A1.length + 1 + k - A1.length = k + 1 := by omega
      rw [e] at hx
      simp at hx
      refine hold x ?_ (.inr (List.mem_of_getElem? hx))
      rw [List.getElem?_append_right (by omega), e]; simpa using hx⟩
  refine (h V1 M w passed vs hw1 hd1).mono ?_
  rintro e w' ⟨v, V', M', rfl, hv, hw'⟩
  refine ⟨v, V', M', rfl, hv, { blks := hw'.blks, inj := hw'.inj, sep := hw'.sep, fresh := hw'.fresh, bd := hw'.bd, mem := hw'.mem, mle := hw'.mle, glb := hw'.glb, mnew := hw'.mnew, keep := fun l' hl' => ?_, frame := ⟨hw'.frame.os, hw'.frame.tape, hw'.frame.output, hw'.frame.size, hw'.frame.block⟩ }⟩
  have := hw'.keep l' hl'
  have hn := hVo l' fun e => hkl (e ▸ hl')
  exact ⟨this.1.trans hn.1, this.2.trans hn.2⟩

end Go.Proofs.YtmdfamnnnoieaaaDoor

/- More operations: places in small arrays of cells; nil checks. No program in sight. -/
namespace Go.Proofs.YtmdfamnnnoieaaaDoor
open Go
set_option linter.unusedVariables false
set_option linter.unusedSimpArgs false
section
variable {P : Program} {S : St} {ro : Ro} {ops : Array Oper} {c : Bool} {x y : Operand} {t ty : TypeId} {pos : String} {af : Array Edge} {gd : Option (Nat × Bool)} {d : Option Nat}

/-- A place in an array of cells that one by one are known. -/
theorem Pure.indexLoc {l n len o o' : Nat} {k : IntKind} {i : Int} {agg : Bool} (ht : arrOK P t len agg n = true) (e1 : Ev S c x (.loc l o)) (e2 : Ev S c y (iv k i)) (hi : c = true → 0 ≤ i ∧ i.toNat < len) (ho : o + i.toNat * n = o') :
    Pure P S [] ⟨d, .indexAddr t x y, ty, pos, af, gd⟩ c (.loc l o') := by
  subst ho
  refine ⟨(fun _ h => nomatch h), fun E V M a w h hc => ?_⟩
  obtain ⟨h0, hlt⟩ := hi hc
  have h1 := h.opd x (by simp [Op.operands]) _ e1
  have h2 := h.val (by simp [Op.operands]) e2
  generalize he : a.eval x = v at h1
  generalize a.eval = ρ at *
  cases h1 with
  | loc _ _ =>
    unfold arrOK at ht
    split at ht
    · rename_i len' e hu
      simp only [Bool.and_eq_true] at ht
      have hlen := Nat.eq_of_beq_eq_true ht.1
      subst hlen
      have hlt' : i < (len' : Int) := by omega
      exact ⟨.pointer (some ⟨V.ρ l, o + i.toNat * n, none⟩), by simp [execOp, he, h2, Instr.indexAt, asIntOf, run_underlying hu, Instr.sureAddr, tyOK_sizeOf ht.2, h0, hlt', addr_add], .loc _ _⟩
    · cases ht

def AV.isPtr : AV → Bool
  | .loc _ _ => true
  | .locr _ _ _ _ => true
  | .rp _ => true
  | _ => false
theorem Pure.nilCheck {u : AV} (e1 : Ev S c x u) (hu : u.isPtr = true) : Pure P S [] ⟨d, .nilCheck x, ty, pos, af, gd⟩ c u := by
  refine ⟨(fun _ h => nomatch h), fun E V M a w h hc => ?_⟩
  have h1 := h.opd x (by simp [Op.operands]) _ e1
  refine ⟨a.eval x, ?_, h1⟩
  generalize he : a.eval x = v at h1
  generalize a.eval = ρ at *
  cases h1 <;> simp [AV.isPtr] at hu
  all_goals simp [execOp, he]

theorem Pure.funcL {f : FuncId} {l : List Operand} {cs : List AV} (h : EvAll S c l cs) : Pure P S [] ⟨d, .makeFunc (.func f) #[] l.toArray, ty, pos, af, gd⟩ c (.fn f cs) :=
  Pure.func rfl (by simpa using h.at'.1) (fun j x y hx hy => h.at'.2 j x y (by simpa using hx) hy)

end

/-- A slot's value, seen in another way. -/
theorem Ghost.slot {E : Env} {S : St} {t : Nat} {x y : AV} (hs : S.get (sl t) = some (.av x)) (h : ∀ V M v, Den V M x v → Den V M y v) : Ghost E S ((sl t, .av y) :: S) := by
  rintro a w ⟨V, M, ha, hw⟩
  refine ⟨V, M, ⟨fun s z e => ?_, ha.size, ha.defers⟩, hw.blks_only fun l B e => ?_⟩
  · rw [get_cons] at e
    by_cases hst : sl t = sl s
    · rw [if_pos hst] at e
      injection e with e; injection e with e; subst e
      have := sl_inj hst; subst this
      obtain ⟨v, hv, hd⟩ := ha.slots t x hs
      exact ⟨v, hv, h V M v hd⟩
    · rw [if_neg hst] at e; exact ha.slots s z e
  · rw [get_cons, if_neg (sl_ne_bk t l)] at e; exact e
theorem den_nilRows {n : Nat} {g : Nat → List D} : ∀ V M v, Den V M nilS v → Den V M (.d (.rows n 0 g)) v := fun V M v h => by
  have : v = .slice none 0 0 := den_v h
  subst this
  exact .d _ _ (.emp n g none 0)
theorem FnSpec.resLe {P : Program} {f : FuncId} {args : List AV} {Bs Bs' : St} {res res' : AV} {keep : List Nat} (h : FnSpec P f args Bs res Bs' keep) (hr : ∀ V M v, Den V M res v → Den V M res' v) : FnSpec P f args Bs res' Bs' keep := fun V M w passed vs hw hd =>
  (h V M w passed vs hw hd).mono fun e w' ⟨v, V', M', he, hv, hw'⟩ => ⟨v, V', M', he, hr _ _ _ hv, hw'⟩
/-- Cells, a nil slice among them seen as rows. -/
inductive DLes : List D → List D → Prop
  | nil : DLes [] []
  | same {x : D} {l l' : List D} (h : DLes l l') : DLes (x :: l) (x :: l')
  | rows {n : Nat} {g : Nat → List D} {l l' : List D} (h : DLes l l') : DLes (.v (.slice none 0 0) :: l) (.rows n 0 g :: l')
theorem DLes.at' {l l' : List D} (h : DLes l l') : l.length = l'.length ∧ ∀ (j : Nat) (x : D) (y : Value), ∀ M, l'[j]? = some x → (∀ z, l[j]? = some z → DenD M z y) → DenD M x y := by
  induction h with
  | nil => exact ⟨rfl, fun j x y M hx _ => by simp at hx⟩
  | @same a l l' h ih =>
    refine ⟨by simp [ih.1], fun j x y M hx hz => ?_⟩
    cases j with
    | zero => simp at hx; subst hx; exact hz a rfl
    | succ j => exact ih.2 j x y M (by simpa using hx) (fun z h => hz z (by simpa using h))
  | @rows n g l l' h ih =>
    refine ⟨by simp [ih.1], fun j x y M hx hz => ?_⟩
    cases j with
    | zero =>
      simp at hx; subst hx
      have := hz _ rfl
      cases this with | v _ => exact .emp n g none 0
    | succ j => exact ih.2 j x y M (by simpa using hx) (fun z h => hz z (by simpa using h))
theorem den_aggLe {l l' : List D} (h : DLes l l') : ∀ V M v, Den V M (.d (.agg l)) v → Den V M (.d (.agg l')) v := by
  intro V M v hd
  cases hd with
  | d _ _ hd =>
    cases hd with
    | agg _ vs hl hd =>
      refine .d _ _ (.agg _ vs (by rw [← h.at'.1]; exact hl) fun j x y hx hy => ?_)
      exact h.at'.2 j x y M hx fun z hz => hd j z y hz hy
/-- A list of bytes that no one changes. -/
def bytesD (xs : List Int) : D := rowsD 1 xs.length [.ints .u8 xs]

end Go.Proofs.YtmdfamnnnoieaaaDoor

/- Walks that end with a panic; contracts of functions that panic. No program in sight. -/
namespace Go.Proofs.YtmdfamnnnoieaaaDoor
open Go
set_option linter.unusedVariables false
set_option linter.unusedSimpArgs false
variable {P : Program} {S : St} {ro : Ro} {ops : Array Oper} {E : Env}

/-- A call of f on these arguments ends with this panic; the world outside of the blocks that it was given stays. -/
def PSpec (P : Program) (f : FuncId) (args : List AV) (Bs : St) (ch : List PanicEntry) : Prop :=
  ∀ (V : Vals) (M : Mem) (w : World) (passed : List Nat) (vs : List Value), RepW (.of w passed M V [] 0) Bs V M w → DenL V M args vs →
    Calls P f vs.toArray w fun e w' => e = .panicked ch ∧ FrameOK (.of w passed M V [] 0) w'

/-! The operation 'panic'. -/
/-! A call that panics. -/
structure HandedX (S0 Bs pst : St) : Prop where
  odd : ∀ p ∈ Bs, p.1 % 2 = 1
  have_ : ∀ p ∈ Bs, S0.get p.1 = some p.2
  blk : ∀ p ∈ Bs, ∃ B, p.2 = .blk B
  have' : ∀ p ∈ pst, S0.get p.1 = some p.2
  apart : ∀ p ∈ pst, ∀ q ∈ Bs, p.1 ≠ q.1

inductive HavesC (S : St) : St → Prop
  | nil : HavesC S []
  | cons {n : Nat} {c : Cont} {r : St} (h : S.get n = some c) (t : HavesC S r) : HavesC S ((n, c) :: r)
end Go.Proofs.YtmdfamnnnoieaaaDoor

/- Full slice expressions of immutable rows. No program in sight. -/
namespace Go.Proofs.YtmdfamnnnoieaaaDoor
open Go
set_option linter.unusedVariables false
set_option linter.unusedSimpArgs false
section
variable {P : Program} {S : St} {c : Bool} {x : Operand} {t ty e : TypeId} {pos : String} {af : Array Edge} {gd : Option (Nat × Bool)} {d : Option Nat}

end

end Go.Proofs.YtmdfamnnnoieaaaDoor

/- Slices inside cells; bytes as strings and back. No program in sight. -/
namespace Go.Proofs.YtmdfamnnnoieaaaDoor
open Go
set_option linter.unusedVariables false
set_option linter.unusedSimpArgs false
variable {P : Program} {S : St} {ro : Ro} {ops : Array Oper} {E : Env}

/-- One block's shape, read otherwise, where this world allows it. -/
theorem RepW.reblk {V : Vals} {M : Mem} {w : World} {l : Nat} {B B' : Blk} (hw : RepW E S V M w) (hb : S.get (bk l) = some (.blk B)) (h : BlkAt V M w l B') : RepW E ((bk l, .blk B') :: S) V M w := by
  have hg : ∀ m C, St.get ((bk l, .blk B') :: S) (bk m) = some (.blk C) → (m = l ∧ C = B') ∨ S.get (bk m) = some (.blk C) := fun m C e => by
    rw [get_cons] at e
    by_cases hm : bk l = bk m
    · rw [if_pos hm] at e; injection e with e; injection e with e; left; exact ⟨by unfold bk at hm; omega, e.symm⟩
    · rw [if_neg hm] at e; exact .inr e
  have hh : ∀ m, HasB V ((bk l, .blk B') :: S) m → HasB V S m := fun m ⟨⟨C, e⟩, k⟩ => by
    rcases hg m C e with ⟨rfl, _⟩ | e
    · exact ⟨⟨B, hb⟩, k⟩
    · exact ⟨⟨C, e⟩, k⟩
  exact { blks := fun m C e => by
            rcases hg m C e with ⟨rfl, rfl⟩ | e
            · exact h
            · exact hw.blks m C e
          inj := fun m k a b => hw.inj m k (hh m a) (hh k b), sep := fun m a => hw.sep m (hh m a), fresh := fun m a => hw.fresh m (hh m a), bd := fun m a => hw.bd m (hh m a), mem := hw.mem, mle := hw.mle, glb := hw.glb, mnew := hw.mnew, keep := hw.keep, frame := hw.frame }
theorem RepA.blk {V : Vals} {M : Mem} {a : Act} (h : RepA E S V M a) (l : Nat) (B : Cont) : RepA E ((bk l, B) :: S) V M a :=
  ⟨fun t x e => by rw [get_cons, if_neg (Ne.symm (sl_ne_bk t l))] at e; exact h.slots t x e, h.size, h.defers⟩

/-- A label without a block (a nil slice). -/
theorem rep_nilLabel {V : Vals} {M : Mem} {a : Act} {w : World} (ha : RepA E S V M a) (hw : RepW E S V M w) {l n : Nat} {cs : List Col} (hf : freshB ⟨[], S, [(bk l, none)], [l]⟩ S = true) (hk : l ∉ E.keep) (hn : cs.length = n) (hc : ∀ c ∈ cs, c.len = 0) :
    ∃ V' : Vals, V'.κ l = none ∧ RepA E ((bk l, .blk (.app n 0 cs)) :: S) V' M a ∧ RepW E ((bk l, .blk (.app n 0 cs)) :: S) V' M w := by
  have hfr := fresh_of hf
  have hm : ∀ m c, S.get m = some c → m ≠ bk l → ¬ CMent c l := fun m c e hne => hfr l (by simp) m c e (by simp [Ax.names]; exact hne)
  refine ⟨V.set l 0 none, by simp, ⟨fun t x e => ?_, ha.size, ha.defers⟩, ?_⟩
  · rw [get_cons, if_neg (Ne.symm (sl_ne_bk t l))] at e
    obtain ⟨v, hv, hd⟩ := ha.slots t x e
    exact ⟨v, hv, hd.relab 0 none (hm _ _ e (sl_ne_bk t l))⟩
  · have hg : ∀ m C, St.get ((bk l, .blk (.app n 0 cs)) :: S) (bk m) = some (.blk C) → (m = l ∧ C = .app n 0 cs) ∨ (m ≠ l ∧ S.get (bk m) = some (.blk C)) := fun m C e => by
      rw [get_cons] at e
      by_cases hml : m = l
      · subst hml; rw [if_pos rfl] at e; injection e with e; injection e with e; exact .inl ⟨rfl, e.symm⟩
      · rw [if_neg (fun e => hml (by unfold bk at e; omega))] at e; exact .inr ⟨hml, e⟩
    have hh : ∀ m, HasB (V.set l 0 none) ((bk l, .blk (.app n 0 cs)) :: S) m → m ≠ l ∧ HasB V S m ∧ (V.set l 0 none).ρ m = V.ρ m := fun m ⟨⟨C, e⟩, k⟩ => by
      rcases hg m C e with ⟨rfl, _⟩ | ⟨hne, e⟩
      · simp at k
      · obtain ⟨e1, e2⟩ := V.set_ne 0 none hne
        exact ⟨hne, ⟨⟨C, e⟩, by rwa [e2] at k⟩, e1⟩
    exact { blks := fun m C e => by
              rcases hg m C e with ⟨rfl, rfl⟩ | ⟨hne, e⟩
              · exact ⟨hn, hc, by simp⟩
              · exact (hw.blks m C e).relab 0 none hne (hm _ _ e (fun e => hne (by unfold bk at e; omega))) (fun _ => rfl)
            inj := fun m k a b hne => by
              obtain ⟨_, h1, e1⟩ := hh m a
              obtain ⟨_, h2, e2⟩ := hh k b
              rw [e1, e2]; exact hw.inj m k h1 h2 hne
            sep := fun m a => by obtain ⟨_, h1, e1⟩ := hh m a; rw [e1]; exact hw.sep m h1
            fresh := fun m a => by obtain ⟨_, h1, e1⟩ := hh m a; rw [e1]; exact hw.fresh m h1
            bd := fun m a => by obtain ⟨_, h1, e1⟩ := hh m a; rw [e1]; exact hw.bd m h1
            mem := hw.mem, mle := hw.mle, glb := hw.glb, mnew := hw.mnew
            keep := fun m h => by obtain ⟨e1, e2⟩ := V.set_ne 0 none (fun e : m = l => hk (e ▸ h)); rw [e1, e2]; exact hw.keep m h
            frame := hw.frame }

/-- A nil slice in a cell, as one that the function owns. -/
theorem Ghost.cellNil {lb j l n : Nat} {cs cs' : List AV} {cols : List Col} (hb : S.get (bk lb) = some (.blk (.cells cs))) (hj : cs[j]? = some nilS) (hf : freshB ⟨[], S, [(bk l, none)], [l]⟩ S = true) (hne : (Nat.beq lb l) = false) (hk : l ∉ E.keep) (hn : cols.length = n) (hc : ∀ c ∈ cols, c.len = 0)
    (hcs : cs.set j (.own l 0) = cs') : Ghost E S ((bk lb, .blk (.cells cs')) :: (bk l, .blk (.app n 0 cols)) :: S) := by
  rintro a w ⟨V, M, ha, hw⟩
  obtain ⟨V', hκ, ha', hw'⟩ := rep_nilLabel (cs := cols) ha hw hf hk hn hc
  have hne' : bk l ≠ bk lb := fun e => by
    have : lb = l := by unfold bk at e; omega
    rw [this] at hne; simp [nbeq] at hne
  have hb' : St.get ((bk l, .blk (.app n 0 cols)) :: S) (bk lb) = some (.blk (.cells cs)) := by rw [get_cons, if_neg hne']; exact hb
  refine ⟨V', M, ha'.blk _ _, hw'.reblk hb' ?_⟩
  obtain ⟨h1, vs, t, h2, h3, h4⟩ := hw'.blks lb _ hb'
  refine ⟨h1, vs, t, h2, by rw [← hcs]; simpa using h3, fun i x y hx hy => ?_⟩
  rw [← hcs, List.getElem?_set] at hx
  split at hx
  · rename_i hij
    subst hij
    split at hx
    · injection hx with hx
      subst hx
      have := den_v (h4 j nilS y hj hy)
      subst this
      exact .ownNil l hκ
    · cases hx
  · exact h4 i x y hx hy

/-- A block that a slice owns becomes immutable. -/
theorem rep_freeze {V : Vals} {M : Mem} {a : Act} {w : World} (ha : RepA E S V M a) (hw : RepW E S V M w) {l n len : Nat} {cs : List Col} (hb : S.get (bk l) = some (.blk (.app n len cs))) :
    ∃ M' : Mem, M.le M' ∧ (∀ v, Den V M (.own l len) v → Den V M' (.d (rowsD n len cs)) v) ∧ RepA E (St.del (bk l) S) V M' a ∧ RepW E (St.del (bk l) S) V M' w := by
  have hgb : ∀ m B, (St.del (bk l) S).get (bk m) = some (.blk B) → m ≠ l ∧ S.get (bk m) = some (.blk B) := by
    intro m B h
    rw [St.get_del] at h
    by_cases hm : bk l = bk m
    · rw [if_pos hm] at h; cases h
    · rw [if_neg hm] at h; exact ⟨fun e => hm (by rw [e]), h⟩
  have hblk := hw.blks l _ hb
  obtain ⟨b1, b2, b3⟩ := hblk
  obtain ⟨M', hle, hM', hden⟩ : ∃ M' : Mem, M.le M' ∧ (∀ b o u, M' b o = some u → M b o = some u ∨ (b = V.ρ l ∧ V.κ l ≠ none ∧ w.cell? ⟨b, o, none⟩ = some u)) ∧ (∀ v, Den V M (.own l len) v → Den V M' (.d (rowsD n len cs)) v) := by
    cases hk : V.κ l with
    | none =>
      refine ⟨M, Mem.le_refl M, fun b o u h => .inl h, fun v hd => ?_⟩
      cases hd with
      | own _ _ cap hk' _ => rw [hk] at hk'; cases hk'
      | ownNil _ _ => exact .d _ _ (.emp _ _ _ _)
    | some cap0 =>
      rw [hk] at b3
      obtain ⟨hcap0, vs, tt, hh, hsz, hr⟩ := b3
      have hM0 : ∀ o, M (V.ρ l) o = none := hw.sep l ⟨⟨_, hb⟩, by rw [hk]; simp⟩
      have hle : M.le (fun b o => if b = V.ρ l then vs[o]? else M b o) := fun b o u h => by
        by_cases e : b = V.ρ l
        · subst e; rw [hM0 o] at h; cases h
        · simp only [if_neg e]; exact h
      refine ⟨fun b o => if b = V.ρ l then vs[o]? else M b o, hle, fun b o u h => ?_, fun v hd => ?_⟩
      · by_cases e : b = V.ρ l
        · subst e
          simp only [if_true] at h
          right
          exact ⟨rfl, by simp, by simp [World.cell?, hh, h]⟩
        · simp only [if_neg e] at h; exact .inl h
      · cases hd with
        | ownNil _ hk' => rw [hk] at hk'; cases hk'
        | own _ _ cap hk' hc =>
          refine .d _ _ (denD_new (M := M) hle hr hc fun k u h => by simpa using h)
  refine ⟨M', hle, hden, ⟨fun s x hx => ?_, ha.size, ha.defers⟩, ?_⟩
  · rw [St.get_del, if_neg (Ne.symm (sl_ne_bk s l))] at hx
    obtain ⟨u, hu, hdu⟩ := ha.slots s x hx
    exact ⟨u, hu, hdu.mono hle fun _ _ => ⟨rfl, rfl⟩⟩
  · have hh : ∀ m, HasB V (St.del (bk l) S) m → m ≠ l ∧ HasB V S m := fun m ⟨⟨B, e⟩, k⟩ => ⟨(hgb m B e).1, ⟨B, (hgb m B e).2⟩, k⟩
    have hne : ∀ m, HasB V S m → m ≠ l → V.κ l ≠ none → V.ρ m ≠ V.ρ l := fun m hm hml hk => hw.inj m l hm ⟨⟨_, hb⟩, hk⟩ hml
    exact { blks := fun m B e => (hw.blks m B (hgb m B e).2).memMono hle
            inj := fun m k hm hk' => hw.inj m k (hh m hm).2 (hh k hk').2
            sep := fun m hm o => by
              obtain ⟨h1, h2⟩ := hh m hm
              cases hc : M' (V.ρ m) o with
              | none => rfl
              | some u =>
                rcases hM' _ _ _ hc with h | ⟨h, hk, _⟩
                · rw [hw.sep m h2 o] at h; cases h
                · exact absurd h (hne m h2 h1 hk)
            fresh := fun m hm => hw.fresh m (hh m hm).2
            bd := fun m hm => hw.bd m (hh m hm).2
            mem := fun b o u h => by
              rcases hM' b o u h with h | ⟨_, _, h⟩
              · exact hw.mem b o u h
              · exact h
            mle := Mem.le_trans hw.mle hle, glb := hw.glb
            mnew := fun b o h => by
              cases hc : M' b o with
              | none => exact absurd hc h
              | some u =>
                rcases hM' b o u hc with h | ⟨h, hk, _⟩
                · exact hw.mnew b o (by rw [h]; simp)
                · rw [h]
                  rcases hw.fresh l ⟨⟨_, hb⟩, hk⟩ with h | h
                  · exact .inr (.inl h)
                  · exact .inr (.inr h)
            keep := hw.keep, frame := hw.frame }

/-- Rows count up to their length. -/
theorem denD_rowsLe {M : Mem} {n len : Nat} {g g' : Nat → List D} {v : Value} (h : DenD M (.rows n len g) v) (hg : ∀ i, i < len → g i = g' i) : DenD M (.rows n len g') v := by
  cases h with
  | emp => exact .emp _ _ _ _
  | rows _ _ _ b o cap hc hl c hm h => exact .rows _ _ _ b o cap hc (fun i hi => by rw [← hg i hi]; exact hl i hi) c hm (fun i j x hi hx => h i j x hi (by rw [hg i hi]; exact hx))

/-- A slice in a cell that the function owns becomes immutable data. -/
theorem Ghost.cellFreeze {lb j l n len : Nat} {cs cs' : List AV} {cols : List Col} {g : Nat → List D} (hb : S.get (bk lb) = some (.blk (.cells cs))) (hj : cs[j]? = some (.own l len)) (hl : S.get (bk l) = some (.blk (.app n len cols))) (hne : (Nat.beq lb l) = false)
    (hg : ∀ i, i < len → cols.map (Col.at · i) = g i) (hcs : cs.set j (.d (.rows n len g)) = cs') : Ghost E S ((bk lb, .blk (.cells cs')) :: St.del (bk l) S) := by
  rintro a w ⟨V, M, ha, hw⟩
  obtain ⟨M', hle, hden, ha', hw'⟩ := rep_freeze ha hw hl
  have hne' : bk l ≠ bk lb := fun e => by
    have : lb = l := by unfold bk at e; omega
    rw [this] at hne; simp [nbeq] at hne
  have hb' : (St.del (bk l) S).get (bk lb) = some (.blk (.cells cs)) := by rw [St.get_del, if_neg hne']; exact hb
  refine ⟨V, M', ha'.blk _ _, hw'.reblk hb' ?_⟩
  obtain ⟨h1, vs, t, h2, h3, h4⟩ := hw.blks lb _ hb
  refine ⟨h1, vs, t, h2, by rw [← hcs]; simpa using h3, fun i x y hx hy => ?_⟩
  rw [← hcs, List.getElem?_set] at hx
  split at hx
  · rename_i hij
    subst hij
    split at hx
    · injection hx with hx
      subst hx
      have := hden y (h4 j _ y hj hy)
      cases this with
      | d _ _ h => exact .d _ _ (denD_rowsLe h hg)
    · cases hx
  · exact (h4 i x y hx hy).mono hle fun _ _ => ⟨rfl, rfl⟩
/-- The same of a slot. -/
theorem Ghost.freezeAs {t l n len : Nat} {cols : List Col} {g : Nat → List D} (hs : S.get (sl t) = some (.av (.own l len))) (hl : S.get (bk l) = some (.blk (.app n len cols)))
    (hg : ∀ i, i < len → cols.map (Col.at · i) = g i) : Ghost E S ((sl t, .av (.d (.rows n len g))) :: St.del (bk l) S) := by
  refine (Ghost.freeze' hs hl).trans ?_
  refine (Ghost.slot (t := t) (x := .d (rowsD n len cols)) (y := .d (.rows n len g)) (by rw [get_cons, if_pos rfl]) fun V M v h => ?_).trans (Ghost.weaken fun m c e => ?_)
  · cases h with
    | d _ _ h => exact .d _ _ (denD_rowsLe h hg)
  · rw [get_cons] at e ⊢
    by_cases hm : sl t = m
    · rw [if_pos hm] at e ⊢; exact e
    · rw [if_neg hm] at e ⊢; rw [get_cons, if_neg hm]; exact e

/-- Plain data of a block, a nil slice among them seen as rows. -/
theorem Ghost.dataLe {l : Nat} {ds ds' : List D} (hb : S.get (bk l) = some (.blk (.data ds))) (h : DLes ds ds') : Ghost E S ((bk l, .blk (.data ds')) :: S) := by
  rintro a w ⟨V, M, ha, hw⟩
  refine ⟨V, M, ha.blk _ _, hw.reblk hb ?_⟩
  obtain ⟨h1, vs, t, h2, h3, h4⟩ := hw.blks l _ hb
  obtain ⟨hl, hat⟩ := h.at'
  refine ⟨h1, vs, t, h2, by simp at h3 ⊢; omega, fun j x y hx hy => ?_⟩
  simp only [List.getElem?_map, Option.map_eq_some_iff] at hx
  obtain ⟨x', hx', rfl⟩ := hx
  refine .d _ _ (hat j x' y M hx' fun z hz => ?_)
  have := h4 j (.d z) y (by simp [hz]) hy
  cases this with | d _ _ h => exact h

/-! Two labels change their names. -/
def keySwp (a b n : Nat) : Nat := bif Nat.beq (n % 2) 0 then n else bk (trn a b (n / 2))
def St.swpA (a b : Nat) : St → St
  | [] => []
  | (n, c) :: r => (keySwp a b n, c.swp a b) :: St.swpA a b r
theorem keySwp_inv (a b n : Nat) : keySwp a b (keySwp a b n) = n := by
  unfold keySwp
  simp only [nbeq]
  by_cases h : n % 2 = 0
  · simp [h]
  · have e : bk (trn a b (n / 2)) / 2 = trn a b (n / 2) := by unfold bk; omega
    have e2 : bk (trn a b (n / 2)) % 2 = 1 := by unfold bk; omega
    simp only [h, decide_false, cond_false, e2, e, trn_trn]
    unfold bk
    simp
    omega
theorem get_swpA (a b : Nat) : ∀ (S : St) (n : Nat), (S.swpA a b).get n = (S.get (keySwp a b n)).map (Cont.swp a b)
  | [], n => rfl
  | (m, c) :: r, n => by
    simp only [St.swpA]
    rw [get_cons, get_cons, get_swpA a b r n]
    by_cases h : keySwp a b m = n
    · rw [if_pos h, if_pos (by rw [← h, keySwp_inv])]; rfl
    · rw [if_neg h, if_neg (fun e => h (by rw [e, keySwp_inv]))]
theorem keySwp_sl (a b t : Nat) : keySwp a b (sl t) = sl t := by
  unfold keySwp sl
  simp [nbeq]
theorem keySwp_bk (a b l : Nat) : keySwp a b (bk l) = bk (trn a b l) := by
  unfold keySwp
  have : bk l % 2 = 1 := by unfold bk; omega
  have e : bk l / 2 = l := by unfold bk; omega
  simp [nbeq, this, e]
theorem Ghost.swap (a b : Nat) {T : St} (ha : a ∉ E.keep) (hb : b ∉ E.keep) (hT : S.swpA a b = T) : Ghost E S T := by
  subst hT
  rintro ac w ⟨V, M, hA, h⟩
  have hH : ∀ l, HasB (V.swp a b) (S.swpA a b) l → HasB V S (trn a b l) := by
    rintro l ⟨⟨B, e⟩, k⟩
    rw [get_swpA, keySwp_bk, Option.map_eq_some_iff] at e
    obtain ⟨c, hc, e⟩ := e
    cases c with
    | av x => cases e
    | blk B' => exact ⟨⟨B', hc⟩, k⟩
  refine ⟨V.swp a b, M, ⟨fun t x e => ?_, hA.size, hA.defers⟩, ?_⟩
  · rw [get_swpA, keySwp_sl, Option.map_eq_some_iff] at e
    obtain ⟨c, hc, e⟩ := e
    cases c with
    | blk B => cases e
    | av y =>
      obtain ⟨v, hv, hd⟩ := hA.slots t y hc
      simp only [Cont.swp, Cont.av.injEq] at e
      subst e
      exact ⟨v, hv, hd.swp a b⟩
  · exact
    { blks := fun l B e => by
        rw [get_swpA, keySwp_bk, Option.map_eq_some_iff] at e
        obtain ⟨c, hc, e⟩ := e
        cases c with
        | av x => cases e
        | blk B' =>
          have := (h.blks _ _ hc).swp a b
          rw [trn_trn] at this
          simp only [Cont.swp, Cont.blk.injEq] at e
          rw [← e]; exact this
      inj := fun l l' h1 h2 hne => h.inj _ _ (hH l h1) (hH l' h2) (fun e => hne ((trn_inj a b _ _).1 e))
      sep := fun l h1 => h.sep _ (hH l h1)
      fresh := fun l h1 => h.fresh _ (hH l h1)
      bd := fun l h1 => h.bd _ (hH l h1)
      mem := h.mem, mle := h.mle, glb := h.glb, mnew := h.mnew
      keep := fun l hl => by
        have hla : l ≠ a := fun e => ha (e ▸ hl)
        have hlb : l ≠ b := fun e => hb (e ▸ hl)
        have : trn a b l = l := by simp [trn, nbeq, hla, hlb]
        have := h.keep l hl
        simp [Vals.swp, *]
      frame := h.frame }

/-! Bytes as a string. -/
def byteSl (P : Program) (t : TypeId) : Bool := match P.underlying t with
  | some (.slice e) => (match P.underlying e with | some (.int .u8) => true | _ => false) && (match P.info? e with | some i => Nat.beq i.size 1 && Nat.beq i.bytes 1 | none => false)
  | _ => false
theorem byteSl_of {t : TypeId} (h : byteSl P t = true) : ∃ e i, P.underlying t = some (.slice e) ∧ P.underlying e = some (.int .u8) ∧ P.info? e = some i ∧ i.size = 1 ∧ i.bytes = 1 := by
  unfold byteSl at h
  split at h
  · rename_i e he
    simp only [Bool.and_eq_true] at h
    obtain ⟨h1, h2⟩ := h
    split at h1
    · rename_i hu
      split at h2
      · rename_i i hi
        simp only [nbeq, Bool.and_eq_true, decide_eq_true_eq] at h2
        exact ⟨e, i, he, hu, hi, h2.1, h2.2⟩
      · cases h2
    · cases h1
  · cases h
section
variable {x : Operand} {t t' ty : TypeId} {pos : String} {af : Array Edge} {gd : Option (Nat × Bool)} {d : Option Nat} {c : Bool}
end

/-! A string's bytes. -/
/-- A step that makes a block that nobody writes. -/
theorem rep_imm {V : Vals} {M : Mem} {a : Act} {w w' : World} (ha : RepA E S V M a) (hw : RepW E S V M w) (hst : WStep w w' w.heap.size) {d : Nat} {x : D} {v : Value} (hd : d < E.nt) {vs : Array Value}
    (hc : ∀ o u, vs[o]? = some u → w'.cell? ⟨w.heap.size, o, none⟩ = some u) (hx : ∀ M', (∀ o, M' w.heap.size o = vs[o]?) → M.le M' → DenD M' x v) : Rep E (S.upd [(sl d, some (.av (.d x)))]) (a.put (some d) v) w' := by
  have hM0 : ∀ o, M w.heap.size o = none := fun o => by
    cases h : M w.heap.size o with
    | none => rfl
    | some u => have := hw.mem _ _ _ h; simp [World.cell?] at this
  have hle : M.le (fun b o => if b = w.heap.size then vs[o]? else M b o) := fun b o u h => by
    by_cases e : b = w.heap.size
    · subst e; rw [hM0 o] at h; cases h
    · simp only [if_neg e]; exact h
  have hb : ∀ l, (S.upd [(sl d, some (.av (.d x)))]).get (bk l) = S.get (bk l) := fun l => by rw [upd_one, if_neg (sl_ne_bk d l)]
  have hh : ∀ l, HasB V (S.upd [(sl d, some (.av (.d x)))]) l → HasB V S l := fun l hl => ⟨by simpa only [hb] using hl.1, hl.2⟩
  refine ⟨V, fun b o => if b = w.heap.size then vs[o]? else M b o, ⟨fun s y e => ?_, by simp [Act.put, ha.size], ha.defers⟩, ?_⟩
  · rw [upd_one] at e
    by_cases hs : d = s
    · subst hs
      rw [if_pos rfl] at e
      injection e with e; injection e with e; subst e
      exact ⟨v, by simp [Act.put, ha.size, hd], .d _ _ (hx _ (fun o => by simp) hle)⟩
    · rw [if_neg (fun e => hs (sl_inj e))] at e
      obtain ⟨u, hu, hdu⟩ := ha.slots s y e
      exact ⟨u, by simp [Act.put, hs, hu], hdu.mono hle fun _ _ => ⟨rfl, rfl⟩⟩
  · exact { blks := fun l B e => by
              rw [hb] at e
              refine ((hw.blks l B e).memMono hle).kept fun hk => ?_
              exact hst.other _ (Nat.ne_of_lt (hw.bd l ⟨⟨B, e⟩, hk⟩)) (hw.bd l ⟨⟨B, e⟩, hk⟩)
            inj := fun l l' a b => hw.inj l l' (hh l a) (hh l' b)
            sep := fun l a o => by
              have := hw.bd l (hh l a)
              simp only [if_neg (Nat.ne_of_lt this)]
              exact hw.sep l (hh l a) o
            fresh := fun l a => hw.fresh l (hh l a)
            bd := fun l a => Nat.lt_of_lt_of_le (hw.bd l (hh l a)) hst.size
            mem := fun b o u h => by
              by_cases e : b = w.heap.size
              · subst e; simp only [if_true] at h; exact hc o u h
              · simp only [if_neg e] at h; exact hst.cell e (hw.mem b o u h)
            mle := Mem.le_trans hw.mle hle, glb := hw.glb
            mnew := fun b o h => by
              by_cases e : b = w.heap.size
              · subst e; exact .inr (.inl hw.frame.size)
              · simp only [if_neg e] at h; exact hw.mnew b o h
            keep := hw.keep
            frame := ⟨hst.os.trans hw.frame.os, hst.tape.trans hw.frame.tape, hst.output.trans hw.frame.output, Nat.le_trans hw.frame.size hst.size, fun b hb hp => by
              rw [← hw.frame.block b hb hp]
              exact hst.other b (Nat.ne_of_lt (Nat.lt_of_lt_of_le hb hw.frame.size)) (Nat.lt_of_lt_of_le hb hw.frame.size)⟩ }

theorem axOp_imm {S0 : St} {o : Oper} {t : Nat} {bl : List Nat} {x : D} (hdst : o.dst = some t) (hgd : o.guard = none) (hnd : ∀ d, o.op ≠ .defer d)
    (h : ∀ E V M a w, Given E S0 o bl true V M a w → ∃ w' v, ∃ vs : Array Value, (execOp a.eval o).run P w = .ok (.value v) w' ∧ WStep w w' w.heap.size ∧ (∀ o u, vs[o]? = some u → w'.cell? ⟨w.heap.size, o, none⟩ = some u) ∧ ∀ M' : Mem, (∀ o, M' w.heap.size o = vs[o]?) → M.le M' → DenD M' x v) :
    AxOp P ro ops o ⟨opNames o ++ bl.map bk, S0, [(sl t, some (.av (.d x)))], []⟩ := by
  intro E S a w hs hf hok ⟨V, M, ha, hw⟩ Q hpn
  have ht : t < E.nt := hok.2 t (by simp [Ax.names])
  obtain ⟨w', v, vs, hr, hst, hB, hx⟩ := h E V M a w (given_of (rn := opNames o ++ bl.map bk) hs (fun n hn => by simp [hn]) (fun l hl => by simp only [List.mem_append, List.mem_map]; right; exact ⟨l, hl, rfl⟩) rfl ha hw)
  unfold stepIn
  rw [if_pos (by simp [Region.wanted, hgd])]
  refine wpIn_of_value hnd hr ?_
  rw [hdst]
  exact rep_imm ha hw hst ht hB hx

def strD (s : ByteArray) : D := .rows 1 s.size fun i => [.v (.int .u8 ((s.data.toList.getD i 0).toNat : Int))]
theorem Trace.strBytes {S' : St} {r : List Oper} {L : List Ax} {d : Nat} {x : Operand} {t t' ty : TypeId} {pos : String} {af : Array Edge} {s : ByteArray} (hs : byteSl P t' = true) (hd : P.underlying t = some .string) (e1 : Ev S true x (sv s))
    (h : Trace P ro ops r ((sl d, .av (.d (strD s))) :: S) L S') :
    Trace P ro ops (⟨some d, .convert t t' x, ty, pos, af, none⟩ :: r) S (⟨opNames ⟨some d, .convert t t' x, ty, pos, af, none⟩ ++ ([] : List Nat).map bk, S, [(sl d, some (.av (.d (strD s))))], []⟩ :: L) S' := by
  refine .cons (axOp_imm rfl rfl (fun _ h => nomatch h) fun E V M a w hg => ?_) (fun _ _ => rfl) (fun l hl => by cases hl) (cons_upd S _ _) h
  have h1 := hg.val (by simp [Op.operands]) e1
  clear hg
  generalize a.eval = ρ at *
  obtain ⟨e, i, hu, hue, _⟩ := byteSl_of hs
  have hrun := Lib.run_convert_string_bytes (P := P) w t t' e s hd hu hue
  refine ⟨Lib.bytesWorld w e s, .slice (some ⟨w.heap.size, 0, none⟩) s.size (grownCap w s.size 0 e), Lib.bytesCells w e s, ?_, ?_, ?_, ?_⟩
  · simp [execOp, h1, Sem.run_bind, hrun, Result.andThen, Sem.run_pure]
  · exact ⟨by simp [Lib.bytesWorld, World.freeze, World.alloc, World.drew, -World.alloc_eq, -World.drew_eq], by simp [Lib.bytesWorld, World.freeze, World.alloc, World.drew, -World.alloc_eq, -World.drew_eq], by simp [Lib.bytesWorld, World.freeze, World.alloc, World.drew, -World.alloc_eq, -World.drew_eq], by rw [Lib.bytesWorld_size]; omega, fun b _ hlt => Lib.bytesWorld_at_old w e s b hlt, by rw [Lib.bytesWorld_size]; omega⟩
  · intro o u hou
    simp [World.cell?, Lib.bytesWorld_at_new, hou]
  · intro M' hM' _
    have hcap : s.size ≤ grownCap w s.size 0 e := grownCap_ge w s.size 0 e
    by_cases h0 : s.size = 0
    · unfold strD
      rw [h0]
      exact .emp _ _ _ _
    · refine .rows 1 s.size _ w.heap.size 0 _ hcap (fun i hi => rfl) (fun i j => .int .u8 ((s.data.toList.getD i 0).toNat : Int)) (fun i j hi hj => ?_) (fun i j x hi hx => ?_)
      · obtain rfl : j = 0 := by omega
        rw [hM']
        have hi' : i < s.data.size := hi
        simp [Lib.bytesCells, Array.getElem?_append, hi, hi', List.getD]
      · cases j with
        | zero => simp only [List.getElem?_cons_zero, Option.some.injEq] at hx; subst hx; exact .v _
        | succ j => simp at hx

end Go.Proofs.YtmdfamnnnoieaaaDoor

/- Deferred closures that recover. No program in sight. -/
namespace Go.Proofs.YtmdfamnnnoieaaaDoor
open Go
set_option linter.unusedVariables false
set_option linter.unusedSimpArgs false
variable {P : Program} {S : St} {ro : Ro} {ops : Array Oper} {E : Env}

/-- What 'recover' hands back, and the mode behind it. -/
inductive Recovers : FrameMode → Value → FrameMode → Prop
  | calm : Recovers .returning .nilIface .returning
  | caught (v : Value) (older : List PanicEntry) : Recovers (.panicking ({ v := v, recovered := false } :: older)) v (.panicking ({ v := v, recovered := true } :: older))

theorem rep_enter {args : List AV} {Bs : St} {keep : List Nat} {V : Vals} {M : Mem} {w : World} {passed : List Nat} {vs : List Value} (n : Nat) (hn : args.length ≤ n) (hBs : ∀ n c, Bs.get n = some c → n % 2 = 1)
    (hw : RepW (.of w passed M V keep 0) Bs V M w) (hd : DenL V M args vs) :
    Rep (.of w passed M V keep n) (slotsOf 0 args ++ Bs) { tmps := vs.toArray ++ Array.replicate (n - vs.toArray.size) undef, defers := [] } w := by
  refine ⟨V, M, ⟨fun t x ht => ?_, ?_, rfl⟩, ?_⟩
  · rw [St.get_append] at ht
    cases hg : (slotsOf 0 args).get (sl t) with
    | none =>
      rw [hg] at ht
      have := hBs _ _ ht
      unfold sl at this; omega
    | some c =>
      rw [hg] at ht
      simp only [Option.some.injEq] at ht
      subst ht
      obtain ⟨_, h2⟩ := slotsOf_get args 0 t x hg
      simp only [Nat.sub_zero] at h2
      have hlt : t < vs.length := by have := (List.getElem?_eq_some_iff.1 h2).1; rw [← hd.len]; exact this
      exact ⟨vs[t], by simp [Array.getElem?_append, hlt], hd.at' t x _ h2 (List.getElem?_eq_getElem hlt)⟩
  · have := hd.len
    simp only [Array.size_append, List.size_toArray, Array.size_replicate]
    show _ = n
    omega
  · refine (hw.env (E' := .of w passed M V keep n) rfl rfl rfl rfl rfl).blks_only fun l B hl => ?_
    rw [St.get_append, slotsOf_bk] at hl
    exact hl

section
variable {x y : Operand} {t t' ty : TypeId} {pos : String} {af : Array Edge} {gd : Option (Nat × Bool)} {d : Option Nat} {c : Bool}
end

theorem swp_swpB (a b : Nat) : ∀ S : St, (∀ p ∈ S, p.1 % 2 = 1) → (S.swp a b).swp a b = S
  | [], _ => rfl
  | (n, c) :: r, hr => by
    have hn : n % 2 = 1 := hr (n, c) (by simp)
    simp only [St.swp, cont_swp]
    have : bk (trn a b (bk (trn a b (n / 2)) / 2)) = n := by
      have : bk (trn a b (n / 2)) / 2 = trn a b (n / 2) := by unfold bk; omega
      rw [this, trn_trn]; unfold bk; omega
    rw [this, swp_swpB a b r (fun p hp => hr p (by simp [hp]))]
/-- A panic's contract under swapped names. -/
theorem PSpec.as {f : FuncId} {args : List AV} {Bs : St} {ch : List PanicEntry} (a b : Nat) (h : PSpec P f args Bs ch) (h1 : blocksOnly Bs = true) {args' : List AV} {Cs : St} (e1 : AV.swps a b args = args') (e2 : Bs.swp a b = Cs) : PSpec P f args' Cs ch := by
  subst e1; subst e2
  intro V M w passed vs hw hd
  have hw1 := hw.swp a b (St.swp_odd a b Bs)
  rw [swp_swpB a b Bs (odd_mem h1)] at hw1
  have hd1 : DenL (V.swp a b) M args vs := ⟨by have := hd.len; simpa [swps_map] using this, fun j x y hx hy => by
    have := (hd.at' j (x.swp a b) y (by simp [swps_map, hx]) hy).swp a b
    rwa [swp_swp] at this⟩
  refine (h (V.swp a b) M w passed vs hw1 hd1).mono ?_
  rintro e w' ⟨rfl, hf⟩
  exact ⟨rfl, ⟨hf.os, hf.tape, hf.output, hf.size, hf.block⟩⟩

/-- A new slice that is handed back, as immutable data. -/
theorem FnSpec.frozen {f : FuncId} {args : List AV} {l n len : Nat} {cols : List Col} {g : Nat → List D} (h : FnSpec P f args [] (.own l len) [(bk l, .blk (.app n len cols))] []) (hg : ∀ i, i < len → cols.map (Col.at · i) = g i) : FnSpec P f args [] (.d (.rows n len g)) [] [] := by
  intro V M w passed vs hw hd
  refine (h V M w passed vs hw hd).mono ?_
  rintro e w' ⟨v, V', M', rfl, hv, hw'⟩
  have ha : RepA (.of w passed M V [] 0) [(bk l, .blk (.app n len cols))] V' M' { tmps := #[], defers := [] } := ⟨fun t x e => by
    rw [get_cons, if_neg (Ne.symm (sl_ne_bk t l))] at e
    simp [St.get] at e, rfl, rfl⟩
  obtain ⟨M2, hle, hden, _, hw2⟩ := rep_freeze (l := l) (n := n) (len := len) (cs := cols) ha hw' (by rw [get_cons, if_pos rfl])
  refine ⟨v, V', M2, rfl, ?_, hw2.blks_only fun m B e => by simp [St.get] at e⟩
  have := hden v hv
  cases this with
  | d _ _ h => exact .d _ _ (denD_rowsLe h hg)

/-! A frame behind its last statement. -/
end Go.Proofs.YtmdfamnnnoieaaaDoor

/- Literals of slices that nobody writes, as immutable data. No program in sight. -/
namespace Go.Proofs.YtmdfamnnnoieaaaDoor
open Go
set_option linter.unusedVariables false
set_option linter.unusedSimpArgs false
variable {P : Program} {S : St} {ro : Ro} {ops : Array Oper} {E : Env}
section
variable {d : Nat} {t e ty : TypeId} {pos : String} {af : Array Edge}
/-- []T{..}, as immutable rows. -/
theorem Trace.buildRows {S' : St} {r : List Oper} {L : List Ax} {parts : Array (Nat × Operand)} {zs : List Value} {n len : Nat} {l : List AV} {dl : List D} {g : Nat → List D}
    (ht : sliceOf P t e n = true) (hz : ZeroIs P e zs) (hzn : zs.length = n) (hn : 0 < n) (hlen : len * n ≤ 16777216) (hf : Fills S (fun i => some (i * n, n)) (vals ((List.range (len * n)).map fun k => zs.getD (k % n) undef)) parts.toList l)
    (hd : dsOf l = some dl) (hg : ∀ i, i < len → (dl.drop (i * n)).take n = g i)
    (h : Trace P ro ops r ((sl d, .av (.d (.rows n len g))) :: S) L S') :
    Trace P ro ops (⟨some d, .buildSlice t len parts, ty, pos, af, none⟩ :: r) S (⟨opNames ⟨some d, .buildSlice t len parts, ty, pos, af, none⟩ ++ ([] : List Nat).map bk, S, [(sl d, some (.av (.d (.rows n len g))))], []⟩ :: L) S' := by
  refine .cons (axOp_imm rfl rfl (fun _ h => nomatch h) fun E V M a w h => ?_) (fun _ _ => rfl) (fun l hl => by cases hl) (cons_upd S _ _) h
  have hop : ∀ p ∈ parts.toList, ∀ y, Ev S true p.2 y → Den V M y (a.eval p.2) := fun p hp y hy => h.opd p.2 (by simp only [Op.operands, List.mem_toArray, List.mem_map]; exact ⟨p, hp, rfl⟩) y hy
  clear h
  generalize a.eval = ρ at *
  obtain ⟨z, hzs, hr⟩ := zeroIs_run hz
  obtain ⟨hu, hsz⟩ := sliceOf_of ht
  obtain ⟨vs', hfl, hv'⟩ := fills_run hf hop (denL_vals V M _)
  have hds := dsOf_eq hd
  subst hds
  have hlv : vs'.length = len * n := by
    have : ∀ {place : Nat → Option (Nat × Nat)} {l l' : List AV} {ps : List (Nat × Operand)}, Fills S place l ps l' → l'.length = l.length := by
      intro place l l' ps hf
      induction hf with
      | nil => rfl
      | cons e hu hp ho h ih => rw [ih, spliceL_length ho]
    have h1 := this hf
    rw [← hv'.len, h1]
    simp [vals]
  have hdl : dl.length = len * n := by have := hv'.len; simp at this; omega
  have hzc : z.cells = zs.toArray := by rw [← hzs, Array.toArray_toList]
  have hmap : (parts.map fun x => (x.1, ρ x.2)).toList = parts.toList.map fun p => (p.1, ρ p.2) := by simp
  refine ⟨w.alloc (.cells vs'.toArray e), .slice (some ⟨w.heap.size, 0, none⟩) len len, vs'.toArray, ?_, WStep.alloc w _, ?_, ?_⟩
  · have hbig : ¬ (len * n > 2 ^ 24) := by omega
    have hfl' : Instr.fill (fun i => some (i * n, n)) ((Array.range (len * n)).map fun i => z.cells[i % z.cells.size]!) ((parts.map fun x => (x.1, ρ x.2)).toList) = some vs'.toArray := by
      rw [hmap, hzc, zeros_arr zs _ (by omega), hzn]; exact hfl
    have hb : (Instr.buildSlice t len (parts.map fun x => (x.1, ρ x.2))).run P w = .ok (.slice (some ⟨w.heap.size, 0, none⟩) len len) (w.alloc (.cells vs'.toArray e)) := by
      unfold Instr.buildSlice
      simp only [Sem.run_bind, run_underlying hu, Result.andThen, hsz, hbig, if_false]
      refine zeros_run (P := P) (hr w) ?_ fun h0 => ?_
      · rw [hfl']; simp [newRow]
      · have e0 : ((Array.range (len * n)).map fun x => (#[] : Array Value)[x % (#[] : Array Value).size]!) = (Array.range (len * n)).map fun i => z.cells[i % z.cells.size]! := by rw [h0]; simp
        rw [e0, hfl']; simp [newRow]
    simp only [execOp, Sem.run_bind, hb, Result.andThen]
    rfl
  · intro o u ho
    simp only [World.cell?, heap_alloc]
    simpa using ho
  · intro M' hM' hle
    have hmul : ∀ i j, i < len → j < n → i * n + j < len * n := fun i j hi hj => by
      have : (i + 1) * n ≤ len * n := Nat.mul_le_mul_right _ hi
      rw [Nat.add_mul] at this
      omega
    refine .rows n len g w.heap.size 0 len (Nat.le_refl _) (fun i hi => ?_) (fun i j => vs'.getD (i * n + j) undef) (fun i j hi hj => ?_) (fun i j x hi hx => ?_)
    · rw [← hg i hi, List.length_take, List.length_drop]
      have : (i + 1) * n ≤ len * n := Nat.mul_le_mul_right _ hi
      rw [Nat.add_mul] at this
      omega
    · rw [hM', Nat.zero_add]
      have := hmul i j hi hj
      have hlt : i * n + j < vs'.length := by omega
      simp [List.getD, hlt]
    · rw [← hg i hi, List.getElem?_take] at hx
      split at hx
      · rename_i hj
        rw [List.getElem?_drop] at hx
        have := hmul i j hi hj
        have hlt : i * n + j < vs'.length := by omega
        have h2 := hv'.at' (i * n + j) (.d x) (vs'.getD (i * n + j) undef) (by simp [hx]) (by simp [List.getD, hlt])
        cases h2 with
        | d _ _ h => exact h.mono hle
      · cases hx
end

/-- An own slice in the place of immutable rows: the call takes its block over. -/
theorem FnSpec.thaw {f : FuncId} {l n len : Nat} {cols : List Col} {g : Nat → List D} {A1 A2 : List AV} {Bs Bs' : St} {res : AV} {keep : List Nat} (h : FnSpec P f (A1 ++ .d (.rows n len g) :: A2) Bs res Bs' keep) (hg : ∀ i, i < len → cols.map (Col.at · i) = g i)
    (hk : Bs.get (bk l) = none) : FnSpec P f (A1 ++ .own l len :: A2) ((bk l, .blk (.app n len cols)) :: Bs) res Bs' keep := by
  intro V M w passed vs hw hd
  have ha : RepA (.of w passed M V keep 0) [(bk l, .blk (.app n len cols))] V M { tmps := #[], defers := [] } := ⟨fun t x e => by
    rw [get_cons, if_neg (Ne.symm (sl_ne_bk t l))] at e
    simp [St.get] at e, rfl, rfl⟩
  have ha' : RepA (.of w passed M V keep 0) ((bk l, .blk (.app n len cols)) :: Bs) V M { tmps := #[], defers := [] } ∨ True := .inr trivial
  obtain ⟨M2, hle, hden, hw2⟩ : ∃ M' : Mem, M.le M' ∧ (∀ v, Den V M (.own l len) v → Den V M' (.d (rowsD n len cols)) v) ∧ RepW (.of w passed M V keep 0) Bs V M' w := by
    have hT : RepW (.of w passed M V keep 0) (((bk l, .blk (.app n len cols)) :: Bs).filter fun p => p.1 % 2 == 1) V M w := hw.blks_only fun m B e => by
      have key : ∀ T : St, St.get (T.filter fun p => p.1 % 2 == 1) (bk m) = St.get T (bk m) := by
        intro T
        induction T with
        | nil => rfl
        | cons q T ih =>
          obtain ⟨k, c⟩ := q
          by_cases hk : k % 2 = 1
          · have hk' : ((k, c).1 % 2 == 1) = true := by simpa using hk
            rw [List.filter_cons_of_pos (p := fun p : Nat × Cont => p.1 % 2 == 1) hk', get_cons, get_cons, ih]
          · have hk' : ¬ ((k, c).1 % 2 == 1) = true := by simpa using hk
            rw [List.filter_cons_of_neg (p := fun p : Nat × Cont => p.1 % 2 == 1) hk', ih, get_cons, if_neg (fun e => hk (by rw [e]; unfold bk; omega))]
      rw [key] at e; exact e
    have haT : RepA (.of w passed M V keep 0) (((bk l, .blk (.app n len cols)) :: Bs).filter fun p => p.1 % 2 == 1) V M { tmps := #[], defers := [] } := ⟨fun t x e => by
      have := St.mem_of_get e
      have := (List.mem_filter.1 this).2
      simp [sl] at this, rfl, rfl⟩
    have hgl : St.get (((bk l, .blk (.app n len cols)) :: Bs).filter fun p => p.1 % 2 == 1) (bk l) = some (.blk (.app n len cols)) := by
      rw [List.filter_cons_of_pos (by simp [bk]), get_cons, if_pos rfl]
    obtain ⟨M', h1, h2, _, h3⟩ := rep_freeze haT hT hgl
    refine ⟨M', h1, h2, h3.blks_only fun m B e => ?_⟩
    have hml : bk l ≠ bk m := fun e' => by rw [← e', hk] at e; cases e
    rw [St.get_del, if_neg hml, List.filter_cons_of_pos (by simp [bk]), get_cons, if_neg hml]
    have key : ∀ T : St, St.get (T.filter fun p => p.1 % 2 == 1) (bk m) = St.get T (bk m) := by
      intro T
      induction T with
      | nil => rfl
      | cons q T ih =>
        obtain ⟨k, c⟩ := q
        by_cases hk : k % 2 = 1
        · have hk' : ((k, c).1 % 2 == 1) = true := by simpa using hk
          rw [List.filter_cons_of_pos (p := fun p : Nat × Cont => p.1 % 2 == 1) hk', get_cons, get_cons, ih]
        · have hk' : ¬ ((k, c).1 % 2 == 1) = true := by simpa using hk
          rw [List.filter_cons_of_neg (p := fun p : Nat × Cont => p.1 % 2 == 1) hk', ih, get_cons, if_neg (fun e => hk (by rw [e]; unfold bk; omega))]
    rw [key]; exact e
  have hw3 : RepW (.of w passed M2 V keep 0) Bs V M2 w :=
    { blks := hw2.blks, inj := hw2.inj, sep := hw2.sep, fresh := hw2.fresh, bd := hw2.bd, mem := hw2.mem, mle := Mem.le_refl _, glb := hw2.gl, mnew := fun b o h => .inl h, keep := hw2.keep, frame := ⟨hw2.frame.os, hw2.frame.tape, hw2.frame.output, hw2.frame.size, hw2.frame.block⟩ }
  have hd3 : DenL V M2 (A1 ++ .d (.rows n len g) :: A2) vs := ⟨by have := hd.len; simpa using this, fun j x y hx hy => by
    have hall : ∀ x', (A1 ++ .own l len :: A2)[j]? = some x' → Den V M x' y := fun x' hx' => hd.at' j x' y hx' hy
    by_cases hj : j < A1.length
    · rw [List.getElem?_append_left hj] at hx
      exact (hall x (by rw [List.getElem?_append_left hj]; exact hx)).mono hle fun _ _ => ⟨rfl, rfl⟩
    · rw [List.getElem?_append_right (by omega)] at hx
      cases hj' : j - A1.length with
      | zero =>
        rw [hj'] at hx
        simp only [List.getElem?_cons_zero, Option.some.injEq] at hx
        subst hx
        have := hden y (hall (.own l len) (by rw [List.getElem?_append_right (by omega), hj']; rfl))
        cases this with
        | d _ _ h => exact .d _ _ (denD_rowsLe h hg)
      | succ k =>
        rw [hj'] at hx
        exact (hall x (by rw [List.getElem?_append_right (by omega), hj']; exact hx)).mono hle fun _ _ => ⟨rfl, rfl⟩⟩
  refine (h V M2 w passed vs hw3 hd3).mono ?_
  rintro e w' ⟨v, V', M', rfl, hv, hw'⟩
  refine ⟨v, V', M', rfl, hv, ?_⟩
  exact { blks := hw'.blks, inj := hw'.inj, sep := hw'.sep, fresh := hw'.fresh, bd := hw'.bd, mem := hw'.mem, mle := Mem.le_trans hle hw'.mle, glb := hw2.glb
          mnew := fun b o h => by
            rcases hw'.mnew b o h with h | h
            · rcases hw2.mnew b o h with h | h
              · exact .inl h
              · exact .inr h
            · exact .inr h
          keep := hw'.keep, frame := ⟨hw'.frame.os, hw'.frame.tape, hw'.frame.output, hw'.frame.size, hw'.frame.block⟩ }

end Go.Proofs.YtmdfamnnnoieaaaDoor

/- Slices of arrays, values of methods, copies, comparisons of arrays, loads of package-level variables. No program in sight. -/
namespace Go.Proofs.YtmdfamnnnoieaaaDoor
open Go
set_option linter.unusedVariables false
set_option linter.unusedSimpArgs false
section
variable {P : Program} {S : St} {ro : Ro} {ops : Array Oper} {c : Bool} {x y : Operand} {t ty e : TypeId} {pos : String} {af : Array Edge} {gd : Option (Nat × Bool)} {d : Option Nat}

/-- Less may be said of a result. -/
theorem Pure.imp {bl : List Nat} {o : Oper} {u v : AV} (h : Pure P S bl o c u) (hi : ∀ V M z, Den V M u z → Den V M v z) : Pure P S bl o c v :=
  ⟨h.1, fun E V M a w g hc => let ⟨z, h1, h2⟩ := h.2 E V M a w g hc; ⟨z, h1, hi V M z h2⟩⟩

/-- x.f as a value. -/
theorem Pure.bound {f : FuncId} {l : List Operand} {cs : List AV} (h : EvAll S c l cs) : Pure P S [] ⟨d, .makeFunc (.func f) l.toArray #[], ty, pos, af, gd⟩ c (.bd f cs) := by
  refine ⟨(fun _ h => nomatch h), fun E V M a w hg hc => ?_⟩
  have hop : ∀ y ∈ l, y ∈ (⟨d, .makeFunc (.func f) l.toArray #[], ty, pos, af, gd⟩ : Oper).op.operands := fun y hy => by simp [Op.operands, hy]
  have hd : ∀ (j : Nat) (y : Operand) (u : AV), l[j]? = some y → cs[j]? = some u → Den V M u (a.eval y) := fun j y u h1 h2 => hg.opd y (hop y (List.mem_of_getElem? h1)) u (h.at'.2 j y u h1 h2)
  have hlen := h.at'.1
  generalize a.eval = ρ at *
  refine ⟨.func (.func f) (l.map ρ).toArray #[], by simp [execOp, Instr.makeFunc], ?_⟩
  exact .bd f cs (l.map ρ) (by simpa using hlen) fun j u z h1 h2 => by
    simp only [List.getElem?_map, Option.map_eq_some_iff] at h2
    obtain ⟨y, hy, rfl⟩ := h2
    exact hd j y u hy h1

theorem arrOK_of {len n : Nat} {agg : Bool} (h : arrOK P t len agg n = true) : ∃ e, P.underlying t = some (.array len e) ∧ ∀ w, (sizeOf e).run P w = .ok n w := by
  unfold arrOK at h
  split at h
  · rename_i l e hu
    simp only [Bool.and_eq_true] at h
    have := Nat.eq_of_beq_eq_true h.1
    subst this
    exact ⟨e, hu, tyOK_sizeOf h.2⟩
  · cases h
theorem run_sliceArr {N n : Nat} {agg : Bool} (ht : arrOK P t N agg n = true) {w : World} {ad : Addr} {lo hi : Option Value} {l h : Nat}
    (hlo : (lo = none ∧ l = 0) ∨ ∃ k, lo = some (.int k l)) (hhi : (hi = none ∧ h = N) ∨ ∃ k, hi = some (.int k h)) (h1 : l ≤ h) (h2 : h ≤ N) :
    (Instr.sliceAt t (.pointer (some ad)) lo hi none).run P w = .ok (.slice (some (if N = l then ad else ad.add (l * n))) (h - l) (N - l)) w := by
  obtain ⟨e, hu, hsz⟩ := arrOK_of ht
  rcases hlo with ⟨rfl, rfl⟩ | ⟨k, rfl⟩ <;> rcases hhi with ⟨rfl, rfl⟩ | ⟨k', rfl⟩ <;>
    simp [Instr.sliceAt, run_underlying hu, Instr.sliceBounds, Instr.sliceBound, Instr.sureAddr, asIntOf, hsz, h1, h2]
/-- a[lo:hi] of an array of our own. -/
theorem Pure.sliceArr {dt : Option Tmp} {N n l h lb : Nat} {agg : Bool} {lo hi : Option Operand} (ht : arrOK P t N agg n = true) (e1 : Ev S c x (.loc lb 0)) (hlo : Bound S c lo 0 l) (hhi : Bound S c hi N h) (hle : c = true → l ≤ h ∧ h ≤ N ∧ l < N) :
    Pure P S [] ⟨dt, .slice t x lo hi none, ty, pos, af, gd⟩ c (.sa lb n l (h - l) (N - l)) := by
  refine ⟨(fun _ h => nomatch h), fun E V M a w hg hc => ?_⟩
  obtain ⟨h1, h2, h3⟩ := hle hc
  obtain ⟨ox, olo, ohi⟩ := slice_ops (t := t) (x := x) (lo := lo) (hi := hi) (o := ⟨dt, .slice t x lo hi none, ty, pos, af, gd⟩) rfl
  have hx := hg.opd x ox _ e1
  have rlo := bound_run hg hc olo hlo
  have rhi := bound_run hg hc ohi hhi
  generalize hex : a.eval x = v at hx
  generalize a.eval = ρ at *
  cases hx with
  | loc =>
    refine ⟨.slice (some ⟨V.ρ lb, l * n, none⟩) (h - l) (N - l), ?_, .sa _ _ _ _ _ (by omega)⟩
    have := run_sliceArr (P := P) ht (w := w) (ad := ⟨V.ρ lb, 0, none⟩) rlo rhi h1 h2
    rw [if_neg (by omega), addr_add, Nat.zero_add] at this
    simp only [execOp, hex, Option.map_none, Sem.run_bind, this, Result.andThen]; rfl
/-- a[:] of an immutable array of single cells. -/
theorem Pure.sliceRp {dt : Option Tmp} {N : Nat} {agg : Bool} {ds : List D} (ht : arrOK P t N agg 1 = true) (e1 : Ev S c x (.rp ds)) (hl : c = true → ds.length = N) :
    Pure P S [] ⟨dt, .slice t x none none none, ty, pos, af, gd⟩ c (.d (.rows 1 N fun i => [ds.getD i (.v .nilFunc)])) := by
  refine ⟨(fun _ h => nomatch h), fun E V M a w hg hc => ?_⟩
  have hN := hl hc
  obtain ⟨ox, olo, ohi⟩ := slice_ops (t := t) (x := x) (lo := none) (hi := none) (o := ⟨dt, .slice t x none none none, ty, pos, af, gd⟩) rfl
  have hx := hg.opd x ox _ e1
  generalize hex : a.eval x = v at hx
  generalize a.eval = ρ at *
  cases hx with
  | rp _ b o f hm hd =>
    refine ⟨.slice (some ⟨b, o, none⟩) N N, ?_, .d _ _ (.rows 1 N _ b o N (Nat.le_refl _) (fun i hi => ?_) (fun i _ => f i) (fun i j hi hj => ?_) fun i j z hi hz => ?_)⟩
    · have := run_sliceArr (P := P) ht (w := w) (ad := ⟨b, o, none⟩) (lo := none) (hi := none) (.inl ⟨rfl, rfl⟩) (.inl ⟨rfl, rfl⟩) (Nat.zero_le _) (Nat.le_refl _)
      have e : (if N = 0 then (⟨b, o, none⟩ : Addr) else (⟨b, o, none⟩ : Addr).add (0 * 1)) = ⟨b, o, none⟩ := by split <;> simp [addr_add]
      rw [e] at this
      simp only [execOp, hex, Option.map_none, Sem.run_bind, this, Result.andThen]; rfl
    · rfl
    · have hj0 : j = 0 := by omega
      subst hj0
      rw [Nat.mul_one, Nat.add_zero]
      exact hm i (by omega)
    · have hlt : i < ds.length := by omega
      cases j with
      | zero => simp [hlt] at hz; exact hd i z (by rw [List.getElem?_eq_getElem hlt, hz])
      | succ j => simp at hz
/-- x[lo:hi] of a slice of an array, also beyond its length. -/
theorem Pure.cutSa {dt : Option Tmp} {n len cap l h lb l0 : Nat} {lo hi : Option Operand} (ht : sliceOf P t e n = true) (e1 : Ev S c x (.sa lb n l0 len cap)) (hlo : Bound S c lo 0 l) (hhi : Bound S c hi len h) (hle : c = true → l ≤ h ∧ h ≤ cap ∧ l < cap) :
    Pure P S [] ⟨dt, .slice t x lo hi none, ty, pos, af, gd⟩ c (.sa lb n (l0 + l) (h - l) (cap - l)) := by
  refine ⟨(fun _ h => nomatch h), fun E V M a w hg hc => ?_⟩
  obtain ⟨h1, h2, h3⟩ := hle hc
  obtain ⟨ox, olo, ohi⟩ := slice_ops (t := t) (x := x) (lo := lo) (hi := hi) (o := ⟨dt, .slice t x lo hi none, ty, pos, af, gd⟩) rfl
  have hx := hg.opd x ox _ e1
  have rlo := bound_run hg hc olo hlo
  have rhi := bound_run hg hc ohi hhi
  obtain ⟨hu, hsz⟩ := sliceOf_of ht
  generalize hex : a.eval x = v at hx
  generalize a.eval = ρ at *
  cases hx with
  | sa _ _ _ _ _ hcap =>
    refine ⟨.slice (if cap = l then some ⟨V.ρ lb, l0 * n, none⟩ else (some (⟨V.ρ lb, l0 * n, none⟩ : Addr)).map (·.add (l * n))) (h - l) (cap - l), ?_, ?_⟩
    · simp only [execOp, hex, Option.map_none, Sem.run_bind, run_slice (cap := cap) hu hsz rlo rhi h1 h2, Result.andThen]; rfl
    · rw [if_neg (by omega), Option.map_some, addr_add, ← Nat.add_mul]
      exact .sa lb n (l0 + l) (h - l) (cap - l) (by omega)
theorem Pure.indexSa {l n lo len cap : Nat} {k : IntKind} {i : Int} (ht : elemOK P t n = true) (e1 : Ev S c x (.sa l n lo len cap)) (e2 : Ev S c y (iv k i)) (hi : c = true → 0 ≤ i ∧ i.toNat < len) :
    Pure P S [] ⟨d, .indexAddr t x y, ty, pos, af, gd⟩ c (.locr l n (lo + i.toNat) 0) := by
  refine ⟨(fun _ h => nomatch h), fun E V M a w h hc => ?_⟩
  obtain ⟨h0, hlt⟩ := hi hc
  have h1 := h.opd x (by simp [Op.operands]) _ e1
  have h2 := h.val (by simp [Op.operands]) e2
  generalize he : a.eval x = v at h1
  generalize a.eval = ρ at *
  cases h1 with
  | sa _ _ _ _ _ hcap =>
    refine ⟨_, by simp only [execOp, he, h2, Sem.run_bind, run_indexAt_slice ht h0 hlt, Result.andThen]; rfl, ?_⟩
    have := Den.locr (V := V) (M := M) l n (lo + i.toNat) 0
    rwa [Nat.add_mul, Nat.add_zero] at this
/-- cap of nil. -/
theorem Pure.capNil {ts : Array TypeId} {e : TypeId} (hts : ts[0]? = some t) (hu : P.underlying t = some (.slice e)) (e1 : Ev S c x nilS) : Pure P S [] ⟨d, .call ⟨.builtin .cap, #[x], ts⟩, ty, pos, af, gd⟩ c (iv .i64 0) := by
  refine ⟨(fun _ h => nomatch h), fun E V M a w h hc => ?_⟩
  have h1 := h.val (by simp [Op.operands, Call.operands]) e1
  generalize a.eval = ρ at *
  exact ⟨.int .i64 0, by simp [execOp, resolve, invoke, builtin, Builtin.cap_, h1, hts, run_underlying hu, goInt, go_sem], .d _ _ (.v _)⟩
/-- nil[:] -/
theorem Pure.cutNil {dt : Option Tmp} {n l h : Nat} {lo hi : Option Operand} (ht : sliceOf P t e n = true) (e1 : Ev S c x nilS) (hlo : Bound S c lo 0 l) (hhi : Bound S c hi 0 h) (hl : l = 0) (hh : h = 0) :
    Pure P S [] ⟨dt, .slice t x lo hi none, ty, pos, af, gd⟩ c nilS := by
  subst hl hh
  refine ⟨(fun _ h => nomatch h), fun E V M a w hg hc => ?_⟩
  obtain ⟨ox, olo, ohi⟩ := slice_ops (t := t) (x := x) (lo := lo) (hi := hi) (o := ⟨dt, .slice t x lo hi none, ty, pos, af, gd⟩) rfl
  have hx := hg.val ox e1
  have rlo := bound_run hg hc olo hlo
  have rhi := bound_run hg hc ohi hhi
  obtain ⟨hu, hsz⟩ := sliceOf_of ht
  generalize a.eval = ρ at *
  refine ⟨.slice none 0 0, ?_, .d _ _ (.v _)⟩
  simp only [execOp, hx, Option.map_none, Sem.run_bind, run_slice (cap := 0) (a := none) hu hsz rlo rhi (Nat.le_refl 0) (Nat.le_refl 0), Result.andThen]; rfl
end

/-! Arrays of bytes. -/
abbrev byD (k : List Int) : D := .agg (k.map fun x => .v (.int .u8 x))
def byteArr (P : Program) (t : TypeId) (len : Nat) : Bool := match P.underlying t with
  | some (.array l e) => Nat.beq l len && (match P.underlying e with | some (.int .u8) => true | _ => false) && (match P.info? e with | some i => Nat.beq i.size 1 | none => false) && !P.eqGuardType P.depth t
  | _ => false
theorem byteArr_of {P : Program} {t : TypeId} {len : Nat} (h : byteArr P t len = true) : ∃ e i, P.underlying t = some (.array len e) ∧ P.underlying e = some (.int .u8) ∧ P.info? e = some i ∧ i.size = 1 ∧ P.eqGuardType P.depth t = false := by
  unfold byteArr at h
  split at h
  · rename_i l e hu
    simp only [Bool.and_eq_true, Bool.not_eq_true'] at h
    obtain ⟨⟨⟨h1, h2⟩, h3⟩, h4⟩ := h
    have := Nat.eq_of_beq_eq_true h1
    subst this
    split at h2
    · rename_i hue
      split at h3
      · rename_i i hi
        exact ⟨e, i, hu, hue, hi, Nat.eq_of_beq_eq_true h3, h4⟩
      · cases h3
    · cases h2
  · cases h
theorem den_byD {M : Mem} {k : List Int} {v : Value} (h : DenD M (byD k) v) : v = bytesV k := by
  cases h with
  | agg _ vs hl h =>
    unfold bytesV
    congr 2
    simp only [List.length_map] at hl
    refine List.ext_getElem (by simp [hl]) fun j h1 h2 => ?_
    have hj : j < k.length := by omega
    have := h j (.v (.int .u8 k[j])) vs[j] (by simp [hj]) (by simp [h1])
    generalize vs[j] = u at this
    cases this
    simp
theorem run_part1 {P : Program} {e : TypeId} (hu : P.underlying e = some (.int .u8)) {xs : Array Value} {off : Nat} {v : Value} {w : World} (hx : xs[off]? = some v) : (part e xs off).run P w = .ok v w := by
  have : (isAgg e).run P w = .ok false w := by simp [isAgg, run_underlying hu]
  simp [part, Sem.run_bind, this, hx]
theorem run_eqItems_bytes {P : Program} {e : TypeId} (hu : P.underlying e = some (.int .u8)) (d : Nat) (xs ys : List Int) (w : World) : ∀ is : List Nat, (∀ i ∈ is, i < xs.length ∧ i < ys.length) →
    (Op.eqItems (d + 1) e 1 (xs.map fun x => Value.int .u8 x).toArray (ys.map fun x => Value.int .u8 x).toArray is).run P w = .ok (is.all fun i => xs.getD i 0 == ys.getD i 0) w
  | [], _ => by simp [Op.eqItems]
  | i :: is, h => by
    obtain ⟨h1, h2⟩ := h i (by simp)
    have p1 : (part e (xs.map fun x => Value.int .u8 x).toArray (i * 1)).run P w = .ok (.int .u8 (xs.getD i 0)) w := run_part1 hu (by simp [h1])
    have p2 : (part e (ys.map fun x => Value.int .u8 x).toArray (i * 1)).run P w = .ok (.int .u8 (ys.getD i 0)) w := run_part1 hu (by simp [h2])
    simp only [Op.eqItems, Sem.run_bind, p1, p2, Result.andThen_ok, run_equalIn_int w d e .u8 .u8 _ _ hu]
    cases hb : (xs.getD i 0 == ys.getD i 0)
    · simp only [Result.andThen_ok, Bool.not_false, if_true, Sem.run_pure, List.all_cons, hb, Bool.false_and]
    · simp only [Result.andThen_ok, Bool.not_true, Bool.false_eq_true, if_false, List.all_cons, hb, Bool.true_and]
      exact run_eqItems_bytes hu d xs ys w is fun j hj => h j (by simp [hj])
theorem run_eq_bytes {P : Program} {t : TypeId} {len : Nat} (h : byteArr P t len = true) {xs ys : List Int} (hx : xs.length = len) (hy : ys.length = len) (w : World) : (Op.equal t (bytesV xs) (bytesV ys)).run P w = .ok (decide (xs = ys)) w := by
  obtain ⟨e, i, hu, hue, hi, hs, _⟩ := byteArr_of h
  have hc : P.cellsOf e = 1 := by simp [Program.cellsOf, hi, hs]
  show (Op.equalIn (9998 + 1 + 1) t (bytesV xs) (bytesV ys)).run P w = _
  rw [bytesV, bytesV, run_equalIn_array w (9998 + 1) _ _ hu hi, hc, run_eqItems_bytes hue 9998 xs ys w (List.range len) fun i hi => by simp at hi; omega]
  congr 1
  rw [Bool.eq_iff_iff]
  simp only [List.all_eq_true, List.mem_range, beq_iff_eq, decide_eq_true_eq]
  constructor
  · intro h
    refine List.ext_getElem (by omega) fun j h1 h2 => ?_
    have := h j (by omega)
    simpa [h1, h2] using this
  · intro h _ _; rw [h]
section
variable {P : Program} {S : St} {ro : Ro} {ops : Array Oper} {c : Bool} {x y : Operand} {t t' ty e : TypeId} {pos : String} {af : Array Edge} {gd : Option (Nat × Bool)} {d : Option Nat}
theorem Given.by {E : Env} {V : Vals} {M : Mem} {a : Act} {w : World} {o : Oper} {bl : List Nat} (h : Given E S o bl c V M a w) {x : Operand} {k : List Int} (hx : x ∈ o.op.operands) (e : Ev S c x (.d (byD k))) : a.eval x = bytesV k := by
  have := h.opd x hx _ e
  cases this with | d _ _ h => exact den_byD h
/-- a == b of arrays of bytes. -/
theorem Pure.aeq {len : Nat} {p q : List Int} (ht : byteArr P t len = true) (e1 : Ev S c x (.d (byD p))) (e2 : Ev S c y (.d (byD q))) (h1 : c = true → p.length = len) (h2 : c = true → q.length = len) : Pure P S [] ⟨d, .binOp .eql t x y t', ty, pos, af, gd⟩ c (bv (decide (p = q))) := by
  refine ⟨(fun _ h => nomatch h), fun E V M a w h hc => ?_⟩
  have hx := h.by (by simp [Op.operands]) e1
  have hy := h.by (by simp [Op.operands]) e2
  obtain ⟨_, _, _, _, _, _, hg⟩ := byteArr_of ht
  generalize a.eval = ρ at *
  refine ⟨_, ?_, .d _ _ (.v _)⟩
  have hq : (eqGuard .eql t x y (bytesV p) (bytesV q)).run P w = .ok () w := by simp [eqGuard, bytesV, hg]
  have he : (binOp .eql t (bytesV p) (bytesV q)).run P w = .ok (.bool (decide (p = q))) w := by
    have := run_eq_bytes ht (h1 hc) (h2 hc) w
    simp only [bytesV] at this
    simp [binOp, bytesV, this]
  simp only [execOp, hx, hy, Sem.run_bind, hq, he, Result.andThen_ok]
  rfl
theorem Pure.ane {len : Nat} {p q : List Int} (ht : byteArr P t len = true) (e1 : Ev S c x (.d (byD p))) (e2 : Ev S c y (.d (byD q))) (h1 : c = true → p.length = len) (h2 : c = true → q.length = len) : Pure P S [] ⟨d, .binOp .neq t x y t', ty, pos, af, gd⟩ c (bv (!decide (p = q))) := by
  refine ⟨(fun _ h => nomatch h), fun E V M a w h hc => ?_⟩
  have hx := h.by (by simp [Op.operands]) e1
  have hy := h.by (by simp [Op.operands]) e2
  obtain ⟨_, _, _, _, _, _, hg⟩ := byteArr_of ht
  generalize a.eval = ρ at *
  refine ⟨_, ?_, .d _ _ (.v _)⟩
  have hq : (eqGuard .neq t x y (bytesV p) (bytesV q)).run P w = .ok () w := by simp [eqGuard, bytesV, hg]
  have he : (binOp .neq t (bytesV p) (bytesV q)).run P w = .ok (.bool (!decide (p = q))) w := by
    have := run_eq_bytes ht (h1 hc) (h2 hc) w
    simp only [bytesV] at this
    simp [binOp, bytesV, this]
  simp only [execOp, hx, hy, Sem.run_bind, hq, he, Result.andThen_ok]
  rfl

/-! Package-level variables. -/
theorem Given.gcell {E : Env} {V : Vals} {M : Mem} {a : Act} {w : World} {o : Oper} {bl : List Nat} (h : Given E S o bl c V M a w) {g : Nat} {cs : List Value} (hg : (g, cs) ∈ globs) (j : Nat) (u : Value) (hj : cs[j]? = some u) : w.cell? ⟨g, j, none⟩ = some u :=
  h.mem _ _ _ (h.glb (g, cs) hg j u hj)
theorem Pure.loadGlob {g n : Nat} {cs : List Value} (hg : (g, cs) ∈ globs) (ht : tyOK P t true n = true) (hn : cs.length = n) : Pure P S [] ⟨d, .load t (.global g), ty, pos, af, gd⟩ c (.d (.agg (cs.map .v))) := by
  refine ⟨(fun _ h => nomatch h), fun E V M a w h hc => ?_⟩
  have hl : (loadVar t ⟨g, 0, none⟩).run P w = .ok (.agg cs.toArray) w := by
    rw [run_loadVarN ht (f := fun j => cs.getD j undef) (fun j hj => by rw [Nat.zero_add]; exact h.gcell hg j _ (by simp [List.getD_eq_getElem?_getD, hn ▸ hj]))]
    congr 2
    rw [← hn]
    congr 1
    refine List.ext_getElem (by simp) fun i h1 h2 => ?_
    simp at h1
    simp [h1]
  refine ⟨.agg cs.toArray, ?_, .d _ _ (.agg _ cs (by simp) fun j u v h1 h2 => ?_)⟩
  · simp [execOp, Act.eval, Instr.loadAt, Instr.sureAddr, hl]
  · simp only [List.getElem?_map, Option.map_eq_some_iff] at h1
    obtain ⟨z, hz, rfl⟩ := h1
    rw [hz] at h2; cases h2; exact .v _
theorem Pure.indexGlob {g N : Nat} {agg : Bool} {cs : List Value} {k : IntKind} {i : Int} (hg : (g, cs) ∈ globs) (ht : arrOK P t N agg 1 = true) (hn : cs.length = N) (e2 : Ev S c y (iv k i)) (hi : c = true → 0 ≤ i ∧ i.toNat < N) :
    Pure P S [] ⟨d, .indexAddr t (.global g) y, ty, pos, af, gd⟩ c (.rp ((cs.drop i.toNat).map .v)) := by
  refine ⟨(fun _ h => nomatch h), fun E V M a w h hc => ?_⟩
  obtain ⟨h0, hlt⟩ := hi hc
  have h2 := h.val (by simp [Op.operands]) e2
  obtain ⟨e, hu, hsz⟩ := arrOK_of ht
  have hlt' : i < (N : Int) := by omega
  refine ⟨.pointer (some ⟨g, i.toNat, none⟩), ?_, .rp _ g i.toNat (fun j => cs.getD (i.toNat + j) undef) (fun j hj => ?_) fun j u hj => ?_⟩
  · have he : a.eval (.global g) = .pointer (some ⟨g, 0, none⟩) := rfl
    generalize a.eval = ρ at *
    simp [execOp, he, h2, Instr.indexAt, asIntOf, run_underlying hu, Instr.sureAddr, hsz, h0, hlt', addr_add]
  · simp at hj
    have : i.toNat + j < cs.length := by omega
    exact h.glb (g, cs) hg _ _ (by simp [List.getD_eq_getElem?_getD, this])
  · simp only [List.getElem?_map, List.getElem?_drop, Option.map_eq_some_iff] at hj
    obtain ⟨z, hz, rfl⟩ := hj
    rw [List.getD_eq_getElem?_getD, hz]
    exact .v _
end

end Go.Proofs.YtmdfamnnnoieaaaDoor

/- copy, make with a greater capacity, append(nil, make..), what becomes immutable, sets of arrays of bytes. No program in sight. -/
namespace Go.Proofs.YtmdfamnnnoieaaaDoor
open Go
set_option linter.unusedVariables false
set_option linter.unusedSimpArgs false

/-! A write into a block of ours. -/
section
variable {P : Program} {ro : Ro} {ops : Array Oper}
theorem axOp_wr {S0 : St} {o : Oper} {l d : Nat} {bl : List Nat} {B B' : Blk} {x : AV} (hdst : o.dst = some d) (hgd : o.guard = none) (hnd : ∀ d, o.op ≠ .defer d) (hl : l ∈ bl) (hb : S0.get (bk l) = some (.blk B))
    (h : ∀ E V M a w, Given E S0 o bl true V M a w → V.κ l ≠ none ∧ ∃ w' v, (execOp a.eval o).run P w = .ok (.value v) w' ∧ (V.ρ l < w.heap.size → WStep w w' (V.ρ l)) ∧ BlkAt V M w' l B' ∧ Den V M x v) :
    AxOp P ro ops o ⟨opNames o ++ bl.map bk, S0, [(bk l, some (.blk B')), (sl d, some (.av x))], []⟩ := by
  intro E S a w hs _ hok ⟨V, M, ha, hw⟩ Q hpn
  have hg : Given E S0 o bl true V M a w := given_of (rn := opNames o ++ bl.map bk) hs (fun n hn => by simp [hn]) (fun m hm => by simp only [List.mem_append, List.mem_map]; exact .inr ⟨m, hm, rfl⟩) rfl ha hw
  obtain ⟨hk, w', v, hr, hst, hB, hx⟩ := h E V M a w hg
  unfold stepIn
  rw [if_pos (by simp [Region.wanted, hgd])]
  refine wpIn_of_value hnd hr ?_
  rw [hdst]
  have hSl : S.get (bk l) = some (.blk B) := by rw [hs (bk l) (by simp only [List.mem_append, List.mem_map]; exact .inr ⟨l, hl, rfl⟩)]; exact hb
  have hlt : V.ρ l < w.heap.size := hw.bd l ⟨⟨B, hSl⟩, hk⟩
  have hd : d < E.nt := hok.2 d (by simp [Ax.names])
  exact ⟨V, M, repA_slot (repA_blk ha l B') d x v hd hx, repW_slot (repW_write hw hSl hk (hst hlt) hB) d x⟩
theorem axOp_wr0 {S0 : St} {o : Oper} {l : Nat} {bl : List Nat} {B B' : Blk} (hdst : o.dst = none) (hgd : o.guard = none) (hnd : ∀ d, o.op ≠ .defer d) (hl : l ∈ bl) (hb : S0.get (bk l) = some (.blk B))
    (h : ∀ E V M a w, Given E S0 o bl true V M a w → V.κ l ≠ none ∧ ∃ w', (execOp a.eval o).run P w = .ok .skip w' ∧ (V.ρ l < w.heap.size → WStep w w' (V.ρ l)) ∧ BlkAt V M w' l B') :
    AxOp P ro ops o ⟨opNames o ++ bl.map bk, S0, [(bk l, some (.blk B'))], []⟩ := by
  intro E S a w hs _ hok ⟨V, M, ha, hw⟩ Q hpn
  have hg : Given E S0 o bl true V M a w := given_of (rn := opNames o ++ bl.map bk) hs (fun n hn => by simp [hn]) (fun m hm => by simp only [List.mem_append, List.mem_map]; exact .inr ⟨m, hm, rfl⟩) rfl ha hw
  obtain ⟨hk, w', hr, hst, hB⟩ := h E V M a w hg
  unfold stepIn
  rw [if_pos (by simp [Region.wanted, hgd])]
  refine wpIn_of_skip hnd hr ?_
  rw [hdst]
  have hSl : S.get (bk l) = some (.blk B) := by rw [hs (bk l) (by simp only [List.mem_append, List.mem_map]; exact .inr ⟨l, hl, rfl⟩)]; exact hb
  have hlt : V.ρ l < w.heap.size := hw.bd l ⟨⟨B, hSl⟩, hk⟩
  exact ⟨V, M, repA_blk ha l B', repW_write hw hSl hk (hst hlt) hB⟩
theorem cons_upd2 (S : St) (n m : Nat) (c c' : Cont) : ∀ k, St.get ((m, c') :: (n, c) :: S) k = (S.upd [(n, some c), (m, some c')]).get k := fun k => by
  show _ = ((S.upd [(n, some c)]).upd [(m, some c')]).get k
  rw [upd_one, get_cons, ← cons_upd]
theorem Trace.wr {S0 S' : St} {o : Oper} {r : List Oper} {L : List Ax} {l d : Nat} {bl : List Nat} {B' : Blk} {x : AV} (ha : AxOp P ro ops o ⟨opNames o ++ bl.map bk, S0, [(bk l, some (.blk B')), (sl d, some (.av x))], []⟩)
    (h : Trace P ro ops r ((sl d, .av x) :: (bk l, .blk B') :: S0) L S') : Trace P ro ops (o :: r) S0 (⟨opNames o ++ bl.map bk, S0, [(bk l, some (.blk B')), (sl d, some (.av x))], []⟩ :: L) S' :=
  .cons ha (fun _ _ => rfl) (fun l hl => by cases hl) (cons_upd2 S0 _ _ _ _) h
theorem Trace.wr0 {S0 S' : St} {o : Oper} {r : List Oper} {L : List Ax} {l : Nat} {bl : List Nat} {B' : Blk} (ha : AxOp P ro ops o ⟨opNames o ++ bl.map bk, S0, [(bk l, some (.blk B'))], []⟩)
    (h : Trace P ro ops r ((bk l, .blk B') :: S0) L S') : Trace P ro ops (o :: r) S0 (⟨opNames o ++ bl.map bk, S0, [(bk l, some (.blk B'))], []⟩ :: L) S' :=
  .cons ha (fun _ _ => rfl) (fun l hl => by cases hl) (cons_upd S0 _ _) h
end

/-! copy of one-cell integers into an array of ours. -/
theorem vs_ints {M : Mem} {k : IntKind} {n : Nat} {xs : List Int} {vs : Array Value} (h : rowsAt M 1 n [.ints k xs] vs) (hs : vs.size = n) : vs.toList = xs.map fun x => Value.int k x := by
  have hl : xs.length = n := h.2.1 (.ints k xs) (by simp)
  refine List.ext_getElem (by simp [hs, hl]) fun i h1 h2 => ?_
  simp at h1 h2
  obtain ⟨v, hv, hd⟩ := h.2.2 i 0 (.ints k xs) (by omega) rfl
  simp only [Nat.mul_one, Nat.add_zero] at hv
  cases hd
  rw [Array.getElem?_eq_getElem h1] at hv
  injection hv with hv
  simp [hv, h2]
theorem ints_vs {M : Mem} {k : IntKind} {n : Nat} {xs : List Int} {vs : Array Value} (h : vs.toList = xs.map fun x => Value.int k x) (hl : xs.length = n) : rowsAt M 1 n [.ints k xs] vs ∧ vs.size = n := by
  have hs : vs.size = n := by rw [← Array.length_toList, h]; simp [hl]
  refine ⟨⟨rfl, fun c hc => by simp at hc; subst hc; exact hl, fun i j c hi hc => ?_⟩, hs⟩
  cases j with
  | zero =>
    simp at hc
    subst hc
    refine ⟨.int k (xs.getD i 0), ?_, .v _⟩
    rw [← Array.getElem?_toList, h]
    simp [hl ▸ hi]
  | succ j => simp at hc
/-- What is copied. -/
inductive CopySrc (S : St) (y : Operand) (k : IntKind) : List Nat → List Int → Prop
  | rows {m : Nat} {g : Nat → List D} {ys : List Int} (e : Ev S true y (.d (.rows 1 m g))) (hl : ys.length = m) (hg : ∀ i, i < m → g i = [.v (.int k (ys.getD i 0))]) : CopySrc S y k [] ys
  | sa {l lo m cap tot : Nat} {xs ys : List Int} (e : Ev S true y (.sa l 1 lo m cap)) (hb : S.get (bk l) = some (.blk (.cols 1 tot [.ints k xs]))) (hle : lo + m ≤ tot) (hy : (xs.drop lo).take m = ys) : CopySrc S y k [l] ys
theorem copySrc_run {P : Program} {E : Env} {S : St} {V : Vals} {M : Mem} {a : Act} {w : World} {o : Oper} {bl bl0 : List Nat} {y : Operand} {k : IntKind} {ys : List Int} (h : CopySrc S y k bl ys) (hg : Given E S o bl0 true V M a w) (hsub : ∀ l ∈ bl, l ∈ bl0) (hy : y ∈ o.op.operands) :
    (Builtin.lenOf (a.eval y)).run P w = .ok ys.length w ∧ ∀ n, n ≤ ys.length → (Builtin.firstCells 1 n (a.eval y)).run P w = .ok ((ys.take n).map fun x => Value.int k x).toArray w := by
  have fin : ∀ (b o' m cap n : Nat), n ≤ ys.length → (∀ j, j < ys.length → w.cell? ⟨b, o' + j, none⟩ = some (.int k (ys.getD j 0))) →
      (Builtin.firstCells 1 n (.slice (some ⟨b, o', none⟩) m cap)).run P w = .ok ((ys.take n).map fun x => Value.int k x).toArray w := by
    intro b o' m cap n hn hc
    refine run_firstCells_some w 1 n ⟨b, o', none⟩ m cap _ (by simp; omega) fun j u hu => ?_
    rw [addr_add]
    rw [List.getElem?_map, List.getElem?_take] at hu
    split at hu
    · rename_i hj
      rw [hc j (by omega)]
      have : j < ys.length := by omega
      simp [this] at hu
      simp [this, hu]
    · simp at hu
  cases h with
  | @rows m g _ e hl hgg =>
    have hd := hg.opd y hy _ e
    generalize a.eval y = v at hd
    cases hd with
    | d _ _ hd =>
      cases hd with
      | emp n' g' ad cap =>
        refine ⟨by simp [Builtin.lenOf, hl], fun n hn => ?_⟩
        have : n = 0 := by omega
        subst this
        cases ad <;> simp [Builtin.firstCells, loadCells, loadCellsFrom]
      | rows _ _ _ b o cap hc hlen c hm hden =>
        refine ⟨by simp [Builtin.lenOf, hl], fun n hn => fin b o m cap n hn fun j hj => ?_⟩
        have h1 := hm j 0 (by omega) (by omega)
        have h2 := hden j 0 (.v (.int k (ys.getD j 0))) (by omega) (by rw [hgg j (by omega)]; rfl)
        generalize c j 0 = u at h1 h2
        cases h2
        simp only [Nat.mul_one, Nat.add_zero] at h1
        exact hg.mem _ _ _ h1
  | @sa l lo m cap tot xs _ e hb hle hys =>
    have hd := hg.opd y hy _ e
    have hblk := hg.blk l (hsub l (by simp)) _ hb
    generalize a.eval y = v at hd
    cases hd with
    | sa _ _ _ _ _ hcap =>
      obtain ⟨hk, vs, t, hh, hs, hr⟩ := hblk
      rw [Nat.mul_one] at hs
      have hv := vs_ints hr hs
      have hl : xs.length = tot := hr.2.1 (.ints k xs) (by simp)
      have hyl : ys.length = m := by rw [← hys]; simp; omega
      refine ⟨by simp [Builtin.lenOf, hyl], fun n hn => fin _ _ m cap n hn fun j hj => ?_⟩
      simp only [World.cell?, hh, Nat.mul_one]
      rw [← Array.getElem?_toList, hv, ← hys]
      have h1 : lo + j < xs.length := by omega
      have h2 : j < m := by omega
      simp [List.getD_eq_getElem?_getD, List.getElem?_take, h1, h2]
section
variable {P : Program} {S : St} {ro : Ro} {ops : Array Oper} {x y : Operand} {d : Nat} {t t2 e ty : TypeId} {pos : String} {af : Array Edge}
theorem Trace.copy {S' : St} {r : List Oper} {L : List Ax} {l lo len cap tot n : Nat} {k : IntKind} {bl : List Nat} {xs ys zs : List Int} (ht : sliceOf P t e 1 = true) (e1 : Ev S true x (.sa l 1 lo len cap)) (hb : S.get (bk l) = some (.blk (.cols 1 tot [.ints k xs])))
    (hs : CopySrc S y k bl ys) (hle : lo + len ≤ tot) (hn : min ys.length len = n) (hz : spliceL xs lo (ys.take n) = zs)
    (h : Trace P ro ops r ((sl d, .av (iv .i64 n)) :: (bk l, .blk (.cols 1 tot [.ints k zs])) :: S) L S') :
    Trace P ro ops (⟨some d, .call ⟨.builtin .copy, #[x, y], #[t, t2]⟩, ty, pos, af, none⟩ :: r) S (⟨opNames ⟨some d, .call ⟨.builtin .copy, #[x, y], #[t, t2]⟩, ty, pos, af, none⟩ ++ (l :: bl).map bk, S, [(bk l, some (.blk (.cols 1 tot [.ints k zs]))), (sl d, some (.av (iv .i64 n)))], []⟩ :: L) S' := by
  subst hn
  refine Trace.wr (axOp_wr rfl rfl (fun _ h => nomatch h) (by simp) hb fun E V M a w hg => ?_) h
  have hx := hg.opd x (by simp [Op.operands, Call.operands]) _ e1
  obtain ⟨hk, vs, tt, hh, hsz, hr⟩ := hg.blk l (by simp) _ hb
  obtain ⟨q1, q2⟩ := copySrc_run (P := P) hs hg (fun m hm => by simp [hm]) (by simp [Op.operands, Call.operands])
  obtain ⟨hu, hse⟩ := sliceOf_of ht
  rw [Nat.mul_one] at hsz
  have hv := vs_ints hr hsz
  have hxl : xs.length = tot := hr.2.1 (.ints k xs) (by simp)
  generalize he : a.eval x = v at hx
  generalize a.eval = ρ at *
  cases hx with
  | sa _ _ _ _ _ hcap =>
    have hone : ∀ u ∈ (ys.take (min ys.length len)).map (fun x => Value.int k x), u.oneCell' = true := fun u hu => by
      obtain ⟨z, _, rfl⟩ := List.mem_map.1 hu; rfl
    have hl' : (ys.take (min ys.length len)).length = min ys.length len := by simp
    have hst := run_storeCells_at (P := P) (V.ρ l) (lo * 1) tt ((ys.take (min ys.length len)).map fun x => Value.int k x) 0 vs w hh (by rw [List.length_map, hl']; omega) hone
    simp only [Nat.add_zero] at hst
    obtain ⟨us, hus⟩ : ∃ us, us = (vs.toList.take (lo * 1) ++ ((ys.take (min ys.length len)).map fun x => Value.int k x) ++ vs.toList.drop (lo * 1 + ((ys.take (min ys.length len)).map fun x => Value.int k x).length)).toArray := ⟨_, rfl⟩
    rw [← hus] at hst
    have hmin : Nat.min ys.length len = min ys.length len := rfl
    have hrows := ints_vs (M := M) (k := k) (n := tot) (xs := zs) (vs := us) (by rw [hus, ← hz, hv]; simp [spliceL, List.map_take, List.map_drop]) (by rw [← hz, spliceL_length (by rw [hl']; omega)]; exact hxl)
    refine ⟨hk, w.setRow (V.ρ l) us, .int .i64 ((min ys.length len : Nat) : Int), ?_, fun hlt => WStep.setRow w _ _ hlt, ⟨hk, us, tt, setRow_heap w _ _ _ _ _ hh, by rw [Nat.mul_one]; exact hrows.2, hrows.1⟩, .d _ _ (.v _)⟩
    simp only [Nat.mul_one, List.map_take] at hst
    simp [execOp, resolve, invoke, builtin, Builtin.copy_, he, run_underlying hu, q1, q2 (min ys.length len) (Nat.min_le_left _ _), hse, hst, goInt, hmin, List.map_take]

/-- make([]T, len, cap): its cells as an array of ours. -/
theorem Trace.makeSa {S' : St} {r : List Oper} {L : List Ax} {zs : List Value} {n bytes : Nat} {k k' : IntKind} {len cap : Int} {cs : List Col} (lb : Nat) (ds : List Nat)
    (ht : sliceOf P t e n = true) (hb : (P.info? e).map (·.bytes) = some bytes) (hz : ZeroIs P e zs) (hzn : zs.length = n) (hn : 0 < n) (e1 : Ev S true x (iv k len)) (e2 : Ev S true y (iv k' cap)) (h0 : 0 ≤ len ∧ len ≤ cap) (h1 : bytes * cap ≤ 281474976710656) (h2 : cap ≤ 281474976710656)
    (hcs : repCols cap.toNat zs = cs)
    (hfr : freshB ⟨opNames ⟨some d, .makeSlice t x y, ty, pos, af, none⟩, S, postOf ds lb (.cols n cap.toNat cs) d (.sa lb n 0 len.toNat cap.toNat), [lb]⟩ S = true) (h : Trace P ro ops r (S.after ds lb (.cols n cap.toNat cs) d (.sa lb n 0 len.toNat cap.toNat)) L S') :
    Trace P ro ops (⟨some d, .makeSlice t x y, ty, pos, af, none⟩ :: r) S (⟨opNames ⟨some d, .makeSlice t x y, ty, pos, af, none⟩ ++ ([] : List Nat).map bk, S, postOf ds lb (.cols n cap.toNat cs) d (.sa lb n 0 len.toNat cap.toNat), [lb]⟩ :: L) S' := by
  subst hcs
  subst hzn
  refine Trace.new ds (axOp_new rfl rfl (fun _ h => nomatch h) fun E V M a w h => ?_) (by simpa using hfr) h
  have hx := h.val (by simp [Op.operands]) e1
  have hy := h.val (by simp [Op.operands]) e2
  generalize a.eval = ρ at *
  obtain ⟨z, hzs, hr⟩ := zeroIs_run hz
  obtain ⟨hu, hsz⟩ := sliceOf_of ht
  have hzc : z.cells = zs.toArray := by rw [← hzs, Array.toArray_toList]
  obtain ⟨inf, hi, hib⟩ : ∃ inf, P.info? e = some inf ∧ inf.bytes = bytes := by
    cases hi : P.info? e with
    | none => rw [hi] at hb; cases hb
    | some inf => rw [hi] at hb; exact ⟨inf, rfl, by simpa using hb⟩
  refine ⟨w.alloc (.cells ((List.range (cap.toNat * zs.length)).map fun k => zs.getD (k % zs.length) undef).toArray e), .slice (some ⟨w.heap.size, 0, none⟩) len.toNat cap.toNat, some cap.toNat, ?_, WStep.alloc w _, ?_, ?_⟩
  · have hw1 : IntKind.i64.wrap len = len := IntKind.wrap_in .i64 len (by simp [IntKind.min, IntKind.max, IntKind.signed, IntKind.bits]; omega)
    have hw2 : IntKind.i64.wrap cap = cap := IntKind.wrap_in .i64 cap (by simp [IntKind.min, IntKind.max, IntKind.signed, IntKind.bits]; omega)
    have hti : (typeInfo e).run P w = .ok inf w := run_typeInfo _ hi
    have hbig : ((decide (cap < 0) || decide ((inf.bytes : Int) * cap > 2 ^ 48)) || decide (len < 0) || decide (len > cap)) = false := by
      simp only [Bool.or_eq_false_iff, decide_eq_false_iff_not]
      rw [hib]
      refine ⟨⟨⟨by omega, ?_⟩, by omega⟩, by omega⟩
      have : (2 : Int) ^ 48 = 281474976710656 := by decide
      omega
    have hroom : ∀ m w', (askRoom m).run P w' = .ok () w' := fun m w' => by unfold askRoom; split <;> rfl
    have hb : (Instr.makeSlice t (.int k len) (.int k' cap)).run P w = .ok (.slice (some ⟨w.heap.size, 0, none⟩) len.toNat cap.toNat) (w.alloc (.cells ((List.range (cap.toNat * zs.length)).map fun k => zs.getD (k % zs.length) undef).toArray e)) := by
      unfold Instr.makeSlice
      simp only [Sem.run_bind, run_underlying hu, Result.andThen, asInt, asIntOf, Sem.run_pure, hti, hw1, hw2, hbig, Bool.false_eq_true, if_false, hroom, hsz]
      refine zeros_run (P := P) (hr w) ?_ fun h0 => ?_
      · rw [hzc, zeros_arr zs _ hn]; simp [newRow]
      · have e0 : ((Array.range (cap.toNat * zs.length)).map fun x => (#[] : Array Value)[x % (#[] : Array Value).size]!) = (Array.range (cap.toNat * zs.length)).map fun k => zs.toArray[k % zs.toArray.size]! := by rw [h0]; simp
        rw [e0, zeros_arr zs _ hn]; simp [newRow]
    simp only [execOp, hx, hy, Sem.run_bind, hb, Result.andThen]
    rfl
  · refine ⟨by simp, _, e, by rw [Vals.set_ρ]; exact heap_alloc w _, by simp, repCols_rows (Nat.le_refl _)⟩
  · have := Den.sa (V := V.set lb w.heap.size (some cap.toNat)) (M := M) lb zs.length 0 len.toNat cap.toNat (by omega)
    rwa [Vals.set_ρ, Nat.zero_mul] at this
end

/-! append(nil, make([]T, n)...) -/
section
variable {P : Program} {S : St} {ro : Ro} {ops : Array Oper} {x y : Operand} {d : Nat} {t t2 e ty : TypeId} {pos : String} {af : Array Edge}
theorem zeroCells_rows {M : Mem} {zs : List Value} (hn : 0 < zs.length) (n m : Nat) : rowsAt M zs.length n (repCols n zs) (Builtin.zeroCells zs.toArray n ++ Builtin.zeroCells zs.toArray m) := by
  have e : Builtin.zeroCells zs.toArray n ++ Builtin.zeroCells zs.toArray m = ((List.range ((n + m) * zs.length)).map fun k => zs.getD (k % zs.length) undef).toArray := by
    apply Array.ext'
    rw [Array.toList_append]
    have one : ∀ k, (Builtin.zeroCells zs.toArray k).toList = (List.range (k * zs.length)).map fun k => zs.getD (k % zs.length) undef := fun k => by
      have := zeros_arr zs (k * zs.length) hn
      unfold Builtin.zeroCells
      rw [List.size_toArray] at *
      rw [this]
    rw [one, one, Nat.add_mul, List.range_add, List.map_append, List.map_map]
    congr 1
    refine List.map_congr_left fun k _ => ?_
    simp [Nat.add_comm (n * zs.length) k]
  rw [e]
  exact repCols_rows (Nat.le_add_right _ _)
theorem Trace.appendMake {S' : St} {r : List Oper} {L : List Ax} {zs : List Value} {n bytes : Nat} {ik : IntKind} {m : Int} {cs : List Col} (lb : Nat) (ds : List Nat)
    (ht : appOK P t n bytes = true) (hz : ∀ e, P.underlying t = some (.slice e) → ZeroIs P e zs) (hk : P.underlying t2 = some (.int ik)) (hzn : zs.length = n) (hn : 0 < n) (e1 : Ev S true x nilS) (e2 : Ev S true y (iv .i64 m)) (h0 : 0 < m) (hbd : m.toNat * bytes ≤ 140737488355328) (hb63 : m ≤ 140737488355328)
    (hcs : repCols m.toNat zs = cs)
    (hfr : freshB ⟨opNames ⟨some d, .call ⟨.builtin .append, #[x, y], #[t, t2]⟩, ty, pos, af, none⟩, S, postOf ds lb (.app n m.toNat cs) d (.own lb m.toNat), [lb]⟩ S = true) (h : Trace P ro ops r (S.after ds lb (.app n m.toNat cs) d (.own lb m.toNat)) L S') :
    Trace P ro ops (⟨some d, .call ⟨.builtin .append, #[x, y], #[t, t2]⟩, ty, pos, af, none⟩ :: r) S (⟨opNames ⟨some d, .call ⟨.builtin .append, #[x, y], #[t, t2]⟩, ty, pos, af, none⟩ ++ ([] : List Nat).map bk, S, postOf ds lb (.app n m.toNat cs) d (.own lb m.toNat), [lb]⟩ :: L) S' := by
  subst hcs
  subst hzn
  refine Trace.new ds (axOp_new rfl rfl (fun _ h => nomatch h) fun E V M a w h => ?_) (by simpa using hfr) h
  have hx := h.val (by simp [Op.operands, Call.operands]) e1
  have hy := h.val (by simp [Op.operands, Call.operands]) e2
  generalize a.eval = ρ at *
  unfold appOK at ht
  split at ht
  · rename_i e hu
    split at ht
    · rename_i inf hi
      simp only [Bool.and_eq_true] at ht
      obtain ⟨⟨ht1, ht2⟩, ht3⟩ := ht
      have e1 := Nat.eq_of_beq_eq_true ht1
      have e2 := Nat.eq_of_beq_eq_true ht2
      obtain ⟨z, hzs, hr⟩ := zeroIs_run (hz e hu)
      have hzc : z.cells = zs.toArray := by rw [← hzs, Array.toArray_toList]
      have hcap : m.toNat ≤ grownCap w m.toNat 0 e := by unfold grownCap; exact Nat.le_add_right _ _
      have hbd' : m.toNat * inf.bytes ≤ 140737488355328 := by rw [e2]; exact hbd
      have hfit := growslice_fits (need := m.toNat) (old := 0) (by omega) hbd'
      have hw1 : IntKind.i64.wrap m = m := IntKind.wrap_in .i64 m (by simp [IntKind.min, IntKind.max, IntKind.signed, IntKind.bits]; omega)
      have hm0 : ¬ m.toNat * zs.length = 0 := by
        have : 0 < m.toNat * zs.length := Nat.mul_pos (by omega) hn
        omega
      refine ⟨w.drew.alloc (.cells (Builtin.zeroCells zs.toArray m.toNat ++ Builtin.zeroCells zs.toArray (grownCap w m.toNat 0 e - m.toNat)) e), .slice (some ⟨w.heap.size, 0, none⟩) m.toNat (grownCap w m.toNat 0 e), some (grownCap w m.toNat 0 e), ?_, WStep.drewAlloc w _, ?_, ?_⟩
      · have h48 : ¬ (281474976710656 < m * (inf.bytes : Int)) := by
          rw [e2]
          have : ((m.toNat * bytes : Nat) : Int) = m * (bytes : Int) := by
            rw [Int.natCast_mul, Int.toNat_of_nonneg (by omega)]
          omega
        have h48' : ¬ (281474976710656 < Builtin.nextslicecap m.toNat 0 * inf.bytes) := by omega
        have hneg : ¬ m < 0 := by omega
        have hn' : ¬ m.toNat ≤ 0 := by omega
        have h63 : ¬ ((9223372036854775807 : Int) < max m 0) := by omega
        have hm0' : ¬ m ≤ 0 := by omega
        have hw0 : w.heap.size = w.drew.heap.size := rfl
        have hz1 : ∀ w', (zeroValue e).run P w' = .ok z w' := hr
        simp [execOp, resolve, invoke, builtin, Builtin.append_, hx, hy, run_underlying hu, run_underlying hk, sizeOf, typeInfo, hi, e1, asInt, asIntOf, hw1, hneg, h48, hn', h63, h48', Question.forced, hm0, hm0', hz1, hzc, newRow, grownCap, Builtin.firstCells]
      · refine ⟨by simp [repCols], (repCols_rows (M := M) hcap).2.1, ?_⟩
        rw [Vals.set_κ]
        refine ⟨hcap, _, e, by rw [Vals.set_ρ]; exact heap_alloc w.drew _, ?_, zeroCells_rows hn _ _⟩
        simp only [Builtin.zeroCells, Array.size_append, Array.size_map, Array.size_range, List.size_toArray]
        rw [← Nat.add_mul]
        congr 1
        omega
      · have := Den.own (V := V.set lb w.heap.size (some (grownCap w m.toNat 0 e))) (M := M) lb m.toNat _ (by rw [Vals.set_κ]) hcap
        rwa [Vals.set_ρ] at this
    · cases ht
  · cases ht
end
/-- s[:0] of a slice of our own. -/
theorem Pure.cutOwn0 {P : Program} {S : St} {c : Bool} {x : Operand} {t ty e : TypeId} {pos : String} {af : Array Edge} {dt : Option Tmp} {gd : Option (Nat × Bool)} {n len lb h : Nat} {hi : Option Operand} (ht : sliceOf P t e n = true) (e1 : Ev S c x (.own lb len)) (hhi : Bound S c hi len h) (hh : h = 0) :
    Pure P S [] ⟨dt, .slice t x none hi none, ty, pos, af, gd⟩ c (.own lb 0) := by
  subst hh
  refine ⟨(fun _ h => nomatch h), fun E V M a w hg hc => ?_⟩
  obtain ⟨ox, olo, ohi⟩ := slice_ops (t := t) (x := x) (lo := none) (hi := hi) (o := ⟨dt, .slice t x none hi none, ty, pos, af, gd⟩) rfl
  have hx := hg.opd x ox _ e1
  have rhi := bound_run hg hc ohi hhi
  obtain ⟨hu, hsz⟩ := sliceOf_of ht
  generalize hex : a.eval x = v at hx
  generalize a.eval = ρ at *
  cases hx with
  | ownNil _ hk =>
    refine ⟨.slice none 0 0, ?_, .ownNil _ hk⟩
    simp only [execOp, hex, Option.map_none, Sem.run_bind, run_slice (cap := 0) (a := none) hu hsz (.inl ⟨rfl, rfl⟩) rhi (Nat.le_refl _) (Nat.zero_le _), Result.andThen]; rfl
  | own _ _ cap hk hcap =>
    refine ⟨.slice (some ⟨V.ρ lb, 0, none⟩) 0 cap, ?_, .own _ _ _ hk (Nat.zero_le _)⟩
    have e : (if cap = 0 then some (⟨V.ρ lb, 0, none⟩ : Addr) else (some (⟨V.ρ lb, 0, none⟩ : Addr)).map (·.add (0 * n))) = some ⟨V.ρ lb, 0, none⟩ := by split <;> simp [addr_add]
    simp only [execOp, hex, Option.map_none, Sem.run_bind, run_slice (cap := cap) hu hsz (.inl ⟨rfl, rfl⟩) rhi (Nat.le_refl _) (Nat.zero_le _), Result.andThen, e]; rfl

/-! What becomes immutable. -/
theorem rep_freezeB {E : Env} {S : St} {V : Vals} {M : Mem} {a : Act} {w : World} (ha : RepA E S V M a) (hw : RepW E S V M w) {l : Nat} {B : Blk} {vs : Array Value} {t : TypeId} (hb : S.get (bk l) = some (.blk B)) (hk : V.κ l ≠ none) (hh : w.heap[V.ρ l]? = some (.cells vs t (0, 0))) :
    ∃ M' : Mem, M.le M' ∧ (∀ o, M' (V.ρ l) o = vs[o]?) ∧ RepA E (St.del (bk l) S) V M' a ∧ RepW E (St.del (bk l) S) V M' w := by
  have hgb : ∀ m B, (St.del (bk l) S).get (bk m) = some (.blk B) → m ≠ l ∧ S.get (bk m) = some (.blk B) := by
    intro m B h
    rw [St.get_del] at h
    by_cases hm : bk l = bk m
    · rw [if_pos hm] at h; cases h
    · rw [if_neg hm] at h; exact ⟨fun e => hm (by rw [e]), h⟩
  have hM0 : ∀ o, M (V.ρ l) o = none := hw.sep l ⟨⟨_, hb⟩, hk⟩
  have hle : M.le (fun b o => if b = V.ρ l then vs[o]? else M b o) := fun b o u h => by
    by_cases e : b = V.ρ l
    · subst e; rw [hM0 o] at h; cases h
    · simp only [if_neg e]; exact h
  have hM' : ∀ b o u, (if b = V.ρ l then vs[o]? else M b o) = some u → M b o = some u ∨ (b = V.ρ l ∧ w.cell? ⟨b, o, none⟩ = some u) := fun b o u h => by
    by_cases e : b = V.ρ l
    · subst e
      simp only [if_true] at h
      exact .inr ⟨rfl, by simp [World.cell?, hh, h]⟩
    · simp only [if_neg e] at h; exact .inl h
  refine ⟨fun b o => if b = V.ρ l then vs[o]? else M b o, hle, fun o => by simp, ⟨fun s x hx => ?_, ha.size, ha.defers⟩, ?_⟩
  · rw [St.get_del, if_neg (Ne.symm (sl_ne_bk s l))] at hx
    obtain ⟨u, hu, hdu⟩ := ha.slots s x hx
    exact ⟨u, hu, hdu.mono hle fun _ _ => ⟨rfl, rfl⟩⟩
  · have hh' : ∀ m, HasB V (St.del (bk l) S) m → m ≠ l ∧ HasB V S m := fun m ⟨⟨B, e⟩, k⟩ => ⟨(hgb m B e).1, ⟨B, (hgb m B e).2⟩, k⟩
    have hne : ∀ m, HasB V S m → m ≠ l → V.ρ m ≠ V.ρ l := fun m hm hml => hw.inj m l hm ⟨⟨_, hb⟩, hk⟩ hml
    exact { blks := fun m B e => (hw.blks m B (hgb m B e).2).memMono hle
            inj := fun m k hm hk' => hw.inj m k (hh' m hm).2 (hh' k hk').2
            sep := fun m hm o => by
              obtain ⟨h1, h2⟩ := hh' m hm
              show (if V.ρ m = V.ρ l then vs[o]? else M (V.ρ m) o) = none
              rw [if_neg (hne m h2 h1)]
              exact hw.sep m h2 o
            fresh := fun m hm => hw.fresh m (hh' m hm).2
            bd := fun m hm => hw.bd m (hh' m hm).2
            mem := fun b o u h => by
              rcases hM' b o u h with h | ⟨_, h⟩
              · exact hw.mem b o u h
              · exact h
            mle := Mem.le_trans hw.mle hle, glb := hw.glb
            mnew := fun b o h => by
              cases hc : (if b = V.ρ l then vs[o]? else M b o) with
              | none => exact absurd hc h
              | some u =>
                rcases hM' b o u hc with h | ⟨h, _⟩
                · exact hw.mnew b o (by rw [h]; simp)
                · rw [h]
                  rcases hw.fresh l ⟨⟨_, hb⟩, hk⟩ with h | h
                  · exact .inr (.inl h)
                  · exact .inr (.inr h)
            keep := hw.keep, frame := hw.frame }
/-- Cells of ours become immutable. -/
theorem Ghost.freezeLoc {E : Env} {S : St} {t l : Nat} {ds : List D} (hs : S.get (sl t) = some (.av (.loc l 0))) (hb : S.get (bk l) = some (.blk (.data ds))) : Ghost E S ((sl t, .av (.rp ds)) :: St.del (bk l) S) := by
  rintro a w ⟨V, M, ha, hw⟩
  obtain ⟨hk, vs, tt, hh, hsz, hd⟩ := hw.blks l _ hb
  obtain ⟨M', hle, hM, ha', hw'⟩ := rep_freezeB ha hw hb hk hh
  refine ⟨V, M', ⟨fun s x hx => ?_, ha'.size, ha'.defers⟩, ?_⟩
  · rw [get_cons] at hx
    by_cases h : sl t = sl s
    · rw [if_pos h] at hx
      injection hx with hx; injection hx with hx; subst hx
      have := sl_inj h; subst this
      obtain ⟨u, hu, hdu⟩ := ha.slots _ _ hs
      refine ⟨u, hu, ?_⟩
      cases hdu with
      | loc =>
        refine .rp _ _ _ (fun j => vs.getD j undef) (fun j hj => ?_) fun j x hx => ?_
        · rw [hM, Nat.zero_add]
          have : j < vs.size := by rw [hsz]; simpa using hj
          simp [Array.getD, this]
        · have hj := (List.getElem?_eq_some_iff.1 hx).1
          have : j < vs.size := by rw [hsz]; simpa using hj
          have := hd j (.d x) (vs.getD j undef) (by simp [hx]) (by simp [Array.getD, this])
          cases this with | d _ _ h => exact h.mono hle
    · rw [if_neg h] at hx; exact ha'.slots s x hx
  · refine hw'.blks_only fun m B e => ?_
    rwa [get_cons, if_neg (sl_ne_bk t m)] at e
/-- A slice of an array of ours becomes immutable. -/
theorem Ghost.freezeSa {E : Env} {S : St} {t l lo len cap tot : Nat} {k : IntKind} {xs : List Int} {g : Nat → List D} (hs : S.get (sl t) = some (.av (.sa l 1 lo len cap))) (hb : S.get (bk l) = some (.blk (.cols 1 tot [.ints k xs]))) (hle : lo + len ≤ tot)
    (hg : ∀ i, i < len → g i = [.v (.int k (xs.getD (lo + i) 0))]) : Ghost E S ((sl t, .av (.d (.rows 1 len g))) :: St.del (bk l) S) := by
  rintro a w ⟨V, M, ha, hw⟩
  obtain ⟨hk, vs, tt, hh, hsz, hr⟩ := hw.blks l _ hb
  obtain ⟨M', hle', hM, ha', hw'⟩ := rep_freezeB ha hw hb hk hh
  refine ⟨V, M', ⟨fun s x hx => ?_, ha'.size, ha'.defers⟩, ?_⟩
  · rw [get_cons] at hx
    by_cases h : sl t = sl s
    · rw [if_pos h] at hx
      injection hx with hx; injection hx with hx; subst hx
      have := sl_inj h; subst this
      obtain ⟨u, hu, hdu⟩ := ha.slots _ _ hs
      refine ⟨u, hu, ?_⟩
      cases hdu with
      | sa _ _ _ _ _ hcap =>
        rw [Nat.mul_one] at hsz
        have hv := vs_ints hr hsz
        have hl : xs.length = tot := hr.2.1 (.ints k xs) (by simp)
        refine .d _ _ (.rows 1 len g _ _ cap hcap (fun i hi => by rw [hg i hi]; rfl) (fun i _ => .int k (xs.getD (lo + i) 0)) (fun i j hi hj => ?_) fun i j x hi hx => ?_)
        · have : j = 0 := by omega
          subst this
          rw [hM, ← Array.getElem?_toList, hv]
          have : lo + i < xs.length := by omega
          simp [this]
        · rw [hg i hi] at hx
          cases j with
          | zero => simp at hx; subst hx; exact .v _
          | succ j => simp at hx
    · rw [if_neg h] at hx; exact ha'.slots s x hx
  · refine hw'.blks_only fun m B e => ?_
    rwa [get_cons, if_neg (sl_ne_bk t m)] at e
/-- A slice of our own, cut to nothing: no cell of it counts. -/
theorem Ghost.cut0 {E : Env} {S : St} {l n len : Nat} {cs cs' : List Col} (hb : S.get (bk l) = some (.blk (.app n len cs))) (hn : cs'.length = n) (hc : ∀ c ∈ cs', c.len = 0) : Ghost E S (S.upd [(bk l, some (.blk (.app n 0 cs')))]) := by
  refine Ghost.reblk hb fun V M w h => ?_
  obtain ⟨h1, h2, h3⟩ := h
  refine ⟨hn, hc, ?_⟩
  split
  · rfl
  · rename_i cap hk
    rw [hk] at h3
    obtain ⟨_, vs, t, q1, q2, q3⟩ := h3
    exact ⟨Nat.zero_le _, vs, t, q1, q2, hn, hc, fun i j c hi _ => absurd hi (by omega)⟩

end Go.Proofs.YtmdfamnnnoieaaaDoor

/- An operation under a guard that holds; arguments that say less. No program in sight. -/
namespace Go.Proofs.YtmdfamnnnoieaaaDoor
open Go
set_option linter.unusedVariables false
set_option linter.unusedSimpArgs false
variable {P : Program} {ro : Ro} {ops : Array Oper} {E : Env}

theorem uponIn_guard {F : Fence} {n : Nat} {dst : Option Tmp} {op : Op} {ty : TypeId} {pos : String} {af : Array Edge} {gd gd' : Option (Nat × Bool)} {a : Act} {K : Act → World → Prop} {Q : Exit → Act → World → Prop} (r : Result Next) :
    Oper.uponIn F n P ⟨dst, op, ty, pos, af, gd⟩ a K Q r = Oper.uponIn F n P ⟨dst, op, ty, pos, af, gd'⟩ a K Q r := by
  cases r with
  | ok o w => cases o <;> rfl
  | _ => rfl
theorem axOp_guard {dst : Option Tmp} {op : Op} {ty : TypeId} {pos : String} {af : Array Edge} {gd : Nat × Bool} {rn : List Nat} {S : St} {post : List (Nat × Option Cont)} {new gs : List Nat} (h : AxOp P ro ops ⟨dst, op, ty, pos, af, none⟩ ⟨rn, S, post, new⟩)
    (hgd : guardIn ops S ⟨dst, op, ty, pos, af, some gd⟩ = some (gs, true)) : AxOp P ro ops ⟨dst, op, ty, pos, af, some gd⟩ ⟨rn ++ gs, S, post, new⟩ := by
  intro E T a w hs hf hok hr Q hpn
  have h1 := h E T a w (fun n hn => hs n (by simp [hn])) hf hok hr Q hpn
  obtain ⟨V, M, ha, hw⟩ := hr
  have hwant := wanted_of (E := E) (fun n hn => hs n (by simp [hn])) hgd (fun n hn => hn) ha
  unfold stepIn at *
  rw [if_pos (by simp [Region.wanted])] at h1
  rw [if_pos hwant]
  refine ⟨h1.1, ?_⟩
  have h2 := h1.2
  rw [uponIn_guard (gd' := some gd)] at h2
  exact h2
theorem Trace.og {S S' : St} {dst : Option Tmp} {op : Op} {ty : TypeId} {pos : String} {af : Array Edge} {gd : Nat × Bool} {rn : List Nat} {post : List (Nat × Option Cont)} {new gs : List Nat} {r : List Oper} {L : List Ax}
    (hgd : guardIn ops S ⟨dst, op, ty, pos, af, some gd⟩ = some (gs, true)) (h : Trace P ro ops (⟨dst, op, ty, pos, af, none⟩ :: r) S (⟨rn, S, post, new⟩ :: L) S') :
    Trace P ro ops (⟨dst, op, ty, pos, af, some gd⟩ :: r) S (⟨rn ++ gs, S, post, new⟩ :: L) S' := by
  cases h with
  | cons ha hs hf he h => exact .cons (axOp_guard ha hgd) (fun _ _ => rfl) hf he h

/-- An argument that says more. -/
theorem FnSpec.argLe {f : FuncId} {A1 A2 : List AV} {x y : AV} {Bs Bs' : St} {res : AV} {keep : List Nat} (h : FnSpec P f (A1 ++ y :: A2) Bs res Bs' keep) (hx : ∀ V M v, Den V M x v → Den V M y v) : FnSpec P f (A1 ++ x :: A2) Bs res Bs' keep := by
  intro V M w passed vs hw hd
  refine h V M w passed vs hw ⟨by have := hd.len; simpa using this, fun j z u hz hu => ?_⟩
  by_cases hj : j = A1.length
  · subst hj
    simp at hz
    subst hz
    exact hx V M u (hd.at' A1.length x u (by simp) hu)
  · refine hd.at' j z u ?_ hu
    rw [List.getElem?_append] at hz ⊢
    split at hz
    · rename_i h9; rw [if_pos h9]; exact hz
    · rename_i h9
      rw [if_neg h9]
      cases hk : j - A1.length with
      | zero => omega
      | succ k => rw [hk] at hz; exact hz

end Go.Proofs.YtmdfamnnnoieaaaDoor

/- A range over a function: the call of yield; a round's contract out of its body's walk; the statement; a function that holds one. No program in sight. -/
namespace Go.Proofs.YtmdfamnnnoieaaaDoor
open Go
set_option linter.unusedVariables false
set_option linter.unusedSimpArgs false
variable {P : Program} {S : St} {ro : Ro} {ops : Array Oper} {E : Env}

/-! A scope that no jump leads into. -/
def noGotoQ (Q : Exit → Act → World → Prop) : Exit → Act → World → Prop
  | .goto _, _, _ => False
  | e, a, w => Q e a w
section
variable {F : Fence} {n : Nat} {b : Frame} {a : Act} {k : List Go.Item} {cs : List Frame} {w : World}
theorem stepR_scope {c : Code} : step P (lone (b.atR a (.code (.scope c) :: k)) cs w) = .next (lone (b.atR a (.code c :: .inScope c :: k)) cs w) :=
  step_lone_go (by simp [stepG, stepG.exec, Frame.atR])
theorem stepR_inScope {c : Code} : step P (lone (b.atR a (.inScope c :: k)) cs w) = .next (lone (b.atR a k) cs w) :=
  step_lone_go (by simp [stepG, stepG.exec, Frame.atR])
theorem wpIn_scope {c : Code} {Q : Exit → Act → World → Prop} (h : c.wpIn F n P (noGotoQ Q) a w) : (Code.scope c).wpIn F n P Q a w := by
  intro b k cs hro hb hr
  have h0 : (lone (b.atR a (.code (.scope c) :: k)) cs w).fenced P F := fenced_calm hb hr rfl
  obtain ⟨e, a₁, w₁, hq, harr⟩ := h b (.inScope c :: k) cs hro hb hr
  cases e with
  | normal => exact ⟨.normal, a₁, w₁, hq, .head h0 stepR_scope (StepsIn.trans harr (.one (fenced_calm hb hr rfl) stepR_inScope))⟩
  | exit id =>
    have hx : exitTo id (.inScope c :: k) = exitTo id k := by simp [exitTo]
    exact ⟨.exit id, a₁, w₁, hq, fun k' hk => .head h0 stepR_scope (harr.1 k' (by rw [hx]; exact hk)),
      fun hr' hk => let ⟨k₁, h1, h2⟩ := harr.2 hr' (by rw [hx]; exact hk); ⟨k₁, h1, .head h0 stepR_scope h2⟩⟩
  | goto l => exact hq.elim
  | ret => exact ⟨_, a₁, w₁, hq, .of_steps (.one h0 stepR_scope) harr⟩
  | panic ch => exact ⟨_, a₁, w₁, hq, .of_steps (.one h0 stepR_scope) harr⟩
  | outgrown => exact ⟨_, a₁, w₁, hq, .of_steps (.one h0 stepR_scope) harr⟩
end
def scopeQ (Q : Exit → St → Prop) : Exit → St → Prop
  | .goto _, _ => False
  | e, S => Q e S
theorem WPA.scope {c : Code} {S : St} {Q : Exit → St → Prop} (h : WPA P ro E c S (scopeQ Q)) : WPA P ro E (.scope c) S Q := fun a w hr => wpIn_scope (wpIn_mono (h a w hr) fun e a w hp => by
  rcases hp with ⟨S', q, r⟩ | ⟨x, hp, rfl, r⟩
  · cases e with
    | goto l => exact q.elim
    | _ => exact .inl ⟨S', q, r⟩
  · exact .inr ⟨x, hp, rfl, r⟩)

/-! What a call over blocks leaves, but for its result. -/
structure HandedN (S0 : St) (Bs Bs' : St) (keep new ds : List Nat) : Prop where
  odd : ∀ p ∈ Bs, p.1 % 2 = 1
  odd' : ∀ p ∈ Bs', p.1 % 2 = 1
  have_ : ∀ p ∈ Bs, S0.get p.1 = some p.2
  blk : ∀ p ∈ Bs, ∃ B, p.2 = .blk B
  drop : ∀ p ∈ Bs, p.1 ∈ ds
  lab : ∀ p ∈ Bs', p.1 / 2 ∈ new ∨ p.1 / 2 ∈ keep
  kept : ∀ l ∈ keep, l ∉ new
  cell : ∀ p ∈ Bs', contWithin (new ++ keep) p.2 = true
  news : ∀ l ∈ new, bk l ∈ Bs'.map Prod.fst
theorem Handed.n {S0 Bs Bs' : St} {res : AV} {keep new ds : List Nat} (h : Handed S0 Bs Bs' res keep new ds) : HandedN S0 Bs Bs' keep new ds :=
  ⟨h.odd, h.odd', h.have_, h.blk, h.drop, h.lab, h.kept, h.cell, h.news⟩
theorem HandedN.sub {S0 S1 Bs Bs' : St} {keep new ds : List Nat} (h : HandedN S0 Bs Bs' keep new ds) (e : ∀ p ∈ Bs, S1.get p.1 = S0.get p.1) : HandedN S1 Bs Bs' keep new ds :=
  ⟨h.odd, h.odd', fun p hp => (e p hp).trans (h.have_ p hp), h.blk, h.drop, h.lab, h.kept, h.cell, h.news⟩

def passedOf (V : Vals) (Bs : St) : List Nat := ((labs Bs).filter fun l => (V.κ l).isSome).map V.ρ
theorem passed_has {S0 Bs Bs' : St} {keep new ds : List Nat} {V : Vals} (hh : HandedN S0 Bs Bs' keep new ds) : ∀ b ∈ passedOf V Bs, ∃ l, HasB V S0 l ∧ bk l ∈ ds ∧ (∃ B, (bk l, Cont.blk B) ∈ Bs) ∧ V.ρ l = b := by
  intro b hb
  simp only [passedOf, List.mem_map, List.mem_filter, labs] at hb
  obtain ⟨l, ⟨⟨p, hp, rfl⟩, hk⟩, rfl⟩ := hb
  have hodd := hh.odd p hp
  have e : bk (p.1 / 2) = p.1 := by unfold bk; omega
  obtain ⟨B, hBp⟩ := hh.blk p hp
  have h1 := hh.have_ p hp
  rw [hBp] at h1
  refine ⟨p.1 / 2, ⟨⟨B, by rw [e]; exact h1⟩, by cases hx : V.κ (p.1 / 2) <;> simp_all⟩, by rw [e]; exact hh.drop p hp, ⟨B, ?_⟩, rfl⟩
  rw [e, ← hBp]; exact hp
theorem handed_pre {S : St} {Bs Bs' : St} {keep new ds : List Nat} {V : Vals} {M : Mem} {w : World} (hw : RepW E S V M w) (hh : HandedN S Bs Bs' keep new ds) : RepW (.of w (passedOf V Bs) M V keep 0) Bs V M w := by
  have hget : ∀ l B, Bs.get (bk l) = some (.blk B) → S.get (bk l) = some (.blk B) := fun l B e => hh.have_ _ (St.mem_of_get e)
  have hB : ∀ l, HasB V Bs l → HasB V S l := fun l ⟨⟨B, e⟩, k⟩ => ⟨⟨B, hget l B e⟩, k⟩
  exact
    { blks := fun l B e => hw.blks l B (hget l B e), inj := fun l l' a b => hw.inj l l' (hB l a) (hB l' b), sep := fun l a => hw.sep l (hB l a)
      fresh := fun l a => .inr (by
        obtain ⟨⟨B, e⟩, k⟩ := a
        have hm := St.mem_of_get e
        simp only [passedOf, List.mem_map, List.mem_filter, labs]
        exact ⟨l, ⟨⟨_, hm, by unfold bk; omega⟩, by cases hx : V.κ l <;> simp_all⟩, rfl⟩)
      bd := fun l a => hw.bd l (hB l a)
      mem := hw.mem, mle := Mem.le_refl M, glb := hw.gl, mnew := fun b o h => .inl h, keep := fun l hl => ⟨rfl, rfl⟩, frame := ⟨rfl, rfl, rfl, Nat.le_refl _, fun _ _ _ => rfl⟩ }

abbrev postN (ds : List Nat) (Bs' : St) : List (Nat × Option Cont) := delsOf ds ++ somes Bs'
theorem get_postN (S : St) (ds : List Nat) (Bs' : St) (n : Nat) : (S.upd (postN ds Bs')).get n = match Bs'.get n with | some c => some c | none => if n ∈ ds then none else S.get n := by
  rw [St.get_upd, lastOf_append, lastOf_dels, somes_eq, lastOf_back]
  all_goals (cases Bs'.get n <;> rfl)

theorem called_rep {S : St} {Bs Bs' : St} {keep new ds : List Nat} {V V' : Vals} {M M' : Mem} {a : Act} {w w' : World} (ha : RepA E S V M a) (hw : RepW E S V M w) (hh : HandedN S Bs Bs' keep new ds)
    (hfr : ∀ l ∈ new, ∀ n c, S.get n = some c → n ∉ ds → n ∉ Bs'.map Prod.fst → ¬ CMent c l) (hne : ∀ l ∈ new, l ∉ E.keep) (hw' : RepW (.of w (passedOf V Bs) M V keep 0) Bs' V' M' w') :
    ∃ Vn, RepA E (S.upd (postN ds Bs')) Vn M' a ∧ RepW E (S.upd (postN ds Bs')) Vn M' w' ∧ ∀ l ∈ new ++ keep, Vn.ρ l = V'.ρ l ∧ Vn.κ l = V'.κ l := by
  have hf := hw'.frame
  let Vn : Vals := ⟨fun l => if l ∈ new then V'.ρ l else V.ρ l, fun l => if l ∈ new then V'.κ l else V.κ l⟩
  have hVold : ∀ l, l ∉ new → Vn.ρ l = V.ρ l ∧ Vn.κ l = V.κ l := fun l hl => by simp [Vn, hl]
  have hVnew : ∀ l, l ∈ new ++ keep → Vn.ρ l = V'.ρ l ∧ Vn.κ l = V'.κ l := fun l hl => by
    by_cases h : l ∈ new
    · simp [Vn, h]
    · have hk : l ∈ keep := by simpa [h] using hl
      have := hw'.keep l hk
      simp only [Vn, h, if_false]
      exact ⟨this.1.symm, this.2.symm⟩
  let T := S.upd (postN ds Bs')
  have hT : ∀ n, T.get n = match Bs'.get n with | some c => some c | none => if n ∈ ds then none else S.get n := get_postN S ds Bs'
  have hodd' : ∀ n c, Bs'.get n = some c → n % 2 = 1 := fun n c e => hh.odd' _ (St.mem_of_get e)
  have hnone : ∀ {n : Nat}, Bs'.get n = none → n ∉ Bs'.map Prod.fst := by
    intro n hn hm
    obtain ⟨p, hp, rfl⟩ := List.mem_map.1 hm
    have key : ∀ B : St, p ∈ B → B.get p.1 ≠ none := by
      intro B
      induction B with
      | nil => intro h; cases h
      | cons q r ih =>
        intro h
        rw [show (q :: r : St) = (q.1, q.2) :: r from rfl, get_cons]
        rcases List.mem_cons.1 h with rfl | h
        · simp
        · split
          · simp
          · exact ih h
    exact key Bs' hp hn
  have hold : ∀ n c, Bs'.get n = none → n ∉ ds → S.get n = some c → ∀ l, l ∈ new → ¬ CMent c l := fun n c h2 h3 h4 l hl => hfr l hl n c h4 h3 (hnone h2)
  have hcases : ∀ l B, T.get (bk l) = some (.blk B) → (Bs'.get (bk l) = some (.blk B) ∧ l ∈ new ++ keep) ∨ (Bs'.get (bk l) = none ∧ bk l ∉ ds ∧ S.get (bk l) = some (.blk B)) := fun l B e => by
    rw [hT] at e
    cases hb : Bs'.get (bk l) with
    | some c =>
      rw [hb] at e
      simp only at e
      have := hh.lab _ (St.mem_of_get hb)
      have hl2 : bk l / 2 = l := by unfold bk; omega
      simp only [hl2] at this
      exact .inl ⟨e, by simpa using this⟩
    | none =>
      rw [hb] at e
      simp only at e
      by_cases hd : bk l ∈ ds
      · rw [if_pos hd] at e; cases e
      · rw [if_neg hd] at e; exact .inr ⟨rfl, hd, e⟩
  have hnn : ∀ l B, Bs'.get (bk l) = none → S.get (bk l) = some (.blk B) → l ∉ new := fun l B h1 _ hl => hnone h1 (hh.news l hl)
  have hHas : ∀ l, HasB Vn T l → (HasB V' Bs' l ∧ Vn.ρ l = V'.ρ l) ∨ (HasB V S l ∧ bk l ∉ ds ∧ Vn.ρ l = V.ρ l) := fun l ⟨⟨B, e⟩, k⟩ => by
    rcases hcases l B e with ⟨h1, h2⟩ | ⟨h1, h2, h3⟩
    · have := hVnew l h2
      exact .inl ⟨⟨⟨B, h1⟩, by rw [← this.2]; exact k⟩, this.1⟩
    · have := hVold l (hnn l B h1 h3)
      exact .inr ⟨⟨⟨B, h3⟩, by rw [← this.2]; exact k⟩, h2, this.1⟩
  have hfin : ∀ l, HasB V S l → bk l ∉ ds → V.ρ l ∉ passedOf V Bs := fun l hl hd hp => by
    obtain ⟨l', h1, h2, _, h3⟩ := passed_has hh _ hp
    by_cases e : l' = l
    · exact hd (e ▸ h2)
    · exact hw.inj l' l h1 hl e h3
  have hsz : ∀ l, HasB V' Bs' l → w.heap.size ≤ V'.ρ l ∨ V'.ρ l ∈ passedOf V Bs := fun l hl => hw'.fresh l hl
  have hapart : ∀ l l', HasB V' Bs' l → HasB V S l' → bk l' ∉ ds → V'.ρ l ≠ V.ρ l' := fun l l' h1 h2 h3 e => by
    rcases hsz l h1 with h | h
    · have := hw.bd l' h2; omega
    · exact hfin l' h2 h3 (e ▸ h)
  refine ⟨Vn, ⟨fun s x hx => ?_, ha.size, ha.defers⟩, ?_, hVnew⟩
  · have hx : T.get (sl s) = some (.av x) := hx
    rw [hT] at hx
    have hbn : Bs'.get (sl s) = none := by
      cases hb : Bs'.get (sl s) with
      | none => rfl
      | some c => have := hodd' _ _ hb; unfold sl at this; omega
    rw [hbn] at hx
    simp only at hx
    by_cases hd : sl s ∈ ds
    · rw [if_pos hd] at hx; cases hx
    · rw [if_neg hd] at hx
      obtain ⟨u, hu, hdu⟩ := ha.slots s x hx
      exact ⟨u, hu, hdu.mono hw'.mle fun l hl => hVold l fun hn => hold (sl s) _ hbn hd hx l hn hl⟩
  · exact
    { blks := fun l B e => by
        rcases hcases l B e with ⟨h1, h2⟩ | ⟨h1, h2, h3⟩
        · have hm := hh.cell _ (St.mem_of_get h1)
          exact (hw'.blks l B h1).turn (Mem.le_refl _) (hVnew l h2) (fun l' hl' => hVnew l' (by
            cases hl' with
            | cells cs x _ hx hmx => exact within_ment hmx (withins_mem hm hx)
            | lp h' ts p _ hx hmx => exact within_ment hmx (slotsWithin_mem hm hx)
            | appv cs x _ hx hmx => exact within_ment hmx (withins_mem hm hx))) (fun _ => rfl)
        · have hln := hnn l B h1 h3
          exact (hw.blks l B h3).turn hw'.mle (hVold l hln) (fun l' hl' => hVold l' fun hn => hold (bk l) _ h1 h2 h3 l' hn hl') (fun hk => hf.block _ (hw.bd l ⟨⟨B, h3⟩, hk⟩) (hfin l ⟨⟨B, h3⟩, hk⟩ h2))
      inj := fun l l' h1 h2 hne => by
        rcases hHas l h1 with ⟨a1, a2⟩ | ⟨a1, a2, a3⟩
        · rcases hHas l' h2 with ⟨b1, b2⟩ | ⟨b1, b2, b3⟩
          · rw [a2, b2]; exact hw'.inj l l' a1 b1 hne
          · rw [a2, b3]; exact hapart l l' a1 b1 b2
        · rcases hHas l' h2 with ⟨b1, b2⟩ | ⟨b1, b2, b3⟩
          · rw [a3, b2]; exact (hapart l' l b1 a1 a2).symm
          · rw [a3, b3]; exact hw.inj l l' a1 b1 hne
      sep := fun l h1 o => by
        rcases hHas l h1 with ⟨a1, a2⟩ | ⟨a1, a2, a3⟩
        · rw [a2]; exact hw'.sep l a1 o
        · rw [a3]
          cases hc : M' (V.ρ l) o with
          | none => rfl
          | some u =>
            rcases hw'.mnew (V.ρ l) o (by rw [hc]; simp) with h | h | h
            · exact absurd (hw.sep l a1 o) h
            · have := hw.bd l a1
              have h : w.heap.size ≤ V.ρ l := h
              omega
            · exact absurd h (hfin l a1 a2)
      fresh := fun l h1 => by
        rcases hHas l h1 with ⟨a1, a2⟩ | ⟨a1, a2, a3⟩
        · rw [a2]
          rcases hsz l a1 with h | h
          · exact .inl (Nat.le_trans hw.frame.size h)
          · obtain ⟨l', hl', _, _, he⟩ := passed_has hh _ h
            rw [← he]
            exact hw.fresh l' hl'
        · rw [a3]; exact hw.fresh l a1
      bd := fun l h1 => by
        rcases hHas l h1 with ⟨a1, a2⟩ | ⟨a1, a2, a3⟩
        · rw [a2]; exact hw'.bd l a1
        · rw [a3]; exact Nat.lt_of_lt_of_le (hw.bd l a1) hf.size
      mem := hw'.mem
      mle := Mem.le_trans hw.mle hw'.mle, glb := hw.glb
      mnew := fun b o h => by
        rcases hw'.mnew b o h with h | h | h
        · exact hw.mnew b o h
        · have h : w.heap.size ≤ b := h
          exact .inr (.inl (Nat.le_trans hw.frame.size h))
        · obtain ⟨l', hl', _, _, he⟩ := passed_has hh _ h
          rw [← he]
          rcases hw.fresh l' hl' with h | h
          · exact .inr (.inl h)
          · exact .inr (.inr h)
      keep := fun l hl => by
        have hn : l ∉ new := fun h => hne l h hl
        have := hVold l hn
        rw [this.1, this.2]
        exact hw.keep l hl
      frame := ⟨hf.os.trans hw.frame.os, hf.tape.trans hw.frame.tape, hf.output.trans hw.frame.output, Nat.le_trans hw.frame.size hf.size, fun b hb hp => (hf.block b (Nat.lt_of_lt_of_le hb hw.frame.size) (fun h => by
        obtain ⟨l', hl', _, _, he⟩ := passed_has hh _ h
        rcases hw.fresh l' hl' with h | h
        · omega
        · exact hp (he ▸ h))).trans (hw.frame.block b hb hp)⟩ }

/-! A call whose callee takes blocks over, also under a guard that holds. -/
theorem axOp_callG {S0 : St} {o : Oper} {t : Nat} {res : AV} {Bs Bs' : St} {keep new ds gs : List Nat} (hdst : o.dst = some t) (hgd : guardIn ops S0 o = some (gs, true))
    (hwp : ∀ (V : Vals) (M : Mem) (a : Act) (w : World) (K : Act → World → Prop) (Q : Exit → Act → World → Prop), (∀ x ∈ o.op.operands, ∀ y, Ev S0 true x y → Den V M y (a.eval x)) → RepW (.of w (passedOf V Bs) M V keep 0) Bs V M w →
      (∀ v V' M' w', Den V' M' res v → RepW (.of w (passedOf V Bs) M V keep 0) Bs' V' M' w' → K (a.put (some t) v) w') → o.wpIn (FW ro) 0 P a w K Q)
    (hh : Handed S0 Bs Bs' res keep new ds) : AxOp P ro ops o ⟨opNames o ++ gs ++ delsA Bs, S0, postCall ds Bs' t (wrapGd o true res), new⟩ := by
  intro E S a w hag hfr hok ⟨V, M, ha, hw⟩ Q hpn
  have ht : t < E.nt := hok.2 t (names_postCall.2 (.inr (.inr rfl)))
  have hwant := wanted_of (E := E) hag hgd (fun n hn => by simp [hn]) ha
  unfold stepIn
  rw [if_pos hwant]
  have hgiv := (given_of (bl := []) hag (fun n hn => by simp [hn]) (fun l hl => by cases hl) rfl ha hw : Given E S0 o [] true V M a w)
  have hhS : HandedN S Bs Bs' keep new (sl t :: ds) := by
    have h := hh.n.sub (S1 := S) fun p hp => hag p.1 (by simp only [delsA, keysOf_eq, List.mem_append, List.mem_map]; exact .inr ⟨_, hp, rfl⟩)
    exact { odd := h.odd, odd' := h.odd', have_ := h.have_, blk := h.blk, drop := fun p hp => by simp [h.drop p hp], lab := h.lab, kept := h.kept, cell := h.cell, news := h.news }
  refine hwp V M a w _ _ hgiv.opd (handed_pre hw hhS) ?_
  intro v V' M' w' hdv hw'
  obtain ⟨Vn, hA, hW, hV⟩ := called_rep ha hw hhS (fun l hl n c hc h1 h2 => hfr l hl n c hc fun h => by
    rcases names_postCall.1 h with h | h | h
    · exact h1 (by simp [h])
    · exact h2 h
    · exact h1 (by simp [h])) (fun l hl hk => hok.1 l hl hk) hw'
  have hdn : Den Vn M' res v := hdv.relab2 fun l hl => hV l (within_ment hl hh.res)
  have hdn' : Den Vn M' (wrapGd o true res) v := by
    unfold wrapGd
    split
    · exact hdn
    · exact .gd _ _ _ (fun _ => hdn) (fun h => by cases h)
  have h : Rep E ((S.upd (postN (sl t :: ds) Bs')).upd [(sl t, some (.av (wrapGd o true res)))]) (a.put (some t) v) w' := ⟨Vn, M', repA_slot hA t _ v ht hdn', repW_slot hW t _⟩
  refine Rep.weaken h fun n c e => ?_
  rw [upd_one, get_postN]
  rw [get_postCall] at e
  by_cases hn : sl t = n
  · rw [if_pos hn] at e ⊢; exact e
  · rw [if_neg hn] at e ⊢
    cases hb : Bs'.get n with
    | some c' => rw [hb] at e; exact e
    | none =>
      rw [hb] at e
      simp only at e ⊢
      by_cases hd : n ∈ ds
      · rw [if_pos hd] at e; cases e
      · rw [if_neg hd] at e
        rw [if_neg (by simp [hd, Ne.symm hn])]; exact e

/-- A round: yield, called with these values over these blocks. -/
def YSpec (P : Program) (L : Nat) (args : List AV) (Bs : St) (res : AV) (Bs' : St) (keep : List Nat) : Prop :=
  ∀ (V : Vals) (M : Mem) (w : World) (passed : List Nat) (vs : List Value), RepW (.of w passed M V keep 0) Bs V M w → DenL V M args vs →
    YieldAt Fence.wide 0 P (V.ρ L) vs.toArray w fun e w' => ∃ v V' M', e = .returned v ∧ Den V' M' res v ∧ RepW (.of w passed M V keep 0) Bs' V' M' w'

structure YieldArgs (S : St) (cl : Call) (L : Nat) (args : List AV) : Prop where
  out : ∃ (f : Operand), cl.callee = .value f ∧ Ev S true f (.yld L) ∧ args.length = cl.args.size ∧ ∀ (j : Nat) (x : Operand) (y : AV), cl.args[j]? = some x → args[j]? = some y → Ev S true x y

theorem yieldArgs {S : St} {f : Operand} {l : List Operand} {ts : Array TypeId} {L : Nat} {xs : List AV} (hf : Ev S true f (.yld L)) (h : EvAll S true l xs) : YieldArgs S ⟨.value f, l.toArray, ts⟩ L xs :=
  ⟨f, rfl, hf, by simpa using h.at'.1, fun j x y hx hy => h.at'.2 j x y (by simpa using hx) hy⟩

theorem Trace.cyH {S0 S' : St} {cl : Call} {ty : TypeId} {pos : String} {af : Array Edge} {gd : Option (Nat × Bool)} {r : List Oper} {L : List Ax} {t LL : Nat} {args : List AV} {res : AV} {Bs Bs' : St} {keep gs : List Nat} (new ds : List Nat) (hca : YieldArgs S0 cl LL args) (hs : YSpec P LL args Bs res Bs' keep)
    (hgd : guardIn ops S0 ⟨some t, .call cl, ty, pos, af, gd⟩ = some (gs, true))
    (hh : Handed S0 Bs Bs' res keep new ds) (hf : freshB ⟨opNames ⟨some t, .call cl, ty, pos, af, gd⟩ ++ gs ++ delsA Bs, S0, postCall ds Bs' t (wrapGd ⟨some t, .call cl, ty, pos, af, gd⟩ true res), new⟩ S0 = true)
    (h : Trace P ro ops r (S0.called ds Bs' t (wrapGd ⟨some t, .call cl, ty, pos, af, gd⟩ true res)) L S') :
    Trace P ro ops (⟨some t, .call cl, ty, pos, af, gd⟩ :: r) S0 (⟨opNames ⟨some t, .call cl, ty, pos, af, gd⟩ ++ gs ++ delsA Bs, S0, postCall ds Bs' t (wrapGd ⟨some t, .call cl, ty, pos, af, gd⟩ true res), new⟩ :: L) S' := by
  refine .cons (axOp_callG rfl hgd ?_ hh) (fun _ _ => rfl) (fresh_of hf) (called_upd _ _ _ _ _) h
  intro V M a w K Q hop hw hk
  obtain ⟨f, hcf, hef, hl, he⟩ := hca.out
  have hfo : f ∈ (Op.call cl).operands := by simp [Op.operands, Call.operands, hcf]
  have h1 := hop f hfo _ hef
  have hargs : DenL V M args (cl.args.toList.map a.eval) := ⟨by simpa using hl, fun j x y hx hy => by
    simp only [List.getElem?_map, Option.map_eq_some_iff] at hy
    obtain ⟨z, hz, rfl⟩ := hy
    have hz' : cl.args[j]? = some z := by simpa using hz
    refine hop z ?_ _ (he j z x hz' hx)
    simp only [Op.operands, Call.operands, Array.mem_append]
    exact .inr (Array.mem_of_getElem? hz')⟩
  generalize hv : a.eval f = v at h1
  cases h1 with
  | yld _ =>
    obtain ⟨fn, tmps, assign, body, hy, hR⟩ := hs V M w _ _ hw hargs
    have hr : (execOp a.eval ⟨some t, .call cl, ty, pos, af, gd⟩).run P w = .ok (.round (V.ρ LL) fn tmps assign body) w := by
      have hmap : ∀ f : Operand → Value, (cl.args.toList.map f).toArray = cl.args.map f := fun f => by
        rw [← List.map_toArray, Array.toArray_toList]
      rw [hmap] at hy
      generalize a.eval = ρ at *
      simp only [execOp, resolve, hcf, hv, Deferred.ofValue, Sem.run_bind, Sem.run_pure, Result.andThen, Array.empty_append, invoke]
      first | exact hy | (simp only [Array.append_empty]; exact hy)
    refine ⟨about_fw _ a w, ?_⟩
    rw [Oper.semAt_eq _ _ _ (fun d h => by cases h), hr, Oper.uponIn_round]
    refine ⟨fw_depth ro 0, ?_⟩
    have hR' : RoundIn (FW ro) 0 P (V.ρ LL) fn tmps assign body w _ := hR
    refine hR'.mono ?_
    rintro e w' ⟨v, V', M', rfl, hdv, hw'⟩
    exact hk v V' M' w' hdv hw'
theorem Trace.cyG {S0 S' : St} {cl : Call} {ty : TypeId} {pos : String} {af : Array Edge} {gd : Option (Nat × Bool)} {r : List Oper} {L : List Ax} {t LL : Nat} {args : List AV} {res : AV} {Bs Bs' : St} {keep gs : List Nat} (new ds : List Nat) (hca : YieldArgs S0 cl LL args) (hs : YSpec P LL args Bs res Bs' keep)
    (hgd : guardIn ops S0 ⟨some t, .call cl, ty, pos, af, gd⟩ = some (gs, true))
    (hv : Haves S0 Bs) (hh : handedB S0 Bs Bs' res keep new ds = true) (hf : freshB ⟨opNames ⟨some t, .call cl, ty, pos, af, gd⟩ ++ gs ++ delsA Bs, S0, postCall ds Bs' t (wrapGd ⟨some t, .call cl, ty, pos, af, gd⟩ true res), new⟩ S0 = true)
    (h : Trace P ro ops r (S0.called ds Bs' t (wrapGd ⟨some t, .call cl, ty, pos, af, gd⟩ true res)) L S') :
    Trace P ro ops (⟨some t, .call cl, ty, pos, af, gd⟩ :: r) S0 (⟨opNames ⟨some t, .call cl, ty, pos, af, gd⟩ ++ gs ++ delsA Bs, S0, postCall ds Bs' t (wrapGd ⟨some t, .call cl, ty, pos, af, gd⟩ true res), new⟩ :: L) S' :=
  Trace.cyH new ds hca hs hgd (handed_of hv hh) hf h

/-! Steps beside the blocks of ours; a block more. -/
theorem WStep.put {w : World} {r : Nat} (o : Obj) (h : r < w.heap.size) : WStep w (w.putObj r o) r :=
  ⟨rfl, rfl, rfl, by simp, fun b hb _ => World.putObj_heap_other hb, by simpa using h⟩
theorem RepW.beside {S : St} {V : Vals} {M : Mem} {w w' : World} {r : Nat} (h : RepW E S V M w) (hst : WStep w w' r) (hr : ∀ l, HasB V S l → V.ρ l ≠ r) (hM : ∀ o, M r o = none) (hE : E.w0.heap.size ≤ r ∨ r ∈ E.passed) : RepW E S V M w' :=
  { blks := fun l B e => (h.blks l B e).kept fun hk => hst.other _ (hr l ⟨⟨B, e⟩, hk⟩) (h.bd l ⟨⟨B, e⟩, hk⟩)
    inj := h.inj, sep := h.sep, fresh := h.fresh, bd := fun l hl => Nat.lt_of_lt_of_le (h.bd l hl) hst.size
    mem := fun b o v hv => hst.cell (fun e => by rw [e, hM o] at hv; cases hv) (h.mem b o v hv)
    mle := h.mle, glb := h.glb, mnew := h.mnew, keep := h.keep
    frame := ⟨hst.os.trans h.frame.os, hst.tape.trans h.frame.tape, hst.output.trans h.frame.output, Nat.le_trans h.frame.size hst.size, fun b hb hp => (hst.other b (fun e => by
      rcases hE with h | h
      · omega
      · exact hp (e ▸ h)) (Nat.lt_of_lt_of_le hb h.frame.size)).trans (h.frame.block b hb hp)⟩ }
theorem RepW.turned {S : St} {V : Vals} {M : Mem} {w w' : World} {r : Nat} (h : RepW E S V M w) (hst : WStep w w' r) (hr : ∀ l, HasB V S l → V.ρ l ≠ r) (hM : ∀ o, M r o = none) (ds : List Deferred) : RepW (E.at_ S V M w' ds) S V M w' :=
  { blks := fun l B e => (h.blks l B e).kept fun hk => hst.other _ (hr l ⟨⟨B, e⟩, hk⟩) (h.bd l ⟨⟨B, e⟩, hk⟩)
    inj := h.inj, sep := h.sep, fresh := fun l hl => .inr (mem_lives.2 ⟨l, hl, rfl⟩), bd := fun l hl => Nat.lt_of_lt_of_le (h.bd l hl) hst.size
    mem := fun b o v hv => hst.cell (fun e => by rw [e, hM o] at hv; cases hv) (h.mem b o v hv)
    mle := Mem.le_refl M, glb := h.gl, mnew := fun b o h => .inl h, keep := fun l _ => ⟨rfl, rfl⟩, frame := ⟨rfl, rfl, rfl, Nat.le_refl _, fun _ _ _ => rfl⟩ }
theorem RepW.add {S T : St} {V : Vals} {M : Mem} {w : World} {L : Nat} {B : Blk} (h : RepW E S V M w) (hT : ∀ l C, T.get (bk l) = some (.blk C) → l ≠ L → S.get (bk l) = some (.blk C)) (hTL : ∀ C, T.get (bk L) = some (.blk C) → C = B) (hB : BlkAt V M w L B) (hin : ∀ l, l ≠ L → HasB V S l → V.ρ l ≠ V.ρ L)
    (hs : ∀ o, M (V.ρ L) o = none) (hf : E.w0.heap.size ≤ V.ρ L ∨ V.ρ L ∈ E.passed) (hb : V.ρ L < w.heap.size) : RepW E T V M w := by
  have hc : ∀ l, HasB V T l → l ≠ L → HasB V S l := fun l ⟨⟨C, e⟩, k⟩ hne => ⟨⟨C, hT l C e hne⟩, k⟩
  exact
    { blks := fun l C e => by
        by_cases hl : l = L
        · subst hl; rw [hTL C e]; exact hB
        · exact h.blks l C (hT l C e hl)
      inj := fun l l' h1 h2 hne => by
        by_cases a : l = L
        · subst a; exact (hin l' (Ne.symm hne) (hc l' h2 (Ne.symm hne))).symm
        · by_cases b : l' = L
          · subst b; exact hin l a (hc l h1 a)
          · exact h.inj l l' (hc l h1 a) (hc l' h2 b) hne
      sep := fun l h1 o => by
        by_cases a : l = L
        · subst a; exact hs o
        · exact h.sep l (hc l h1 a) o
      fresh := fun l h1 => by
        by_cases a : l = L
        · subst a; exact hf
        · exact h.fresh l (hc l h1 a)
      bd := fun l h1 => by
        by_cases a : l = L
        · subst a; exact hb
        · exact h.bd l (hc l h1 a)
      mem := h.mem, mle := h.mle, glb := h.glb, mnew := h.mnew, keep := h.keep, frame := h.frame }
theorem RepW.relabel {S : St} {V : Vals} {M : Mem} {w : World} {L : Nat} (b : Nat) (k : Option Nat) (h : RepW E S V M w) (hL : S.get (bk L) = none) (hf : ∀ n c, S.get n = some c → ¬ CMent c L) (hk : L ∉ E.keep) : RepW E S (V.set L b k) M w := by
  have hn : ∀ l B, S.get (bk l) = some (.blk B) → l ≠ L := fun l B e he => by subst he; rw [hL] at e; cases e
  have hh : ∀ l, HasB (V.set L b k) S l → HasB V S l ∧ (V.set L b k).ρ l = V.ρ l := fun l ⟨⟨B, e⟩, hk⟩ => by
    have := V.set_ne b k (hn l B e)
    exact ⟨⟨⟨B, e⟩, by rw [← this.2]; exact hk⟩, this.1⟩
  exact
    { blks := fun l B e => (h.blks l B e).relab b k (hn l B e) (hf _ _ e) fun _ => rfl
      inj := fun l l' h1 h2 hne => by rw [(hh l h1).2, (hh l' h2).2]; exact h.inj l l' (hh l h1).1 (hh l' h2).1 hne
      sep := fun l h1 o => by rw [(hh l h1).2]; exact h.sep l (hh l h1).1 o
      fresh := fun l h1 => by rw [(hh l h1).2]; exact h.fresh l (hh l h1).1
      bd := fun l h1 => by rw [(hh l h1).2]; exact h.bd l (hh l h1).1
      mem := h.mem, mle := h.mle, glb := h.glb, mnew := h.mnew
      keep := fun l hl => by
        have := V.set_ne b k (fun e => hk (e ▸ hl) : l ≠ L)
        rw [this.1, this.2]; exact h.keep l hl
      frame := h.frame }

/-! A round, out of its body's walk. -/
def roundSlots (ps : List Tmp) (xs : List AV) (S : St) : St := (ps.zip xs).foldl (fun S p => (sl p.1, .av p.2) :: S) S
def slotsT : List (Nat × AV) → St
  | [] => []
  | p :: r => (sl p.1, .av p.2) :: slotsT r
theorem slotsT_bk (ts : List (Nat × AV)) (m : Nat) : (slotsT ts).get (bk m) = none := by
  induction ts with
  | nil => rfl
  | cons p r ih => simp only [slotsT]; rw [get_cons, if_neg (sl_ne_bk p.1 m)]; exact ih
theorem slotsT_mem {ts : List (Nat × AV)} {t : Nat} {x : AV} (h : (slotsT ts).get (sl t) = some (.av x)) : (t, x) ∈ ts := by
  induction ts with
  | nil => cases h
  | cons p r ih =>
    simp only [slotsT] at h
    rw [get_cons] at h
    by_cases hp : sl p.1 = sl t
    · rw [if_pos hp] at h
      injection h with h; injection h with h
      have := sl_inj hp
      subst this; subst h
      exact List.mem_cons_self ..
    · rw [if_neg hp] at h
      exact List.mem_cons_of_mem _ (ih h)
theorem roundSlots_bk : ∀ (ps : List Tmp) (xs : List AV) (S : St) (m : Nat), (roundSlots ps xs S).get (bk m) = S.get (bk m)
  | [], xs, S, m => rfl
  | p :: ps, [], S, m => rfl
  | p :: ps, x :: xs, S, m => by
    show (roundSlots ps xs ((sl p, .av x) :: S)).get (bk m) = _
    rw [roundSlots_bk ps xs _ m, get_cons, if_neg (sl_ne_bk p m)]
theorem roundSlots_den {V : Vals} {M : Mem} {nt : Nat} : ∀ (ps : List Tmp) (xs : List AV) (vs : List Value) (S : St) (tmps : Array Value), DenL V M xs vs → tmps.size = nt → (∀ p ∈ ps, p < nt) → (∀ t x, S.get (sl t) = some (.av x) → ∃ v, tmps[t]? = some v ∧ Den V M x v) →
    ((ps.zip vs).foldl (fun t (p : Tmp × Value) => t.setIfInBounds p.1 p.2) tmps).size = nt ∧
    ∀ t x, (roundSlots ps xs S).get (sl t) = some (.av x) → ∃ v, ((ps.zip vs).foldl (fun t (p : Tmp × Value) => t.setIfInBounds p.1 p.2) tmps)[t]? = some v ∧ Den V M x v
  | [], xs, vs, S, tmps, hd, hs, hp, h => ⟨hs, h⟩
  | p :: ps, [], vs, S, tmps, hd, hs, hp, h => by
    have : vs = [] := List.eq_nil_of_length_eq_zero (by rw [← hd.len]; rfl)
    subst this
    exact ⟨hs, h⟩
  | p :: ps, x :: xs, [], S, tmps, hd, hs, hp, h => absurd hd.len (by simp)
  | p :: ps, x :: xs, v :: vs, S, tmps, hd, hs, hp, h => by
    refine roundSlots_den ps xs vs ((sl p, .av x) :: S) (tmps.setIfInBounds p v) ⟨by have := hd.len; simpa using this, fun j a b ha hb => hd.at' (j + 1) a b (by simpa using ha) (by simpa using hb)⟩ (by simpa using hs) (fun q hq => hp q (by simp [hq])) ?_
    intro t y e
    rw [get_cons] at e
    by_cases ht : sl p = sl t
    · have := sl_inj ht
      subst this
      rw [if_pos rfl] at e
      injection e with e; injection e with e; subst e
      exact ⟨v, by simp [hs, hp p (by simp)], hd.at' 0 x v rfl rfl⟩
    · rw [if_neg ht] at e
      obtain ⟨u, hu, hdu⟩ := h t y e
      exact ⟨u, by rw [Array.getElem?_setIfInBounds_ne (fun e => ht (by rw [e]))]; exact hu, hdu⟩

def outOf : Exit → Option (Option Code)
  | .normal => some none
  | .ret => some (some .ret)
  | .exit id => some (some (.exit id))
  | .goto t => some (some (.goto t))
  | _ => none
abbrev LH.out (h : LH) (pe : Option Code) : LH := { h with st := if pe.isNone then .ready else .done, pe := pe }

theorem ySpec_of {L : Nat} {h : LH} {ts : List (Nat × AV)} {xs : List AV} {Cs Cs' S1 : St} {keep : List Nat} {pe : Option Code} (hst : h.st = .ready) (hx : xs.length = h.ps.size) (hps : h.ps.toList.all (fun p => Nat.blt p h.nt) = true)
    (hC : blocksOnly Cs = true) (hCL : allKeys (fun n => !Nat.beq n (bk L)) Cs = true) (hL : memB L keep = true) (hts : slotsWithin keep ts = true) (hCL' : allKeys (fun n => !Nat.beq n (bk L)) Cs' = true)
    (ha : ∀ (E : Env) (l : Nat), E.keep = keep → E.nt = h.nt → WPA P { round := some l } E h.assign (roundSlots h.ps.toList xs (slotsT ts ++ Cs)) fun e S' => e = .normal ∧ S1.le S')
    (hb : ∀ (E : Env) (l : Nat), E.keep = keep → E.nt = h.nt → WPA P { round := some l } E h.body S1 fun e S' => outOf e = some pe ∧ ∀ m B, Cs'.get (bk m) = some (.blk B) → S'.get (bk m) = some (.blk B)) :
    YSpec P L xs ((bk L, .blk (.lp h ts)) :: Cs) (.d (.v (.bool pe.isNone))) ((bk L, .blk (.lp (h.out pe) ts)) :: Cs') keep := by
  intro V M w passed vs hw hd
  have hLk : L ∈ keep := memB_iff.1 hL
  have hgL : St.get ((bk L, .blk (.lp h ts)) :: Cs) (bk L) = some (.blk (.lp h ts)) := by rw [get_cons, if_pos rfl]
  obtain ⟨hk, fn, tmps, d, hheap, hsz, htsd⟩ := hw.blks L _ hgL
  have hHL : HasB V ((bk L, .blk (.lp h ts)) :: Cs) L := ⟨⟨_, hgL⟩, hk⟩
  have hnoL : ∀ {T : St}, allKeys (fun n => !Nat.beq n (bk L)) T = true → T.get (bk L) = none := fun {T} hT => by
    cases hc : T.get (bk L) with
    | none => rfl
    | some c => have := allKeys_mem hT _ (St.mem_of_get hc); simp [nbeq] at this
  have hget : ∀ l B, Cs.get (bk l) = some (.blk B) → St.get ((bk L, .blk (.lp h ts)) :: Cs) (bk l) = some (.blk B) := fun l B e => by
    rw [get_cons]
    by_cases hl : bk L = bk l
    · rw [← hl, hnoL hCL] at e; cases e
    · rw [if_neg hl]; exact e
  have hHC : ∀ l, HasB V Cs l → HasB V ((bk L, .blk (.lp h ts)) :: Cs) l ∧ l ≠ L := fun l ⟨⟨B, e⟩, k⟩ => ⟨⟨⟨B, hget l B e⟩, k⟩, fun he => by subst he; rw [hnoL hCL] at e; cases e⟩
  have hwC : RepW (.of w passed M V keep 0) Cs V M w := hw.blks_only hget
  have hrl : V.ρ L < w.heap.size := hw.bd L hHL
  have hrp : V.ρ L ∈ passed := by
    rcases hw.fresh L hHL with h | h
    · have h : w.heap.size ≤ V.ρ L := h
      omega
    · exact h
  have hn0 : ∀ l, HasB V Cs l → V.ρ l ≠ V.ρ L := fun l hl => hw.inj l L (hHC l hl).1 hHL (hHC l hl).2
  have hM0 : ∀ o, M (V.ρ L) o = none := hw.sep L hHL
  have hpl : ∀ p ∈ h.ps.toList, p < h.nt := fun p hp => by
    have := List.all_eq_true.1 hps p hp
    exact Nat.le_of_ble_eq_true this
  have hvl : vs.length = h.ps.size := by rw [← hd.len]; exact hx
  obtain ⟨hz, hsl⟩ := roundSlots_den (V := V) (M := M) (nt := h.nt) h.ps.toList xs vs (slotsT ts ++ Cs) tmps hd hsz hpl (fun t x e => by
    rw [St.get_append] at e
    cases hg : (slotsT ts).get (sl t) with
    | some c =>
      rw [hg] at e
      injection e with e; subst e
      exact htsd _ (slotsT_mem hg)
    | none =>
      rw [hg] at e
      have := odd_of hC _ _ e
      unfold sl at this; omega)
  have hfold : (h.ps.zip vs.toArray).foldl (fun tmps (t, a) => tmps.setIfInBounds t a) tmps = (h.ps.toList.zip vs).foldl (fun t (p : Tmp × Value) => t.setIfInBounds p.1 p.2) tmps := by
    rw [← Array.foldl_toList]
    simp
  refine ⟨fn, _, h.assign, h.body, run_yield hheap (by simpa using hvl), roundIn_of_wpIn trivial ?_⟩
  simp only [hfold]
  generalize (h.ps.toList.zip vs).foldl (fun t (p : Tmp × Value) => t.setIfInBounds p.1 p.2) tmps = tmps0 at hz hsl
  have hb0 : RepW ((Env.of w passed M V keep h.nt).at_ Cs V M w []) (roundSlots h.ps.toList xs (slotsT ts ++ Cs)) V M w :=
    ((hwC.env (E' := Env.of w passed M V keep h.nt) rfl rfl rfl rfl rfl).base []).blks_only fun l B e => by
      rw [roundSlots_bk, St.get_append, slotsT_bk] at e; exact e
  have h1 := ha _ (V.ρ L) rfl rfl _ w (Rep.m (ro := { round := some (V.ρ L) }) ⟨V, M, ⟨hsl, hz, rfl⟩, hb0⟩ : RepM { round := some (V.ρ L) } ((Env.of w passed M V keep h.nt).at_ Cs V M w []) _ { tmps := tmps0, defers := [] } w)
  refine wpIn_mono h1 ?_
  rintro e a1 w1 (⟨S', ⟨rfl, hle⟩, hr1⟩ | ⟨x, hx, _⟩)
  case inr => cases hx
  obtain ⟨V1, M1, hA1, hW1⟩ := (hr1.plain rfl).weaken hle
  have hnp : V.ρ L ∉ livesOf V Cs := fun hm => by
    obtain ⟨l, hl, he⟩ := mem_lives.1 hm
    exact hn0 l hl he
  have hrec1 := (hW1.frame.block (V.ρ L) hrl hnp).trans hheap
  refine ⟨_, run_beginRound hrec1 hst, ?_⟩
  have hr1l : V.ρ L < w1.heap.size := (Array.getElem?_eq_some_iff.1 hrec1).1
  have hn1 : ∀ l, HasB V1 S1 l → V1.ρ l ≠ V.ρ L := fun l hl he => by
    rcases hW1.fresh l hl with h2 | h2
    · have h2 : w.heap.size ≤ V1.ρ l := h2
      omega
    · exact hnp (he ▸ h2)
  have hM1 : ∀ o, M1 (V.ρ L) o = none := fun o => by
    cases hc : M1 (V.ρ L) o with
    | none => rfl
    | some u =>
      rcases hW1.mnew (V.ρ L) o (by rw [hc]; simp) with h2 | h2 | h2
      · exact absurd (hM0 o) h2
      · have h2 : w.heap.size ≤ V.ρ L := h2
        omega
      · exact absurd h2 hnp
  obtain ⟨w2, hw2⟩ : ∃ x, w1.putObj (V.ρ L) (.loop { state := .busy, pending := h.pe, fn := fn, tmps := tmps, params := h.ps, assign := h.assign, body := h.body, defers := d }) = x := ⟨_, rfl⟩
  have hs2 : w2.heap.size = w1.heap.size := by rw [← hw2]; simp
  have hW2 : RepW (((Env.of w passed M V keep h.nt).at_ Cs V M w []).at_ S1 V1 M1 w2 []) S1 V1 M1 w2 := hw2 ▸ hW1.turned (WStep.put (.loop { state := .busy, pending := h.pe, fn := fn, tmps := tmps, params := h.ps, assign := h.assign, body := h.body, defers := d }) hr1l) hn1 hM1 []
  have h2 := hb (((Env.of w passed M V keep h.nt).at_ Cs V M w []).at_ S1 V1 M1 w2 []) (V.ρ L) rfl rfl a1 w2 (Rep.m (ro := { round := some (V.ρ L) }) ⟨V1, M1, ⟨hA1.slots, hA1.size, hA1.defers⟩, hW2⟩)
  show Code.wpIn _ 0 P h.body _ a1 (w1.putObj (V.ρ L) (.loop { state := .busy, pending := h.pe, fn := fn, tmps := tmps, params := h.ps, assign := h.assign, body := h.body, defers := d }))
  rw [hw2]
  refine wpIn_mono h2 ?_
  rintro e a2 w3 (⟨S', ⟨ho, hBs⟩, hr2⟩ | ⟨x, hx, _⟩)
  case inr => cases hx
  obtain ⟨V2, M2, hA2, hW3⟩ := hr2.plain rfl
  have hnp1 : V.ρ L ∉ livesOf V1 S1 := fun hm => by
    obtain ⟨l, hl, he⟩ := mem_lives.1 hm
    exact hn1 l hl he
  have hrec2 := (hW3.frame.block (V.ρ L) (by show _ < w2.heap.size; omega) hnp1).trans (hw2 ▸ World.putObj_heap_same hr1l)
  have hr3l : V.ρ L < w3.heap.size := (Array.getElem?_eq_some_iff.1 hrec2).1
  have hn2 : ∀ l, HasB V2 S' l → V2.ρ l ≠ V.ρ L := fun l hl he => by
    rcases hW3.fresh l hl with h2 | h2
    · have h2 : w2.heap.size ≤ V2.ρ l := h2
      omega
    · exact hnp1 (he ▸ h2)
  have hM2 : ∀ o, M2 (V.ρ L) o = none := fun o => by
    cases hc : M2 (V.ρ L) o with
    | none => rfl
    | some u =>
      rcases hW3.mnew (V.ρ L) o (by rw [hc]; simp) with h2 | h2 | h2
      · exact absurd (hM1 o) h2
      · have h2 : w2.heap.size ≤ V.ρ L := h2
        omega
      · exact absurd h2 hnp1
  -- what holds at the end
  have c1 : RepW (.of w passed M V keep 0) S1 V1 M1 w1 := hwC.comp hW1 rfl rfl rfl (fun _ h => h) fun b hb => mem_lives.1 hb
  have c2 : RepW (.of w passed M V keep 0) S1 V1 M1 w2 := hw2 ▸ c1.beside (WStep.put (.loop { state := .busy, pending := h.pe, fn := fn, tmps := tmps, params := h.ps, assign := h.assign, body := h.body, defers := d }) hr1l) hn1 hM1 (.inr hrp)
  have c3 : RepW (.of w passed M V keep 0) S' V2 M2 w3 := c2.comp hW3 rfl rfl rfl (fun _ h => h) fun b hb => mem_lives.1 hb
  have hk2 : ∀ l ∈ keep, V2.ρ l = V.ρ l ∧ V2.κ l = V.κ l := fun l hl => c3.keep l hl
  have fin : ∀ st, RepW (.of w passed M V keep 0) ((bk L, .blk (.lp { h with st := st, pe := pe } ts)) :: Cs') V2 M2 (w3.putObj (V.ρ L) (.loop { state := st, pending := pe, fn := fn, tmps := tmps, params := h.ps, assign := h.assign, body := h.body, defers := d })) := fun st => by
    have c4 := c3.beside (WStep.put (.loop { state := st, pending := pe, fn := fn, tmps := tmps, params := h.ps, assign := h.assign, body := h.body, defers := d }) hr3l) hn2 hM2 (.inr hrp)
    have eL := hk2 L hLk
    refine c4.add (L := L) (B := .lp { h with st := st, pe := pe } ts) (fun l C e hne => ?_) (fun C e => ?_) ?_ (fun l _ hl => by rw [eL.1]; exact hn2 l hl) (fun o => by rw [eL.1]; exact hM2 o) (.inr (by rw [eL.1]; exact hrp)) (by rw [eL.1]; simpa using hr3l)
    · rw [get_cons, if_neg (fun e => hne (by unfold bk at e; omega))] at e
      exact hBs l C e
    · rw [get_cons, if_pos rfl] at e
      injection e with e; injection e with e; exact e.symm
    · refine ⟨by rw [eL.2]; exact hk, fn, tmps, d, by rw [eL.1]; exact World.putObj_heap_same hr3l, hsz, fun p hp => ?_⟩
      obtain ⟨v, hv, hdv⟩ := htsd p hp
      exact ⟨v, hv, hdv.mono c4.mle fun l hl => hk2 l (within_ment hl (slotsWithin_mem hts hp))⟩
  have hend : ∀ jump, pe = jump → ∃ v w', (Instr.endRound (V.ρ L) jump).run P w3 = .ok v w' ∧ ∃ v1 V' M', Ending.returned v = .returned v1 ∧ Den V' M' (.d (.v (.bool pe.isNone))) v1 ∧ RepW (.of w passed M V keep 0) ((bk L, .blk (.lp (h.out pe) ts)) :: Cs') V' M' w' := fun jump hj => by
    subst hj
    exact ⟨_, _, run_endRound pe hrec2, _, V2, M2, rfl, .d _ _ (.v _), fin _⟩
  cases e with
  | normal => exact hend none (by simp only [outOf, Option.some.injEq] at ho; exact ho.symm)
  | ret => exact hend (some .ret) (by simp only [outOf, Option.some.injEq] at ho; exact ho.symm)
  | exit id => exact hend (some (.exit id)) (by simp only [outOf, Option.some.injEq] at ho; exact ho.symm)
  | goto t => exact hend (some (.goto t)) (by simp only [outOf, Option.some.injEq] at ho; exact ho.symm)
  | panic ch => simp [outOf] at ho
  | outgrown => simp [outOf] at ho

/-! The statement. -/
def jumpQ (Q : Exit → St → Prop) (S : St) : Option Code → Prop
  | none => Q .normal S
  | some .ret => Q .ret S
  | some (.exit id) => Q (.exit id) S
  | some (.goto t) => Q (.goto t) S
  | _ => False
inductive HaveTs (S : St) : List (Nat × AV) → Prop
  | nil : HaveTs S []
  | cons {t : Nat} {x : AV} {r : List (Nat × AV)} (h : S.get (sl t) = some (.av x)) (k : HaveTs S r) : HaveTs S ((t, x) :: r)
theorem HaveTs.mem {S : St} {ts : List (Nat × AV)} (h : HaveTs S ts) : ∀ p ∈ ts, S.get (sl p.1) = some (.av p.2) := by
  induction h with
  | nil => intro p hp; cases hp
  | cons h k ih =>
    intro p hp
    rcases List.mem_cons.1 hp with rfl | hp
    · exact h
    · exact ih p hp

theorem deferred_free {S : St} {V : Vals} {M : Mem} {w : World} (h : RepW E S V M w) {m : Nat} {x : Option (List Deferred)} (hm : w.heap[m]? = some (.deferred x)) : (∀ l, HasB V S l → V.ρ l ≠ m) ∧ ∀ o, M m o = none := by
  refine ⟨fun l ⟨⟨B, hB⟩, hk⟩ he => ?_, fun o => ?_⟩
  · have hblk := h.blks l B hB
    cases B with
    | cells cs => obtain ⟨_, vs, t, hh, _⟩ := hblk; rw [he, hm] at hh; cases hh
    | data ds => obtain ⟨_, vs, t, hh, _⟩ := hblk; rw [he, hm] at hh; cases hh
    | cols n len cs => obtain ⟨_, vs, t, hh, _⟩ := hblk; rw [he, hm] at hh; cases hh
    | app n len cs =>
      obtain ⟨_, _, hh⟩ := hblk
      split at hh
      · rename_i h; exact absurd h hk
      · obtain ⟨_, vs, t, hh, _⟩ := hh; rw [he, hm] at hh; cases hh
    | lp h' ts => obtain ⟨_, fn, tmps, d, hh, _⟩ := hblk; rw [he, hm] at hh; cases hh
    | appv cs =>
      have hblk : appvAt V M w l cs := hblk
      unfold appvAt at hblk
      split at hblk
      · rename_i h; exact absurd h hk
      · obtain ⟨_, vs, t, hh, _⟩ := hblk; rw [he, hm] at hh; cases hh
    | keys ks => obtain ⟨_, es, c, hh, _⟩ := hblk; rw [he, hm] at hh; cases hh
  · cases hc : M m o with
    | none => rfl
    | some u => have := h.mem m o u hc; simp [World.cell?, hm] at this

theorem WPA.rangeFuncH {g : Operand} {ps : Array Tmp} {assign body : Code} {Q : Exit → St → Prop} {L gf nt : Nat} {cs : List AV} {ts ts' : List (Nat × AV)} {res : AV} {Bs Bs' : St} {keep new ds : List Nat} {pe : Option Code} {st : LoopState}
    (hro : ro.round = none) (hma : ro.marks = true) (hg : evalA S g = some (.fn gf cs)) (he : enterOK P gf = true) (hts : HaveTs S ts) (hnt : E.nt = nt)
    (hLS : S.get (bk L) = none) (hLf : freshB ⟨[], S, [], [L]⟩ S = true) (hLk : L ∉ E.keep) (hst : st ≠ .busy)
    (hs : FnSpec P gf (.yld L :: cs) ((bk L, .blk (.lp ⟨.ready, none, ps, assign, body, nt⟩ ts)) :: Bs) res ((bk L, .blk (.lp ⟨st, pe, ps, assign, body, nt⟩ ts')) :: Bs') keep)
    (hH : HandedN ((bk L, .blk (.lp ⟨.ready, none, ps, assign, body, nt⟩ ts)) :: S) ((bk L, .blk (.lp ⟨.ready, none, ps, assign, body, nt⟩ ts)) :: Bs) ((bk L, .blk (.lp ⟨st, pe, ps, assign, body, nt⟩ ts')) :: Bs') keep new (bk L :: ds))
    (hLk2 : memB L keep = true) (hBL : allKeys (fun n => !Nat.beq n (bk L)) Bs' = true)
    (hnew : freshB ⟨[], S, postN (bk L :: ds) Bs', new⟩ S = true) (hnk : ∀ l ∈ new, l ∉ E.keep)
    (hq : jumpQ Q (Bs' ++ St.dels ds S) pe) : WPA P ro E (.rangeFunc g ps assign body) S Q := by
  intro a w hr
  obtain ⟨ms, h0, h1, ⟨hnd, h2⟩, V, M, ha, hw⟩ := hr
  have hnoB : Bs'.get (bk L) = none := by
    cases hc : Bs'.get (bk L) with
    | none => rfl
    | some c => have := allKeys_mem hBL _ (St.mem_of_get hc); simp [nbeq] at this
  refine wpIn_rangeFunc ?_
  intro fn _
  have hro' : (FW ro).round = none := hro
  rw [hro']
  have hden := den_eval (fun s y _ h => ha.slots s y h) hg
  have hev : Act.eval { a with defers := E.dfs } g = a.eval g := by cases g <;> rfl
  rw [hev] at hden
  generalize hgv : a.eval g = gv at hden
  cases hden with
  | fn _ _ vs hlen hcs =>
    -- the two blocks
    have hwa : RepW E S V M (w.alloc (.deferred (some []))) := hw.beside (WStep.alloc w _) (fun l hl e => by have := hw.bd l hl; omega) (fun o => by
      cases hc : M w.heap.size o with
      | none => rfl
      | some u => have := hw.mem _ _ _ hc; simp [World.cell?] at this) (.inl hw.frame.size)
    obtain ⟨wa, hwae⟩ : ∃ x, w.alloc (.deferred (some [])) = x := ⟨_, rfl⟩
    have hwsz : wa.heap.size = w.heap.size + 1 := by rw [← hwae]; simp
    have hD0 : wa.heap[w.heap.size]? = some (.deferred (some [])) := by rw [← hwae]; exact World.alloc_heap_new w _
    have hDm : ∀ m ∈ ms, wa.heap[m]? = some (.deferred (some [])) := fun m hm => by
      have := (h2 m hm).2
      rw [← hwae]
      exact ((WStep.alloc w _).other m (fun e => by have := (Array.getElem?_eq_some_iff.1 this).1; omega) (Array.getElem?_eq_some_iff.1 this).1).trans this
    rw [hwae] at hwa
    have hfL : ∀ n c, S.get n = some c → ¬ CMent c L := fun n c e => fresh_of hLf L (by simp) n c e (by simp [Ax.names])
    let V1 := V.set L (w.heap.size + 1) (some 0)
    have hwb : RepW E S V1 M wa := hwa.relabel _ _ hLS hfL hLk
    have hnoM : ∀ o, M (w.heap.size + 1) o = none := fun o => by
      cases hc : M (w.heap.size + 1) o with
      | none => rfl
      | some u => have := hwa.mem _ _ _ hc; simp [World.cell?, ← hwsz] at this
    let rec_ : Loop := { state := .ready, pending := none, fn := fn, tmps := a.tmps, params := ps, assign := assign, body := body, defers := w.heap.size }
    have hstep : WStep wa (wa.alloc (.loop rec_)) (w.heap.size + 1) := by rw [← hwsz]; exact WStep.alloc wa _
    have hnl : ∀ l, HasB V1 S l → V1.ρ l ≠ w.heap.size + 1 := fun l hl e => by have := hwb.bd l hl; omega
    have hwc : RepW E S V1 M (wa.alloc (.loop rec_)) := hwb.beside hstep hnl hnoM (.inl (by have := hw.frame.size; omega))
    have hloop : (wa.alloc (.loop rec_)).heap[w.heap.size + 1]? = some (.loop rec_) := by rw [← hwsz]; exact World.alloc_heap_new wa _
    obtain ⟨w1, hw1⟩ : ∃ x, wa.alloc (.loop rec_) = x := ⟨_, rfl⟩
    rw [hw1] at hwc hloop hstep
    have hV1L : V1.ρ L = w.heap.size + 1 := by simp [V1]
    have hVne : ∀ l, l ≠ L → V1.ρ l = V.ρ l ∧ V1.κ l = V.κ l := fun l hl => V.set_ne _ _ hl
    have hwS : RepW E ((bk L, .blk (.lp ⟨.ready, none, ps, assign, body, nt⟩ ts)) :: S) V1 M w1 := by
      refine hwc.add (L := L) (B := .lp ⟨.ready, none, ps, assign, body, nt⟩ ts) (fun l C e hne => ?_) (fun C e => ?_) ?_ (fun l _ hl => by rw [hV1L]; exact hnl l hl) (fun o => by rw [hV1L]; exact hnoM o) (.inl (by rw [hV1L]; have := hw.frame.size; omega)) (by rw [hV1L]; exact hstep.lt)
      · rw [get_cons, if_neg (fun e => hne (by unfold bk at e; omega))] at e; exact e
      · rw [get_cons, if_pos rfl] at e
        injection e with e; injection e with e; exact e.symm
      · refine ⟨by simp [V1], fn, a.tmps, w.heap.size, by rw [hV1L]; exact hloop, ha.size.trans hnt, fun p hp => ?_⟩
        have hget := hts.mem p hp
        obtain ⟨v, hv', hdv⟩ := ha.slots _ _ hget
        exact ⟨v, hv', hdv.mono (Mem.le_refl M) fun l hl => hVne l fun e => hfL _ _ hget (e ▸ hl)⟩
    have haS : RepA E ((bk L, .blk (.lp ⟨.ready, none, ps, assign, body, nt⟩ ts)) :: S) V1 M { a with defers := E.dfs } := by
      refine ⟨fun t x e => ?_, ha.size, rfl⟩
      rw [get_cons, if_neg (Ne.symm (sl_ne_bk t L))] at e
      obtain ⟨v, hv', hdv⟩ := ha.slots t x e
      exact ⟨v, hv', hdv.mono (Mem.le_refl M) fun l hl => hVne l fun e' => hfL _ _ e (e' ▸ hl)⟩
    have hargs : DenL V1 M (.yld L :: cs) (.func (.yield (w.heap.size + 1)) #[] #[] :: vs) := ⟨by simp [hlen], fun j x y hx hy => by
      cases j with
      | zero =>
        simp only [List.getElem?_cons_zero, Option.some.injEq] at hx hy
        subst hx; subst hy
        rw [← hV1L]; exact .yld L
      | succ j =>
        simp only [List.getElem?_cons_succ] at hx hy
        refine (hcs j x y hx hy).mono (Mem.le_refl M) fun l hl => hVne l fun e => ?_
        have hmf : Ment (.fn gf cs) L := .fn gf cs x L (List.mem_of_getElem? hx) (e ▸ hl)
        cases g with
        | tmp t =>
          simp only [evalA] at hg
          split at hg
          · rename_i z hz
            injection hg with hg; subst hg
            exact hfL _ _ hz hmf
          · cases hg
        | const v => simp only [evalA, Option.some.injEq] at hg; cases hg
        | func f => simp only [evalA, Option.some.injEq, AV.fn.injEq] at hg; rw [← hg.2] at hx; simp at hx
        | global k => simp only [evalA, Option.some.injEq] at hg; cases hg⟩
    refine ⟨w.heap.size + 1, [{ target := .collected w.heap.size, args := #[] }], w1, { target := .fn (.func gf) vs.toArray, args := #[.func (.yield (w.heap.size + 1)) #[] #[]] }, w1, gf, #[.func (.yield (w.heap.size + 1)) #[] #[]] ++ vs.toArray, w1, ?_, ?_, ?_, ?_, fw_depth ro 0, ?_⟩
    · rw [← hw1, ← hwae]; exact run_enterLoop_outer _ _ _ _ _
    · simp only [resolve, hgv]
      simp [Deferred.ofValue, Sem.run_bind, Sem.run_pure, Result.andThen, Act.eval]
    · intro f' hf'; trivial
    · show (callFunc gf (#[.func (.yield (w.heap.size + 1)) #[] #[]] ++ vs.toArray)).run P w1 = _
      exact run_callFunc he _ _
    have hcall := hs V1 M w1 _ _ (handed_pre hwS hH) hargs
    have hta : (Value.func (.yield (w.heap.size + 1)) #[] #[] :: vs).toArray = #[.func (.yield (w.heap.size + 1)) #[] #[]] ++ vs.toArray := by simp
    rw [hta] at hcall
    refine callsIn_fw (hcall.mono ?_)
    rintro e w' ⟨v, V', M', rfl, _, hw'⟩
    -- behind the iterator
    have hkeep := hw'.keep L (memB_iff.1 hLk2)
    obtain ⟨_, fn', tmps', d', hrec, _⟩ := hw'.blks L (.lp ⟨st, pe, ps, assign, body, nt⟩ ts') (by rw [get_cons, if_pos rfl])
    have hρ' : V'.ρ L = w.heap.size + 1 := hkeep.1.trans hV1L
    rw [hρ'] at hrec
    obtain ⟨Vn, hA, hW, hVn⟩ := called_rep haS hwS hH (fun l hl n c hc h3 h4 => by
      by_cases hn : n = bk L
      · subst hn; simp at h4
      · rw [get_cons, if_neg (Ne.symm hn)] at hc
        refine fresh_of hnew l hl n c hc fun hm => ?_
        simp only [Ax.names, postN, somes_eq, delsOf, List.map_append, List.map_map, List.map_reverse, List.mem_append, List.mem_map, List.mem_reverse, Function.comp] at hm
        rcases hm with ⟨y, hy, rfl⟩ | ⟨y, hy, rfl⟩
        · exact h3 hy
        · exact h4 (by simp only [List.map_cons, List.mem_cons, List.mem_map]; exact .inr ⟨y, hy, rfl⟩)) hnk hw'
    have hVL : Vn.ρ L = w.heap.size + 1 := (hVn L (by simp [memB_iff.1 hLk2])).1.trans hρ'
    have hgT : (St.upd ((bk L, .blk (.lp ⟨.ready, none, ps, assign, body, nt⟩ ts)) :: S) (postN (bk L :: ds) ((bk L, .blk (.lp ⟨st, pe, ps, assign, body, nt⟩ ts')) :: Bs'))).get (bk L) = some (.blk (.lp ⟨st, pe, ps, assign, body, nt⟩ ts')) := by
      rw [get_postN, get_cons, if_pos rfl]
    have hle : St.le (Bs' ++ St.dels ds S) (St.upd ((bk L, .blk (.lp ⟨.ready, none, ps, assign, body, nt⟩ ts)) :: S) (postN (bk L :: ds) ((bk L, .blk (.lp ⟨st, pe, ps, assign, body, nt⟩ ts')) :: Bs'))) := by
      intro n c e
      rw [St.get_append, get_dels] at e
      rw [get_postN, get_cons]
      by_cases hn : bk L = n
      · subst hn
        rw [hnoB] at e
        simp only [hLS, ite_self] at e
        cases e
      · rw [if_neg hn]
        cases hb : Bs'.get n with
        | some c' => rw [hb] at e; exact e
        | none =>
          rw [hb] at e
          simp only at e ⊢
          by_cases hd : n ∈ ds
          · rw [if_pos hd] at e; cases e
          · rw [if_neg hd] at e
            rw [if_neg (by simp [hd, Ne.symm hn]), get_cons, if_neg hn]; exact e
    have hrl : w.heap.size + 1 < w'.heap.size := (Array.getElem?_eq_some_iff.1 hrec).1
    have hLin : HasB Vn (St.upd ((bk L, .blk (.lp ⟨.ready, none, ps, assign, body, nt⟩ ts)) :: S) (postN (bk L :: ds) ((bk L, .blk (.lp ⟨st, pe, ps, assign, body, nt⟩ ts')) :: Bs'))) L := ⟨⟨_, hgT⟩, by rw [(hVn L (by simp [memB_iff.1 hLk2])).2, hkeep.2]; show V1.κ L ≠ none; simp [V1]⟩
    have hnL : ∀ l, HasB Vn (Bs' ++ St.dels ds S) l → Vn.ρ l ≠ w.heap.size + 1 := fun l hl he => by
      have hlL : l ≠ L := fun e => by
        subst e
        obtain ⟨⟨B, hB⟩, _⟩ := hl
        rw [St.get_append, hnoB, get_dels, hLS] at hB
        simp at hB
      exact hW.inj l L (hl.weaken hle) hLin hlL (he.trans hVL.symm)
    have hWf := (hW.weaken hle).beside (WStep.put (.loop { state := .exhausted, pending := pe, fn := fn', tmps := tmps', params := ps, assign := assign, body := body, defers := d' }) hrl) hnL (fun o => by rw [← hVL]; exact hW.sep L hLin o) (.inl (by have := hw.frame.size; omega))
    have hmark : ∀ m ∈ w.heap.size :: ms, E.w0.heap.size ≤ m ∧ (w'.putObj (w.heap.size + 1) (.loop { state := .exhausted, pending := pe, fn := fn', tmps := tmps', params := ps, assign := assign, body := body, defers := d' })).heap[m]? = some (.deferred (some [])) := by
      intro m hm
      have hma : wa.heap[m]? = some (.deferred (some [])) := by
        rcases List.mem_cons.1 hm with rfl | hm
        · exact hD0
        · exact hDm m hm
      have hml := (Array.getElem?_eq_some_iff.1 hma).1
      have hm1 : w1.heap[m]? = some (.deferred (some [])) := (hstep.other m (by omega) hml).trans hma
      have hml1 := (Array.getElem?_eq_some_iff.1 hm1).1
      refine ⟨?_, ?_⟩
      · rcases List.mem_cons.1 hm with rfl | hm
        · exact hw.frame.size
        · exact (h2 m hm).1
      · rw [World.putObj_heap_other (by omega)]
        refine (hw'.frame.block m hml1 fun hp => ?_).trans hm1
        obtain ⟨l, hl, _, _, he⟩ := passed_has hH _ hp
        exact (deferred_free hwS hm1).1 l hl he
    have hRM : RepM ro E (Bs' ++ St.dels ds S) { a with defers := [{ target := .collected w.heap.size, args := #[] }] ++ a.defers } (w'.putObj (w.heap.size + 1) (.loop { state := .exhausted, pending := pe, fn := fn', tmps := tmps', params := ps, assign := assign, body := body, defers := d' })) := by
      refine ⟨w.heap.size :: ms, (fun h => by rw [hma] at h; cases h), by simp [h1], ⟨List.nodup_cons.2 ⟨fun hm => ?_, hnd⟩, hmark⟩, Vn, M', hA.weaken hle, hWf⟩
      have := (Array.getElem?_eq_some_iff.1 (h2 _ hm).2).1
      omega
    refine ⟨pe, _, run_endLoop hrec hst, ?_⟩
    cases pe with
    | none => exact .inl ⟨_, hq, hRM⟩
    | some c =>
      cases c with
      | ret => exact wpIn_ret (.inl ⟨_, hq, hRM⟩)
      | exit id => exact wpIn_exit (.inl ⟨_, hq, hRM⟩)
      | goto t => exact wpIn_goto (.inl ⟨_, hq, hRM⟩)
      | _ => exact hq.elim
theorem WPA.rangeFunc {g : Operand} {ps : Array Tmp} {assign body : Code} {Q : Exit → St → Prop} {L gf nt : Nat} {cs : List AV} {ts ts' : List (Nat × AV)} {res : AV} {Bs Bs' : St} {keep new ds : List Nat} {pe : Option Code} {st : LoopState}
    (hro : ro.round = none) (hma : ro.marks = true) (hg : evalA S g = some (.fn gf cs)) (he : enterOK P gf = true) (hts : HaveTs S ts) (hnt : E.nt = nt)
    (hLS : S.get (bk L) = none) (hLf : freshB ⟨[], S, [], [L]⟩ S = true) (hLk : L ∉ E.keep) (hst : st ≠ .busy)
    (hs : FnSpec P gf (.yld L :: cs) ((bk L, .blk (.lp ⟨.ready, none, ps, assign, body, nt⟩ ts)) :: Bs) res ((bk L, .blk (.lp ⟨st, pe, ps, assign, body, nt⟩ ts')) :: Bs') keep)
    (hv : Haves ((bk L, .blk (.lp ⟨.ready, none, ps, assign, body, nt⟩ ts)) :: S) ((bk L, .blk (.lp ⟨.ready, none, ps, assign, body, nt⟩ ts)) :: Bs))
    (hh : handedB ((bk L, .blk (.lp ⟨.ready, none, ps, assign, body, nt⟩ ts)) :: S) ((bk L, .blk (.lp ⟨.ready, none, ps, assign, body, nt⟩ ts)) :: Bs) ((bk L, .blk (.lp ⟨st, pe, ps, assign, body, nt⟩ ts')) :: Bs') (.d (.v .nilFunc)) keep new (bk L :: ds) = true)
    (hLk2 : memB L keep = true) (hBL : allKeys (fun n => !Nat.beq n (bk L)) Bs' = true)
    (hnew : freshB ⟨[], S, postN (bk L :: ds) Bs', new⟩ S = true) (hnk : ∀ l ∈ new, l ∉ E.keep)
    (hq : jumpQ Q (Bs' ++ St.dels ds S) pe) : WPA P ro E (.rangeFunc g ps assign body) S Q :=
  WPA.rangeFuncH hro hma hg he hts hnt hLS hLf hLk hst hs (handed_of hv hh).n hLk2 hBL hnew hnk hq

/-! A function that holds such a statement. -/
theorem leaves_marks {fn : Func} {tmps : Array Value} {R : Ending → World → Prop} {S : St} {V : Vals} {M : Mem} : ∀ (ms : List Nat) (w : World), ms.Nodup → (∀ m ∈ ms, E.w0.heap.size ≤ m ∧ w.heap[m]? = some (.deferred (some []))) → RepW E S V M w →
    (∀ w', RepW E S V M w' → ∃ v, (results fn tmps).run P w' = .ok v w' ∧ R (.returned v) w') → LeavesInM Fence.wide 0 P fn tmps R (ms.map mark) .returning w
  | [], w, _, _, hw, h => h w hw
  | m :: ms, w, hnd, hm, hw, h => by
    have hm0 := hm m (by simp)
    obtain ⟨hf1, hf2⟩ := deferred_free hw hm0.2
    have hml := (Array.getElem?_eq_some_iff.1 hm0.2).1
    refine ⟨by simp, .inl ⟨m, _, rfl, run_takeDeferred hm0.2, leaves_marks ms _ (List.nodup_cons.1 hnd).2 (fun k hk => ?_) (hw.beside (WStep.put _ hml) hf1 hf2 (.inl hm0.1)) h⟩⟩
    refine ⟨(hm k (by simp [hk])).1, ?_⟩
    have hne : k ≠ m := fun e => (List.nodup_cons.1 hnd).1 (e ▸ hk)
    rw [World.putObj_heap_other hne]
    exact (hm k (by simp [hk])).2

theorem fnSpec_of_marks {f : FuncId} {fn : Func} {c : Code} {args : List AV} {Bs Bs' : St} {res : AV} {keep : List Nat} {rs : List ResultVar} (hf : P.funcs[f]? = some fn) (hb : fn.body = some c) (hrs : fn.results = rs.toArray)
    (hn : args.length ≤ fn.ntmps) (hBs : ∀ n c, Bs.get n = some c → n % 2 = 1)
    (h : ∀ E : Env, E.keep = keep → E.nt = fn.ntmps → WPA P { marks := true } E c (slotsOf 0 args ++ Bs) fun e S' => (e = .normal ∨ e = .ret) ∧ (∃ xs, ResVars P S' rs xs ∧ res = resOf xs) ∧ ∀ l B, Bs'.get (bk l) = some (.blk B) → S'.get (bk l) = some (.blk B)) :
    FnSpec P f args Bs res Bs' keep := by
  intro V M w passed vs hw hd
  refine (callsIn_wide (n := 0)).1 (callsIn_of_wp_marks hf hb trivial ?_ rfl)
  have hrep := rep_enter fn.ntmps hn hBs hw hd
  have := h (.of w passed M V keep fn.ntmps) rfl rfl _ w hrep.m
  refine wpIn_mono this ?_
  rintro e a w' (⟨S', ⟨he, ⟨xs, hxs, rfl⟩, hbs'⟩, hrm⟩ | ⟨x, hp, _⟩)
  case inr => cases hp
  obtain ⟨ms, _, hdef, ⟨hnd, hms⟩, V', M', ha', hw'⟩ := hrm
  have hdef : a.defers = ms.map mark := by simpa using hdef
  have key : LeavesInM Fence.wide 0 P fn a.tmps (fun e w' => ∃ v V' M', e = .returned v ∧ Den V' M' (resOf xs) v ∧ RepW (.of w passed M V keep 0) Bs' V' M' w') a.defers .returning w' := by
    rw [hdef]
    refine leaves_marks ms w' hnd hms hw' fun w2 hw2 => ?_
    obtain ⟨v, hv, hdv⟩ := results_run ha' hw2 hrs hxs
    exact ⟨v, hv, v, V', M', rfl, hdv, (hw2.env (E' := (.of w passed M V keep 0)) rfl rfl rfl rfl rfl).blks_only hbs'⟩
  rcases he with rfl | rfl
  · exact key
  · exact key

end Go.Proofs.YtmdfamnnnoieaaaDoor

/- Arguments that are read as data: their cells, by their types; what holds behind a call that turns nothing. No program in sight. -/
namespace Go.Proofs.YtmdfamnnnoieaaaDoor
open Go Go.WideShapes Go.ChangeShapes Go.RowKit
set_option linter.unusedVariables false
set_option linter.unusedSimpArgs false
variable {P : Program}

/-- Cells of plain data of a type. -/
inductive Typed (P : Program) : TypeId → List D → Prop
  | int {t : TypeId} {k : IntKind} {n : Int} (hu : P.underlying t = some (.int k)) (h : k.min ≤ n ∧ n ≤ k.max) : Typed P t [.v (.int k n)]
  | bool {t : TypeId} {b : Bool} (hu : P.underlying t = some .bool) : Typed P t [.v (.bool b)]
  | str {t : TypeId} {s : ByteArray} (hu : P.underlying t = some .string) (hs : s.size ≤ 140737488351232) : Typed P t [.v (.string s)]
  | slice {t e : TypeId} {ls : List (List D)} (hu : P.underlying t = some (.slice e)) (hl : ls.length * P.bytesOf e ≤ 140737488351232) (h : ∀ l ∈ ls, Typed P e l) : Typed P t [.rows (P.cellsOf e) ls.length (fun i => ls.getD i [])]
  | struct {t : TypeId} {fs : Array Field} {l : List D} (hu : P.underlying t = some (.struct fs)) (hl : l.length = P.cellsOf t) (h : ∀ (i : Nat) (f : Field), fs[i]? = some f → Typed P f.type ((l.drop f.offset).take (P.cellsOf f.type))) : Typed P t l
  | array {t e : TypeId} {n : Nat} {l : List D} (hu : P.underlying t = some (.array n e)) (hl : l.length = P.cellsOf t) (h : ∀ i, i < n → Typed P e ((l.drop (i * P.cellsOf e)).take (P.cellsOf e))) : Typed P t l

structure DenLD (M : Mem) (l : List D) (cs : List Value) : Prop where
  len : l.length = cs.length
  at' : ∀ (j : Nat) (x : D) (y : Value), l[j]? = some x → cs[j]? = some y → DenD M x y

theorem cells_read {w : World} {base : Nat} {a : Addr} {n : Nat} {cs : List Value} (h : w.cells? base a n = some cs) : cs.length = n ∧ ∀ j, j < n → w.cell? (a.add j) = cs[j]? := by
  unfold World.cells? at h
  split at h
  · exact ⟨by simpa using mapM_some_length h, fun j hj => mapM_some_get h j j (by simp [hj])⟩
  · cases h

/-- Parts, one behind the other. -/
theorem assemble {M : Mem} {cs : List Value} {T : TypeId → List D → Prop} : ∀ (segs : List (TypeId × Nat)) (off : Nat), off + (segs.map (·.2)).sum ≤ cs.length →
    (∀ (j : Nat) (x : TypeId × Nat), segs[j]? = some x → ∃ l, T x.1 l ∧ DenLD M l ((cs.drop (off + ((segs.take j).map (·.2)).sum)).take x.2)) →
    ∃ L : List D, L.length = (segs.map (·.2)).sum ∧ DenLD M L ((cs.drop off).take (segs.map (·.2)).sum) ∧ ∀ (j : Nat) (x : TypeId × Nat), segs[j]? = some x → T x.1 ((L.drop ((segs.take j).map (·.2)).sum).take x.2)
  | [], off, _, _ => ⟨[], rfl, ⟨by simp, fun j x y hx => by simp at hx⟩, fun j x hx => by simp at hx⟩
  | s :: r, off, hle, h => by
    simp only [List.map_cons, List.sum_cons] at hle
    obtain ⟨l, hl, hd⟩ := h 0 s rfl
    simp only [List.take_zero, List.map_nil, List.sum_nil, Nat.add_zero] at hd
    obtain ⟨L, h1, h2, h3⟩ := assemble (M := M) (cs := cs) (T := T) r (off + s.2) (by omega) (fun j x hx => by
      obtain ⟨l', h', hd'⟩ := h (j + 1) x (by simpa using hx)
      refine ⟨l', h', ?_⟩
      simp only [List.take_succ_cons, List.map_cons, List.sum_cons] at hd'
      rwa [show off + (s.2 + ((r.take j).map (·.2)).sum) = off + s.2 + ((r.take j).map (·.2)).sum by omega] at hd')
    have hll : l.length = s.2 := by have := hd.len; simp at this; omega
    refine ⟨l ++ L, by simp [hll, h1], ⟨by simp [hll, h1]; omega, fun j x y hx hy => ?_⟩, fun j x hx => ?_⟩
    · simp only [List.map_cons, List.sum_cons] at hy
      by_cases hj : j < l.length
      · rw [List.getElem?_append_left hj] at hx
        refine hd.at' j x y hx ?_
        rw [List.getElem?_take_of_lt (by omega)] at hy ⊢
        exact hy
      · rw [List.getElem?_append_right (by omega)] at hx
        have hjL : j - l.length < L.length := (List.getElem?_eq_some_iff.1 hx).1
        refine h2.at' (j - l.length) x y hx ?_
        rw [List.getElem?_take_of_lt (by omega)] at hy ⊢
        rw [List.getElem?_drop] at hy ⊢
        rw [← hy]
        congr 1
        omega
    · cases j with
      | zero =>
        simp at hx
        subst hx
        simp only [List.take_zero, List.map_nil, List.sum_nil, List.drop_zero]
        rw [← hll, List.take_left']
        · exact hl
        · rfl
      | succ j =>
        simp only [List.getElem?_cons_succ] at hx
        simp only [List.take_succ_cons, List.map_cons, List.sum_cons]
        have e : (l ++ L).drop (s.2 + ((r.take j).map (·.2)).sum) = L.drop ((r.take j).map (·.2)).sum := by
          rw [← hll, ← List.drop_drop, List.drop_left']
          rfl
        rw [e]
        exact h3 j x hx

/-- A list of types that is closed: each one plain, its parts among them. -/
def plainB (P : Program) (ts : List TypeId) : Bool := ts.all fun t => match P.underlying t with
  | some (.int _) | some .bool | some .string => true
  | some (.slice e) => memB e ts && Nat.blt 0 (P.cellsOf e)
  | some (.struct fs) => fs.toList.all fun f => memB f.type ts
  | some (.array _ e) => memB e ts
  | _ => false

/-- All of memory as it stands. -/
def memOf (w : World) : Mem := fun b o => w.cell? ⟨b, o, none⟩

theorem weightsAll_sub {H : Type} {e : TypeId} : ∀ {l : List (DataW H)} {d : DataW H}, d ∈ l → ∀ n ∈ d.weights P e, n ∈ DataW.weightsAll P e l
  | x :: r, d, hd, n, hn => by
    simp only [DataW.weightsAll, List.mem_append]
    rcases List.mem_cons.1 hd with rfl | hd
    · exact .inl hn
    · exact .inr (weightsAll_sub hd n hn)
theorem weightsEach_sub {H : Type} : ∀ {ts : List TypeId} {ds : List (DataW H)} {j : Nat} {t : TypeId} {d : DataW H}, ts[j]? = some t → ds[j]? = some d → ∀ n ∈ d.weights P t, n ∈ DataW.weightsEach P ts ds :=
  fun ht hd => DataW.weights_mem_each ht hd

theorem wf_int {k : IntKind} {n : Int} (h : (Lit.int k n).wf = true) : k.min ≤ n ∧ n ≤ k.max := by
  simpa [Lit.wf] using h

theorem typed_of {H : Type} {enc : TypeId × Value → H} {w : World} {base : Nat} {spare : Nat → Bool} {held : Bool} {ts : List TypeId} (hp : plainB P ts = true) (hl : laidOutB P = true) (hlt : ∀ t ∈ ts, t < P.types.size) :
    ∀ (fuel : Nat) (t : TypeId) (cs : List Value) (x : DataW H × List MemPlace), t ∈ ts → DataW.trod enc P w base spare held fuel t cs = some x → (∀ n ∈ x.1.weights P t, n ≤ reachBytes) →
      ∃ l, Typed P t l ∧ DenLD (memOf w) l cs := by
  have hpl : ∀ t ∈ ts, (match P.underlying t with
      | some (.int _) | some .bool | some .string => true
      | some (.slice e) => memB e ts && Nat.blt 0 (P.cellsOf e)
      | some (.struct fs) => fs.toList.all fun f => memB f.type ts
      | some (.array _ e) => memB e ts
      | _ => false) = true := List.all_eq_true.1 hp
  have one : ∀ {x : D} {y : Value}, DenD (memOf w) x y → DenLD (memOf w) [x] [y] := fun h => ⟨rfl, fun j x' y' hx hy => by
    cases j with
    | zero => simp at hx hy; subst hx; subst hy; exact h
    | succ j => simp at hx⟩
  intro fuel
  induction fuel with
  | zero => intro t cs x _ h; simp [DataW.trod] at h
  | succ fuel ih =>
    intro t cs x ht h hw
    have hpt := hpl t ht
    cases hu : P.underlying t with
    | none => rw [hu] at hpt; cases hpt
    | some k =>
      rw [hu] at hpt
      cases k with
      | int k =>
        obtain ⟨n, rfl, _, hwf⟩ := DataW.trod_int hu h
        exact ⟨_, .int hu (wf_int hwf), one (.v _)⟩
      | bool =>
        obtain ⟨b, rfl, _⟩ := DataW.trod_bool hu h
        exact ⟨_, .bool hu, one (.v _)⟩
      | string =>
        obtain ⟨s, rfl, rfl, _⟩ := DataW.trod_string hu h
        refine ⟨_, .str hu ?_, one (.v _)⟩
        have := hw s.data.toList.length (by simp [DataW.weights])
        have e : s.data.toList.length = s.size := by rw [Array.length_toList]; rfl
        rw [e] at this
        exact this
      | slice e =>
        simp only [Bool.and_eq_true] at hpt
        have he : e ∈ ts := memB_iff.1 hpt.1
        have hby : 0 < P.cellsOf e := Nat.le_of_ble_eq_true hpt.2
        rcases DataW.trod_slice hu h with ⟨rfl, rfl⟩ | ⟨a, len, cap, elems, rest, n, hn, rfl, rfl, hba, hlc, hcm, hel, hat, _, _⟩
        · exact ⟨_, .slice (ls := []) hu (by simp) (by simp), one (.emp _ _ _ _)⟩
        · have hfn : fuel = n := by omega
          subst hfn
          have hwm : ∀ m ∈ (elems.length + rest.length) * P.bytesOf e :: (DataW.weightsAll P e (elems.map (·.1)) ++ DataW.weightsAll P e (rest.map (·.1))), m ≤ reachBytes := by
            intro m hm
            apply hw m
            simp only [DataW.weights, hu]
            simpa using hm
          have hread : ∀ i, i < len → ∃ l, Typed P e l ∧ ∃ cs', w.cells? base (a.add (i * P.cellsOf e)) (P.cellsOf e) = some cs' ∧ DenLD (memOf w) l cs' := fun i hi => by
            have h1 := hat i hi
            have hie : i < elems.length := by omega
            rw [List.getElem?_eq_getElem hie] at h1
            obtain ⟨cs', hc', ht'⟩ := Option.bind_eq_some_iff.1 h1
            obtain ⟨l, hl1, hl2⟩ := ih e cs' elems[i] he ht' (fun m hm => hwm m (by
              simp only [List.mem_cons, List.mem_append]
              exact .inr (.inl (weightsAll_sub (List.mem_map.2 ⟨elems[i], List.getElem_mem hie, rfl⟩) m hm))))
            exact ⟨l, hl1, cs', hc', hl2⟩
          -- one list of rows
          have hch : ∃ ls : List (List D), ls.length = len ∧ ∀ i, i < len → Typed P e (ls.getD i []) ∧ ∃ cs', w.cells? base (a.add (i * P.cellsOf e)) (P.cellsOf e) = some cs' ∧ DenLD (memOf w) (ls.getD i []) cs' := by
            have : ∀ m, m ≤ len → ∃ ls : List (List D), ls.length = m ∧ ∀ i, i < m → Typed P e (ls.getD i []) ∧ ∃ cs', w.cells? base (a.add (i * P.cellsOf e)) (P.cellsOf e) = some cs' ∧ DenLD (memOf w) (ls.getD i []) cs' := by
              intro m
              induction m with
              | zero => intro _; exact ⟨[], rfl, fun i hi => by omega⟩
              | succ m ihm =>
                intro hm
                obtain ⟨ls, h1, h2⟩ := ihm (by omega)
                obtain ⟨l, hl1, hl2⟩ := hread m (by omega)
                refine ⟨ls ++ [l], by simp [h1], fun i hi => ?_⟩
                by_cases him : i < m
                · have e1 : (ls ++ [l]).getD i [] = ls.getD i [] := by
                    rw [List.getD_eq_getElem?_getD, List.getD_eq_getElem?_getD, List.getElem?_append_left (by omega)]
                  rw [e1]; exact h2 i him
                · have him' : i = m := by omega
                  subst him'
                  have e1 : (ls ++ [l]).getD i [] = l := by
                    rw [List.getD_eq_getElem?_getD, List.getElem?_append_right (by omega), h1]; simp
                  rw [e1]; exact ⟨hl1, hl2⟩
            exact this len (Nat.le_refl _)
          obtain ⟨ls, hls, hall⟩ := hch
          refine ⟨_, .slice (ls := ls) hu ?_ (fun l hlm => ?_), one ?_⟩
          · have h1 := hwm ((elems.length + rest.length) * P.bytesOf e) (by simp)
            have h2 : ls.length * P.bytesOf e ≤ (elems.length + rest.length) * P.bytesOf e := Nat.mul_le_mul_right _ (by omega)
            have h3 : reachBytes = 140737488351232 + 4096 - 4096 := rfl
            omega
          · obtain ⟨i, hi, rfl⟩ := List.getElem_of_mem hlm
            have := (hall i (by omega)).1
            rwa [List.getD_eq_getElem?_getD, List.getElem?_eq_getElem hi] at this
          · rw [hls]
            by_cases h0 : len = 0
            · rw [h0]; exact .emp _ _ _ _
            · have hsp : a.spot = none := by
                obtain ⟨_, cs', hc', hd⟩ := hall 0 (by omega)
                have h1 := (cells_read hc').2 0 (by omega)
                have h2 : 0 < cs'.length := by rw [(cells_read hc').1]; omega
                rw [List.getElem?_eq_getElem h2] at h1
                cases hs : a.spot with
                | none => rfl
                | some sp =>
                  exfalso
                  have e1 : (a.add (0 * P.cellsOf e)).add 0 = a := by simp [Addr.add]
                  rw [e1] at h1
                  unfold World.cell? at h1
                  split at h1
                  · simp [hs] at h1
                  · cases h1
              obtain ⟨ab, ao, asp⟩ := a
              simp only at hsp
              subst hsp
              refine .rows _ _ _ ab ao cap hlc (fun i hi => ?_) (fun i j => ((w.cell? ⟨ab, ao + (i * P.cellsOf e + j), none⟩).getD .nilFunc)) (fun i j hi hj => ?_) (fun i j x hi hx => ?_)
              · obtain ⟨_, cs', hc', hd⟩ := hall i hi
                rw [hd.len, (cells_read hc').1]
              · obtain ⟨_, cs', hc', hd⟩ := hall i hi
                obtain ⟨hc1, hc2⟩ := cells_read hc'
                have h1 := hc2 j hj
                rw [addr_add, addr_add, Nat.add_assoc, List.getElem?_eq_getElem (by omega)] at h1
                show w.cell? _ = some ((w.cell? _).getD _)
                rw [h1]; rfl
              · obtain ⟨_, cs', hc', hd⟩ := hall i hi
                obtain ⟨hc1, hc2⟩ := cells_read hc'
                have hj : j < P.cellsOf e := by have := (List.getElem?_eq_some_iff.1 hx).1; rw [hd.len, hc1] at this; exact this
                have h1 := hc2 j hj
                rw [addr_add, addr_add, Nat.add_assoc, List.getElem?_eq_getElem (by omega)] at h1
                rw [h1]
                exact hd.at' j x _ hx (List.getElem?_eq_getElem _)
      | struct fs =>
        have hmem : ∀ f ∈ fs.toList, f.type ∈ ts := fun f hf => memB_iff.1 (List.all_eq_true.1 hpt f hf)
        obtain ⟨xs, n, hn, rfl, hcl, hxl, hat⟩ := DataW.trod_struct hu h
        have hfn : fuel = n := by omega
        subst hfn
        obtain ⟨_, hsum, hoff⟩ := kid_struct hl (hlt t ht) hu
        have hsegs : ∀ j : Nat, ((fs.toList.map fun f => (f.type, P.cellsOf f.type)).take j).map (·.2) = (fs.toList.take j).map fun f => P.cellsOf f.type := fun j => by
          rw [← List.map_take, List.map_map]; rfl
        have hmapall : ((fs.toList.map fun f => (f.type, P.cellsOf f.type)).map (·.2)) = fs.toList.map fun f => P.cellsOf f.type := by rw [List.map_map]; rfl
        obtain ⟨L, h1, h2, h3⟩ := assemble (M := memOf w) (cs := cs) (T := Typed P) (fs.toList.map fun f => (f.type, P.cellsOf f.type)) 0 (by rw [hmapall, ← hsum, hcl]; omega) (fun j x hx => by
          simp only [List.getElem?_map, Option.map_eq_some_iff] at hx
          obtain ⟨f, hf, rfl⟩ := hx
          have hf' : fs[j]? = some f := by simpa using hf
          have hjx : j < xs.length := by rw [hxl]; exact (Array.getElem?_eq_some_iff.1 hf').1
          have h4 := hat j f hf'
          rw [List.getElem?_eq_getElem hjx] at h4
          obtain ⟨l, hl1, hl2⟩ := ih f.type _ xs[j] (hmem f (List.mem_of_getElem? hf)) h4 (fun m hm => hw m (by
            simp only [DataW.weights, hu]
            exact weightsEach_sub (j := j) (t := f.type) (d := xs[j].1) (by simp [hf']) (by simp [hjx]) m hm))
          refine ⟨l, hl1, ?_⟩
          rw [hsegs, Nat.zero_add, ← hoff j f hf]
          exact hl2)
        rw [hmapall, ← hsum] at h1 h2
        refine ⟨L, .struct hu h1 (fun j f hf => ?_), ?_⟩
        · have hf' : fs.toList[j]? = some f := by simpa using hf
          have := h3 j (f.type, P.cellsOf f.type) (by simp only [List.getElem?_map, hf']; rfl)
          rw [hsegs, ← hoff j f hf'] at this
          exact this
        · rw [List.drop_zero, ← hcl, List.take_length] at h2
          exact h2
      | array n e =>
        have he : e ∈ ts := memB_iff.1 hpt
        obtain ⟨xs, m, hn, rfl, hcl, hxl, hat⟩ := DataW.trod_array hu h
        have hfn : fuel = m := by omega
        subst hfn
        obtain ⟨_, hsum⟩ := kid_array hl (hlt t ht) hu
        have hall : ∀ k : Nat, k ≤ n → (((List.replicate n (e, P.cellsOf e)).take k).map (·.2)).sum = k * P.cellsOf e := fun k hk => by
          rw [List.take_replicate, Nat.min_eq_left hk, List.map_replicate, List.sum_replicate_nat]
        have hfull : ((List.replicate n (e, P.cellsOf e)).map (·.2)).sum = n * P.cellsOf e := by rw [List.map_replicate, List.sum_replicate_nat]
        obtain ⟨L, h1, h2, h3⟩ := assemble (M := memOf w) (cs := cs) (T := Typed P) (List.replicate n (e, P.cellsOf e)) 0 (by rw [hfull, hcl, hsum]; omega) (fun j x hx => by
          rw [List.getElem?_replicate] at hx
          have hj : j < n := by
            rcases Nat.lt_or_ge j n with h | h
            · exact h
            · rw [if_neg (by omega)] at hx; cases hx
          rw [if_pos hj, Option.some.injEq] at hx
          subst hx
          have hjx : j < xs.length := by omega
          have h4 := hat j hj
          rw [List.getElem?_eq_getElem hjx] at h4
          obtain ⟨l, hl1, hl2⟩ := ih e _ xs[j] he h4 (fun m hm => hw m (by
            simp only [DataW.weights, hu]
            exact weightsAll_sub (List.mem_map.2 ⟨xs[j], List.getElem_mem hjx, rfl⟩) m hm))
          refine ⟨l, hl1, ?_⟩
          rw [hall j (by omega), Nat.zero_add]
          exact hl2)
        rw [hfull, ← hsum] at h1 h2
        refine ⟨L, .array hu h1 (fun j hj => ?_), ?_⟩
        · have := h3 j (e, P.cellsOf e) (by rw [List.getElem?_replicate, if_pos hj])
          rwa [hall j (by omega)] at this
        · rw [List.drop_zero, ← hcl, List.take_length] at h2
          exact h2
      | _ => cases hpt

/-! Arguments. -/
theorem open_agg {H : Type} {enc : TypeId × Value → H} {w : World} {b0 base : Nat} {spare : Nat → Bool} {held : Bool} {ts : List TypeId} (hp : plainB P ts = true) (hl : laidOutB P = true) (hlt : ∀ t ∈ ts, t < P.types.size)
    {t : TypeId} {fs : Array Field} {v : Value} {d : DataW H} {ps : List MemPlace} (ht : t ∈ ts) (hu : P.underlying t = some (.struct fs)) (hval : Value.okWide P w .any b0 t v) (hd : DataW.Trod enc P w base spare held t v d ps) (hw : ∀ n ∈ d.weights P t, n ≤ reachBytes) :
    ∃ l, Typed P t l ∧ DenD (memOf w) (.agg l) v := by
  obtain ⟨cs, rfl, _⟩ := okWide_struct hu hval
  obtain ⟨fuel, hf⟩ := hd
  obtain ⟨l, h1, h2⟩ := typed_of hp hl hlt fuel t _ _ ht hf hw
  refine ⟨l, h1, ?_⟩
  have := DenD.agg (M := memOf w) l cs.toList (by have := h2.len; simpa [Value.cells] using this) (fun j x y hx hy => h2.at' j x y hx (by simpa [Value.cells] using hy))
  simpa using this
theorem open_arr {H : Type} {enc : TypeId × Value → H} {w : World} {b0 base : Nat} {spare : Nat → Bool} {held : Bool} {ts : List TypeId} (hp : plainB P ts = true) (hl : laidOutB P = true) (hlt : ∀ t ∈ ts, t < P.types.size)
    {t : TypeId} {n : Nat} {e : TypeId} {v : Value} {d : DataW H} {ps : List MemPlace} (ht : t ∈ ts) (hu : P.underlying t = some (.array n e)) (hval : Value.okWide P w .any b0 t v) (hd : DataW.Trod enc P w base spare held t v d ps) (hw : ∀ n ∈ d.weights P t, n ≤ reachBytes) :
    ∃ l, Typed P t l ∧ DenD (memOf w) (.agg l) v := by
  obtain ⟨cs, rfl⟩ : ∃ cs, v = .agg cs := by
    unfold Value.okWide at hval
    rw [hu] at hval
    obtain ⟨cs, h, _⟩ := hval
    exact ⟨cs, h⟩
  obtain ⟨fuel, hf⟩ := hd
  obtain ⟨l, h1, h2⟩ := typed_of hp hl hlt fuel t _ _ ht hf hw
  refine ⟨l, h1, ?_⟩
  have := DenD.agg (M := memOf w) l cs.toList (by have := h2.len; simpa [Value.cells] using this) (fun j x y hx hy => h2.at' j x y hx (by simpa [Value.cells] using hy))
  simpa using this
theorem open_one {H : Type} {enc : TypeId × Value → H} {w : World} {b0 base : Nat} {spare : Nat → Bool} {held : Bool} {ts : List TypeId} (hp : plainB P ts = true) (hl : laidOutB P = true) (hlt : ∀ t ∈ ts, t < P.types.size)
    {t : TypeId} {v : Value} {d : DataW H} {ps : List MemPlace} (ht : t ∈ ts) (hu : (∃ k, P.underlying t = some (.int k)) ∨ P.underlying t = some .bool ∨ P.underlying t = some .string ∨ ∃ e, P.underlying t = some (.slice e)) (hval : Value.okWide P w .any b0 t v) (hd : DataW.Trod enc P w base spare held t v d ps)
    (hw : ∀ n ∈ d.weights P t, n ≤ reachBytes) : ∃ x, Typed P t [x] ∧ DenD (memOf w) x v := by
  have hc : v.cells = #[v] := by
    rcases hu with ⟨k, hu⟩ | hu | hu | ⟨e, hu⟩
    · obtain ⟨n, rfl⟩ := okWide_int hu hval; rfl
    · obtain ⟨n, rfl⟩ := okWide_bool hu hval; rfl
    · obtain ⟨n, rfl⟩ := okWide_string hu hval; rfl
    · obtain ⟨a, b, c, rfl⟩ := okWide_slice hu hval; rfl
  obtain ⟨fuel, hf⟩ := hd
  obtain ⟨l, h1, h2⟩ := typed_of hp hl hlt fuel t _ _ ht hf hw
  rw [hc] at h2
  have hlen := h2.len
  match l, hlen with
  | [x], _ => exact ⟨x, h1, h2.at' 0 x v rfl rfl⟩

theorem typed_int {t : TypeId} {k : IntKind} {l : List D} (hu : P.underlying t = some (.int k)) (h : Typed P t l) : ∃ n, l = [.v (.int k n)] ∧ k.min ≤ n ∧ n ≤ k.max := by
  cases h with
  | int hu' h => rw [hu] at hu'; cases hu'; exact ⟨_, rfl, h⟩
  | bool hu' => rw [hu] at hu'; cases hu'
  | str hu' => rw [hu] at hu'; cases hu'
  | slice hu' => rw [hu] at hu'; cases hu'
  | struct hu' => rw [hu] at hu'; cases hu'
  | array hu' => rw [hu] at hu'; cases hu'
theorem typed_slice {t e : TypeId} {l : List D} (hu : P.underlying t = some (.slice e)) (h : Typed P t l) : ∃ ls : List (List D), l = [.rows (P.cellsOf e) ls.length (fun i => ls.getD i [])] ∧ ls.length * P.bytesOf e ≤ 140737488351232 ∧ ∀ x ∈ ls, Typed P e x := by
  cases h with
  | int hu' h => rw [hu] at hu'; cases hu'
  | bool hu' => rw [hu] at hu'; cases hu'
  | str hu' => rw [hu] at hu'; cases hu'
  | slice hu' hl h => rw [hu] at hu'; cases hu'; exact ⟨_, rfl, hl, h⟩
  | struct hu' => rw [hu] at hu'; cases hu'
  | array hu' => rw [hu] at hu'; cases hu'
theorem typed_array {t e : TypeId} {n : Nat} {l : List D} (hu : P.underlying t = some (.array n e)) (h : Typed P t l) : l.length = P.cellsOf t ∧ ∀ i, i < n → Typed P e ((l.drop (i * P.cellsOf e)).take (P.cellsOf e)) := by
  cases h with
  | int hu' h => rw [hu] at hu'; cases hu'
  | bool hu' => rw [hu] at hu'; cases hu'
  | str hu' => rw [hu] at hu'; cases hu'
  | slice hu' => rw [hu] at hu'; cases hu'
  | struct hu' => rw [hu] at hu'; cases hu'
  | array hu' hl h => rw [hu] at hu'; cases hu'; exact ⟨hl, h⟩

/-! Behind the call. -/
theorem post_of_kept {H : Type} {enc : TypeId × Value → H} {f : Func} {s : ChangeSpec} {apart fresh handsOn again : Bool} {W W' : World} {args : Array Value} {v : Value} {ds gs : List (DataW H)} {before pa pv : List MemPlace}
    (hW : DataW.Whole enc P f.params.toList s.vars apart W args.toList ds gs before)
    (hres : ∀ (b : Nat) (sp : Nat → Bool) (hd : Bool), DataW.TrodAll enc P W' b sp hd f.resultTypes.toList (v.resultList f.resultTypes.size) (s.fn H (ds ++ gs)).results [])
    (hargs : ∀ sp : Nat → Bool, (∀ p ∈ before, sp p.block = true) → DataW.TrodAll enc P W' 0 sp true f.params.toList args.toList (s.fn H (ds ++ gs)).args pa)
    (hvars : ∀ sp : Nat → Bool, (∀ p ∈ before, sp p.block = true) → DataW.TrodVars enc P W' sp s.vars (s.fn H (ds ++ gs)).vars pv)
    (hps : before = pa ++ pv) (hk : W.keptBut W' (· ∈ before)) (hfz : ∀ a : Addr, a.block < W.heap.size → W'.frozen? a = W.frozen? a)
    (hok : ∀ (j : Nat) (t : TypeId) (r : Value), f.resultTypes[j]? = some t → (v.resultList f.resultTypes.size)[j]? = some r → Value.okWide P W' .any 0 t r) :
    s.post enc P f apart fresh handsOn again W args v W' := by
  have hold : ∀ p ∈ before, (fun b => decide (b < W.heap.size)) p.block = true := fun p hp => by simpa using hW.lt p hp
  refine ⟨ds, gs, before, [], pa, pv, hW, hres _ _ _, hargs _ hold, hvars _ hold, World.keptBut_mono (fun p hp => ⟨hp, ?_⟩) hk, fun _ => ?_⟩
  · rw [hps, List.mem_append] at hp
    exact Or.inr hp
  · have hlt := hW.lt
    obtain ⟨_, _, _, _, _, hz, hn⟩ := hW
    refine ⟨hok, _, _, ([] ++ pa) ++ pv, ⟨[] ++ pa, pv, trodAll_append (hargs _ (fun _ _ => rfl)) (hres _ _ _), hvars _ (fun _ _ => rfl), rfl, ?_, ?_⟩, ?_⟩
    · intro b off hp
      have hin : MemPlace.cell b off ∈ before := by rw [hps]; simpa using hp
      rw [hfz _ (hlt _ hin)]
      exact hz b off hin
    · intro ha
      have := hn ha
      rw [hps] at this
      simpa using this
    · intro p hp _
      rw [hps]
      simpa using hp
theorem trodAll_stays {H : Type} {enc : TypeId × Value → H} (hl : laidOutB P = true) {W W' : World} (hb : ∀ b, b < W.heap.size → W'.heap[b]? = W.heap[b]?) {sp : Nat → Bool} :
    ∀ {ts : List TypeId} {vs : List Value} {ds : List (DataW H)} {ps : List MemPlace}, (∀ t ∈ ts, P.readableRec t = true ∧ t < P.types.size) → (∀ p ∈ ps, p.block < W.heap.size) → (∀ p ∈ ps, sp p.block = true) →
      DataW.TrodAll enc P W 0 (fun _ => true) true ts vs ds ps → DataW.TrodAll enc P W' 0 sp true ts vs ds ps
  | [], [], [], ps, _, _, _, h => h
  | t :: ts, v :: vs, d :: ds, ps, ht, hlt, hsp, ⟨p, q, ⟨fuel, h1⟩, h2, e⟩ => by
    subst e
    obtain ⟨hr, hsz⟩ := ht t (by simp)
    refine ⟨p, q, ⟨fuel, DataW.trod_stays (kids_book hl hr) (book_sized hr) (fun h => by cases h) ⟨hsz, book_self t⟩ h1 (fun x hx => ?_) (fun x hx => hsp x (by simp [hx]))⟩, trodAll_stays hl hb (fun t ht' => ht t (by simp [ht'])) (fun x hx => hlt x (by simp [hx])) (fun x hx => hsp x (by simp [hx])) h2, rfl⟩
    have hx' := hlt x (by simp [hx])
    cases x with
    | cell b o => exact World.cell?_of_block (w := W) (hb b hx')
    | map b => exact hb b hx'
  | [], _ :: _, _, _, _, _, _, h => h.elim
  | [], [], _ :: _, _, _, _, _, h => h.elim
  | _ :: _, [], _, _, _, _, _, h => h.elim
  | _ :: _, _ :: _, [], _, _, _, _, h => h.elim

/-- **From a contract to what a row says of the call**: a law that turns nothing and answers true. -/
theorem law_post {H : Type} {enc : TypeId × Value → H} {fid : FuncId} {f : Func} {s : ChangeSpec} {apart fresh handsOn again : Bool} {W : World} {args : Array Value} {ds gs : List (DataW H)} {before : List MemPlace} {avs : List AV} {tb : TypeId}
    (hl : laidOutB P = true) (hW : DataW.Whole enc P f.params.toList s.vars apart W args.toList ds gs before) (hv : s.vars = []) (hps : ∀ t ∈ f.params.toList, P.readableRec t = true ∧ t < P.types.size)
    (hrt : f.resultTypes = #[tb]) (hub : P.underlying tb = some .bool) (hs : s.fn H (ds ++ gs) = { results := [.lit (.bool true)], args := ds })
    (hgl : Glob (memOf W)) (hfs : FnSpec P fid avs [] (bv true) [] []) (hargs : DenL ⟨fun _ => 0, fun _ => none⟩ (memOf W) avs args.toList) :
    Calls P fid args W fun e W' => ∃ v, e = .returned v ∧ s.post enc P f apart fresh handsOn again W args v W' := by
  have hw : RepW (.of W [] (memOf W) ⟨fun _ => 0, fun _ => none⟩ [] 0) [] ⟨fun _ => 0, fun _ => none⟩ (memOf W) W :=
    { blks := fun l B e => by simp [St.get] at e
      inj := fun l l' a => by obtain ⟨⟨B, e⟩, _⟩ := a; simp [St.get] at e
      sep := fun l a => by obtain ⟨⟨B, e⟩, _⟩ := a; simp [St.get] at e
      fresh := fun l a => by obtain ⟨⟨B, e⟩, _⟩ := a; simp [St.get] at e
      bd := fun l a => by obtain ⟨⟨B, e⟩, _⟩ := a; simp [St.get] at e
      mem := fun b o v h => h, mle := Mem.le_refl _, glb := hgl, mnew := fun b o h => .inl h, keep := fun l hl => by cases hl
      frame := ⟨rfl, rfl, rfl, Nat.le_refl _, fun _ _ _ => rfl⟩ }
  have := hfs _ _ W [] args.toList hw hargs
  rw [Array.toArray_toList] at this
  refine this.mono ?_
  rintro e W' ⟨v, V', M', rfl, hden, hw'⟩
  have hvt : v = .bool true := den_v hden
  subst hvt
  refine ⟨_, rfl, ?_⟩
  have hblk : ∀ b, b < W.heap.size → W'.heap[b]? = W.heap[b]? := fun b hb => hw'.frame.block b hb (by simp)
  have hW' := hW
  obtain ⟨p, q, hA, hV, hpq, hfz, hnd⟩ := hW'
  have hq : gs = [] ∧ q = [] := by
    rw [hv] at hV
    cases gs with
    | nil => exact ⟨rfl, hV⟩
    | cons g gs => exact hV.elim
  obtain ⟨rfl, rfl⟩ := hq
  rw [List.append_nil] at hpq
  subst hpq
  have hlt := hW.lt
  refine post_of_kept (pa := before) (pv := []) hW (fun b sp hd => ?_) (fun sp hsp => ?_) (fun sp _ => ?_) (by simp) ?_ (fun a ha => ?_) ?_
  · rw [hs, hrt]
    exact trodAll_cons_mk (shut_bool hub true) trodAll_mk0
  · rw [hs]
    exact trodAll_stays hl hblk hps hlt hsp hA
  · rw [hs, hv]; rfl
  · refine ⟨hw'.frame.os, hw'.frame.output, fun i hi => ?_⟩
    rw [hblk i hi]
    cases W.heap[i]? with
    | none => rfl
    | some o => cases o <;> simp
  · unfold World.frozen?
    rw [hblk _ ha]
  · exact ok_one hrt rfl (okWide_bool_mk hub true)

end Go.Proofs.YtmdfamnnnoieaaaDoor
