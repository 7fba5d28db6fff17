/- Nodes numbered otherwise, edges in another order: nothing that matters changes. No program in sight. -/
import Derived.Test.YtcnikeonaklkoaaCycle
namespace Go.Proofs.Ytcnikeonaklkoaa
set_option linter.unusedVariables false
set_option linter.unusedSimpArgs false

def tau (a b v : Nat) : Nat := if v = b then a else if v = a then b else v
theorem tau_tau (a b v : Nat) : tau a b (tau a b v) = v := by unfold tau; split <;> (try split) <;> (try split) <;> omega
theorem tau_lt {a b v n : Nat} (ha : a < n) (hb : b < n) (hv : v < n) : tau a b v < n := by unfold tau; split <;> (try split) <;> omega
def swp (l : List Int) (a b : Nat) : List Int := (l.set a (l.getD b 0)).set b (l.getD a 0)
theorem swp_at {l : List Int} {a b v : Nat} (ha : a < l.length) (hb : b < l.length) : (swp l a b).getD v 0 = l.getD (tau a b v) 0 := by
  unfold swp tau
  rw [getD_set (by simpa using hb), getD_set ha]
  by_cases h1 : b = v
  · subst h1; rw [if_pos rfl, if_pos rfl]
  · rw [if_neg h1, if_neg (Ne.symm h1)]
    by_cases h2 : a = v
    · subst h2; rw [if_pos rfl, if_pos rfl]
    · rw [if_neg h2, if_neg (Ne.symm h2)]
structure PermN (n : Nat) (num : List Int) : Prop where
  len : num.length = n
  rg : ∀ v, v < n → 0 ≤ num.getD v 0 ∧ (num.getD v 0).toNat < n
  inv : ∃ q : Nat → Nat, (∀ v, v < n → q (num.getD v 0).toNat = v) ∧ ∀ w, w < n → q w < n ∧ (num.getD (q w) 0).toNat = w
def idT (n i : Nat) : List Int := (List.range n).map fun k => if k < i then (k : Int) else 0
theorem idT_len (n i : Nat) : (idT n i).length = n := by simp [idT]
theorem idT_at {n i v : Nat} (hv : v < n) : (idT n i).getD v 0 = if v < i then (v : Int) else 0 := by
  rw [getD_lt _ _ (by rw [idT_len]; exact hv)]; simp [idT]
theorem idT_zero (n : Nat) : idT n 0 = List.replicate n 0 := by
  refine List.ext_getElem (by simp [idT]) fun k h1 h2 => ?_
  simp [idT]
theorem idT_succ {n i : Nat} (hi : i < n) : (idT n i).set i (i : Int) = idT n (i + 1) := by
  refine List.ext_getElem (by simp [idT]) fun k h1 h2 => ?_
  rw [List.getElem_set]
  simp only [idT, List.getElem_map, List.getElem_range]
  by_cases h : i = k
  · subst h; rw [if_pos rfl, if_pos (by omega)]
  · rw [if_neg h]
    by_cases h3 : k < i
    · rw [if_pos h3, if_pos (by omega)]
    · rw [if_neg h3, if_neg (by omega)]
theorem permN_id (n : Nat) : PermN n (idT n n) := by
  have hat : ∀ v, v < n → (idT n n).getD v 0 = (v : Int) := fun v hv => by rw [idT_at hv, if_pos hv]
  exact ⟨idT_len n n, fun v hv => by rw [hat v hv]; omega, fun w => w, fun v hv => by rw [hat v hv]; simp, fun w hw => ⟨hw, by rw [hat w hw]; simp⟩⟩
theorem permN_swp {n : Nat} {num : List Int} (h : PermN n num) {a b : Nat} (ha : a < n) (hb : b < n) : PermN n (swp num a b) := by
  have hl := h.len
  have hat : ∀ v, (swp num a b).getD v 0 = num.getD (tau a b v) 0 := fun v => swp_at (by omega) (by omega)
  obtain ⟨q, q1, q2⟩ := h.inv
  refine ⟨by simp [swp, hl], fun v hv => by rw [hat]; exact h.rg _ (tau_lt ha hb hv), fun w => tau a b (q w), fun v hv => ?_, fun w hw => ?_⟩
  · show tau a b (q ((swp num a b).getD v 0).toNat) = v
    rw [hat, q1 _ (tau_lt ha hb hv), tau_tau]
  · obtain ⟨h1, h2⟩ := q2 w hw
    exact ⟨tau_lt ha hb h1, by rw [hat, tau_tau]; exact h2⟩
def swpE (l : List Edg) (a b : Nat) : List Edg := (l.set a (l.getD b default)).set b (l.getD a default)
theorem getE_set {l : List Edg} {i j : Nat} {x : Edg} (h : i < l.length) : (l.set i x).getD j default = if i = j then x else l.getD j default := by
  simp only [List.getD_eq_getElem?_getD, List.getElem?_set]
  by_cases hij : i = j
  · subst hij; simp [h]
  · simp [hij]
theorem mem_at {l : List Edg} {e : Edg} : e ∈ l ↔ ∃ k, k < l.length ∧ l.getD k default = e := by
  constructor
  · intro h
    obtain ⟨k, hk, rfl⟩ := List.mem_iff_getElem.1 h
    exact ⟨k, hk, getD_lt _ _ hk⟩
  · rintro ⟨k, hk, rfl⟩
    rw [getD_lt _ _ hk]; exact List.getElem_mem _
theorem swpE_at {l : List Edg} {a b v : Nat} (ha : a < l.length) (hb : b < l.length) : (swpE l a b).getD v default = l.getD (tau a b v) default := by
  unfold swpE tau
  rw [getE_set (by simpa using hb), getE_set ha]
  by_cases h1 : b = v
  · subst h1; rw [if_pos rfl, if_pos rfl]
  · rw [if_neg h1, if_neg (Ne.symm h1)]
    by_cases h2 : a = v
    · subst h2; rw [if_pos rfl, if_pos rfl]
    · rw [if_neg h2, if_neg (Ne.symm h2)]
theorem swpE_len (l : List Edg) (a b : Nat) : (swpE l a b).length = l.length := by simp [swpE]
theorem mem_swpE {l : List Edg} {a b : Nat} (ha : a < l.length) (hb : b < l.length) (e : Edg) : e ∈ swpE l a b ↔ e ∈ l := by
  rw [mem_at, mem_at, swpE_len]
  constructor
  · rintro ⟨k, hk, rfl⟩; exact ⟨tau a b k, tau_lt ha hb hk, (swpE_at ha hb).symm⟩
  · rintro ⟨k, hk, rfl⟩; exact ⟨tau a b k, tau_lt ha hb hk, by rw [swpE_at ha hb, tau_tau]⟩

def ren (n : Nat) (num : List Int) (x : Int) : Int := if 0 ≤ x ∧ x < n then num.getD x.toNat 0 else x
def Edg.ren (n : Nat) (num : List Int) (e : Edg) : Edg := ⟨Go.Proofs.Ytcnikeonaklkoaa.ren n num e.f, Go.Proofs.Ytcnikeonaklkoaa.ren n num e.t, e.w, e.d⟩
def renTo (n : Nat) (num : List Int) (es : List Edg) (i : Nat) : List Edg := (List.range es.length).map fun k => if k < i then (es.getD k default).ren n num else es.getD k default
theorem renTo_len (n : Nat) (num : List Int) (es : List Edg) (i : Nat) : (renTo n num es i).length = es.length := by simp [renTo]
theorem renTo_at {n : Nat} {num : List Int} {es : List Edg} {i k : Nat} (hk : k < es.length) : (renTo n num es i).getD k default = if k < i then (es.getD k default).ren n num else es.getD k default := by
  rw [getD_lt _ _ (by rw [renTo_len]; exact hk)]; simp [renTo]
theorem renTo_zero (n : Nat) (num : List Int) (es : List Edg) : renTo n num es 0 = es := by
  refine List.ext_getElem (renTo_len _ _ _ _) fun k h1 h2 => ?_
  simp only [renTo, List.getElem_map, List.getElem_range]
  rw [if_neg (by omega)]; exact getD_lt _ _ h2
theorem renTo_succ {n : Nat} {num : List Int} {es : List Edg} {i : Nat} (hi : i < es.length) : renTo n num es (i + 1) = (renTo n num es i).set i ((es.getD i default).ren n num) := by
  refine List.ext_getElem (by simp [renTo]) fun k h1 h2 => ?_
  rw [List.getElem_set]
  simp only [renTo, List.getElem_map, List.getElem_range]
  by_cases h : i = k
  · subst h; rw [if_pos (by omega), if_pos rfl]
  · rw [if_neg h]
    by_cases h3 : k < i
    · rw [if_pos (by omega), if_pos h3]
    · rw [if_neg (by omega), if_neg h3]
def latTo (n : Nat) (num lat : List Int) : Nat → List Int
  | 0 => List.replicate n 0
  | i + 1 => (latTo n num lat i).set (num.getD i 0).toNat (lat.getD i 0)
theorem latTo_len (n : Nat) (num lat : List Int) : ∀ i, (latTo n num lat i).length = n
  | 0 => by simp [latTo]
  | i + 1 => by simp [latTo, latTo_len n num lat i]
theorem latTo_at {n : Nat} {num lat : List Int} (h : PermN n num) : ∀ i, i ≤ n → ∀ v, v < i → (latTo n num lat i).getD (num.getD v 0).toNat 0 = lat.getD v 0
  | 0, _, v, hv => by omega
  | i + 1, hi, v, hv => by
    have hr := h.rg i (by omega)
    obtain ⟨q, q1, _⟩ := h.inv
    show ((latTo n num lat i).set (num.getD i 0).toNat (lat.getD i 0)).getD (num.getD v 0).toNat 0 = _
    rw [getD_set (by rw [latTo_len]; exact hr.2)]
    by_cases e : (num.getD i 0).toNat = (num.getD v 0).toNat
    · rw [if_pos e]
      have a := q1 i (by omega)
      have b := q1 v (by omega)
      rw [e, b] at a
      rw [a]
    · rw [if_neg e]
      exact latTo_at h i (by omega) v (by
        by_cases hvi : v = i
        · subst hvi; exact absurd rfl e
        · omega)

structure Renum (g x : Gr) (num : List Int) : Prop where
  p : PermN g.lat.length num
  ll : x.lat.length = g.lat.length
  lat : ∀ v, v < g.lat.length → x.lat.getD (num.getD v 0).toNat 0 = g.lat.getD v 0
  el : x.es.length = g.es.length
  ed : ∀ e', e' ∈ x.es ↔ ∃ e ∈ g.es, e' = e.ren g.lat.length num
theorem renum_of {g : Gr} {num : List Int} (hp : PermN g.lat.length num) {es : List Edg} (hl : es.length = g.es.length) (hm : ∀ e, e ∈ es ↔ e ∈ g.es) : Renum g ⟨latTo g.lat.length num g.lat g.lat.length, renTo g.lat.length num es es.length⟩ num := by
  refine ⟨hp, latTo_len _ _ _ _, fun v hv => latTo_at hp _ (Nat.le_refl _) v hv, (renTo_len _ _ _ _).trans hl, fun e' => ?_⟩
  show e' ∈ renTo g.lat.length num es es.length ↔ _
  rw [mem_at, renTo_len]
  constructor
  · rintro ⟨k, hk, rfl⟩
    rw [renTo_at hk, if_pos hk]
    exact ⟨es.getD k default, (hm _).1 (mem_at.2 ⟨k, hk, rfl⟩), rfl⟩
  · rintro ⟨e, he, rfl⟩
    obtain ⟨k, hk, rfl⟩ := mem_at.1 ((hm e).2 he)
    exact ⟨k, hk, by rw [renTo_at hk, if_pos hk]⟩
theorem all_at {l : List Int} {p : Int → Bool} : l.all p = true ↔ ∀ j, j < l.length → p (l.getD j 0) = true := by
  rw [List.all_eq_true]
  constructor
  · intro h j hj; exact h _ (by rw [getD_lt _ _ hj]; exact List.getElem_mem _)
  · intro h x hx
    obtain ⟨j, hj, rfl⟩ := List.mem_iff_getElem.1 hx
    have := h j hj
    rwa [getD_lt _ _ hj] at this
theorem ren_in {n : Nat} {num : List Int} (h : PermN n num) (x : Int) : (0 ≤ ren n num x ∧ ren n num x ≤ (n : Int) - 1) ↔ (0 ≤ x ∧ x ≤ (n : Int) - 1) := by
  unfold ren
  by_cases hx : 0 ≤ x ∧ x < n
  · rw [if_pos hx]
    have := h.rg x.toNat (by omega)
    omega
  · rw [if_neg hx]
theorem renum_formed {g x : Gr} {num : List Int} (h : Renum g x num) : x.formed = g.formed := by
  have h1 : x.lat.all latOk = g.lat.all latOk := by
    rw [Bool.eq_iff_iff, all_at, all_at]
    obtain ⟨q, q1, q2⟩ := h.p.inv
    constructor
    · intro k v hv
      rw [← h.lat v hv]
      exact k _ (by rw [h.ll]; exact (h.p.rg v hv).2)
    · intro k w hw
      rw [h.ll] at hw
      obtain ⟨a, b⟩ := q2 w hw
      have := h.lat (q w) a
      rw [b] at this
      rw [this]; exact k _ a
  have hok : ∀ e : Edg, Edg.ok g.lat.length (e.ren g.lat.length num) = Edg.ok g.lat.length e := fun e => by
    unfold Edg.ok
    have a := ren_in h.p e.f
    have b := ren_in h.p e.t
    show (decide (0 ≤ ren g.lat.length num e.f ∧ ren g.lat.length num e.f ≤ (g.lat.length : Int) - 1) && decide (0 ≤ ren g.lat.length num e.t ∧ ren g.lat.length num e.t ≤ (g.lat.length : Int) - 1) && decide (0 ≤ e.w ∧ e.w ≤ 64) && decide (0 ≤ e.d ∧ e.d ≤ 1048576)) = _
    rw [decide_eq_decide.2 a, decide_eq_decide.2 b]
  have h2 : x.es.all (Edg.ok g.lat.length) = g.es.all (Edg.ok g.lat.length) := by
    rw [Bool.eq_iff_iff, List.all_eq_true, List.all_eq_true]
    constructor
    · intro k e he
      have := k _ ((h.ed _).2 ⟨e, he, rfl⟩)
      rwa [hok] at this
    · intro k e' he'
      obtain ⟨e, he, rfl⟩ := (h.ed _).1 he'
      rw [hok]; exact k e he
  unfold Gr.formed
  rw [h.ll, h.el, h1, h2]
theorem ren_node {n : Nat} {num : List Int} {x : Int} (hx : 0 ≤ x ∧ x < n) : ren n num x = num.getD x.toNat 0 := if_pos hx
theorem renum_W {g x : Gr} {num : List Int} (h : Renum g x num) (hok : g.OK) {e : Edg} (he : e ∈ g.es) : x.W (e.ren g.lat.length num) = g.W e := by
  have a := hok.es e he
  show ((x.lat.length : Int) + 1) * (e.d - x.lat.getD (ren g.lat.length num e.f).toNat 0) - 1 = ((g.lat.length : Int) + 1) * (e.d - g.lat.getD e.f.toNat 0) - 1
  rw [ren_node a.1, h.ll, h.lat _ (by omega)]
theorem renum_short {g x : Gr} {num : List Int} (h : Renum g x num) (hok : g.OK) (hox : x.OK) : x.short = g.short := by
  obtain ⟨q, q1, q2⟩ := h.p.inv
  have key : x.short = false ↔ g.short = false := by
    rw [short_pot hox, short_pot hok]
    constructor
    · rintro ⟨F, hF⟩
      refine ⟨fun v => F (num.getD v 0).toNat, fun e he => ?_⟩
      have a := hok.es e he
      have b := hF _ ((h.ed _).2 ⟨e, he, rfl⟩)
      rw [renum_W h hok he] at b
      have c : F (ren g.lat.length num e.t).toNat ≤ F (ren g.lat.length num e.f).toNat + g.W e := b
      rw [ren_node a.1, ren_node a.2.1] at c
      exact c
    · rintro ⟨F, hF⟩
      refine ⟨fun w => F (q w), fun e' he' => ?_⟩
      obtain ⟨e, he, rfl⟩ := (h.ed _).1 he'
      have a := hok.es e he
      rw [renum_W h hok he]
      show F (q (ren g.lat.length num e.t).toNat) ≤ F (q (ren g.lat.length num e.f).toNat) + g.W e
      rw [ren_node a.1, ren_node a.2.1, q1 _ (by omega), q1 _ (by omega)]
      exact hF e he
  cases hs : g.short with
  | false => exact key.2 hs
  | true =>
    cases hx : x.short with
    | true => rfl
    | false => rw [key.1 hx] at hs; cases hs
theorem renum_looped {g x : Gr} {num : List Int} (h : Renum g x num) : x.looped = g.looped := by
  have hf := renum_formed h
  by_cases h0 : g.formed = 0
  · have hok := g.ok_of h0
    have hox := x.ok_of (by rw [hf]; exact h0)
    unfold Gr.looped
    rw [hf, renum_short h hok hox]
  · unfold Gr.looped
    rw [hf, decide_eq_false h0]; rfl
theorem renum_way {g x : Gr} {num : List Int} (h : Renum g x num) (hok : g.OK) {u v : Nat} (w : g.Way u v) : x.Way (num.getD u 0).toNat (num.getD v 0).toNat := by
  induction w with
  | refl => exact .refl
  | @step e he _ ih =>
    have a := hok.es e he
    have b := Gr.Way.step (g := x) (v := (num.getD u 0).toNat) ((h.ed _).2 ⟨e, he, rfl⟩) (by
      show x.Way _ (ren g.lat.length num e.f).toNat
      rw [ren_node a.1]; exact ih)
    have b : x.Way (num.getD u 0).toNat (ren g.lat.length num e.t).toNat := b
    rwa [ren_node a.2.1] at b
theorem renum_back {g x : Gr} {num : List Int} (h : Renum g x num) (hok : g.OK) {u : Nat} (hu : u < g.lat.length) {w : Nat} (k : x.Way (num.getD u 0).toNat w) : ∃ v, v < g.lat.length ∧ w = (num.getD v 0).toNat ∧ g.Way u v := by
  obtain ⟨q, q1, _⟩ := h.p.inv
  induction k with
  | refl => exact ⟨u, hu, rfl, .refl⟩
  | @step e' he' _ ih =>
    obtain ⟨e, he, rfl⟩ := (h.ed _).1 he'
    have a := hok.es e he
    obtain ⟨v, hv, hw, hgw⟩ := ih
    have hw : (ren g.lat.length num e.f).toNat = (num.getD v 0).toNat := hw
    rw [ren_node a.1] at hw
    have : e.f.toNat = v := by
      have h1 := q1 e.f.toNat (by omega)
      rw [hw, q1 v hv] at h1
      exact h1.symm
    refine ⟨e.t.toNat, by omega, ?_, .step he (this ▸ hgw)⟩
    show (ren g.lat.length num e.t).toNat = _
    rw [ren_node a.2.1]
/-- The nodes that are reached. -/
theorem renum_reach {g x : Gr} {num : List Int} (h : Renum g x num) (hok : g.OK) (hox : x.OK) {u : Nat} (hu : u < g.lat.length) : (x.reachL (num.getD u 0).toNat).length = (g.reachL u).length ∧ ∀ v, g.Way u v → x.Way (num.getD u 0).toNat (num.getD v 0).toNat := by
  refine ⟨?_, fun v w => renum_way h hok w⟩
  have hnu : (num.getD u 0).toNat < x.lat.length := by rw [h.ll]; exact (h.p.rg u hu).2
  obtain ⟨q, q1, q2⟩ := h.p.inv
  have hn1 : (g.reachL u).Nodup := (markL_pair _ _).imp fun h e => by omega
  have hn2 : (x.reachL (num.getD u 0).toNat).Nodup := (markL_pair _ _).imp fun h e => by omega
  have hn3 : ((g.reachL u).map fun y => num.getD y.toNat 0).Nodup := by
    rw [List.nodup_iff_pairwise_ne, List.pairwise_map]
    refine List.Pairwise.imp_of_mem (fun {a b} ha hb hne e => ?_) (List.nodup_iff_pairwise_ne.1 hn1)
    obtain ⟨va, rfl, wa⟩ := (mem_reachL hok hu).1 ha
    obtain ⟨vb, rfl, wb⟩ := (mem_reachL hok hu).1 hb
    have e : num.getD va 0 = num.getD vb 0 := e
    have h1 := q1 va (wa.lt hok hu)
    rw [e, q1 vb (wb.lt hok hu)] at h1
    exact hne (by rw [h1])
  have hp : (x.reachL (num.getD u 0).toNat).Perm ((g.reachL u).map fun y => num.getD y.toNat 0) := (List.perm_ext_iff_of_nodup hn2 hn3).2 fun y => by
    rw [mem_reachL hox hnu, List.mem_map]
    constructor
    · rintro ⟨w, rfl, hw⟩
      obtain ⟨v, hv, rfl, hgw⟩ := renum_back h hok hu hw
      refine ⟨(v : Int), (mem_reachL hok hu).2 ⟨v, rfl, hgw⟩, ?_⟩
      have := h.p.rg v hv
      show num.getD v 0 = _
      omega
    · rintro ⟨z, hz, rfl⟩
      obtain ⟨v, rfl, hw⟩ := (mem_reachL hok hu).1 hz
      have := h.p.rg v (hw.lt hok hu)
      refine ⟨(num.getD v 0).toNat, ?_, renum_way h hok hw⟩
      show num.getD v 0 = _
      omega
  have := hp.length_eq
  rwa [List.length_map] at this

end Go.Proofs.Ytcnikeonaklkoaa
