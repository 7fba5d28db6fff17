/- A family of blocks: the rows of a slice of slices, under labels 400, 401 .. No program in sight. -/
import Derived.Test.YtcnikeonaklkoaaMat
namespace Go.Proofs.Ytcnikeonaklkoaa
open Go
set_option linter.unusedVariables false
set_option linter.unusedSimpArgs false
variable {P : Program} {S : St} {ro : Ro} {ops : Array Oper} {E : Env}

def inn (i : Nat) : Nat := i + 400
abbrev rowB (r : List Int) : Cont := .blk (.app 1 r.length [.ints .i64 r])
def famTo (rows : List (List Int)) (k : Nat) : St := (List.range k).map fun i => (bk (inn i), rowB (rows.getD i []))
def fam (rows : List (List Int)) : St := famTo rows rows.length
def matC (rows : List (List Int)) : List AV := (List.range rows.length).map fun i => .own (inn i) (rows.getD i []).length
theorem inn_inj {i j : Nat} : bk (inn i) = bk (inn j) ↔ i = j := by unfold bk inn; omega
theorem mapGet (f : Nat → Cont) (m : Nat) : ∀ (l : List Nat), St.get (l.map fun i => (bk (inn i), f i)) (bk (inn m)) = if m ∈ l then some (f m) else none
  | [] => rfl
  | i :: r => by
    rw [List.map_cons, get_cons, mapGet f m r]
    by_cases h : i = m
    · subst h; simp
    · rw [if_neg (fun e => h (inn_inj.1 e))]
      simp [Ne.symm h]
theorem mapGet_small (f : Nat → Cont) {n : Nat} (hn : n < 800) : ∀ (l : List Nat), St.get (l.map fun i => (bk (inn i), f i)) n = none
  | [] => rfl
  | i :: r => by
    rw [List.map_cons, get_cons, mapGet_small f hn r, if_neg (by unfold bk inn; omega)]
theorem mapGet_only (f : Nat → Cont) {n : Nat} {c : Cont} : ∀ (l : List Nat), St.get (l.map fun i => (bk (inn i), f i)) n = some c → ∃ i ∈ l, n = bk (inn i) ∧ c = f i
  | [], h => by cases h
  | i :: r, h => by
    rw [List.map_cons, get_cons] at h
    by_cases hi : bk (inn i) = n
    · rw [if_pos hi] at h; injection h with h
      exact ⟨i, by simp, hi.symm, h.symm⟩
    · rw [if_neg hi] at h
      obtain ⟨j, hj, h1, h2⟩ := mapGet_only f r h
      exact ⟨j, by simp [hj], h1, h2⟩
theorem fam_get {rows : List (List Int)} {i : Nat} (h : i < rows.length) : (fam rows).get (bk (inn i)) = some (rowB (rows.getD i [])) := by
  unfold fam famTo; rw [mapGet]; simp [h]
theorem fam_small {rows : List (List Int)} {n : Nat} (h : n < 800) : (fam rows).get n = none := mapGet_small _ h _
theorem fam_only {rows : List (List Int)} {n : Nat} {c : Cont} (h : (fam rows).get n = some c) : ∃ i, i < rows.length ∧ n = bk (inn i) ∧ c = rowB (rows.getD i []) := by
  obtain ⟨i, hi, h1, h2⟩ := mapGet_only _ _ h
  exact ⟨i, by simpa using hi, h1, h2⟩
theorem matC_get {rows : List (List Int)} {i : Nat} (h : i < rows.length) : (matC rows)[i]? = some (.own (inn i) (rows.getD i []).length) := by
  simp [matC, h]

/-! Past the entries that are written out. -/
theorem get_skip {n : Nat} {c : Cont} {i : Nat} {r : Option Cont} (h : S.get (bk (inn i)) = r) (hn : Nat.blt n 800 = true) : St.get ((n, c) :: S) (bk (inn i)) = r := by
  have := Nat.le_of_ble_eq_true hn
  rw [get_cons, if_neg (by unfold bk inn; omega)]; exact h
theorem le_skip {rows : List (List Int)} {n : Nat} {c : Cont} (h : (fam rows).le S) (hn : Nat.blt n 800 = true) : (fam rows).le ((n, c) :: S) := fun m d e => by
  have := Nat.le_of_ble_eq_true hn
  obtain ⟨i, hi, rfl, rfl⟩ := fam_only e
  rw [get_cons, if_neg (by unfold bk inn; omega)]
  exact h _ _ e
theorem le_row {rows : List (List Int)} {i : Nat} {r : List Int} {len : Nat} (h : (fam rows).le S) (hi : i < rows.length) (hl : r.length = len) : (fam (rows.set i r)).le ((bk (inn i), .blk (.app 1 len [.ints .i64 r])) :: S) := fun m d e => by
  obtain ⟨j, hj, rfl, rfl⟩ := fam_only e
  simp only [List.length_set] at hj
  rw [get_cons]
  by_cases hij : i = j
  · subst hij
    rw [if_pos rfl]
    have : (rows.set i r).getD i [] = r := by simp [List.getD_eq_getElem?_getD, hj]
    rw [this, rowB, hl]
  · rw [if_neg (fun e => hij (inn_inj.1 e))]
    have : (rows.set i r).getD j [] = rows.getD j [] := by simp [List.getD_eq_getElem?_getD, List.getElem?_set_ne hij]
    rw [this]
    exact h _ _ (fam_get hj)
theorem fam_ment {rows : List (List Int)} {n : Nat} {c : Cont} {l : Nat} (h : (fam rows).get n = some c) : ¬ CMent c l := by
  obtain ⟨i, _, _, rfl⟩ := fam_only h
  intro hm; cases hm
theorem matC_ment {rows : List (List Int)} {l : Nat} (hl : l < 400) : ∀ x ∈ matC rows, ¬ Ment x l := by
  intro x hx hm
  simp only [matC, List.mem_map] at hx
  obtain ⟨i, _, rfl⟩ := hx
  cases hm with
  | own => unfold inn at hl; omega

/-! What is asked of an operation that writes a row. -/
theorem keepOK_nil : KeepOK E [] := fun A h => by cases h
theorem keepOK_cons {A : Ax} {L : List Ax} (h : AxOK E A) (t : KeepOK E L) : KeepOK E (A :: L) := fun B hB => by
  rcases List.mem_cons.1 hB with rfl | hB
  · exact h
  · exact t B hB
theorem axOK_of {keep : List Nat} {nt : Nat} {A : Ax} (hk : E.keep = keep) (hn : E.nt = nt) (h : axOKB keep nt A = true) : AxOK E A :=
  keepOK_of (l := [A]) hk hn (by simp [h]) A (by simp)
theorem axOK_blk {rn : List Nat} {S0 : St} {l : Nat} {c : Option Cont} : AxOK E ⟨rn, S0, [(bk l, c)], []⟩ :=
  ⟨fun m hm => (by cases hm), fun t ht => by simp [Ax.names] at ht; exact absurd ht (sl_ne_bk t l)⟩

/-! New labels beside a family. -/
def NM (S : St) (l : Nat) (ns : List Nat) : Prop := ∀ n c, S.get n = some c → n ∉ ns → ¬ CMent c l
theorem nm_cons {n l : Nat} {c : Cont} {ns : List Nat} (h : (memB n ns || !c.ment l) = true) (t : NM S l ns) : NM ((n, c) :: S) l ns := fun m d e hm => by
  rw [get_cons] at e
  by_cases hn : n = m
  · subst hn
    rw [if_pos rfl] at e; injection e with e; subst e
    intro hc
    simp only [Bool.or_eq_true, Bool.not_eq_true'] at h
    rcases h with h | h
    · exact hm (memB_iff.1 h)
    · rw [cment_of hc] at h; cases h
  · rw [if_neg hn] at e; exact t m d e hm
theorem nm_appv {n l : Nat} {cs : List AV} {ns : List Nat} (h : ∀ x ∈ cs, ¬ Ment x l) (t : NM S l ns) : NM ((n, .blk (.appv cs)) :: S) l ns := fun m d e hm => by
  rw [get_cons] at e
  by_cases hn : n = m
  · subst hn
    rw [if_pos rfl] at e; injection e with e; subst e
    intro hc
    cases hc with
    | appv _ x _ hx hmx => exact h x hx hmx
  · rw [if_neg hn] at e; exact t m d e hm
theorem nm_fam {rows : List (List Int)} {l : Nat} {ns : List Nat} : NM (fam rows) l ns := fun n c e _ => fam_ment e

mutual
theorem to_ment {l : Nat} : ∀ x : AV, x.ment l = true → Ment x l
  | .d _, h => by simp [AV.ment] at h
  | .loc a j, h => by simp only [AV.ment, nbeq, decide_eq_true_eq] at h; subst h; exact .loc _ _
  | .locr a n i j, h => by simp only [AV.ment, nbeq, decide_eq_true_eq] at h; subst h; exact .locr _ _ _ _
  | .rp _, h => by simp [AV.ment] at h
  | .own a n, h => by simp only [AV.ment, nbeq, decide_eq_true_eq] at h; subst h; exact .own _ _
  | .sl a n lo len, h => by simp only [AV.ment, nbeq, decide_eq_true_eq] at h; subst h; exact .sl _ _ _ _
  | .fn f cs, h => by
    simp only [AV.ment] at h
    obtain ⟨x, hx, hm⟩ := to_ments cs h
    exact .fn f cs x l hx hm
  | .agg cs, h => by
    simp only [AV.ment] at h
    obtain ⟨x, hx, hm⟩ := to_ments cs h
    exact .agg cs x l hx hm
  | .tup cs, h => by
    simp only [AV.ment] at h
    obtain ⟨x, hx, hm⟩ := to_ments cs h
    exact .tup cs x l hx hm
  | .gd c x, h => by
    simp only [AV.ment] at h
    exact .gd c x l (to_ment x h)
  | .yld a, h => by simp only [AV.ment, nbeq, decide_eq_true_eq] at h; subst h; exact .yld _
theorem to_ments {l : Nat} : ∀ cs : List AV, AV.ments l cs = true → ∃ x ∈ cs, Ment x l
  | [], h => by simp [AV.ments] at h
  | x :: r, h => by
    simp only [AV.ments, Bool.or_eq_true] at h
    rcases h with h | h
    · exact ⟨x, by simp, to_ment x h⟩
    · obtain ⟨y, hy, hm⟩ := to_ments r h
      exact ⟨y, by simp [hy], hm⟩
end
theorem to_slotsMent {l : Nat} : ∀ ts : List (Nat × AV), slotsMent l ts = true → ∃ p ∈ ts, Ment p.2 l
  | [], h => by simp [slotsMent] at h
  | p :: r, h => by
    simp only [slotsMent, Bool.or_eq_true] at h
    rcases h with h | h
    · exact ⟨p, by simp, to_ment _ h⟩
    · obtain ⟨q, hq, hm⟩ := to_slotsMent r h
      exact ⟨q, by simp [hq], hm⟩
theorem to_cment {c : Cont} {l : Nat} (h : c.ment l = true) : CMent c l := by
  cases c with
  | av x => exact to_ment x h
  | blk B =>
    cases B with
    | cells cs => obtain ⟨x, hx, hm⟩ := to_ments cs h; exact .cells cs x l hx hm
    | appv cs => obtain ⟨x, hx, hm⟩ := to_ments cs h; exact .appv cs x l hx hm
    | lp hd ts => obtain ⟨p, hp, hm⟩ := to_slotsMent ts h; exact .lp hd ts p l hp hm
    | _ => simp [Cont.ment] at h
theorem freshB_of {A : Ax} (h : ∀ l ∈ A.new, NM S l A.names) : freshB A S = true := by
  simp only [freshB, List.all_eq_true]
  intro l hl p hp
  by_cases hn : p.1 ∈ A.names
  · rw [memB_iff.2 hn]; rfl
  · cases hc : S.get p.1 with
    | none => simp
    | some c =>
      have := h l hl p.1 c hc hn
      cases hm : c.ment l with
      | true => exact absurd (to_cment hm) this
      | false => simp [hm]

/-- Another label, and the rest as it was. -/
theorem Ghost.alias' {L i a b len n : Nat} {cols : List Col} {cs : List AV} {S' : St} (hL : S.get (bk L) = some (.blk (.appv cs))) (hi : cs[i]? = some (.own a len)) (ha : S.get (bk a) = some (.blk (.app n len cols))) (haL : a ≠ L) (hb : S.get (bk b) = none)
    (hbf : NM S b []) (hbk : b ∉ E.keep) (hle : S'.le S) (hna : S'.get (bk a) = none) : Ghost E S ((bk b, .blk (.app n len cols)) :: (bk L, .blk (.appv (cs.set i (.own b len)))) :: S') := by
  refine Ghost.alias hL hi ha haL hb (fun m c e => hbf m c e (by simp)) hbk fun m c e => ?_
  rw [get_cons, get_cons] at e
  by_cases h1 : bk b = m
  · rw [if_pos h1] at e; injection e with e; exact .inl ⟨h1.symm, e.symm⟩
  · rw [if_neg h1] at e
    by_cases h2 : bk L = m
    · rw [if_pos h2] at e; injection e with e; exact .inr (.inl ⟨h2.symm, e.symm⟩)
    · rw [if_neg h2] at e
      exact .inr (.inr ⟨Ne.symm h1, Ne.symm h2, (fun h => by rw [h, hna] at e; cases e), hle _ _ e⟩)
theorem appv_eq {cs cs' : List AV} (h : cs = cs') : some (Cont.blk (.appv cs)) = some (Cont.blk (.appv cs')) := by rw [h]
theorem get_skipN {n : Nat} {c : Cont} {i : Nat} (h : S.get (bk (inn i)) = none) (hn : Nat.blt n 800 = true) : St.get ((n, c) :: S) (bk (inn i)) = none := get_skip h hn
theorem fam_out {rows : List (List Int)} {i : Nat} (h : rows.length ≤ i) : (fam rows).get (bk (inn i)) = none := by
  unfold fam famTo; rw [mapGet]; simp; omega
theorem matC_out {rows : List (List Int)} {i : Nat} (h : rows.length ≤ i) : ∀ x ∈ matC rows, ¬ Ment x (inn i) := by
  intro x hx hm
  simp only [matC, List.mem_map, List.mem_range] at hx
  obtain ⟨j, hj, rfl⟩ := hx
  generalize he : inn i = l at hm
  cases hm with
  | own => unfold inn at he; omega
theorem matC_length (rows : List (List Int)) : (matC rows).length = rows.length := by simp [matC]
theorem le_push {rows : List (List Int)} {r : List Int} {len : Nat} (h : (fam rows).le S) (hl : r.length = len) : (fam (rows ++ [r])).le ((bk (inn rows.length), .blk (.app 1 len [.ints .i64 r])) :: S) := fun m d e => by
  obtain ⟨j, hj, rfl, rfl⟩ := fam_only e
  simp only [List.length_append, List.length_cons, List.length_nil] at hj
  rw [get_cons]
  by_cases hij : rows.length = j
  · subst hij
    rw [if_pos rfl]
    have : (rows ++ [r]).getD rows.length [] = r := by simp [List.getD_eq_getElem?_getD]
    rw [this, rowB, hl]
  · rw [if_neg (fun e => hij (inn_inj.1 e))]
    have hjl : j < rows.length := by omega
    have : (rows ++ [r]).getD j [] = rows.getD j [] := by simp [List.getD_eq_getElem?_getD, List.getElem?_append_left hjl]
    rw [this]
    exact h _ _ (fam_get hjl)

end Go.Proofs.Ytcnikeonaklkoaa
