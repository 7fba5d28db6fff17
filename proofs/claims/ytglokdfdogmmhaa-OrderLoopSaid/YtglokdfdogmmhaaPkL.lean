import Derived.Test.YtglokdfdogmmhaaPkH
import Derived.Test.YtglokdfdogmmhaaPkE
/- A family of blocks: the rows of a slice of slices of booleans. No program in sight. -/
namespace Go.Proofs.Ytglokdfdogmmhaa
open Go
set_option linter.unusedVariables false
set_option linter.unusedSimpArgs false
variable {P : Program} {S : St} {ro : Ro} {ops : Array Oper} {E : Env}

abbrev rowBB (r : List Bool) : Cont := .blk (.app 1 r.length [.bools r])
def famBTo (rows : List (List Bool)) (k : Nat) : St := (List.range k).map fun i => (bk (inn i), rowBB (rows.getD i []))
def famB (rows : List (List Bool)) : St := famBTo rows rows.length
def matB (rows : List (List Bool)) : List AV := (List.range rows.length).map fun i => .own (inn i) (rows.getD i []).length
theorem famB_get {rows : List (List Bool)} {i : Nat} (h : i < rows.length) : (famB rows).get (bk (inn i)) = some (rowBB (rows.getD i [])) := by
  unfold famB famBTo; rw [mapGet]; simp [h]
theorem famB_small {rows : List (List Bool)} {n : Nat} (h : n < 800) : (famB rows).get n = none := mapGet_small _ h _
theorem famB_only {rows : List (List Bool)} {n : Nat} {c : Cont} (h : (famB rows).get n = some c) : ∃ i, i < rows.length ∧ n = bk (inn i) ∧ c = rowBB (rows.getD i []) := by
  obtain ⟨i, hi, h1, h2⟩ := mapGet_only _ _ h
  exact ⟨i, by simpa using hi, h1, h2⟩
theorem matB_get {rows : List (List Bool)} {i : Nat} (h : i < rows.length) : (matB rows)[i]? = some (.own (inn i) (rows.getD i []).length) := by
  simp [matB, h]

theorem leB_skip {rows : List (List Bool)} {n : Nat} {c : Cont} (h : (famB rows).le S) (hn : Nat.blt n 800 = true) : (famB rows).le ((n, c) :: S) := fun m d e => by
  have := Nat.le_of_ble_eq_true hn
  obtain ⟨i, hi, rfl, rfl⟩ := famB_only e
  rw [get_cons, if_neg (by unfold bk inn; omega)]
  exact h _ _ e
theorem leB_row {rows : List (List Bool)} {i : Nat} {r : List Bool} {len : Nat} (h : (famB rows).le S) (hi : i < rows.length) (hl : r.length = len) : (famB (rows.set i r)).le ((bk (inn i), .blk (.app 1 len [.bools r])) :: S) := fun m d e => by
  obtain ⟨j, hj, rfl, rfl⟩ := famB_only e
  simp only [List.length_set] at hj
  rw [get_cons]
  by_cases hij : i = j
  · subst hij
    rw [if_pos rfl]
    have : (rows.set i r).getD i [] = r := by simp [List.getD_eq_getElem?_getD, hj]
    rw [this, rowBB, hl]
  · rw [if_neg (fun e => hij (inn_inj.1 e))]
    have : (rows.set i r).getD j [] = rows.getD j [] := by simp [List.getD_eq_getElem?_getD, List.getElem?_set_ne hij]
    rw [this]
    exact h _ _ (famB_get hj)
theorem famB_ment {rows : List (List Bool)} {n : Nat} {c : Cont} {l : Nat} (h : (famB rows).get n = some c) : ¬ CMent c l := by
  obtain ⟨i, _, _, rfl⟩ := famB_only h
  intro hm; cases hm
theorem matB_ment {rows : List (List Bool)} {l : Nat} (hl : l < 400) : ∀ x ∈ matB rows, ¬ Ment x l := by
  intro x hx hm
  simp only [matB, List.mem_map] at hx
  obtain ⟨i, _, rfl⟩ := hx
  cases hm with
  | own => unfold inn at hl; omega

theorem nm_famB {rows : List (List Bool)} {l : Nat} {ns : List Nat} : NM (famB rows) l ns := fun n c e _ => famB_ment e

theorem famB_out {rows : List (List Bool)} {i : Nat} (h : rows.length ≤ i) : (famB rows).get (bk (inn i)) = none := by
  unfold famB famBTo; rw [mapGet]; simp; omega
theorem matB_out {rows : List (List Bool)} {i : Nat} (h : rows.length ≤ i) : ∀ x ∈ matB rows, ¬ Ment x (inn i) := by
  intro x hx hm
  simp only [matB, List.mem_map, List.mem_range] at hx
  obtain ⟨j, hj, rfl⟩ := hx
  generalize he : inn i = l at hm
  cases hm with
  | own => unfold inn at he; omega
theorem matB_length (rows : List (List Bool)) : (matB rows).length = rows.length := by simp [matB]
theorem leB_push {rows : List (List Bool)} {r : List Bool} {len : Nat} (h : (famB rows).le S) (hl : r.length = len) : (famB (rows ++ [r])).le ((bk (inn rows.length), .blk (.app 1 len [.bools r])) :: S) := fun m d e => by
  obtain ⟨j, hj, rfl, rfl⟩ := famB_only e
  simp only [List.length_append, List.length_cons, List.length_nil] at hj
  rw [get_cons]
  by_cases hij : rows.length = j
  · subst hij
    rw [if_pos rfl]
    have : (rows ++ [r]).getD rows.length [] = r := by simp [List.getD_eq_getElem?_getD]
    rw [this, rowBB, hl]
  · rw [if_neg (fun e => hij (inn_inj.1 e))]
    have hjl : j < rows.length := by omega
    have : (rows ++ [r]).getD j [] = rows.getD j [] := by simp [List.getD_eq_getElem?_getD, List.getElem?_append_left hjl]
    rw [this]
    exact h _ _ (famB_get hjl)

/-- The matrix while it is made: i rows. -/
abbrev WmB (n i : Nat) : List (List Bool) := List.replicate i (List.replicate n false)
abbrev cellsB (n i : Nat) : List AV := matB (WmB n i) ++ List.replicate (n - i) nilS
theorem cellsB_length {n i : Nat} (h : i ≤ n) : (cellsB n i).length = n := by simp [matB_length]; omega
theorem cellsB_ment {n i l : Nat} (hl : l < 400) : ∀ x ∈ cellsB n i, ¬ Ment x l := by
  intro x hx hm
  rcases List.mem_append.1 hx with hx | hx
  · exact matB_ment hl x hx hm
  · have := (List.mem_replicate.1 hx).2
    subst this; cases hm
theorem cellsB_out {n i : Nat} : ∀ x ∈ (cellsB n i).set i (.own 42 n), ¬ Ment x (inn i) := by
  intro x hx hm
  rcases List.mem_or_eq_of_mem_set hx with hx | rfl
  · rcases List.mem_append.1 hx with hx | hx
    · exact matB_out (by simp) x hx hm
    · have := (List.mem_replicate.1 hx).2
      subst this; cases hm
  · generalize he : inn i = l at hm
    cases hm with
    | own => unfold inn at he; omega
theorem leB_pushM {S : St} {n i : Nat} (h : (famB (WmB n i)).le S) : (famB (WmB n (i + 1))).le ((bk (inn i), .blk (.app 1 n [.bools (List.replicate n false)])) :: S) := by
  have e : WmB n (i + 1) = WmB n i ++ [List.replicate n false] := List.replicate_succ'
  rw [e]
  have := leB_push (r := List.replicate n false) (len := n) h (by simp)
  rwa [show (WmB n i).length = i by simp] at this
theorem cellsB_succ {n i : Nat} (h : i < n) : ((cellsB n i).set i (.own 42 n)).set i (.own (inn i) n) = cellsB n (i + 1) := by
  have hm : matB (WmB n (i + 1)) = matB (WmB n i) ++ [.own (inn i) n] := by
    simp only [matB, WmB, List.length_replicate, List.range_succ, List.map_append, List.map_cons, List.map_nil]
    congr 1
    · refine List.map_congr_left fun j hj => ?_
      have : j < i := by simpa using hj
      simp [List.getD_eq_getElem?_getD, List.getElem?_replicate, this, Nat.lt_succ_of_lt this]
    · simp [List.getD_eq_getElem?_getD, List.getElem?_replicate]
  rw [List.set_set]
  unfold cellsB
  rw [hm, List.set_append, if_neg (by simp [matB_length])]
  obtain ⟨d, hd⟩ : ∃ d, n - i = d + 1 := ⟨n - i - 1, by omega⟩
  rw [hd, show n - (i + 1) = d by omega]
  simp [matB_length, List.replicate_succ]
theorem matB_set {rows : List (List Bool)} {i : Nat} {r : List Bool} (h : r.length = (rows.getD i []).length) : matB rows = matB (rows.set i r) := by
  simp only [matB, List.length_set]
  refine List.map_congr_left fun j hj => ?_
  have hj : j < rows.length := by simpa using hj
  by_cases hij : i = j
  · subst hij
    simp [List.getD_eq_getElem?_getD, hj] at h ⊢
    exact h.symm
  · simp [List.getD_eq_getElem?_getD, List.getElem?_set_ne hij]

end Go.Proofs.Ytglokdfdogmmhaa

/- OrderLoop. -/
namespace Go.Proofs.Ytglokdfdogmmhaa
open Go
set_option linter.unusedVariables false
set_option linter.unusedSimpArgs false
set_option maxRecDepth 10000
set_option maxHeartbeats 4000000

def loopTo (w : BL) (i : Nat) : Bool := (List.range i).any fun v => bw w v v
theorem loopTo_succ (w : BL) (i : Nat) : loopTo w (i + 1) = (bif loopTo w i then true else bw w i i) := by
  unfold loopTo
  rw [List.range_succ, List.any_append]
  simp [bif_or']
theorem wyI_sq {n k : Nat} {w : BL} (h : SqB n w) (a : Nat) (ha : a ≤ n) : SqB n (wyI n k w a) := by
  by_cases hn : n = 0
  · have : a = 0 := by omega
    subst this; exact h
  · exact (wyI_at h (k := k) 0 0 (by omega) a ha).1
theorem slB {x y : Bool} (h : x = y) : some (Cont.av (bv x)) = some (Cont.av (bv y)) := by rw [h]
/-- soundpost/soundpostlaw22.OrderLoop -/
theorem spec6 (g : Gr) (hz : g.Sz) (dl : List Int) (hd : dl.length ≤ 4611686018427387904) : FnSpec Try.prog 6 [g.av, .d (intsD dl)] [] (bv true) [] [] := by
  have hn1 := hz.n
  have hn2 := hz.m
  refine fnSpec_of (rs := [.tmp 4]) Try.func6 rfl rfl (Nat.le_of_ble_eq_true rfl) (by simp [St.get]) fun E hk hn => ?_
  apply WPA.seq
  apply WPA.region
  · first | apply Trace.boxD 2 [] (.plain rfl) rfl rfl | apply Trace.box 2 [] (.plain rfl) rfl rfl rfl
    apply Trace.pu [] (.assign (.plain rfl))
    exact .nil _
  · exact keepOK_of hk hn rfl
  apply WPA.seq
  apply WPA.seq
  apply WPA.region
  · apply Trace.cu (callArgs0 .nil) spec9 en9
    apply Trace.pu [] (.not (.plain rfl))
    exact .nil _
  · exact keepOK_of hk hn rfl
  refine WPA.cond rfl (fun hc1 => ?_) (fun hc1 => ?_)
  · cases hc1
  · apply WPA.skip
    apply WPA.seq
    apply WPA.seq
    apply WPA.region
    · first | apply Trace.pu [_] (.loadAllD ty25 (.plain rfl) rfl (by simp)) | apply Trace.pu [_] (.loadLocD ty25 (.plain rfl) rfl (fun _ => by simp)) | apply Trace.pu [_] (.loadLoc ty25 (.plain rfl) rfl (fun _ => Nat.le_of_ble_eq_true rfl)) | apply Trace.pu [] (.loadRp ty25 (.plain rfl) (fun _ => by decide)) | apply Trace.pu [] (.loadRp ty25 (.plain rfl) (fun _ => Nat.le_of_ble_eq_true rfl)) | apply Trace.pu [_] (.loadCol ty25 (.plain rfl) rfl rfl (fun _ => by decide) (fun _ => by omega)) | apply Trace.pu [_] (.loadArr ty25 (.plain rfl) rfl)
      apply Trace.pu [] (.move (.plain rfl))
      apply Trace.cu (callArgs0 (.cons (.plain rfl) (.cons (.plain rfl) .nil))) (spec20 g hz dl hd) en20
      apply Trace.pu [] (.not (.plain rfl))
      exact .nil _
    · exact keepOK_of hk hn rfl
    refine WPA.cond rfl (fun hc2 => ?_) (fun hc2 => ?_)
    · apply WPA.seq
      apply WPA.region
      · apply Trace.pu [] (.assign (.plain rfl))
        exact .nil _
      · exact keepOK_of hk hn rfl
      apply WPA.ret
      refine ⟨.inr rfl, ⟨_, (.cons (.tmp rfl) .nil), ?_⟩, by simp [St.get]⟩
      rfl
    · have hS : g.short22 dl = true := by simpa using hc2
      obtain ⟨hf, hC, hdl, hB⟩ := short22_of hS
      obtain ⟨h12, h40⟩ := few22_of hf
      have hok := check_ok2 hC
      apply WPA.skip
      apply WPA.seq
      apply WPA.region
      · first | apply Trace.pu [_] (.loadAllD ty25 (.plain rfl) rfl (by simp)) | apply Trace.pu [_] (.loadLocD ty25 (.plain rfl) rfl (fun _ => by simp)) | apply Trace.pu [_] (.loadLoc ty25 (.plain rfl) rfl (fun _ => Nat.le_of_ble_eq_true rfl)) | apply Trace.pu [] (.loadRp ty25 (.plain rfl) (fun _ => by decide)) | apply Trace.pu [] (.loadRp ty25 (.plain rfl) (fun _ => Nat.le_of_ble_eq_true rfl)) | apply Trace.pu [_] (.loadCol ty25 (.plain rfl) rfl rfl (fun _ => by decide) (fun _ => by omega)) | apply Trace.pu [_] (.loadArr ty25 (.plain rfl) rfl)
        apply Trace.pu [] (.move (.plain rfl))
        apply Trace.ct (callArgs0 (.cons (.plain rfl) (.cons (.plain rfl) .nil))) (seN hz hd (l := (g.seqE dl).1) (c := (g.seqE dl).2) rfl) en13
        apply Trace.pu [] (.move (.plain rfl))
        apply Trace.pu [] (.extract (.plain rfl) rfl)
        apply Trace.pu [] (.extract (.plain rfl) rfl)
        apply Trace.pu [] (.assign (.plain rfl))
        apply Trace.pu [] (.assign (.plain rfl))
        exact .nil _
      · exact keepOK_of hk hn rfl
      apply WPA.seq
      apply WPA.region
      · apply Trace.pu [] (.fieldAddr fl25_0 (.plain rfl) rfl)
        first | apply Trace.pu [_] (.loadLoc1D ty22 (.plain rfl) rfl rfl) | apply Trace.pu [_] (.loadLoc1 ty22 (.plain rfl) rfl rfl) | apply Trace.pu [] (.loadRp1 ty22 (.plain rfl) rfl) | apply Trace.pu [_] (.loadCol1 ty22 (.plain rfl) rfl rfl rfl (fun _ => by omega))
        apply Trace.pu [] (.len rfl Try.underlying22 (.plain rfl) rfl)
        apply Trace.pu [] (.assign (.plain rfl))
        exact .nil _
      · exact keepOK_of hk hn rfl
      apply WPA.seq
      apply WPA.region
      · apply Trace.pu [] (.move (.plain rfl))
        apply Trace.makeSlice 33 [] so44 by45 zo45 rfl (by decide) (.plain rfl) (.plain rfl) ⟨by omega, by omega⟩ (by omega) (by omega) rfl rfl
        apply Trace.pu [] (.assign (.plain rfl))
        exact .nil _
      · exact keepOK_of hk hn rfl
      apply WPA.seq
      apply WPA.seq
      refine WPA.ghost (Ghost.toAppv (l := 33) rfl (by simp)) ?_
      apply WPA.region
      · apply Trace.pu [] (.move (.plain rfl))
        apply Trace.pu [] (.len rfl Try.underlying44 (.plain rfl) rfl)
        apply Trace.pu [] (.move (.plain rfl))
        exact .nil _
      · exact keepOK_of hk hn rfl
      apply WPA.block
      refine WPA.loop (σ := Nat) (fun i => (sl 1, .av (.d (intsD dl))) :: (sl 2, .av (.loc 2 0)) :: (sl 6, .av (.d (.v (.int .i64 (g.seqE dl).2)))) :: (sl 7, .av (iv .i64 (g.lat.length))) :: (sl 8, .av (.own 33 g.lat.length)) :: (sl 35, .av (iv .i64 (g.lat.length))) :: (sl 36, .av (iv .i64 (i))) :: (bk 2, .blk (.data g.ds)) :: (bk 33, .blk (.appv (cellsB g.lat.length i))) :: famB (WmB g.lat.length i)) (fun i => i ≤ g.lat.length) (fun i => g.lat.length - i) 0
        (St.le_cons rfl (St.le_cons rfl (St.le_cons rfl (St.le_cons rfl (St.le_cons rfl (St.le_cons rfl (St.le_cons rfl (St.le_cons rfl (St.le_cons (appv_eq (by simp [matB, cellsB])) ((St.le_nil _))))))))))) (Nat.zero_le _) fun i hi => ?_
      apply WPA.seq
      apply WPA.region
      · apply Trace.pu [] (.cmp (.plain rfl) (.plain rfl) rfl)
        exact .nil _
      · exact keepOK_of hk hn rfl
      apply WPA.seq
      refine WPA.cond rfl (fun hc3 => ?_) (fun hc3 => ?_)
      · have hlt : i < g.lat.length := by simpa using hc3
        apply WPA.skip
        apply WPA.seq
        apply WPA.block
        apply WPA.seq
        apply WPA.region
        · apply Trace.pu [] (.move (.plain rfl))
          apply Trace.pu [] (.assign (.plain rfl))
          exact .nil _
        · exact keepOK_of hk hn rfl
        apply WPA.region
        · apply Trace.pu [] (.move (.plain rfl))
          apply Trace.pu [] (.move (.plain rfl))
          apply Trace.pu [] (.move (.plain rfl))
          apply Trace.makeSlice 42 [] so45 by4 zo4 rfl (by decide) (.plain rfl) (.plain rfl) ⟨by omega, by omega⟩ (by omega) (by omega) rfl (freshB_of (fun l hl => by
              simp only [List.mem_singleton] at hl; subst hl
              repeat (first | exact nm_famB | refine nm_appv (matB_ment (by decide)) ?_ | refine nm_appv (cellsB_ment (by decide)) ?_ | refine nm_cons rfl ?_)))
          first | apply Trace.pu [] (.indexRows el44 (.plain rfl) (.plain rfl) (fun _ => ⟨by omega, by omega⟩)) | apply Trace.pu [] (.indexOwn el44 (.plain rfl) (.plain rfl) (fun _ => ⟨by omega, by omega⟩)) | apply Trace.pu [] (.indexSl el44 (.plain rfl) (.plain rfl) (fun _ => ⟨by omega, by omega⟩))
          apply Trace.storeRowV ty45 (.plain rfl) (.plain rfl) rfl rfl rfl (by rw [cellsB_length (by omega)]; simpa using hlt) rfl
          exact .nil _
        · repeat (first | exact keepOK_nil | refine keepOK_cons (by first | exact axOK_of hk hn rfl | exact axOK_blk) ?_)
        have hcell : ((cellsB g.lat.length i).set i (.own 42 g.lat.length))[i]? = some (.own 42 g.lat.length) := List.getElem?_set_self (by rw [cellsB_length (by omega)]; exact hlt)
        refine WPA.weaken (T := (sl 1, .av (.d (intsD dl))) :: (sl 2, .av (.loc 2 0)) :: (sl 6, .av (.d (.v (.int .i64 (g.seqE dl).2)))) :: (sl 7, .av (iv .i64 (g.lat.length))) :: (sl 8, .av (.own 33 g.lat.length)) :: (sl 35, .av (iv .i64 (g.lat.length))) :: (sl 36, .av (iv .i64 (i))) :: (bk 2, .blk (.data g.ds)) :: (bk 33, .blk (.appv ((cellsB g.lat.length i).set i (.own 42 g.lat.length)))) :: (bk 42, .blk (.app 1 g.lat.length [.bools (List.replicate g.lat.length false)])) :: famB (WmB g.lat.length i)) ?_ (St.le_cons rfl (St.le_cons rfl (St.le_cons rfl (St.le_cons rfl (St.le_cons rfl (St.le_cons rfl (St.le_cons rfl (St.le_cons rfl (St.le_cons rfl (St.le_cons rfl ((by repeat (first | exact St.le_refl _ | refine leB_skip ?_ rfl)))))))))))))
        refine WPA.ghost (Ghost.alias' (L := 33) (i := i) (a := 42) (b := inn i) (S' := (sl 1, .av (.d (intsD dl))) :: (sl 2, .av (.loc 2 0)) :: (sl 6, .av (.d (.v (.int .i64 (g.seqE dl).2)))) :: (sl 7, .av (iv .i64 (g.lat.length))) :: (sl 8, .av (.own 33 g.lat.length)) :: (sl 35, .av (iv .i64 (g.lat.length))) :: (sl 36, .av (iv .i64 (i))) :: (bk 2, .blk (.data g.ds)) :: famB (WmB g.lat.length i)) rfl hcell rfl (by decide) (by repeat (first | exact famB_out (by simp) | refine get_skip ?_ rfl)) (by repeat (first | exact nm_famB | refine nm_appv cellsB_out ?_ | refine nm_cons rfl ?_)) (by rw [hk]; simp) (St.le_cons rfl (St.le_cons rfl (St.le_cons rfl (St.le_cons rfl (St.le_cons rfl (St.le_cons rfl (St.le_cons rfl (St.le_cons rfl ((by repeat (first | exact St.le_refl _ | refine leB_skip ?_ rfl))))))))))) (famB_small (by decide))) ?_
        apply WPA.region
        · apply Trace.pu [] (.arith (.plain rfl) (.plain rfl) rfl (fun _ => bd64 (by omega)))
          apply Trace.pu [] (.move (.plain rfl))
          exact .nil _
        · exact keepOK_of hk hn rfl
        refine ⟨i + 1, by omega, by omega, ?_⟩
        exact (St.le_cons rfl (St.le_cons rfl (St.le_cons rfl (St.le_cons rfl (St.le_cons rfl (St.le_cons rfl (St.le_cons (slI (by omega)) (St.le_cons rfl (St.le_cons (appv_eq (cellsB_succ hlt)) ((by repeat (first | exact leB_pushM (by repeat (first | exact St.le_refl _ | refine leB_skip ?_ rfl)) | refine leB_skip ?_ rfl))))))))))))
      · have hin : i = g.lat.length := by
          have : ¬ ((i : Int) < g.lat.length) := by simpa using hc3
          omega
        subst hin
        apply WPA.exit
        apply WPA.seq
        apply WPA.seq
        apply WPA.region
        · apply Trace.pu [] (.fieldAddr fl25_1 (.plain rfl) rfl)
          first | apply Trace.pu [_] (.loadLoc1D ty23 (.plain rfl) rfl rfl) | apply Trace.pu [_] (.loadLoc1 ty23 (.plain rfl) rfl rfl) | apply Trace.pu [] (.loadRp1 ty23 (.plain rfl) rfl) | apply Trace.pu [_] (.loadCol1 ty23 (.plain rfl) rfl rfl rfl (fun _ => by omega))
          apply Trace.pu [] (.len rfl Try.underlying23 (.plain rfl) rfl)
          apply Trace.pu [] (.move (.plain rfl))
          exact .nil _
        · exact keepOK_of hk hn rfl
        apply WPA.block
        refine WPA.loop (σ := Nat) (fun i => (sl 1, .av (.d (intsD dl))) :: (sl 2, .av (.loc 2 0)) :: (sl 6, .av (.d (.v (.int .i64 (g.seqE dl).2)))) :: (sl 7, .av (iv .i64 (g.lat.length))) :: (sl 8, .av (.own 33 g.lat.length)) :: (sl 46, .av (.d (edgesD g.es))) :: (sl 47, .av (iv .i64 (g.es.length))) :: (sl 48, .av (iv .i64 (i))) :: (bk 2, .blk (.data g.ds)) :: (bk 33, .blk (.appv (matB (zeM g dl i)))) :: famB (zeM g dl i)) (fun i => i ≤ g.es.length) (fun i => g.es.length - i) 0
          (St.le_cons rfl (St.le_cons rfl (St.le_cons rfl (St.le_cons rfl (St.le_cons rfl (St.le_cons rfl (St.le_cons rfl (St.le_cons rfl (St.le_cons rfl (St.le_cons (appv_eq (by simp [cellsB]; rfl)) ((by repeat (first | exact St.le_refl _ | refine leB_skip ?_ rfl))))))))))))) (Nat.zero_le _) fun i hi => ?_
        apply WPA.seq
        apply WPA.region
        · apply Trace.pu [] (.cmp (.plain rfl) (.plain rfl) rfl)
          exact .nil _
        · exact keepOK_of hk hn rfl
        apply WPA.seq
        refine WPA.cond rfl (fun hc4 => ?_) (fun hc4 => ?_)
        · have hlt3 : i < g.es.length := by simpa using hc4
          have hway := zeM_sq hok (dl := dl) i hi
          have hzs : zeM g dl (i + 1) = if dl.getD i 0 = 0 then bset (zeM g dl i) (g.es.getD i default).f.toNat (g.es.getD i default).t.toNat true else zeM g dl i := rfl
          obtain ⟨e, he⟩ : ∃ e, g.es.getD i default = e := ⟨_, rfl⟩
          rw [he] at hzs
          obtain ⟨hem, hef, het, hef0, het0⟩ := he ▸ Gr.edge hok hlt3
          generalize zeM g dl i = w at hway hzs ⊢
          have hwl := hway.len
          have hfl : e.f.toNat < w.length := by rw [hway.len]; exact hef
          have hrl := hway.row _ hef
          have hcell := matB_get hfl
          have hmr := matB_length w
          apply WPA.skip
          apply WPA.seq
          apply WPA.block
          apply WPA.seq
          apply WPA.region
          · apply Trace.pu [] (.move (.plain rfl))
            apply Trace.pu [] ((Pure.indexRows el23 (.plain rfl) (.plain rfl) (fun _ => ⟨by omega, by omega⟩)).to (y := .rp e.ds) (by show AV.rp (g.es.getD i default).ds = _; rw [he]))
            first | apply Trace.pu [_] (.loadAllD ty43 (.plain rfl) rfl (by simp)) | apply Trace.pu [_] (.loadLocD ty43 (.plain rfl) rfl (fun _ => by simp)) | apply Trace.pu [_] (.loadLoc ty43 (.plain rfl) rfl (fun _ => Nat.le_of_ble_eq_true rfl)) | apply Trace.pu [] (.loadRp ty43 (.plain rfl) (fun _ => by decide)) | apply Trace.pu [] (.loadRp ty43 (.plain rfl) (fun _ => Nat.le_of_ble_eq_true rfl)) | apply Trace.pu [_] (.loadCol ty43 (.plain rfl) rfl rfl (fun _ => by decide) (fun _ => by omega)) | apply Trace.pu [_] (.loadArr ty43 (.plain rfl) rfl)
            apply Trace.alloc 11 [] (.data _) zo43 (cellsAs_data _) (freshB_of (fun l hl => by
                simp only [List.mem_singleton] at hl; subst hl
                repeat (first | exact nm_famB | refine nm_appv (matB_ment (by decide)) ?_ | refine nm_appv (cellsB_ment (by decide)) ?_ | refine nm_cons rfl ?_)))
            apply Trace.pu [] (.assign (.plain rfl))
            first | apply Trace.storeD ty43 (.plain rfl) (.plain rfl) rfl rfl (by simp) (by simp [AV.oneB, single]) (by simp) (spliceL_all (by simp)) | apply Trace.storeD ty43 (.plain rfl) (.plain rfl) rfl rfl (by simp) (by simp [AV.oneB, single]) (by simp) rfl | apply Trace.storeDA ty43 (.plain rfl) (.plain rfl) rfl rfl (by simp) (by simp [AV.oneB, single]) (by simp) rfl | apply Trace.storeLoc ty43 (.plain rfl) (.plain rfl) rfl rfl (by simp) (by simp [AV.oneB, single]) (by simp) rfl | apply Trace.storeRow ty43 (.plain rfl) (.plain rfl) rfl rfl rfl rfl (by decide) (by simp [AV.oneB, single]) rfl (by omega)
            exact .nil _
          · exact keepOK_of hk hn rfl
          apply WPA.seq
          apply WPA.region
          · apply Trace.pu [] (.move (.plain rfl))
            apply Trace.pu [] (.move (.plain rfl))
            first | apply Trace.pu [] (.indexRows el22 (.plain rfl) (.plain rfl) (fun _ => ⟨by omega, by omega⟩)) | apply Trace.pu [] (.indexOwn el22 (.plain rfl) (.plain rfl) (fun _ => ⟨by omega, by omega⟩)) | apply Trace.pu [] (.indexSl el22 (.plain rfl) (.plain rfl) (fun _ => ⟨by omega, by omega⟩))
            first | apply Trace.pu [_] (.loadLoc1D ty3 (.plain rfl) rfl rfl) | apply Trace.pu [_] (.loadLoc1 ty3 (.plain rfl) rfl rfl) | apply Trace.pu [] (.loadRp1 ty3 (.plain rfl) rfl) | apply Trace.pu [_] (.loadCol1 ty3 (.plain rfl) rfl rfl rfl (fun _ => by omega))
            apply Trace.pu [] (.cmp (.plain rfl) (.plain rfl) rfl)
            exact .nil _
          · exact keepOK_of hk hn rfl
          refine WPA.cond rfl (fun hc5 => ?_) (fun hc5 => ?_)
          · have h0 : dl.getD i 0 = 0 := of_decide_eq_true hc5
            rw [if_pos h0] at hzs
            apply WPA.draw mixed
            · apply Trace.pu [] (.move (.plain rfl))
              apply Trace.pu [] (.fieldAddr fl43_0 (.plain rfl) rfl)
              first | apply Trace.pu [_] (.loadLoc1D ty3 (.plain rfl) rfl rfl) | apply Trace.pu [_] (.loadLoc1 ty3 (.plain rfl) rfl rfl) | apply Trace.pu [] (.loadRp1 ty3 (.plain rfl) rfl) | apply Trace.pu [_] (.loadCol1 ty3 (.plain rfl) rfl rfl rfl (fun _ => by omega))
              apply Trace.pu [] (.indexOwn el44 (.plain rfl) (.plain rfl) (fun _ => ⟨by omega, by omega⟩))
              apply Trace.pu [33] (.loadRowV ty45 (.plain rfl) rfl (fun _ => hcell))
              apply Trace.pu [] (.fieldAddr fl43_1 (.plain rfl) rfl)
              first | apply Trace.pu [_] (.loadLoc1D ty3 (.plain rfl) rfl rfl) | apply Trace.pu [_] (.loadLoc1 ty3 (.plain rfl) rfl rfl) | apply Trace.pu [] (.loadRp1 ty3 (.plain rfl) rfl) | apply Trace.pu [_] (.loadCol1 ty3 (.plain rfl) rfl rfl rfl (fun _ => by omega))
              apply Trace.pu [] (.indexOwn el45 (.plain rfl) (.plain rfl) (fun _ => ⟨by omega, by omega⟩))
              apply Trace.storeRow ty4 (.plain rfl) (.plain rfl) (by repeat (first | exact famB_get hfl | refine get_skip ?_ rfl)) rfl rfl rfl (by decide) (by simp [AV.oneB, single]) rfl (by omega)
              exact .nil _
            · rfl
            · repeat (first | exact keepOK_nil | refine keepOK_cons (by first | exact axOK_of hk hn rfl | exact axOK_blk) ?_)
            apply WPA.region
            · apply Trace.pu [] (.arith (.plain rfl) (.plain rfl) rfl (fun _ => bd64 (by omega)))
              apply Trace.pu [] (.move (.plain rfl))
              exact .nil _
            · exact keepOK_of hk hn rfl
            refine ⟨i + 1, by omega, by omega, ?_⟩
            rw [hzs]
            first
              | exact (St.le_cons rfl (St.le_cons rfl (St.le_cons rfl (St.le_cons rfl (St.le_cons rfl (St.le_cons rfl (St.le_cons rfl (St.le_cons (slI (by omega)) (St.le_cons rfl (St.le_cons (appv_eq (matB_set (by simp))) ((by repeat (first | exact leB_row (by repeat (first | exact St.le_refl _ | refine leB_skip ?_ rfl)) hfl (by simp) | refine leB_skip ?_ rfl)))))))))))))
              | exact (St.le_cons rfl (St.le_cons rfl (St.le_cons rfl (St.le_cons rfl (St.le_cons rfl (St.le_cons rfl (St.le_cons rfl (St.le_cons (slI (by omega)) (St.le_cons rfl (St.le_cons rfl ((by repeat (first | exact St.le_refl _ | refine leB_skip ?_ rfl)))))))))))))
          · have h0 : ¬ dl.getD i 0 = 0 := of_decide_eq_false hc5
            rw [if_neg h0] at hzs
            apply WPA.skip
            apply WPA.region
            · apply Trace.pu [] (.arith (.plain rfl) (.plain rfl) rfl (fun _ => bd64 (by omega)))
              apply Trace.pu [] (.move (.plain rfl))
              exact .nil _
            · exact keepOK_of hk hn rfl
            refine ⟨i + 1, by omega, by omega, ?_⟩
            rw [hzs]
            first
              | exact (St.le_cons rfl (St.le_cons rfl (St.le_cons rfl (St.le_cons rfl (St.le_cons rfl (St.le_cons rfl (St.le_cons rfl (St.le_cons (slI (by omega)) (St.le_cons rfl (St.le_cons (appv_eq (matB_set (by simp))) ((by repeat (first | exact leB_row (by repeat (first | exact St.le_refl _ | refine leB_skip ?_ rfl)) hfl (by simp) | refine leB_skip ?_ rfl)))))))))))))
              | exact (St.le_cons rfl (St.le_cons rfl (St.le_cons rfl (St.le_cons rfl (St.le_cons rfl (St.le_cons rfl (St.le_cons rfl (St.le_cons (slI (by omega)) (St.le_cons rfl (St.le_cons rfl ((by repeat (first | exact St.le_refl _ | refine leB_skip ?_ rfl)))))))))))))
        · have hin2 : i = g.es.length := by
            have : ¬ ((i : Int) < g.es.length) := by simpa using hc4
            omega
          subst hin2
          have hsq := zeM_sq hok (dl := dl) g.es.length (Nat.le_refl _)
          apply WPA.exit
          apply WPA.seq
          apply WPA.seq
          apply WPA.region
          · apply Trace.pu [] (.move (.plain rfl))
            apply Trace.pu [] (.move (.plain rfl))
            exact .nil _
          · exact keepOK_of hk hn rfl
          apply WPA.block
          refine WPA.loop (σ := Nat) (fun k => (sl 6, .av (.d (.v (.int .i64 (g.seqE dl).2)))) :: (sl 7, .av (iv .i64 (g.lat.length))) :: (sl 8, .av (.own 33 g.lat.length)) :: (sl 67, .av (iv .i64 (g.lat.length))) :: (sl 68, .av (iv .i64 (k))) :: (bk 33, .blk (.appv (matB (wyM g.lat.length (zeM g dl g.es.length) k)))) :: famB (wyM g.lat.length (zeM g dl g.es.length) k)) (fun k => k ≤ g.lat.length) (fun k => g.lat.length - k) 0
            (St.le_cons rfl (St.le_cons rfl (St.le_cons rfl (St.le_cons rfl (St.le_cons rfl (St.le_cons rfl ((by repeat (first | exact St.le_refl _ | refine leB_skip ?_ rfl))))))))) (Nat.zero_le _) fun k hkn => ?_
          apply WPA.seq
          apply WPA.region
          · apply Trace.pu [] (.cmp (.plain rfl) (.plain rfl) rfl)
            exact .nil _
          · exact keepOK_of hk hn rfl
          apply WPA.seq
          refine WPA.cond rfl (fun hc6 => ?_) (fun hc6 => ?_)
          · have hkl : k < g.lat.length := by simpa using hc6
            have hwM := wyM_sq hsq k
            apply WPA.skip
            apply WPA.seq
            apply WPA.block
            apply WPA.seq
            apply WPA.region
            · apply Trace.pu [] (.move (.plain rfl))
              apply Trace.pu [] (.assign (.plain rfl))
              exact .nil _
            · exact keepOK_of hk hn rfl
            apply WPA.seq
            apply WPA.region
            · apply Trace.pu [] (.move (.plain rfl))
              apply Trace.pu [] (.move (.plain rfl))
              exact .nil _
            · exact keepOK_of hk hn rfl
            apply WPA.block
            refine WPA.loop (σ := Nat) (fun v => (sl 6, .av (.d (.v (.int .i64 (g.seqE dl).2)))) :: (sl 7, .av (iv .i64 (g.lat.length))) :: (sl 8, .av (.own 33 g.lat.length)) :: (sl 67, .av (iv .i64 (g.lat.length))) :: (sl 68, .av (iv .i64 (k))) :: (sl 12, .av (iv .i64 (k))) :: (sl 71, .av (iv .i64 (g.lat.length))) :: (sl 72, .av (iv .i64 (v))) :: (bk 33, .blk (.appv (matB (wyI g.lat.length k (wyM g.lat.length (zeM g dl g.es.length) k) v)))) :: famB (wyI g.lat.length k (wyM g.lat.length (zeM g dl g.es.length) k) v)) (fun v => v ≤ g.lat.length) (fun v => g.lat.length - v) 0
              (St.le_cons rfl (St.le_cons rfl (St.le_cons rfl (St.le_cons rfl (St.le_cons rfl (St.le_cons rfl (St.le_cons rfl (St.le_cons rfl (St.le_cons rfl ((by repeat (first | exact St.le_refl _ | refine leB_skip ?_ rfl)))))))))))) (Nat.zero_le _) fun v hvn => ?_
            apply WPA.seq
            apply WPA.region
            · apply Trace.pu [] (.cmp (.plain rfl) (.plain rfl) rfl)
              exact .nil _
            · exact keepOK_of hk hn rfl
            apply WPA.seq
            refine WPA.cond rfl (fun hc7 => ?_) (fun hc7 => ?_)
            · have hvl : v < g.lat.length := by simpa using hc7
              have hwI := wyI_sq (k := k) hwM v hvn
              apply WPA.skip
              apply WPA.seq
              apply WPA.block
              apply WPA.seq
              apply WPA.region
              · apply Trace.pu [] (.move (.plain rfl))
                apply Trace.pu [] (.assign (.plain rfl))
                exact .nil _
              · exact keepOK_of hk hn rfl
              apply WPA.seq
              apply WPA.region
              · apply Trace.pu [] (.move (.plain rfl))
                apply Trace.pu [] (.move (.plain rfl))
                exact .nil _
              · exact keepOK_of hk hn rfl
              apply WPA.block
              refine WPA.loop (σ := Nat) (fun b => (sl 6, .av (.d (.v (.int .i64 (g.seqE dl).2)))) :: (sl 7, .av (iv .i64 (g.lat.length))) :: (sl 8, .av (.own 33 g.lat.length)) :: (sl 67, .av (iv .i64 (g.lat.length))) :: (sl 68, .av (iv .i64 (k))) :: (sl 12, .av (iv .i64 (k))) :: (sl 71, .av (iv .i64 (g.lat.length))) :: (sl 72, .av (iv .i64 (v))) :: (sl 13, .av (iv .i64 (v))) :: (sl 75, .av (iv .i64 (g.lat.length))) :: (sl 76, .av (iv .i64 (b))) :: (bk 33, .blk (.appv (matB (wyK k v (wyI g.lat.length k (wyM g.lat.length (zeM g dl g.es.length) k) v) b)))) :: famB (wyK k v (wyI g.lat.length k (wyM g.lat.length (zeM g dl g.es.length) k) v) b)) (fun b => b ≤ g.lat.length) (fun b => g.lat.length - b) 0
                (St.le_cons rfl (St.le_cons rfl (St.le_cons rfl (St.le_cons rfl (St.le_cons rfl (St.le_cons rfl (St.le_cons rfl (St.le_cons rfl (St.le_cons rfl (St.le_cons rfl (St.le_cons rfl (St.le_cons rfl ((by repeat (first | exact St.le_refl _ | refine leB_skip ?_ rfl))))))))))))))) (Nat.zero_le _) fun b hbn => ?_
              apply WPA.seq
              apply WPA.region
              · apply Trace.pu [] (.cmp (.plain rfl) (.plain rfl) rfl)
                exact .nil _
              · exact keepOK_of hk hn rfl
              apply WPA.seq
              refine WPA.cond rfl (fun hc8 => ?_) (fun hc8 => ?_)
              · have hbl : b < g.lat.length := by simpa using hc8
                have hwK := wyK_sq (k := k) hwI hvl b
                have hws : wyK k v (wyI g.lat.length k (wyM g.lat.length (zeM g dl g.es.length) k) v) (b + 1) = bset (wyK k v (wyI g.lat.length k (wyM g.lat.length (zeM g dl g.es.length) k) v) b) v b (bw (wyK k v (wyI g.lat.length k (wyM g.lat.length (zeM g dl g.es.length) k) v) b) v b || (bw (wyK k v (wyI g.lat.length k (wyM g.lat.length (zeM g dl g.es.length) k) v) b) v k && bw (wyK k v (wyI g.lat.length k (wyM g.lat.length (zeM g dl g.es.length) k) v) b) k b)) := rfl
                generalize wyK k v (wyI g.lat.length k (wyM g.lat.length (zeM g dl g.es.length) k) v) b = w at hwK hws ⊢
                have hwl := hwK.len
                have hlv : v < w.length := by omega
                have hlk : k < w.length := by omega
                have hrv := hwK.row v hvl
                have hrk := hwK.row k hkl
                have hcv := matB_get hlv
                have hck := matB_get hlk
                have hmr := matB_length w
                apply WPA.skip
                apply WPA.seq
                apply WPA.block
                apply WPA.seq
                apply WPA.region
                · apply Trace.pu [] (.move (.plain rfl))
                  apply Trace.pu [] (.assign (.plain rfl))
                  exact .nil _
                · exact keepOK_of hk hn rfl
                apply WPA.draw mixed
                · apply Trace.pu [] (.move (.plain rfl))
                  apply Trace.pu [] (.move (.plain rfl))
                  apply Trace.pu [] (.indexOwn el44 (.plain rfl) (.plain rfl) (fun _ => ⟨by omega, by omega⟩))
                  apply Trace.pu [33] (.loadRowV ty45 (.plain rfl) rfl (fun _ => hcv))
                  apply Trace.pu [] (.move (.plain rfl))
                  apply Trace.pu [] (.move (.plain rfl))
                  apply Trace.pu [] (.move (.plain rfl))
                  apply Trace.pu [] (.indexOwn el44 (.plain rfl) (.plain rfl) (fun _ => ⟨by omega, by omega⟩))
                  apply Trace.pu [33] (.loadRowV ty45 (.plain rfl) rfl (fun _ => hcv))
                  apply Trace.pu [] (.move (.plain rfl))
                  apply Trace.pu [] (.indexOwn el45 (.plain rfl) (.plain rfl) (fun _ => ⟨by omega, by omega⟩))
                  apply Trace.pu [inn v] (.loadCol1 ty4 (.plain rfl) (by repeat (first | exact famB_get hlv | refine get_skip ?_ rfl)) rfl rfl (fun _ => by omega))
                  apply Trace.pu [] (.move (.plain rfl))
                  apply Trace.pg [] rfl (.move (.plain rfl))
                  apply Trace.pg [] rfl (.move (.plain rfl))
                  apply Trace.pg [] rfl (.indexOwn el44 (.gd rfl (fun h => h)) (.gd rfl (fun h => h)) (fun _ => ⟨by omega, by omega⟩))
                  apply Trace.pg [33] rfl (.loadRowV ty45 (.gd rfl (fun h => h)) rfl (fun _ => hcv))
                  apply Trace.pg [] rfl (.move (.plain rfl))
                  apply Trace.pg [] rfl (.indexOwn el45 (.gd rfl (fun h => h)) (.gd rfl (fun h => h)) (fun _ => ⟨by omega, by omega⟩))
                  apply Trace.pg [inn v] rfl (.loadCol1 ty4 (.gd rfl (fun h => h)) (by repeat (first | exact famB_get hlv | refine get_skip ?_ rfl)) rfl rfl (fun _ => by omega))
                  apply Trace.pg [] rfl (.move (.gd rfl (fun h => h)))
                  apply Trace.pg [] rfl (.move (.plain rfl))
                  apply Trace.pg [] rfl (.move (.plain rfl))
                  apply Trace.pg [] rfl (.indexOwn el44 (.gd rfl (fun h => h)) (.gd rfl (fun h => h)) (fun _ => ⟨by omega, by omega⟩))
                  apply Trace.pg [33] rfl (.loadRowV ty45 (.gd rfl (fun h => h)) rfl (fun _ => hck))
                  apply Trace.pg [] rfl (.move (.plain rfl))
                  apply Trace.pg [] rfl (.indexOwn el45 (.gd rfl (fun h => h)) (.gd rfl (fun h => h)) (fun _ => ⟨by omega, by omega⟩))
                  apply Trace.pg [inn k] rfl (.loadCol1 ty4 (.gd rfl (fun h => h)) (by repeat (first | exact famB_get hlk | refine get_skip ?_ rfl)) rfl rfl (fun _ => by omega))
                  apply Trace.pg [] rfl (.pick (.gd rfl (fun h => h)) (.gd rfl (by simp)) (.plain rfl))
                  apply Trace.pu [] ((Pure.pick (.plain rfl) (.plain rfl) (.gd rfl (by simp))).to (y := bv (bw w v b || (bw w v k && bw w k b))) (by rw [← bif_or', ← bif_and']; rfl))
                  apply Trace.pu [] (.indexOwn el45 (.plain rfl) (.plain rfl) (fun _ => ⟨by omega, by omega⟩))
                  apply Trace.storeRow ty4 (.plain rfl) (.plain rfl) (by repeat (first | exact famB_get hlv | refine get_skip ?_ rfl)) rfl rfl rfl (by decide) (by simp [AV.oneB, single]) rfl (by omega)
                  exact .nil _
                · rfl
                · repeat (first | exact keepOK_nil | refine keepOK_cons (by first | exact axOK_of hk hn rfl | exact axOK_blk) ?_)
                apply WPA.region
                · apply Trace.pu [] (.arith (.plain rfl) (.plain rfl) rfl (fun _ => bd64 (by omega)))
                  apply Trace.pu [] (.move (.plain rfl))
                  exact .nil _
                · exact keepOK_of hk hn rfl
                refine ⟨b + 1, by omega, by omega, ?_⟩
                rw [hws]
                exact (St.le_cons rfl (St.le_cons rfl (St.le_cons rfl (St.le_cons rfl (St.le_cons rfl (St.le_cons rfl (St.le_cons rfl (St.le_cons rfl (St.le_cons rfl (St.le_cons rfl (St.le_cons (slI (by omega)) (St.le_cons (appv_eq (matB_set (by simp))) ((by repeat (first | exact leB_row (by repeat (first | exact St.le_refl _ | refine leB_skip ?_ rfl)) hlv (by simp) | refine leB_skip ?_ rfl)))))))))))))))
              · have hbe : b = g.lat.length := by
                  have : ¬ ((b : Int) < g.lat.length) := by simpa using hc8
                  omega
                subst hbe
                apply WPA.exit
                apply WPA.region
                · apply Trace.pu [] (.arith (.plain rfl) (.plain rfl) rfl (fun _ => bd64 (by omega)))
                  apply Trace.pu [] (.move (.plain rfl))
                  exact .nil _
                · exact keepOK_of hk hn rfl
                refine ⟨v + 1, by omega, by omega, ?_⟩
                exact (St.le_cons rfl (St.le_cons rfl (St.le_cons rfl (St.le_cons rfl (St.le_cons rfl (St.le_cons rfl (St.le_cons rfl (St.le_cons (slI (by omega)) (St.le_cons rfl ((by repeat (first | exact St.le_refl _ | refine leB_skip ?_ rfl))))))))))))
            · have hve : v = g.lat.length := by
                have : ¬ ((v : Int) < g.lat.length) := by simpa using hc7
                omega
              subst hve
              apply WPA.exit
              apply WPA.region
              · apply Trace.pu [] (.arith (.plain rfl) (.plain rfl) rfl (fun _ => bd64 (by omega)))
                apply Trace.pu [] (.move (.plain rfl))
                exact .nil _
              · exact keepOK_of hk hn rfl
              refine ⟨k + 1, by omega, by omega, ?_⟩
              exact (St.le_cons rfl (St.le_cons rfl (St.le_cons rfl (St.le_cons rfl (St.le_cons (slI (by omega)) (St.le_cons rfl ((by repeat (first | exact St.le_refl _ | refine leB_skip ?_ rfl)))))))))
          · have hke : k = g.lat.length := by
              have : ¬ ((k : Int) < g.lat.length) := by simpa using hc6
              omega
            subst hke
            apply WPA.exit
            apply WPA.seq
            apply WPA.region
            · apply Trace.pu [] (.assign (.plain rfl))
              exact .nil _
            · exact keepOK_of hk hn rfl
            apply WPA.seq
            apply WPA.seq
            apply WPA.region
            · apply Trace.pu [] (.move (.plain rfl))
              apply Trace.pu [] (.move (.plain rfl))
              exact .nil _
            · exact keepOK_of hk hn rfl
            apply WPA.block
            refine WPA.loop (σ := Nat) (fun v => (sl 6, .av (.d (.v (.int .i64 (g.seqE dl).2)))) :: (sl 7, .av (iv .i64 (g.lat.length))) :: (sl 8, .av (.own 33 g.lat.length)) :: (sl 113, .av (iv .i64 (g.lat.length))) :: (sl 114, .av (iv .i64 (v))) :: (sl 15, .av (bv (loopTo (g.wayB dl) v))) :: (bk 33, .blk (.appv (matB (g.wayB dl)))) :: famB (g.wayB dl)) (fun v => v ≤ g.lat.length) (fun v => g.lat.length - v) 0
              (St.le_cons rfl (St.le_cons rfl (St.le_cons rfl (St.le_cons rfl (St.le_cons rfl (St.le_cons rfl (St.le_cons rfl ((by repeat (first | exact St.le_refl _ | refine leB_skip ?_ rfl)))))))))) (Nat.zero_le _) fun v hvn => ?_
            apply WPA.seq
            apply WPA.region
            · apply Trace.pu [] (.cmp (.plain rfl) (.plain rfl) rfl)
              exact .nil _
            · exact keepOK_of hk hn rfl
            apply WPA.seq
            refine WPA.cond rfl (fun hc9 => ?_) (fun hc9 => ?_)
            · have hvl : v < g.lat.length := by simpa using hc9
              have hwM : SqB g.lat.length (g.wayB dl) := wyM_sq hsq g.lat.length
              have hls := loopTo_succ (g.wayB dl) v
              generalize g.wayB dl = w at hwM hls ⊢
              have hwl := hwM.len
              have hlv : v < w.length := by omega
              have hrv := hwM.row v hvl
              have hcv := matB_get hlv
              have hmr := matB_length w
              apply WPA.skip
              apply WPA.seq
              apply WPA.block
              apply WPA.seq
              apply WPA.region
              · apply Trace.pu [] (.move (.plain rfl))
                apply Trace.pu [] (.assign (.plain rfl))
                exact .nil _
              · exact keepOK_of hk hn rfl
              apply WPA.region
              · apply Trace.pu [] (.move (.plain rfl))
                apply Trace.pu [] (.move (.plain rfl))
                apply Trace.pg [] rfl (.move (.plain rfl))
                apply Trace.pg [] rfl (.move (.plain rfl))
                apply Trace.pg [] rfl (.indexOwn el44 (.gd rfl (fun h => h)) (.gd rfl (fun h => h)) (fun _ => ⟨by omega, by omega⟩))
                apply Trace.pg [33] rfl (.loadRowV ty45 (.gd rfl (fun h => h)) rfl (fun _ => hcv))
                apply Trace.pg [] rfl (.move (.plain rfl))
                apply Trace.pg [] rfl (.indexOwn el45 (.gd rfl (fun h => h)) (.gd rfl (fun h => h)) (fun _ => ⟨by omega, by omega⟩))
                apply Trace.pg [inn v] rfl (.loadCol1 ty4 (.gd rfl (fun h => h)) (by repeat (first | exact famB_get hlv | refine get_skip ?_ rfl)) rfl rfl (fun _ => by omega))
                apply Trace.pu [] (.pick (.plain rfl) (.plain rfl) (.gd rfl (by simp)))
                apply Trace.pu [] (.assign (.plain rfl))
                exact .nil _
              · repeat (first | exact keepOK_nil | refine keepOK_cons (by first | exact axOK_of hk hn rfl | exact axOK_blk) ?_)
              apply WPA.region
              · apply Trace.pu [] (.arith (.plain rfl) (.plain rfl) rfl (fun _ => bd64 (by omega)))
                apply Trace.pu [] (.move (.plain rfl))
                exact .nil _
              · exact keepOK_of hk hn rfl
              refine ⟨v + 1, by omega, by omega, ?_⟩
              exact (St.le_cons rfl (St.le_cons rfl (St.le_cons rfl (St.le_cons rfl (St.le_cons (slI (by omega)) (St.le_cons (slB hls.symm) (St.le_cons rfl ((by repeat (first | exact St.le_refl _ | refine leB_skip ?_ rfl))))))))))
            · have hve : v = g.lat.length := by
                have : ¬ ((v : Int) < g.lat.length) := by simpa using hc9
                omega
              subst hve
              apply WPA.exit
              apply WPA.seq
              apply WPA.seq
              apply WPA.region
              · apply Trace.pu [] (.move (.plain rfl))
                exact .nil _
              · exact keepOK_of hk hn rfl
              refine WPA.cond rfl (fun hc10 => ?_) (fun hc10 => ?_)
              · have hcode : (g.seqE dl).2 = 211 := by
                  obtain ⟨v, hv, hw⟩ := List.any_eq_true.1 (show (List.range g.lat.length).any (fun v => bw (g.wayB dl) v v) = true from hc10)
                  have hnone := (seq_loop hok (dl := dl)).2 ⟨v, by simpa using hv, hw⟩
                  unfold Gr.seqE Gr.seqO
                  rw [if_neg (fun e => e hC), if_neg (by rw [hB]; decide), hnone]; rfl
                apply WPA.seq
                apply WPA.region
                · apply Trace.pu [] (.move (.plain rfl))
                  apply Trace.pu [] (.cmp (.plain rfl) (.plain rfl) rfl)
                  apply Trace.pu [] (.assign (.plain rfl))
                  exact .nil _
                · exact keepOK_of hk hn rfl
                apply WPA.ret
                refine ⟨.inr rfl, ⟨_, (.cons (.tmp rfl) .nil), ?_⟩, by simp [St.get]⟩
                exact congrArg bv (by rw [hcode]; rfl)
              · have hcode : (g.seqE dl).2 = 0 := by
                  have hno : ¬ ∃ v, v < g.lat.length ∧ bw (g.wayB dl) v v = true := fun ⟨v, hv, hw⟩ => by
                    have h9 : (List.range g.lat.length).any (fun v => bw (g.wayB dl) v v) = false := hc10
                    have := List.any_eq_false.1 h9 v (by simpa using hv)
                    exact this hw
                  cases hs : g.seqTo dl g.lat.length with
                  | none => exact absurd ((seq_loop hok).1 hs) hno
                  | some s => rw [seqE_ok hC hB hs]
                apply WPA.skip
                apply WPA.seq
                apply WPA.region
                · apply Trace.pu [] (.move (.plain rfl))
                  apply Trace.pu [] (.cmp (.plain rfl) (.plain rfl) rfl)
                  apply Trace.pu [] (.assign (.plain rfl))
                  exact .nil _
                · exact keepOK_of hk hn rfl
                apply WPA.ret
                refine ⟨.inr rfl, ⟨_, (.cons (.tmp rfl) .nil), ?_⟩, by simp [St.get]⟩
                exact congrArg bv (by rw [hcode]; rfl)

end Go.Proofs.Ytglokdfdogmmhaa

