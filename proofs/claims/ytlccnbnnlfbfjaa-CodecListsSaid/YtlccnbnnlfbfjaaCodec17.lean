/- The laws of codec: lists. -/
import Derived.Test.YtlccnbnnlfbfjaaCodec16
namespace Go.Proofs.Ytlccnbnnlfbfjaa
open Go
set_option linter.unusedVariables false
set_option linter.unusedSimpArgs false
set_option maxRecDepth 10000

def listV (l : List Val) : Val := .mk 3 0 ⟨#[]⟩ l
theorem listV_sz {l : List Val} (h : ∀ v ∈ l, v.Sz) (hl : l.length ≤ 140737488355328) : (listV l).Sz := .mk _ _ _ _ (by decide) (by decide) (by decide) hl h
theorem formeds_of {l : List Val} (h : ∀ v ∈ l, v.formed = true) : Val.formeds l = true := by
  induction l with
  | nil => rfl
  | cons x r ih => simp only [Val.formeds, Bool.and_eq_true]; exact ⟨h x (by simp), ih fun v hv => h v (by simp [hv])⟩
theorem listV_check {l : List Val} (h : (listV l).check = 0) : ∀ v ∈ l, v.check = 0 := by
  intro v hv
  obtain ⟨hf, hd, _⟩ := Val.check_zero h
  obtain ⟨_, _, hfl⟩ := Val.formed_list hf
  have hd' : 1 + Val.depths l ≤ 16 := by simpa [listV, Val.depth] using hd
  have := Val.depth_mem v hv
  exact Val.check_of (Val.formeds_mem hfl v hv) (by omega)
theorem listV_limit {l : List Val} (h : ∀ v ∈ l, v.check = 0) (hne : (listV l).check ≠ 0) : (listV l).check = 2 := by
  have hf : (listV l).formed = true := by
    simp only [listV, Val.formed]
    simp [formeds_of fun v hv => (Val.check_zero (h v hv)).1]
  unfold Val.check at hne ⊢
  rw [if_pos hf] at hne ⊢
  split at hne
  · rename_i hd; rw [if_pos hd]
  · exact absurd rfl hne
theorem encs_few {l : List Val} (hz : ∀ v ∈ l, v.Sz) (h : ∀ v ∈ l, v.few = true) : (Val.encs l).length ≤ 80000 * l.length := by
  induction l with
  | nil => simp [Val.encs]
  | cons x r ih =>
    have h1 := (Val.few_bd (hz x (by simp)) (h x (by simp))).1
    have h2 := ih (fun v hv => hz v (by simp [hv])) (fun v hv => h v (by simp [hv]))
    simp only [Val.encs, List.length_append, List.length_cons]
    omega
theorem depths_few {l : List Val} (hz : ∀ v ∈ l, v.Sz) (h : ∀ v ∈ l, v.few = true) : Val.depths l ≤ 21 := by
  induction l with
  | nil => simp [Val.depths]
  | cons x r ih =>
    have h1 := (Val.few_bd (hz x (by simp)) (h x (by simp))).2
    have h2 := ih (fun v hv => hz v (by simp [hv])) (fun v hv => h v (by simp [hv]))
    simp only [Val.depths]
    omega
theorem listV_len (l : List Val) : (listV l).enc.length = 1 + (dig l.length).length + (Val.encs l).length := by
  rw [listV, Val.enc_list]; simp; omega
def zerosV (n : Nat) : List Val := List.replicate n (numV 0)
theorem zerosV_len (n : Nat) : (zerosV n).length = n := by simp [zerosV]
theorem zerosV_succ (n : Nat) : zerosV (n + 1) = zerosV n ++ [numV 0] := by simp [zerosV, List.replicate_succ']
theorem zerosV_encs (n : Nat) : (Val.encs (zerosV n)).length = 2 * n := by
  induction n with
  | zero => rfl
  | succ n ih =>
    have e0 : (numV 0).enc.length = 2 := by rw [numV_enc, show zig 0 = 0 from rfl, dig_lt (by decide)]; rfl
    rw [zerosV_succ, Val.encs_append]
    simp only [List.length_append, ih, Val.encs, List.length_nil, e0]
    omega
theorem zerosV_mem {n : Nat} {v : Val} (h : v ∈ zerosV n) : v = numV 0 := List.eq_of_mem_replicate h
theorem zerosV_check (n : Nat) : (listV (zerosV n)).check = 0 := by
  refine Val.check_of ?_ ?_
  · have h : Val.formeds (zerosV n) = true := formeds_of (fun v hv => by rw [zerosV_mem hv]; exact (Val.check_zero (numV_check 0)).1)
    simp only [listV, Val.formed]
    simp [h]
  · have : Val.depths (zerosV n) = 0 := by
      induction n with
      | zero => rfl
      | succ n ih => rw [zerosV_succ, Val.depths_append, ih]; simp [Val.depths, numV, Val.depth]
    simp [listV, Val.depth, this]
theorem s14z {n : Nat} (h : n ≤ 20) : FnSpec Try.prog 14 [(listV (zerosV n)).av] [] (.tup ([.v (.int .i64 ((1 + (dig n).length + 2 * n : Nat) : Int)), .v (.int .i64 0)].map .d)) [] [] := by
  have hc := zerosV_check n
  have he := (Val.check_zero hc).2.2
  have hl := listV_len (zerosV n)
  rw [zerosV_len, zerosV_encs] at hl
  have hd10 := dig_length10 (u := n) (by omega)
  have := spec14 (listV (zerosV n)) (listV_sz (fun v hv => by rw [zerosV_mem hv]; exact numV_sz (by decide)) (by rw [zerosV_len]; omega)) (by have := (Val.check_zero hc).2.1; omega) (by rw [he]; omega)
  rwa [he, hl, hc] at this
theorem s12l {l : List Val} (hz : ∀ v ∈ l, v.Sz) (hf : ∀ v ∈ l, v.few = true) (hl : l.length ≤ 20) : FnSpec Try.prog 12 [(listV l).av] [] (.tup ([bytesD (listV l).encoded, .v (.int .i64 (listV l).check)].map .d)) [] [] := by
  have h1 := encs_few hz hf
  have h2 := depths_few hz hf
  have h3 := Val.encoded_le (listV l)
  have h4 := listV_len l
  have h5 := dig_length10 (u := l.length) (by omega)
  exact spec12 (listV l) (listV_sz hz (by omega)) (by simp [listV, Val.depth]; omega) (by omega)
/-- soundpost/soundpostlaw01.CodecLists -/
theorem spec8 (l : List Val) (hx : l.length ≤ 140737488355328) (hz : ∀ v ∈ l, v.Sz) : FnSpec Try.prog 8 [.d (.rows 4 l.length (Val.row l))] [] (bv true) [] [] := by
  refine fnSpec_of (rs := [.tmp 2]) Try.func8 rfl rfl (Nat.le_of_ble_eq_true rfl) (by simp [St.get]) fun E hk hn => ?_
  apply WPA.seq
  apply WPA.region
  · apply Trace.pu [] (.assign (.plain rfl))
    exact .nil _
  · exact keepOK_of hk hn rfl
  apply WPA.seq
  apply WPA.seq
  apply WPA.region
  · apply Trace.cu (callArgs0 .nil) spec10 en10
    apply Trace.pu [] (.not (.plain rfl))
    exact .nil _
  · exact keepOK_of hk hn rfl
  refine WPA.cond rfl (fun hc1 => ?_) (fun hc1 => ?_)
  · cases hc1
  · apply WPA.skip
    apply WPA.seq
    apply WPA.seq
    apply WPA.region
    · apply Trace.pu [] (.move (.plain rfl))
      apply Trace.cu (callArgs0 (.cons (.plain rfl) .nil)) (spec11 l hx hz) en11
      apply Trace.pu [] (.not (.plain rfl))
      apply Trace.pu [] (.move (.plain rfl))
      apply Trace.pg [] rfl (.move (.plain rfl))
      apply Trace.pg [] rfl (.len rfl Try.underlying22 (.gd rfl (fun h => h)) rfl)
      apply Trace.pg [] rfl (.cmp (.gd rfl (fun h => h)) (.plain rfl) rfl)
      apply Trace.pu [] ((Pure.pick (.plain rfl) (.plain rfl) (.gd rfl (by simp))).to (y := bv (!l.all Val.few || decide (20 < (l.length : Int)))) (congrArg (fun b => bv b) (by cases h : l.all Val.few <;> simp [h])))
      exact .nil _
    · exact keepOK_of hk hn rfl
    refine WPA.cond rfl (fun hc2 => ?_) (fun hc2 => ?_)
    · apply WPA.seq
      apply WPA.region
      · apply Trace.pu [] (.assign (.plain rfl))
        exact .nil _
      · exact keepOK_of hk hn rfl
      apply WPA.ret
      refine ⟨.inr rfl, ⟨_, (.cons (.tmp rfl) .nil), ?_⟩, by simp [St.get]⟩
      rfl
    · have hfew : l.all Val.few = true ∧ (l.length : Int) ≤ 20 := by
        cases h : l.all Val.few with
        | false => rw [h] at hc2; cases hc2
        | true => rw [h] at hc2; exact ⟨rfl, by simpa using hc2⟩
      obtain ⟨hfew, hl20⟩ := hfew
      have hf : ∀ v ∈ l, v.few = true := List.all_eq_true.1 hfew
      have hel := encs_few hz hf
      have h12 := s12l hz hf (by omega)
      apply WPA.skip
      apply WPA.seq
      apply WPA.region
      · apply Trace.pu [] (.assign (.plain rfl))
        exact .nil _
      · exact keepOK_of hk hn rfl
      apply WPA.seq
      apply WPA.region
      · apply Trace.pu [] (.assign (.plain rfl))
        exact .nil _
      · exact keepOK_of hk hn rfl
      apply WPA.seq
      apply WPA.region
      · apply Trace.pu [] (.assign (.plain rfl))
        exact .nil _
      · exact keepOK_of hk hn rfl
      apply WPA.seq
      apply WPA.seq
      apply WPA.region
      · apply Trace.pu [] (.move (.plain rfl))
        apply Trace.pu [] (.len rfl Try.underlying22 (.plain rfl) rfl)
        apply Trace.pu [] (.move (.plain rfl))
        exact .nil _
      · exact keepOK_of hk hn rfl
      apply WPA.block
      refine WPA.ghost (Ghost.ownNil' (t := 3) (l := 3) (n := 1) (cs := [.ints .u8 []]) rfl rfl (by rw [hk]; decide) (by rw [hn]; decide) rfl (by simp [Col.len])) ?_
      refine WPA.ghost (Ghost.ownNil' (t := 4) (l := 4) (n := 4) (cs := valCols []) rfl rfl (by rw [hk]; decide) (by rw [hn]; decide) rfl (valCols_len [])) ?_
      refine WPA.loop (σ := Nat) (fun i => [(sl 0, .av (.d (.rows 4 l.length (Val.row l)))), (sl 3, .av (.own 3 (Val.encs (l.take i)).length)), (sl 4, .av (.own 4 i)), (sl 5, .av (iv .i64 (Val.encs (l.take i)).length)), (sl 29, .av (.d (.rows 4 l.length (Val.row l)))), (sl 30, .av (iv .i64 l.length)), (sl 31, .av (iv .i64 i)), (bk 3, .blk (.app 1 (Val.encs (l.take i)).length [.ints .u8 (Val.encs (l.take i))])), (bk 4, .blk (.app 4 i (valCols (zerosV i))))]) (fun i => i ≤ l.length ∧ ∀ v ∈ l.take i, v.check = 0) (fun i => l.length - i) 0
        (St.le_cons rfl (St.le_cons rfl (St.le_cons rfl (St.le_cons rfl (St.le_cons rfl (St.le_cons rfl (St.le_cons rfl (St.le_cons rfl (St.le_cons rfl (St.le_nil _)))))))))) ⟨Nat.zero_le _, by simp⟩ fun i hi => ?_
      obtain ⟨hil, hck⟩ := hi
      apply WPA.seq
      apply WPA.region
      · apply Trace.pu [] (.cmp (.plain rfl) (.plain rfl) rfl)
        exact .nil _
      · exact keepOK_of hk hn rfl
      apply WPA.seq
      refine WPA.cond rfl (fun hc3 => ?_) (fun hc3 => ?_)
      · have hlt : i < l.length := by simpa using hc3
        obtain ⟨v, hv⟩ : ∃ v, l[i] = v := ⟨_, rfl⟩
        have hvm : v ∈ l := hv ▸ List.getElem_mem hlt
        have hvz := hz v hvm
        obtain ⟨hl1, hd1⟩ := Val.few_bd hvz (hf v hvm)
        have hl2 := Val.encoded_le v
        have het := Val.encs_take l i hlt
        rw [hv] at het
        have hes := Val.encs_split l (i + 1)
        have hlen : (Val.encs (l.take (i + 1))).length ≤ (Val.encs l).length := by rw [hes]; simp
        rw [het] at hlen
        simp only [List.length_append] at hlen
        apply WPA.skip
        apply WPA.seq
        apply WPA.block
        apply WPA.seq
        apply WPA.region
        · first | apply Trace.pu [] (.indexRows el22 (.plain rfl) (.plain rfl) (fun _ => ⟨by omega, by omega⟩)) | apply Trace.pu [] (.indexOwn el22 (.plain rfl) (.plain rfl) (fun _ => ⟨by omega, by omega⟩)) | apply Trace.pu [] (.indexSl el22 (.plain rfl) (.plain rfl) (fun _ => ⟨by omega, by omega⟩))
          apply Trace.pu [] ((Pure.loadRp ty24 (.plain rfl) (fun _ => by rw [Val.row_length l _ (by omega)]; exact Nat.le_refl 4)).to (y := v.av) (by show AV.d (.agg ((Val.row l ((i : Int)).toNat).take 4)) = _; rw [Val.row_take l _ (by omega)]; simp [hv]))
          apply Trace.alloc 7 [] (.data _) zo24 (cellsAs_data _) rfl
          first | apply Trace.storeD ty24 (.plain rfl) (.plain rfl) rfl rfl (by simp [Val.cells_length]) (by first | exact Val.cells_one _ | simp [AV.oneB, single]) (by simp [Val.cells_length]) (spliceL_all (by simp [Val.cells_length])) | apply Trace.storeD ty24 (.plain rfl) (.plain rfl) rfl rfl (by simp [Val.cells_length]) (by first | exact Val.cells_one _ | simp [AV.oneB, single]) (by simp [Val.cells_length]) rfl | apply Trace.storeDA ty24 (.plain rfl) (.plain rfl) rfl rfl (by simp [Val.cells_length]) (by simp [AV.oneB, single]) (by simp [Val.cells_length]) rfl | apply Trace.storeLoc ty24 (.plain rfl) (.plain rfl) rfl rfl (by simp [Val.cells_length]) (by simp [AV.oneB, single]) (by simp) rfl | apply Trace.storeRow ty24 (.plain rfl) (.plain rfl) rfl rfl rfl rfl (by decide) (by simp [AV.oneB, single]) rfl (by omega)
          exact .nil _
        · exact keepOK_of hk hn rfl
        apply WPA.seq
        apply WPA.region
        · apply Trace.pu [_] ((Pure.loadAllD ty24 (.plain rfl) rfl (by simp [Val.cells_length])).to (y := (v).av) rfl)
          apply Trace.ct (callArgs0 (.cons (.plain rfl) .nil)) (spec12 v hvz (by omega) (by omega)) en12
          apply Trace.pu [] (.move (.plain rfl))
          apply Trace.pu [] (.extract (.plain rfl) rfl)
          apply Trace.pu [] (.extract (.plain rfl) rfl)
          apply Trace.pu [] (.assign (.plain rfl))
          apply Trace.pu [] (.assign (.plain rfl))
          exact .nil _
        · exact keepOK_of hk hn rfl
        apply WPA.seq
        apply WPA.region
        · apply Trace.pu [_] ((Pure.loadAllD ty24 (.plain rfl) rfl (by simp [Val.cells_length])).to (y := (v).av) rfl)
          apply Trace.ct (callArgs0 (.cons (.plain rfl) .nil)) (spec14 v hvz (by omega) (by omega)) en14
          apply Trace.pu [] (.move (.plain rfl))
          apply Trace.pu [] (.extract (.plain rfl) rfl)
          apply Trace.pu [] (.extract (.plain rfl) rfl)
          apply Trace.pu [] (.assign (.plain rfl))
          apply Trace.pu [] (.assign (.plain rfl))
          exact .nil _
        · exact keepOK_of hk hn rfl
        apply WPA.seq
        apply WPA.seq
        apply WPA.region
        · apply Trace.pu [] (.move (.plain rfl))
          apply Trace.pu [] (.move (.plain rfl))
          apply Trace.pu [] ((Pure.cmp (.plain rfl) (.plain rfl) rfl).to (y := bv false) (congrArg (fun b => bv b) (by simp)))
          apply Trace.pu [] (.move (.plain rfl))
          apply Trace.pg [] rfl (.move (.plain rfl))
          apply Trace.pg [] rfl (.cmp (.gd rfl (fun h => h)) (.plain rfl) rfl)
          apply Trace.pg [] rfl (.move (.gd rfl (fun h => h)))
          apply Trace.pg [] rfl (.move (.plain rfl))
          apply Trace.pg [] rfl (.move (.plain rfl))
          apply Trace.pg [] rfl (.len rfl Try.underlying27 (.gd rfl (fun h => h)) rfl)
          apply Trace.pg [] rfl ((Pure.cmp (.gd rfl (fun h => h)) (.gd rfl (fun h => h)) rfl).to (y := bv false) (congrArg (fun b => bv b) (by simp)))
          apply Trace.pg [] rfl ((Pure.pick (.gd rfl (fun h => h)) (.gd rfl (fun h => by simpa using h)) (.plain rfl)).to (y := bv false) (congrArg (fun b => bv b) (by cases h : decide (v.check = 0) <;> rfl)))
          apply Trace.pu [] (.pick (.plain rfl) (.plain rfl) (.gd rfl (by simp)))
          exact .nil _
        · exact keepOK_of hk hn rfl
        refine WPA.cond rfl (fun hc4 => ?_) (fun hc4 => ?_)
        · cases hc4
        · apply WPA.skip
          apply WPA.seq
          apply WPA.seq
          apply WPA.region
          · apply Trace.pu [] (.move (.plain rfl))
            apply Trace.pu [] (.cmp (.plain rfl) (.plain rfl) rfl)
            exact .nil _
          · exact keepOK_of hk hn rfl
          refine WPA.cond rfl (fun hc5 => ?_) (fun hc5 => ?_)
          · have hvc : v.check ≠ 0 := by simpa using hc5
            have hlc : (listV l).check ≠ 0 := fun h => hvc (listV_check h v hvm)
            apply WPA.seq
            apply WPA.region
            · apply Trace.pu [] (.move (.plain rfl))
              apply Trace.cu (callArgs0 (.cons (.plain rfl) .nil)) (spec22 l) en22
              apply Trace.ct (callArgs0 (.cons (.plain rfl) .nil)) h12 en12
              apply Trace.pu [] (.move (.plain rfl))
              apply Trace.pu [] (.extract (.plain rfl) rfl)
              apply Trace.pu [] (.extract (.plain rfl) rfl)
              apply Trace.pu [] (.assign (.plain rfl))
              apply Trace.pu [] (.assign (.plain rfl))
              exact .nil _
            · exact keepOK_of hk hn rfl
            apply WPA.seq
            apply WPA.region
            · apply Trace.pu [] (.move (.plain rfl))
              apply Trace.pu [] ((Pure.cmp (.plain rfl) (.plain rfl) rfl).to (y := bv true) (congrArg (fun b => bv b) (by simp [hlc])))
              apply Trace.pu [] (.assign (.plain rfl))
              exact .nil _
            · exact keepOK_of hk hn rfl
            apply WPA.ret
            refine ⟨.inr rfl, ⟨_, (.cons (.tmp rfl) .nil), ?_⟩, by simp [St.get]⟩
            rfl
          · have hvc : v.check = 0 := by simpa using hc5
            rw [(Val.check_zero hvc).2.2]
            apply WPA.skip
            apply WPA.seq
            apply WPA.region
            · apply Trace.pu [] (.move (.plain rfl))
              apply Trace.pu [] (.move (.plain rfl))
              apply Trace.append 3 [sl 3, sl 68] ap27 kd27 (by decide) (.own (.plain rfl) rfl) (.rows (cs := [.ints .u8 v.enc]) (.plain rfl) rfl (by simp [Col.len]) (fun i hi => rfl)) (Col.ones rfl) (labs_ok rfl) (by omega) (by omega) rfl rfl
              apply Trace.pu [] (.assign (.plain rfl))
              exact .nil _
            · exact keepOK_of hk hn rfl
            apply WPA.seq
            apply WPA.region
            · apply Trace.pu [] (.move (.plain rfl))
              apply Trace.cu (callArgs0 (.cons (.plain rfl) .nil)) (s23n 0) en23
              apply Trace.buildSlice 73 [] so22 zo24 rfl (by decide) (by decide) (.cons (.plain rfl) rfl rfl (Nat.le_of_ble_eq_true rfl) (.nil _ _)) rfl rfl rfl
              apply Trace.append 4 [sl 4, sl 71] ap22 kd22 (by decide) (.own (.plain rfl) rfl) (.own (.plain rfl) rfl) (Col.ones rfl) (labs_ok rfl) (by omega) (by omega) (valCols_snoc (zerosV i) 1 0 ⟨#[]⟩ []) rfl
              apply Trace.pu [] (.assign (.plain rfl))
              exact .nil _
            · exact keepOK_of hk hn rfl
            apply WPA.region
            · apply Trace.pu [] (.move (.plain rfl))
              apply Trace.pu [] (.move (.plain rfl))
              apply Trace.pu [] (.arith (.plain rfl) (.plain rfl) rfl (fun _ => bd64 (by omega)))
              apply Trace.pu [] (.assign (.plain rfl))
              exact .nil _
            · exact keepOK_of hk hn rfl
            apply WPA.region
            · apply Trace.pu [] (.arith (.plain rfl) (.plain rfl) rfl (fun _ => bd64 (by omega)))
              apply Trace.pu [] (.move (.plain rfl))
              exact .nil _
            · exact keepOK_of hk hn rfl
            exact ⟨i + 1, ⟨by omega, fun x hx => by
                rw [take_succ' l i hlt, hv] at hx
                rcases List.mem_append.1 hx with h | h
                · exact hck x h
                · simp at h; rw [h]; exact hvc⟩, by omega,
              St.le_cons rfl (St.le_cons (by rw [het]; simp; rfl) (St.le_cons rfl (St.le_cons (iv_eq (by rw [het]; simp)) (St.le_cons rfl (St.le_cons rfl (St.le_cons (iv_eq (by omega)) (St.le_cons (by rw [het]; simp; rfl) (St.le_cons (by rw [zerosV_succ]; rfl) (St.le_nil _)))))))))⟩
      · have hil' : i = l.length := by
          have : ¬ ((i : Int) < l.length) := by simpa using hc3
          omega
        subst hil'
        rw [List.take_length] at hck ⊢
        apply WPA.exit
        apply WPA.seq
        apply WPA.region
        · apply Trace.pu [] (.move (.plain rfl))
          apply Trace.cu (callArgs0 (.cons (.plain rfl) .nil)) (spec22 l) en22
          apply Trace.ct (callArgs0 (.cons (.plain rfl) .nil)) h12 en12
          apply Trace.pu [] (.move (.plain rfl))
          apply Trace.pu [] (.extract (.plain rfl) rfl)
          apply Trace.pu [] (.extract (.plain rfl) rfl)
          apply Trace.pu [] (.assign (.plain rfl))
          apply Trace.pu [] (.assign (.plain rfl))
          exact .nil _
        · exact keepOK_of hk hn rfl
        apply WPA.seq
        apply WPA.seq
        apply WPA.region
        · apply Trace.pu [] (.move (.plain rfl))
          apply Trace.pu [] (.cmp (.plain rfl) (.plain rfl) rfl)
          exact .nil _
        · exact keepOK_of hk hn rfl
        refine WPA.cond rfl (fun hc6 => ?_) (fun hc6 => ?_)
        · have hlc : (listV l).check = 2 := listV_limit hck (by simpa using hc6)
          apply WPA.seq
          apply WPA.region
          · apply Trace.pu [] (.move (.plain rfl))
            apply Trace.pu [] ((Pure.cmp (.plain rfl) (.plain rfl) rfl).to (y := bv true) (congrArg (fun b => bv b) (by simp [hlc])))
            apply Trace.pu [] (.assign (.plain rfl))
            exact .nil _
          · exact keepOK_of hk hn rfl
          apply WPA.ret
          refine ⟨.inr rfl, ⟨_, (.cons (.tmp rfl) .nil), ?_⟩, by simp [St.get]⟩
          rfl
        · have hlc : (listV l).check = 0 := by simpa using hc6
          have hle := (Val.check_zero hlc).2.2
          have hll := listV_len l
          have hpos := dig_pos l.length
          have hd10 := dig_length10 (u := l.length) (by omega)
          have hdrop : (listV l).enc.drop ((listV l).enc.length - (Val.encs l).length) = Val.encs l := by
            rw [hll, show 1 + (dig l.length).length + (Val.encs l).length - (Val.encs l).length = 1 + (dig l.length).length by omega]
            show (Val.mk 3 0 ⟨#[]⟩ l).enc.drop _ = _
            rw [Val.enc_list, Nat.add_comm, List.drop_succ_cons, List.drop_left']
            rfl
          rw [hle]
          generalize (listV l).enc = ys at *
          have hgd : ∀ i, (Val.encs l).getD i 0 = ys.getD (ys.length - (Val.encs l).length + i) 0 := fun i => by
            conv => lhs; rw [← hdrop]
            simp [List.getD]
          refine WPA.ghost (Ghost.freezeAs (t := 4) (l := 4) (g := Val.row (zerosV l.length)) rfl rfl (fun i hi => valCols_row (zerosV l.length) i (by rw [zerosV_len]; exact hi))) ?_
          apply WPA.skip
          apply WPA.seq
          apply WPA.region
          · apply Trace.pu [] (.move (.plain rfl))
            apply Trace.cu (callArgs0 (.cons (.plain rfl) .nil)) (by have := spec22 (zerosV l.length); rw [zerosV_len] at this; exact this) en22
            apply Trace.ct (callArgs0 (.cons (.plain rfl) .nil)) (s14z (by omega)) en14
            apply Trace.pu [] (.move (.plain rfl))
            apply Trace.pu [] (.extract (.plain rfl) rfl)
            apply Trace.pu [] (.extract (.plain rfl) rfl)
            apply Trace.pu [] (.assign (.plain rfl))
            apply Trace.pu [] (.assign (.plain rfl))
            exact .nil _
          · exact keepOK_of hk hn rfl
          apply WPA.seq
          apply WPA.region
          · apply Trace.pu [] (.move (.plain rfl))
            apply Trace.pu [] (.len rfl Try.underlying27 (.plain rfl) rfl)
            apply Trace.pu [] (.move (.plain rfl))
            apply Trace.pu [] (.len rfl Try.underlying27 (.plain rfl) rfl)
            apply Trace.pu [] ((Pure.arith (.plain rfl) (.plain rfl) rfl (fun _ => bd64 (by omega))).to (y := iv .i64 ((ys.length - (Val.encs l).length : Nat) : Int)) (congrArg (fun z => iv .i64 z) (by omega)))
            apply Trace.pu [] (.assign (.plain rfl))
            exact .nil _
          · exact keepOK_of hk hn rfl
          apply WPA.seq
          apply WPA.draw mixed
          · apply Trace.pu [] (.move (.plain rfl))
            apply Trace.pu [] ((Pure.cmp (.plain rfl) (.plain rfl) rfl).to (y := bv true) (congrArg (fun b => bv b) (by simp)))
            apply Trace.pu [] (.move (.plain rfl))
            apply Trace.pg [] rfl (.move (.plain rfl))
            apply Trace.pg [] rfl (.len rfl Try.underlying27 (.gd rfl (fun h => h)) rfl)
            apply Trace.pg [] rfl (.move (.plain rfl))
            apply Trace.pg [] rfl (.move (.plain rfl))
            apply Trace.pg [] rfl (.len rfl Try.underlying22 (.gd rfl (fun h => h)) rfl)
            apply Trace.pg [] rfl (.arith (.plain rfl) (.gd rfl (fun h => h)) rfl (fun _ => bd64 (by omega)))
            apply Trace.pg [] rfl (.arith (.gd rfl (fun h => h)) (.gd rfl (fun h => h)) rfl (fun _ => bd64 (by omega)))
            apply Trace.pg [] rfl (.move (.plain rfl))
            apply Trace.pg [] rfl (.arith (.gd rfl (fun h => h)) (.gd rfl (fun h => h)) rfl (fun _ => bd64 (by omega)))
            apply Trace.pg [] rfl ((Pure.cmp (.gd rfl (fun h => h)) (.gd rfl (fun h => h)) rfl).to (y := bv true) (congrArg (fun b => bv b) (by simp; omega)))
            apply Trace.pu [] (.pick (.plain rfl) (.gd rfl (by simp)) (.plain rfl))
            apply Trace.pu [] (.move (.plain rfl))
            apply Trace.pg [] rfl (.move (.plain rfl))
            apply Trace.pg [] rfl ((Pure.cmp (.gd rfl (fun h => h)) (.plain rfl) rfl).to (y := bv true) (congrArg (fun b => bv b) (by simp; omega)))
            apply Trace.pu [] (.pick (.plain rfl) (.gd rfl (by simp)) (.plain rfl))
            apply Trace.pu [] (.move (.plain rfl))
            apply Trace.pg [] rfl (.move (.plain rfl))
            apply Trace.pg [] rfl (.move (.plain rfl))
            apply Trace.pg [] rfl (.cutRows so27 (.gd rfl (fun h => h)) (.to _ (.gd rfl (fun h => h)) (fun _ => by omega)) (.no _) (fun _ => ⟨by omega, by omega⟩))
            apply Trace.pg [] rfl (.strRows (xs := Val.encs l) bs27 Try.underlying9 (.gd rfl (fun h => h)) (fun _ => by omega) (fun _ i hi => (by rw [hgd i]; simp [Col.at, List.getD])))
            apply Trace.pg [] rfl (.move (.plain rfl))
            apply Trace.pg [_] rfl (.strOwn bs27 Try.underlying9 (.gd rfl (fun h => h)) rfl)
            apply Trace.pg [] rfl ((Pure.seq (.gd rfl (fun h => h)) (.gd rfl (fun h => h))).to (y := bv true) (congrArg (fun b => bv b) (by simp)))
            apply Trace.pu [] (.pick (.plain rfl) (.gd rfl (by simp)) (.plain rfl))
            apply Trace.pu [] (.assign (.plain rfl))
            exact .nil _
          · rfl
          · exact keepOK_of hk hn rfl
          apply WPA.ret
          refine ⟨.inr rfl, ⟨_, (.cons (.tmp rfl) .nil), ?_⟩, by simp [St.get]⟩
          rfl

end Go.Proofs.Ytlccnbnnlfbfjaa

