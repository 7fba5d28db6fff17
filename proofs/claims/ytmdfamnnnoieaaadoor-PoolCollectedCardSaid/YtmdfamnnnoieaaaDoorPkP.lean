import Derived.Test.YtmdfamnnnoieaaaDoorPkC
import Derived.Test.YtmdfamnnnoieaaaDoorPkH
/- pool.name, compare, bytes.Compare. -/
namespace Go.Proofs.YtmdfamnnnoieaaaDoor
open Go
set_option linter.unusedVariables false
set_option linter.unusedSimpArgs false
set_option maxRecDepth 10000
set_option maxHeartbeats 1000000

/-- Columns of which more is known. -/
theorem Ghost.colsLe {E : Env} {S : St} {l n len : Nat} {cs cs' : List Col} (hb : S.get (bk l) = some (.blk (.app n len cs))) (h0 : cs'.length = cs.length) (h1 : ∀ c ∈ cs', c.len = len)
    (h2 : ∀ (i j : Nat) (c' : Col), i < len → cs'[j]? = some c' → ∃ c : Col, cs[j]? = some c ∧ ∀ M v, DenD M (c.at i) v → DenD M (c'.at i) v) : Ghost E S ((bk l, .blk (.app n len cs')) :: S) := by
  refine (Ghost.reblk (B' := .app n len cs') hb fun V M w h => ?_).trans (Ghost.weaken fun m c e => by rwa [← cons_upd])
  obtain ⟨g1, g2, g3⟩ := h
  refine ⟨by rw [h0]; exact g1, h1, ?_⟩
  cases hk : V.κ l with
  | none => rw [hk] at g3; exact g3
  | some cap =>
    rw [hk] at g3
    obtain ⟨q1, vs, t, q2, q3, q4, q5, q6⟩ := g3
    refine ⟨q1, vs, t, q2, q3, by rw [h0]; exact q4, h1, fun i j c' hi hc' => ?_⟩
    obtain ⟨c, hc, hd⟩ := h2 i j c' hi hc'
    obtain ⟨v, hv, hdv⟩ := q6 i j c hi hc
    exact ⟨v, hv, hd M v hdv⟩
def numV (x : Int) : Val := .mk 1 x ⟨#[]⟩ []
def numZ : Val := .mk 0 0 ⟨#[]⟩ []
def listV (xs : List Int) : Val := .mk 3 0 ⟨#[]⟩ (xs.map numV)
def smp (x : Int) : Bool := decide (-2147483648 ≤ x) && decide (x ≤ 2147483647)
def nmOk (xs : List Int) : Bool := !xs.isEmpty && xs.all smp
def nmD (xs : List Int) : List Int := tagM [116, 97, 107, 101] (listV xs).enc
def zero32 : List Int := List.replicate 32 0
def nmR (xs : List Int) : List Int × Bool := if nmOk xs then (nmD xs, true) else (zero32, false)
theorem numV_sz {x : Int} (h : -9223372036854775808 ≤ x ∧ x ≤ 9223372036854775807) : (numV x).Sz := .mk _ _ _ _ (by decide) h (by decide) (by simp) (by simp)
theorem listV_sz {xs : List Int} (hl : xs.length ≤ 1000) (h : ∀ x ∈ xs, -9223372036854775808 ≤ x ∧ x ≤ 9223372036854775807) : (listV xs).Sz :=
  .mk _ _ _ _ (by decide) (by decide) (by decide) (by simp; omega) (fun v hv => by
    obtain ⟨x, hx, rfl⟩ := List.mem_map.1 hv
    exact numV_sz (h x hx))
theorem listV_formed (xs : List Int) : (listV xs).formed = true := by
  have : ∀ l : List Int, Val.formeds (l.map numV) = true := fun l => by
    induction l with
    | nil => rfl
    | cons x r ih => simp [Val.formeds, ih, numV, Val.formed_eq]
  rw [listV, Val.formed_eq]
  simp [this]
theorem listV_depth (xs : List Int) : (listV xs).depth = 1 := by
  have : ∀ l : List Int, Val.depths (l.map numV) = 0 := fun l => by
    induction l with
    | nil => rfl
    | cons x r ih => simp [Val.depths, ih, numV, Val.depth]
  simp [listV, Val.depth, this]
theorem listV_check (xs : List Int) : (listV xs).check = 0 := by
  unfold Val.check
  rw [listV_formed, listV_depth]
  decide
theorem listV_encoded (xs : List Int) : (listV xs).encoded = (listV xs).enc := by
  unfold Val.encoded
  rw [listV_check]
  rfl
theorem numV_len {x : Int} (h : -9223372036854775808 ≤ x ∧ x ≤ 9223372036854775807) : (numV x).enc.length ≤ 11 := by
  rw [numV, Val.enc_int]
  have := dig_length10 (zig_lt h)
  simp
  omega
theorem listV_len {xs : List Int} (hl : xs.length ≤ 1000) (h : ∀ x ∈ xs, -9223372036854775808 ≤ x ∧ x ≤ 9223372036854775807) : (listV xs).enc.length ≤ 20000 := by
  have key : ∀ l : List Int, (∀ x ∈ l, -9223372036854775808 ≤ x ∧ x ≤ 9223372036854775807) → (Val.encs (l.map numV)).length ≤ 11 * l.length := fun l => by
    induction l with
    | nil => intro _; simp [Val.encs]
    | cons x r ih =>
      intro h
      have h1 := numV_len (h x (by simp))
      have h2 := ih (fun y hy => h y (by simp [hy]))
      simp only [List.map_cons, Val.encs, List.length_append, List.length_cons]
      omega
  have h1 := key xs h
  have h2 := dig_length10 (u := xs.length) (by omega)
  rw [listV, Val.enc_list]
  simp only [List.length_cons, List.length_append, List.length_map]
  omega
theorem nm_bad {xs : List Int} (h : nmOk xs = false) : nmR xs = (zero32, false) := by simp [nmR, h]
theorem nm_good {xs : List Int} (h : nmOk xs = true) : nmR xs = (nmD xs, true) := by simp [nmR, h]
theorem nmR_length (xs : List Int) : (nmR xs).1.length = 32 := by
  unfold nmR
  split
  · exact tagM_length _ _
  · rfl
theorem by_cell {a : List Int} {i : Nat} (h : i < a.length) : [(a.map fun x => D.v (.int .u8 x)).getD i (.v .nilFunc)] = [.v (.int .u8 (a.getD i 0))] := by simp [h]
theorem valCols_set (vs : List Val) (i : Nat) (k n : Int) (s : ByteArray) : setCols (valCols vs) 0 i [.v (.int .i64 k), .v (.int .i64 n), .v (.string s), .rows 4 0 (Val.row [])] = some (valCols (vs.set i (.mk k n s []))) := by
  simp [valCols, setCols, Col.set?, List.map_set, Val.kind, Val.num, Val.str, Val.sub]
def nmTo (xs : List Int) (i : Nat) : List Val := (xs.take i).map numV ++ List.replicate (xs.length - i) numZ
theorem nmTo_length {xs : List Int} {i : Nat} (h : i ≤ xs.length) : (nmTo xs i).length = xs.length := by simp [nmTo]; omega
theorem nmTo_set {xs : List Int} {i : Nat} (h : i < xs.length) : (nmTo xs i).set i (numV (xs.getD i 0)) = nmTo xs (i + 1) := by
  unfold nmTo
  have e : xs.length - i = (xs.length - (i + 1)) + 1 := by omega
  have hl : ((xs.take i).map numV).length = i := by simp; omega
  rw [e, List.replicate_succ, List.set_append, if_neg (by omega), hl, Nat.sub_self, List.set_cons_zero, take_succ' xs i h, List.getD_eq_getElem?_getD, List.getElem?_eq_getElem h, List.map_append, List.append_assoc]
  rfl
theorem nmTo_all (xs : List Int) : nmTo xs xs.length = xs.map numV := by simp [nmTo]
theorem nmTo_zero (xs : List Int) : nmTo xs 0 = List.replicate xs.length numZ := by simp [nmTo]
theorem nmCols_zero (n : Nat) : ∀ (i j : Nat) (c' : Col), i < n → (valCols (List.replicate n numZ))[j]? = some c' → ∃ c : Col, (repCols n [.int .i64 0, .int .i64 0, .string ⟨#[]⟩, .slice none 0 0])[j]? = some c ∧ ∀ M v, DenD M (c.at i) v → DenD M (c'.at i) v := by
  intro i j c' hi hc
  match j, hc with
  | 0, hc => simp [valCols] at hc; subst hc; exact ⟨_, rfl, fun M v h => by simpa [Col.at, numZ, Val.kind, hi] using h⟩
  | 1, hc => simp [valCols] at hc; subst hc; exact ⟨_, rfl, fun M v h => by simpa [Col.at, numZ, Val.num, hi] using h⟩
  | 2, hc => simp [valCols] at hc; subst hc; exact ⟨_, rfl, fun M v h => by simpa [Col.at, numZ, Val.str, hi] using h⟩
  | 3, hc =>
    simp [valCols] at hc
    subst hc
    refine ⟨_, rfl, fun M v h => ?_⟩
    have h' : DenD M (.v (.slice none 0 0)) v := by simpa [Col.at, hi] using h
    cases h'
    have : (Col.ds (List.replicate n (D.rows 4 numZ.sub.length (Val.row numZ.sub)))).at i = .rows 4 0 (Val.row []) := by simp [Col.at, hi, numZ, Val.sub]
    rw [this]
    exact .emp _ _ _ _
  | j + 4, hc => simp [valCols] at hc
/-- bytes.Compare -/
theorem spec47 (xs ys : List Int) (m n : Nat) (g g2 : Nat → List D) (hx : xs.length = m) (hy : ys.length = n) (hgx : ∀ i, i < m → g i = [.v (.int .u8 (xs.getD i 0))]) (hgy : ∀ i, i < n → g2 i = [.v (.int .u8 (ys.getD i 0))]) (bx : Byt xs) (hby : Byt ys) : FnSpec Tryd.prog 47 [.d (.rows 1 m g), .d (.rows 1 n g2)] [] (iv .i64 (cmpD xs ys)) [] [] := by
  refine fnSpec_of (rs := [.tmp 4]) Tryd.func47 rfl rfl (Nat.le_of_ble_eq_true rfl) (by simp [St.get]) fun E hk hn => ?_
  apply WPA.seq
  apply WPA.region
  · apply Trace.pu [] (.assign (.plain rfl))
    exact .nil _
  · exact keepOK_of hk hn rfl
  apply WPA.seq
  apply WPA.region
  · apply Trace.pu [] (.move (.plain rfl))
    apply Trace.pu [] (.move (.plain rfl))
    apply Trace.pu [] (.cmpBytes Tryd.func63 (by kernel_rfl) (by kernel_rfl) (by kernel_rfl) (by kernel_rfl) (.plain rfl) (.plain rfl) hx hy hgx hgy bx hby)
    apply Trace.pu [] (.assign (.plain rfl))
    exact .nil _
  · exact keepOK_of hk hn rfl
  apply WPA.ret
  refine ⟨.inr rfl, ⟨_, (.cons (.tmp rfl) .nil), ?_⟩, by simp [St.get]⟩
  rfl
/-- soundpost/pool.compare -/
theorem spec35 (a b : List Int) (ha : a.length = 32) (hb : b.length = 32) (ba : Byt a) (bb : Byt b) : FnSpec Tryd.prog 35 [.d (byD a), .d (byD b)] [] (iv .i64 (cmpD a b)) [] [] := by
  refine fnSpec_of (rs := [.tmp 4]) Tryd.func35 rfl rfl (Nat.le_of_ble_eq_true rfl) (by simp [St.get]) fun E hk hn => ?_
  apply WPA.seq
  apply WPA.region
  · apply Trace.boxD 10 [] (.plain rfl) rfl rfl
    apply Trace.boxD 11 [] (.plain rfl) rfl rfl
    apply Trace.pu [] (.assign (.plain rfl))
    exact .nil _
  · exact keepOK_of hk hn rfl
  apply WPA.seq
  refine WPA.ghost (Ghost.freezeLoc (t := 2) (l := 10) rfl rfl) ?_
  refine WPA.ghost (Ghost.freezeLoc (t := 3) (l := 11) rfl rfl) ?_
  apply WPA.draw mixed
  · apply Trace.pu [] (.sliceRp ar27 (.plain rfl) (fun _ => by simp [ha]))
    apply Trace.pu [] (.sliceRp ar27 (.plain rfl) (fun _ => by simp [hb]))
    apply Trace.cu (callArgs0 (.cons (.plain rfl) (.cons (.plain rfl) .nil))) (spec47 a b 32 32 _ _ ha hb (fun i hi => by_cell (by omega)) (fun i hi => by_cell (by omega)) ba bb) en47
    apply Trace.pu [] (.assign (.plain rfl))
    exact .nil _
  · rfl
  · exact keepOK_of hk hn rfl
  apply WPA.ret
  refine ⟨.inr rfl, ⟨_, (.cons (.tmp rfl) .nil), ?_⟩, by simp [St.get]⟩
  rfl
/-- soundpost/pool.name -/
theorem spec29 (xs : List Int) (hx : xs.length ≤ 1000) (hb : ∀ x ∈ xs, -9223372036854775808 ≤ x ∧ x ≤ 9223372036854775807) : FnSpec Tryd.prog 29 [.d (intsD xs)] [] (.tup ([byD (nmR xs).1, .v (.bool (nmR xs).2)].map .d)) [] [] := by
  refine fnSpec_of (rs := [.cell 2 27, .tmp 3]) Tryd.func29 rfl rfl (Nat.le_of_ble_eq_true rfl) (by simp [St.get]) fun E hk hn => ?_
  apply WPA.seq
  apply WPA.region
  · apply Trace.alloc 0 [] (.data (List.replicate 32 (D.v (.int .u8 0)))) zo27 (cellsAs_data _) rfl
    apply Trace.pu [] (.assign (.plain rfl))
    exact .nil _
  · exact keepOK_of hk hn rfl
  apply WPA.seq
  apply WPA.seq
  apply WPA.region
  · apply Trace.pu [] (.move (.plain rfl))
    apply Trace.pu [] (.len rfl Tryd.underlying25 (.plain rfl) rfl)
    apply Trace.pu [] (.cmp (.plain rfl) (.plain rfl) rfl)
    apply Trace.pu [] (.move (.plain rfl))
    apply Trace.pg [] rfl (.move (.plain rfl))
    apply Trace.pg [] rfl (.len rfl Tryd.underlying25 (.gd rfl (fun h => h)) rfl)
    apply Trace.pg [] rfl (.cmp (.gd rfl (fun h => h)) (.plain rfl) rfl)
    apply Trace.pu [] (.pick (.plain rfl) (.plain rfl) (.gd rfl (by simp)))
    exact .nil _
  · exact keepOK_of hk hn rfl
  refine WPA.cond rfl (fun hc1 => ?_) (fun hc1 => ?_)
  · have hE : nmOk xs = false := by
      cases xs with
      | nil => rfl
      | cons x r => simp at hc1 hx; omega
    apply WPA.seq
    apply WPA.region
    · apply Trace.pu [_] (.loadAllD ty27 (.plain rfl) rfl rfl)
      apply Trace.storeD ty27 (.plain rfl) (.plain rfl) rfl rfl rfl (by simp [AV.oneB, single]) (by decide) (spliceL_all rfl)
      apply Trace.pu [] (.assign (.plain rfl))
      exact .nil _
    · exact keepOK_of hk hn rfl
    apply WPA.ret
    refine ⟨.inr rfl, ⟨_, (.cons (.cellD rfl rfl ty27 rfl) (.cons (.tmp rfl) .nil)), ?_⟩, by simp [St.get]⟩
    rw [nm_bad hE]
    rfl
  · have hne : 0 < xs.length := by
      cases xs with
      | nil => simp at hc1
      | cons x r => simp
    apply WPA.skip
    apply WPA.seq
    apply WPA.region
    · apply Trace.pu [] (.move (.plain rfl))
      apply Trace.pu [] (.len rfl Tryd.underlying25 (.plain rfl) rfl)
      apply Trace.makeSlice 9 [] so51 by53 zo53 rfl (by decide) (.plain rfl) (.plain rfl) ⟨by omega, by omega⟩ (by omega) (by omega) (cs := repCols xs.length [.int .i64 0, .int .i64 0, .string ⟨#[]⟩, .slice none 0 0]) rfl rfl
      apply Trace.pu [] (.build zo53 pl53 (.cons (.plain rfl) rfl rfl (Nat.le_of_ble_eq_true rfl) (.cons (.plain rfl) rfl rfl (Nat.le_of_ble_eq_true rfl) (.nil _ _))) rfl)
      apply Trace.alloc 4 [] (.cells _) zo53 (cellsAs_vals _) rfl
      apply Trace.storeLoc ty53 (.plain rfl) (.plain rfl) rfl rfl rfl (by simp [AV.oneB, single, spliceL, vals]) (Nat.le_of_ble_eq_true rfl) rfl
      exact .nil _
    · exact keepOK_of hk hn rfl
    apply WPA.seq
    apply WPA.seq
    apply WPA.region
    · apply Trace.pu [] (.move (.plain rfl))
      apply Trace.pu [] (.len rfl Tryd.underlying25 (.plain rfl) rfl)
      apply Trace.pu [] (.move (.plain rfl))
      exact .nil _
    · exact keepOK_of hk hn rfl
    apply WPA.block
    refine WPA.ghost (Ghost.colsLe (l := 9) (cs' := valCols (List.replicate xs.length numZ)) rfl rfl (fun c hc => by rw [valCols_len _ c hc]; simp) (nmCols_zero _)) ?_
    refine WPA.loop (σ := Nat) (fun i => [(sl 2, .av (.loc 0 0)), (sl 3, .av (bv false)), (sl 4, .av (.loc 4 0)), (sl 22, .av (.d (intsD xs))), (sl 23, .av (iv .i64 (xs.length))), (sl 24, .av (iv .i64 (i))), (bk 0, .blk (.data (List.replicate 32 (D.v (.int .u8 0))))), (bk 4, .blk (.cells [.d (.v (.int .i64 3)), .d (.v (.int .i64 0)), .d (.v (.string ⟨#[]⟩)), .own 9 xs.length])), (bk 9, .blk (.app 4 xs.length (valCols (nmTo xs i))))]) (fun i => i ≤ xs.length ∧ ∀ x ∈ xs.take i, smp x = true) (fun i => xs.length - i) 0
      (St.le_cons rfl (St.le_cons rfl (St.le_cons rfl (St.le_cons rfl (St.le_cons rfl (St.le_cons rfl (St.le_cons rfl (St.le_cons rfl (St.le_cons (by rw [nmTo_zero]; rfl) (St.le_nil _)))))))))) ⟨Nat.zero_le _, by simp⟩ fun i hi => ?_
    apply WPA.seq
    apply WPA.region
    · apply Trace.pu [] (.cmp (.plain rfl) (.plain rfl) rfl)
      exact .nil _
    · exact keepOK_of hk hn rfl
    apply WPA.seq
    refine WPA.cond rfl (fun hc2 => ?_) (fun hc2 => ?_)
    · have hlt : i < xs.length := by simp at hc2; omega
      have htl := nmTo_length (xs := xs) (i := i) (by omega)
      obtain ⟨x, hxe⟩ : ∃ x, xs.getD i 0 = x := ⟨_, rfl⟩
      have hxm : x ∈ xs := by rw [← hxe, List.getD_eq_getElem?_getD, List.getElem?_eq_getElem hlt]; exact List.getElem_mem hlt
      have hxi : xs[i] = x := by rw [← hxe, List.getD_eq_getElem?_getD, List.getElem?_eq_getElem hlt]; rfl
      apply WPA.skip
      apply WPA.seq
      apply WPA.block
      apply WPA.seq
      apply WPA.region
      · apply Trace.pu [] (.move (.plain rfl))
        first | apply Trace.pu [] (.indexRows el25 (.plain rfl) (.plain rfl) (fun _ => ⟨by omega, by omega⟩)) | apply Trace.pu [] (.indexOwn el25 (.plain rfl) (.plain rfl) (fun _ => ⟨by omega, by omega⟩)) | apply Trace.pu [] (.indexSl el25 (.plain rfl) (.plain rfl) (fun _ => ⟨by omega, by omega⟩)) | apply Trace.pu [] (.indexSa el25 (.plain rfl) (.plain rfl) (fun _ => ⟨by omega, by omega⟩))
        apply Trace.pu [] (.loadRp1 ty3 (.plain rfl) (r := .v (.int .i64 x)) (by show [D.v (.int .i64 (xs.getD ((i : Int)).toNat 0))][0]? = _; rw [Int.toNat_natCast, hxe]; rfl))
        apply Trace.pu [] (.assign (.plain rfl))
        apply Trace.pu [] (.assign (.plain rfl))
        exact .nil _
      · exact keepOK_of hk hn rfl
      apply WPA.seq
      apply WPA.seq
      apply WPA.region
      · apply Trace.pu [] (.move (.plain rfl))
        apply Trace.pu [] (.cmp (.plain rfl) (.plain rfl) rfl)
        apply Trace.pu [] (.move (.plain rfl))
        apply Trace.pg [] rfl (.move (.plain rfl))
        apply Trace.pg [] rfl (.cmp (.gd rfl (fun h => h)) (.plain rfl) rfl)
        apply Trace.pu [] (.pick (.plain rfl) (.plain rfl) (.gd rfl (by simp)))
        exact .nil _
      · exact keepOK_of hk hn rfl
      refine WPA.cond rfl (fun hc3 => ?_) (fun hc3 => ?_)
      · have hE : nmOk xs = false := by
          have : smp x = false := by
            unfold smp
            simp at hc3 ⊢
            omega
          have : xs.all smp = false := by
            cases ha : xs.all smp with
            | false => rfl
            | true => rw [List.all_eq_true] at ha; rw [ha x hxm] at this; cases this
          simp [nmOk, this]
        apply WPA.seq
        apply WPA.region
        · apply Trace.pu [_] (.loadAllD ty27 (.plain rfl) rfl rfl)
          apply Trace.storeD ty27 (.plain rfl) (.plain rfl) rfl rfl rfl (by simp [AV.oneB, single]) (by decide) (spliceL_all rfl)
          apply Trace.pu [] (.assign (.plain rfl))
          exact .nil _
        · exact keepOK_of hk hn rfl
        apply WPA.ret
        refine ⟨.inr rfl, ⟨_, (.cons (.cellD rfl rfl ty27 rfl) (.cons (.tmp rfl) .nil)), ?_⟩, by simp [St.get]⟩
        rw [nm_bad hE]
        rfl
      · have hsx : smp x = true := by
          unfold smp
          simp at hc3 ⊢
          omega
        apply WPA.skip
        apply WPA.region
        · apply Trace.pu [] (.fieldAddr fl53_3 (.plain rfl) rfl)
          first | apply Trace.pu [_] (.loadLoc1D ty51 (.plain rfl) rfl rfl) | apply Trace.pu [_] (.loadLoc1 ty51 (.plain rfl) rfl rfl) | apply Trace.pu [] (.loadRp1 ty51 (.plain rfl) rfl) | apply Trace.pu [_] (.loadCol1 ty51 (.plain rfl) rfl rfl rfl (fun _ => by omega))
          apply Trace.pu [] (.move (.plain rfl))
          apply Trace.pu [] (.move (.plain rfl))
          apply Trace.pu [] ((Pure.build zo53 pl53 (.cons (.plain rfl) rfl rfl (Nat.le_of_ble_eq_true rfl) (.cons (.plain rfl) rfl rfl (Nat.le_of_ble_eq_true rfl) (.nil _ _))) rfl).imp (v := .d (.agg [.v (.int .i64 1), .v (.int .i64 x), .v (.string ⟨#[]⟩), .rows 4 0 (Val.row [])])) (by exact den_aggLe (.same (.same (.same (.rows .nil))))))
          first | apply Trace.pu [] (.indexRows el51 (.plain rfl) (.plain rfl) (fun _ => ⟨by omega, by omega⟩)) | apply Trace.pu [] (.indexOwn el51 (.plain rfl) (.plain rfl) (fun _ => ⟨by omega, by omega⟩)) | apply Trace.pu [] (.indexSl el51 (.plain rfl) (.plain rfl) (fun _ => ⟨by omega, by omega⟩)) | apply Trace.pu [] (.indexSa el51 (.plain rfl) (.plain rfl) (fun _ => ⟨by omega, by omega⟩))
          apply Trace.storeRow ty53 (.plain rfl) (.plain rfl) rfl rfl rfl rfl (by decide) (by simp [AV.oneB, single]) (valCols_set _ _ _ _ _) (by omega)
          exact .nil _
        · exact keepOK_of hk hn rfl
        apply WPA.region
        · apply Trace.pu [] (.arith (.plain rfl) (.plain rfl) rfl (fun _ => bd64 (by omega)))
          apply Trace.pu [] (.move (.plain rfl))
          exact .nil _
        · exact keepOK_of hk hn rfl
        exact ⟨i + 1, ⟨by omega, fun z hz => by
          rw [List.take_add_one, List.getElem?_eq_getElem hlt] at hz
          rcases List.mem_append.1 hz with h | h
          · exact hi.2 z h
          · simp at h; rw [h, hxi]; exact hsx⟩, by omega, St.le_cons rfl (St.le_cons rfl (St.le_cons rfl (St.le_cons rfl (St.le_cons rfl (St.le_cons (iv_eq (by omega)) (St.le_cons rfl (St.le_cons rfl (St.le_cons (blk_eq (by show Blk.app 4 xs.length (valCols ((nmTo xs i).set ((i : Int)).toNat (numV x))) = _; rw [Int.toNat_natCast, ← hxe, nmTo_set hlt])) (St.le_nil _)))))))))⟩
    · have hend : i = xs.length := by simp at hc2; omega
      subst hend
      have hG : nmOk xs = true := by
        have : xs.all smp = true := List.all_eq_true.2 fun z hz => hi.2 z (by rw [List.take_length]; exact hz)
        cases xs with
        | nil => simp at hne
        | cons x r => simp [nmOk] at this ⊢; exact this
      rw [nmTo_all]
      apply WPA.exit
      apply WPA.seq
      refine WPA.ghost (Ghost.cellFreeze (lb := 4) (j := 3) (l := 9) (g := Val.row (xs.map numV)) rfl rfl rfl rfl (fun j hj => valCols_row (xs.map numV) j (by simpa using hj)) rfl) ?_
      apply WPA.region
      · apply Trace.pu [_] ((Pure.loadLoc ty53 (.plain rfl) rfl (fun _ => Nat.le_of_ble_eq_true rfl)).to (y := (listV xs).av) (by show AV.d (.agg [.v (.int .i64 3), .v (.int .i64 0), .v (.string ⟨#[]⟩), .rows 4 xs.length (Val.row (xs.map numV))]) = _; simp [listV, Val.av, Val.cells]))
        apply Trace.ct (callArgs0 (.cons (.plain rfl) .nil)) (spec26 (listV xs) (listV_sz hx hb) (by rw [listV_depth]; decide) (by rw [listV_encoded]; have := listV_len hx hb; omega)) en26
        apply Trace.pu [] (.move (.plain rfl))
        apply Trace.pu [] (.extract (.plain rfl) rfl)
        apply Trace.pu [] (.extract (.plain rfl) rfl)
        apply Trace.pu [] (.assign (.plain rfl))
        apply Trace.pu [] (.assign (.plain rfl))
        exact .nil _
      · exact keepOK_of hk hn rfl
      apply WPA.seq
      apply WPA.region
      · apply Trace.pu [] (.move (.plain rfl))
        apply Trace.cu (callArgs0 (.cons (.plain rfl) (.cons (.plain rfl) .nil))) (spec27 ⟨#[116, 97, 107, 101]⟩ (by decide) (listV xs).encoded _ (by rw [listV_encoded]; have := listV_len hx hb; omega) (fun i hi => rfl)) en27
        apply Trace.pu [] (.move (.plain rfl))
        apply Trace.pu [] (.cmp (.plain rfl) (.plain rfl) rfl)
        apply Trace.storeD (cs' := (nmD xs).map fun x => .v (.int .u8 x)) ty27 (.plain rfl) (.plain rfl) rfl (by rw [listV_encoded]; rfl) (by simp [nmD, tagM_length]) (by simp [AV.oneB, single]) (by decide) (spliceL_all (by simp [nmD, tagM_length]))
        apply Trace.pu [] (.assign (.plain rfl))
        exact .nil _
      · exact keepOK_of hk hn rfl
      apply WPA.ret
      refine ⟨.inr rfl, ⟨_, (.cons (.cellD rfl rfl ty27 (by simp [nmD, tagM_length])) (.cons (.tmp rfl) .nil)), ?_⟩, by simp [St.get]⟩
      rw [nm_good hG]
      simp [resOf, listV_check]

end Go.Proofs.YtmdfamnnnoieaaaDoor


/- pool.find: the binary search. -/
namespace Go.Proofs.YtmdfamnnnoieaaaDoor
open Go
set_option linter.unusedVariables false
set_option linter.unusedSimpArgs false
set_option maxRecDepth 10000
set_option maxHeartbeats 1000000

/-- In order. -/
def Srt (ts : List Tk) : Prop := ∀ i j, i < j → j < ts.length → ltL (ts.getD i default).d (ts.getD j default).d = true
def atOf (ts : List Tk) (k : List Int) : Nat := (ts.takeWhile fun t => ltL t.d k).length
theorem atOf_le (ts : List Tk) (k : List Int) : atOf ts k ≤ ts.length := by
  unfold atOf
  exact (List.takeWhile_prefix _).length_le
theorem tw_lt {α : Type} (p : α → Bool) (z : α) : ∀ (l : List α) (i : Nat), i < (l.takeWhile p).length → p (l.getD i z) = true
  | [], i, h => by simp at h
  | a :: l, i, h => by
    rw [List.takeWhile_cons] at h
    split at h
    · rename_i ha
      cases i with
      | zero => simpa using ha
      | succ i => simp at h; simpa using tw_lt p z l i h
    · simp at h
theorem tw_at {α : Type} (p : α → Bool) (z : α) : ∀ (l : List α), (l.takeWhile p).length < l.length → p (l.getD (l.takeWhile p).length z) = false
  | [], h => by simp at h
  | a :: l, h => by
    rw [List.takeWhile_cons] at h ⊢
    cases ha : p a with
    | true =>
      simp [ha] at h ⊢
      have := tw_at p z l h
      simpa using this
    | false => simp [ha]
theorem at_iff {ts : List Tk} {k : List Int} (hs : Srt ts) {i : Nat} (hi : i < ts.length) : ltL (ts.getD i default).d k = true ↔ i < atOf ts k := by
  constructor
  · intro h
    apply Classical.byContradiction
    intro hn
    have hlt : atOf ts k < ts.length := by omega
    have h2 := tw_at (fun t : Tk => ltL t.d k) default ts hlt
    by_cases he : atOf ts k = i
    · have h2' : ltL (ts.getD i default).d k = false := by
        unfold atOf at he
        rw [he] at h2
        exact h2
      rw [h] at h2'
      cases h2'
    · have h3 := hs (atOf ts k) i (by omega) hi
      have h4 := ltL_trans h3 h
      unfold atOf at h4
      rw [h4] at h2
      cases h2
  · exact fun h => tw_lt (fun t : Tk => ltL t.d k) default ts i h
def metOf (ts : List Tk) (k : List Int) : Bool := decide (atOf ts k < ts.length) && decide ((ts.getD (atOf ts k) default).d = k)
theorem getD_mem' {ts : List Tk} {i : Nat} (h : i < ts.length) : ts.getD i default ∈ ts := by
  rw [List.getD_eq_getElem?_getD, List.getElem?_eq_getElem h]
  exact List.getElem_mem h
theorem cells_d {t : Tk} (h : t.d.length = 32) : (t.cells.drop 0).take 32 = t.d.map fun x => D.v (.int .u8 x) := by
  rw [List.drop_zero, Tk.cells, List.take_append_of_le_length (by simp [h]), List.take_of_length_le (by simp [h])]
theorem cells_x {t : Tk} (h : t.d.length = 32) : t.cells[32]? = some (intsD t.xs) := by
  rw [Tk.cells, List.getElem?_append_right (by simp [h])]
  simp [h]
theorem tk_take {ts : List Tk} (h : ∀ t ∈ ts, t.Ok) (i : Nat) : (tkRow ts i).take 33 = (ts.getD i default).cells := by
  unfold tkRow
  by_cases hi : i < ts.length
  · rw [List.take_of_length_le (by rw [Tk.cells_length (h _ (getD_mem' hi)).len]; decide)]
  · have : ts.getD i default = default := by rw [List.getD_eq_getElem?_getD, List.getElem?_eq_none (by omega)]; rfl
    rw [this]
    rfl
theorem tk_len {ts : List Tk} (h : ∀ t ∈ ts, t.Ok) {i : Nat} (hi : i < ts.length) : 33 ≤ (tkRow ts i).length := by
  unfold tkRow
  rw [Tk.cells_length (h _ (getD_mem' hi)).len]
  decide
theorem half_w {i j : Nat} (h : i + j ≤ 1000000) : iv .i64 (IntKind.i64.wrap ((IntKind.u64.wrap ((i : Int) + (j : Int))).fdiv (2 ^ (min (1 : Int).toNat IntKind.u64.bits)))) = iv .i64 (((i + j) / 2 : Nat) : Int) := by
  rw [wrap_u64_id (by omega)]
  have e : min (1 : Int).toNat IntKind.u64.bits = 1 := by decide
  rw [e, Int.fdiv_eq_ediv_of_nonneg _ (by decide)]
  have e2 : ((i : Int) + (j : Int)) / 2 ^ 1 = (((i + j) / 2 : Nat) : Int) := by simp
  rw [e2, wrap_i64_id (by omega)]
/-- soundpost/pool.find$1 -/
theorem spec43 (t : Tk) (k : List Int) (ht : t.Ok) (hkl : k.length = 32) (hkb : Byt k) : FnSpec Tryd.prog 43 [.d (.agg t.cells), .d (byD k)] [] (iv .i64 (cmpD t.d k)) [] [] := by
  refine fnSpec_of (rs := [.tmp 4]) Tryd.func43 rfl rfl (Nat.le_of_ble_eq_true rfl) (by simp [St.get]) fun E hk hn => ?_
  apply WPA.seq
  apply WPA.region
  · apply Trace.boxD 10 [] (.plain rfl) rfl rfl
    apply Trace.boxD 11 [] (.plain rfl) rfl rfl
    apply Trace.pu [] (.assign (.plain rfl))
    exact .nil _
  · exact keepOK_of hk hn rfl
  apply WPA.seq
  apply WPA.region
  · apply Trace.pu [] (.fieldAddr fl49_0 (.plain rfl) rfl)
    apply Trace.pu [_] ((Pure.loadLocD ty27 (.plain rfl) rfl (fun _ => by rw [Tk.cells_length ht.len]; decide)).to (y := .d (byD t.d)) (by rw [cells_d ht.len]))
    apply Trace.pu [_] (.loadAllD ty27 (.plain rfl) rfl (by simp [hkl]))
    apply Trace.cu (callArgs0 (.cons (.plain rfl) (.cons (.plain rfl) .nil))) (spec35 t.d k ht.len hkl ht.byt hkb) en35
    apply Trace.pu [] (.assign (.plain rfl))
    exact .nil _
  · exact keepOK_of hk hn rfl
  apply WPA.ret
  refine ⟨.inr rfl, ⟨_, (.cons (.tmp rfl) .nil), ?_⟩, by simp [St.get]⟩
  rfl
/-- soundpost/pool.search[soundpost/api.Take,soundpost/api.Digest]$1 -/
theorem spec59 (ts : List Tk) (k : List Int) (hts : ∀ t ∈ ts, t.Ok) (hkl : k.length = 32) (hkb : Byt k) (i : Nat) (hi : i < ts.length) : FnSpec Tryd.prog 59 [iv .i64 i, .loc 5 0, .loc 3 0, .loc 4 0] [(bk 3, .blk (.data [tksD ts])), (bk 4, .blk (.data (k.map fun x => .v (.int .u8 x)))), (bk 5, .blk (.cells [.fn 43 []]))] (bv (decide (0 ≤ cmpD (ts.getD i default).d k))) [(bk 3, .blk (.data [tksD ts])), (bk 4, .blk (.data (k.map fun x => .v (.int .u8 x)))), (bk 5, .blk (.cells [.fn 43 []]))] [3, 4, 5] := by
  refine fnSpec_of (rs := [.tmp 5]) Tryd.func59 rfl rfl (Nat.le_of_ble_eq_true rfl) (odd_of rfl) fun E hk hn => ?_
  apply WPA.seq
  apply WPA.region
  · apply Trace.pu [] (.assign (.plain rfl))
    exact .nil _
  · exact keepOK_of hk hn rfl
  apply WPA.seq
  apply WPA.draw mixed
  · apply Trace.pu [_] (.loadLoc1 ty83 (.plain rfl) rfl rfl)
    first | apply Trace.pu [_] (.loadLoc1D ty22 (.plain rfl) rfl rfl) | apply Trace.pu [_] (.loadLoc1 ty22 (.plain rfl) rfl rfl) | apply Trace.pu [] (.loadRp1 ty22 (.plain rfl) rfl) | apply Trace.pu [_] (.loadCol1 ty22 (.plain rfl) rfl rfl rfl (fun _ => by omega))
    apply Trace.pu [] (.move (.plain rfl))
    apply Trace.pu [] (.indexRows el22 (.plain rfl) (.plain rfl) (fun _ => ⟨by omega, by omega⟩))
    apply Trace.pu [] ((Pure.loadRp ty49 (.plain rfl) (fun _ => by rw [Int.toNat_natCast]; exact tk_len hts hi)).to (y := .d (.agg (ts.getD i default).cells)) (by rw [Int.toNat_natCast, tk_take hts]))
    apply Trace.pu [_] (.loadAllD ty27 (.plain rfl) rfl (by simp [hkl]))
    apply Trace.cu (callArgs (.plain rfl) (.cons (.plain rfl) (.cons (.plain rfl) .nil))) (spec43 (ts.getD i default) k (hts _ (getD_mem' hi)) hkl hkb) en43
    apply Trace.pu [] (.cmp (.plain rfl) (.plain rfl) rfl)
    apply Trace.pu [] (.assign (.plain rfl))
    exact .nil _
  · rfl
  · exact keepOK_of hk hn rfl
  apply WPA.ret
  refine ⟨.inr rfl, ⟨_, (.cons (.tmp rfl) .nil), ?_⟩, blks_of (.cons rfl (.cons rfl (.cons rfl .nil)))⟩
  rfl
/-- sort.Search -/
theorem spec58 (ts : List Tk) (k : List Int) (hts : ∀ t ∈ ts, t.Ok) (hkl : k.length = 32) (hkb : Byt k) (hs : Srt ts) (hn1 : ts.length ≤ 100000) : FnSpec Tryd.prog 58 [iv .i64 ts.length, .fn 59 [.loc 5 0, .loc 3 0, .loc 4 0]] [(bk 3, .blk (.data [tksD ts])), (bk 4, .blk (.data (k.map fun x => .v (.int .u8 x)))), (bk 5, .blk (.cells [.fn 43 []]))] (iv .i64 (atOf ts k)) [(bk 3, .blk (.data [tksD ts])), (bk 4, .blk (.data (k.map fun x => .v (.int .u8 x)))), (bk 5, .blk (.cells [.fn 43 []]))] [3, 4, 5] := by
  refine fnSpec_of (rs := [.tmp 4]) Tryd.func58 rfl rfl (Nat.le_of_ble_eq_true rfl) (odd_of rfl) fun E hk hn => ?_
  apply WPA.seq
  apply WPA.region
  · apply Trace.pu [] (.assign (.plain rfl))
    exact .nil _
  · exact keepOK_of hk hn rfl
  apply WPA.seq
  apply WPA.region
  · apply Trace.pu [] (.move (.plain rfl))
    apply Trace.pu [] (.assign (.plain rfl))
    apply Trace.pu [] (.assign (.plain rfl))
    exact .nil _
  · exact keepOK_of hk hn rfl
  apply WPA.seq
  apply WPA.block
  refine WPA.loop (σ := (Nat × Nat)) (fun i => [(sl 1, .av (.fn 59 [.loc 5 0, .loc 3 0, .loc 4 0])), (sl 5, .av (iv .i64 (i.1))), (sl 6, .av (iv .i64 (i.2))), (bk 3, .blk (.data [tksD ts])), (bk 4, .blk (.data (k.map fun x => .v (.int .u8 x)))), (bk 5, .blk (.cells [.fn 43 []]))]) (fun i => i.1 ≤ atOf ts k ∧ atOf ts k ≤ i.2 ∧ i.2 ≤ ts.length) (fun i => i.2 - i.1) (0, ts.length)
    (St.le_cons rfl (St.le_cons rfl (St.le_cons rfl (St.le_cons rfl (St.le_cons rfl (St.le_cons rfl (St.le_nil _))))))) ⟨Nat.zero_le _, atOf_le _ _, Nat.le_refl _⟩ fun i hi => ?_
  obtain ⟨i, j⟩ := i
  simp only at hi ⊢
  obtain ⟨h1, h2, h3⟩ := hi
  apply WPA.seq
  apply WPA.seq
  apply WPA.region
  · apply Trace.pu [] (.move (.plain rfl))
    apply Trace.pu [] (.move (.plain rfl))
    apply Trace.pu [] (.cmp (.plain rfl) (.plain rfl) rfl)
    exact .nil _
  · exact keepOK_of hk hn rfl
  refine WPA.cond rfl (fun hc1 => ?_) (fun hc1 => ?_)
  · have hlt : i < j := by simp at hc1; omega
    obtain ⟨h, hh⟩ : ∃ h, (i + j) / 2 = h := ⟨_, rfl⟩
    have hhl : h < ts.length := by omega
    have hiff := at_iff (k := k) hs hhl
    apply WPA.skip
    apply WPA.block
    apply WPA.seq
    apply WPA.region
    · apply Trace.pu [] (.move (.plain rfl))
      apply Trace.pu [] (.move (.plain rfl))
      apply Trace.pu [] (.arith (.plain rfl) (.plain rfl) rfl (fun _ => bd64 (by omega)))
      apply Trace.pu [] (.conv Tryd.underlying3 Tryd.underlying104 (.plain rfl))
      apply Trace.pu [] (.shr (.plain rfl) (.plain rfl) (fun _ => by decide))
      apply Trace.pu [] ((Pure.conv Tryd.underlying104 Tryd.underlying3 (.plain rfl)).to (y := iv .i64 (h : Int)) (by rw [← hh]; exact half_w (by omega)))
      apply Trace.pu [] (.assign (.plain rfl))
      exact .nil _
    · exact keepOK_of hk hn rfl
    apply WPA.seq
    apply WPA.region
    · apply Trace.pu [] (.move (.plain rfl))
      apply Trace.pu [] (.move (.plain rfl))
      apply Trace.cb [] [bk 3, bk 4, bk 5] (callArgs (.plain rfl) (.cons (.plain rfl) .nil)) (spec59 ts k hts hkl hkb h hhl) en59 (.cons rfl (.cons rfl (.cons rfl .nil))) rfl rfl
      apply Trace.pu [] (.not (.plain rfl))
      exact .nil _
    · exact keepOK_of hk hn rfl
    refine WPA.cond rfl (fun hc2 => ?_) (fun hc2 => ?_)
    · have hat : h < atOf ts k := hiff.1 (cmpD_neg.1 (by revert hc2; generalize cmpD (ts.getD h default).d k = z; intro hc2; simp at hc2; omega))
      apply WPA.region
      · apply Trace.pu [] (.move (.plain rfl))
        apply Trace.pu [] (.arith (.plain rfl) (.plain rfl) rfl (fun _ => bd64 (by omega)))
        apply Trace.pu [] (.assign (.plain rfl))
        exact .nil _
      · exact keepOK_of hk hn rfl
      first
      | exact ⟨(h + 1, j), ⟨by show h + 1 ≤ _; omega, h2, h3⟩, by show j - (h + 1) < j - i; omega, St.le_cons rfl (St.le_cons (iv_eq (by simp)) (St.le_cons rfl (St.le_cons rfl (St.le_cons rfl (St.le_cons rfl (St.le_nil _))))))⟩
      | exact ⟨(i, h), ⟨h1, by show _ ≤ h; omega, by show h ≤ _; omega⟩, by show h - i < j - i; omega, St.le_cons rfl (St.le_cons rfl (St.le_cons rfl (St.le_cons rfl (St.le_cons rfl (St.le_cons rfl (St.le_nil _))))))⟩
    · have hat : ¬ h < atOf ts k := fun hl => by have := cmpD_neg.2 (hiff.2 hl); revert hc2 this; generalize cmpD (ts.getD h default).d k = z; intro hc2 this; simp at hc2; omega
      apply WPA.region
      · apply Trace.pu [] (.move (.plain rfl))
        apply Trace.pu [] (.assign (.plain rfl))
        exact .nil _
      · exact keepOK_of hk hn rfl
      first
      | exact ⟨(h + 1, j), ⟨by show h + 1 ≤ _; omega, h2, h3⟩, by show j - (h + 1) < j - i; omega, St.le_cons rfl (St.le_cons (iv_eq (by simp)) (St.le_cons rfl (St.le_cons rfl (St.le_cons rfl (St.le_cons rfl (St.le_nil _))))))⟩
      | exact ⟨(i, h), ⟨h1, by show _ ≤ h; omega, by show h ≤ _; omega⟩, by show h - i < j - i; omega, St.le_cons rfl (St.le_cons rfl (St.le_cons rfl (St.le_cons rfl (St.le_cons rfl (St.le_cons rfl (St.le_nil _))))))⟩
  · have hend : i = atOf ts k := by simp at hc1; omega
    subst hend
    apply WPA.exit
    apply WPA.seq
    apply WPA.region
    · apply Trace.pu [] (.move (.plain rfl))
      apply Trace.pu [] (.assign (.plain rfl))
      exact .nil _
    · exact keepOK_of hk hn rfl
    apply WPA.ret
    refine ⟨.inr rfl, ⟨_, (.cons (.tmp rfl) .nil), ?_⟩, blks_of (.cons rfl (.cons rfl (.cons rfl .nil)))⟩
    rfl
/-- soundpost/pool.search[soundpost/api.Take,soundpost/api.Digest] -/
theorem spec42 (ts : List Tk) (k : List Int) (hts : ∀ t ∈ ts, t.Ok) (hkl : k.length = 32) (hkb : Byt k) (hs : Srt ts) (hn1 : ts.length ≤ 100000) : FnSpec Tryd.prog 42 [.d (tksD ts), .d (byD k), .fn 43 []] [] (.tup ([.v (.int .i64 (atOf ts k)), .v (.bool (metOf ts k))].map .d)) [] [] := by
  refine fnSpec_of (rs := [.tmp 6, .tmp 7]) Tryd.func42 rfl rfl (Nat.le_of_ble_eq_true rfl) (by simp [St.get]) fun E hk hn => ?_
  apply WPA.seq
  apply WPA.region
  · apply Trace.boxD 3 [] (.plain rfl) rfl rfl
    apply Trace.boxD 4 [] (.plain rfl) rfl rfl
    apply Trace.box 5 [] (.plain rfl) rfl rfl rfl
    apply Trace.pu [] (.assign (.plain rfl))
    apply Trace.pu [] (.assign (.plain rfl))
    exact .nil _
  · exact keepOK_of hk hn rfl
  apply WPA.seq
  apply WPA.region
  · first | apply Trace.pu [_] (.loadLoc1D ty22 (.plain rfl) rfl rfl) | apply Trace.pu [_] (.loadLoc1 ty22 (.plain rfl) rfl rfl) | apply Trace.pu [] (.loadRp1 ty22 (.plain rfl) rfl) | apply Trace.pu [_] (.loadCol1 ty22 (.plain rfl) rfl rfl rfl (fun _ => by omega))
    apply Trace.pu [] (.len rfl Tryd.underlying22 (.plain rfl) rfl)
    apply Trace.pu [] (.funcL (.cons (.plain rfl) (.cons (.plain rfl) (.cons (.plain rfl) .nil))))
    apply Trace.cb [] [bk 3, bk 4, bk 5] (callArgs0 (.cons (.plain rfl) (.cons (.plain rfl) .nil))) (spec58 ts k hts hkl hkb hs hn1) en58 (.cons rfl (.cons rfl (.cons rfl .nil))) rfl rfl
    apply Trace.pu [] (.assign (.plain rfl))
    exact .nil _
  · exact keepOK_of hk hn rfl
  apply WPA.seq
  apply WPA.draw mixed
  · apply Trace.pu [] (.move (.plain rfl))
    apply Trace.pu [] (.move (.plain rfl))
    first | apply Trace.pu [_] (.loadLoc1D ty22 (.plain rfl) rfl rfl) | apply Trace.pu [_] (.loadLoc1 ty22 (.plain rfl) rfl rfl) | apply Trace.pu [] (.loadRp1 ty22 (.plain rfl) rfl) | apply Trace.pu [_] (.loadCol1 ty22 (.plain rfl) rfl rfl rfl (fun _ => by omega))
    apply Trace.pu [] (.len rfl Tryd.underlying22 (.plain rfl) rfl)
    apply Trace.pu [] (.cmp (.plain rfl) (.plain rfl) rfl)
    apply Trace.pu [] (.move (.plain rfl))
    apply Trace.pg [_] rfl (.loadLoc1 ty83 (.plain rfl) rfl rfl)
    first | apply Trace.pg [_] rfl (.loadLoc1D ty22 (.plain rfl) rfl rfl) | apply Trace.pg [_] rfl (.loadLoc1 ty22 (.plain rfl) rfl rfl) | apply Trace.pg [] rfl (.loadRp1 ty22 (.plain rfl) rfl) | apply Trace.pg [_] rfl (.loadCol1 ty22 (.plain rfl) rfl rfl rfl (fun _ => by omega))
    apply Trace.pg [] rfl (.move (.plain rfl))
    apply Trace.pg [] rfl (.indexRows el22 (.gd rfl (fun h => h)) (.gd rfl (fun h => h)) (fun h => by simp at h; omega))
    apply Trace.pg [] rfl ((Pure.loadRp ty49 (.gd rfl (fun h => h)) (fun h => by rw [Int.toNat_natCast]; exact tk_len hts (by simp at h; omega))).to (y := .d (.agg (ts.getD (atOf ts k) default).cells)) (by rw [Int.toNat_natCast, tk_take hts]))
    apply Trace.pg [_] rfl (.loadAllD ty27 (.plain rfl) rfl (by simp [hkl]))
    apply Trace.cg rfl (callArgs (.gd rfl (fun h => h)) (.cons (.gd rfl (fun h => h)) (.cons (.gd rfl (fun h => h)) .nil))) (fun h => spec43 (ts.getD (atOf ts k) default) k (hts _ (getD_mem' (by simp at h; omega))) hkl hkb) en43
    apply Trace.pg [] rfl (.cmp (.gd rfl (fun h => h)) (.plain rfl) rfl)
    apply Trace.pu [] (.pick (.plain rfl) (.gd rfl (by simp)) (.plain rfl))
    apply Trace.pu [] (.assign (.plain rfl))
    apply Trace.pu [] (.assign (.plain rfl))
    exact .nil _
  · rfl
  · exact keepOK_of hk hn rfl
  apply WPA.ret
  refine ⟨.inr rfl, ⟨_, (.cons (.tmp rfl) (.cons (.tmp rfl) .nil)), ?_⟩, by simp [St.get]⟩
  have : (bif decide ((atOf ts k : Int) < (ts.length : Int)) then decide (cmpD (ts.getD (atOf ts k) default).d k = 0) else false) = metOf ts k := by
    unfold metOf
    rw [show decide ((atOf ts k : Int) < (ts.length : Int)) = decide (atOf ts k < ts.length) by simp]
    cases decide (atOf ts k < ts.length) <;> simp [cmpD_zero]
  rw [← this]
  rfl
/-- soundpost/pool.find -/
theorem spec30 (ts : List Tk) (k : List Int) (hts : ∀ t ∈ ts, t.Ok) (hkl : k.length = 32) (hkb : Byt k) (hs : Srt ts) (hn1 : ts.length ≤ 100000) : FnSpec Tryd.prog 30 [.d (poolD ts), .d (byD k)] [] (.tup ([.v (.int .i64 (atOf ts k)), .v (.bool (metOf ts k))].map .d)) [] [] := by
  refine fnSpec_of (rs := [.tmp 4, .tmp 5]) Tryd.func30 rfl rfl (Nat.le_of_ble_eq_true rfl) (by simp [St.get]) fun E hk hn => ?_
  apply WPA.seq
  apply WPA.region
  · apply Trace.boxD 10 [] (.plain rfl) rfl rfl
    apply Trace.boxD 11 [] (.plain rfl) rfl rfl
    apply Trace.pu [] (.assign (.plain rfl))
    apply Trace.pu [] (.assign (.plain rfl))
    exact .nil _
  · exact keepOK_of hk hn rfl
  apply WPA.seq
  apply WPA.region
  · apply Trace.pu [] (.fieldAddr fl24_0 (.plain rfl) rfl)
    first | apply Trace.pu [_] (.loadLoc1D ty22 (.plain rfl) rfl rfl) | apply Trace.pu [_] (.loadLoc1 ty22 (.plain rfl) rfl rfl) | apply Trace.pu [] (.loadRp1 ty22 (.plain rfl) rfl) | apply Trace.pu [_] (.loadCol1 ty22 (.plain rfl) rfl rfl rfl (fun _ => by omega))
    apply Trace.pu [_] (.loadAllD ty27 (.plain rfl) rfl (by simp [hkl]))
    apply Trace.ct (callArgs0 (.cons (.plain rfl) (.cons (.plain rfl) (.cons (.plain rfl) .nil)))) (spec42 ts k hts hkl hkb hs hn1) en42
    apply Trace.pu [] (.extract (.plain rfl) rfl)
    apply Trace.pu [] (.extract (.plain rfl) rfl)
    apply Trace.pu [] (.assign (.plain rfl))
    apply Trace.pu [] (.assign (.plain rfl))
    exact .nil _
  · exact keepOK_of hk hn rfl
  apply WPA.ret
  refine ⟨.inr rfl, ⟨_, (.cons (.tmp rfl) (.cons (.tmp rfl) .nil)), ?_⟩, by simp [St.get]⟩
  rfl

end Go.Proofs.YtmdfamnnnoieaaaDoor


/- pool.Check. -/
namespace Go.Proofs.YtmdfamnnnoieaaaDoor
open Go
set_option linter.unusedVariables false
set_option linter.unusedSimpArgs false
set_option maxRecDepth 10000
set_option maxHeartbeats 1000000

def okAt (ts : List Tk) (i : Nat) : Bool := (decide (i = 0) || ltL (ts.getD (i - 1) default).d (ts.getD i default).d) && (nmOk (ts.getD i default).xs && decide (nmD (ts.getD i default).xs = (ts.getD i default).d))
def chk (ts : List Tk) : Bool := (List.range ts.length).all (okAt ts)
theorem chk_false {ts : List Tk} {i : Nat} (hi : i < ts.length) (h : okAt ts i = false) : chk ts = false := by
  cases hc : chk ts with
  | false => rfl
  | true =>
    unfold chk at hc
    rw [List.all_eq_true] at hc
    rw [hc i (by simpa using hi)] at h
    cases h
theorem chk_true {ts : List Tk} (h : ∀ i, i < ts.length → okAt ts i = true) : chk ts = true := List.all_eq_true.2 fun i hi => h i (by simpa using hi)
theorem chk_at {ts : List Tk} (h : chk ts = true) {i : Nat} (hi : i < ts.length) : okAt ts i = true := List.all_eq_true.1 h i (by simpa using hi)
def ckE (ts : List Tk) : Int := if chk ts then 0 else 250
theorem cells_one (t : Tk) : ∀ x ∈ t.cells, (AV.d x).oneB = true := by
  intro x hx
  simp only [Tk.cells, List.mem_append, List.mem_map, List.mem_singleton] at hx
  rcases hx with ⟨_, _, rfl⟩ | rfl <;> rfl
theorem by_one (k : List Int) : ∀ x ∈ k.map (fun x => D.v (.int .u8 x)), (AV.d x).oneB = true := by
  intro x hx
  obtain ⟨_, _, rfl⟩ := List.mem_map.1 hx
  rfl
theorem row_d {ts : List Tk} (h : ∀ t ∈ ts, t.Ok) {i : Nat} (hi : i < ts.length) : AV.d (.agg (((tkRow ts i).drop 0).take 32)) = .d (byD (ts.getD i default).d) := by
  unfold tkRow
  rw [cells_d (h _ (getD_mem' hi)).len]
theorem ge_lt {a b : List Int} (h : decide (0 ≤ cmpD a b) = true) : ltL a b = false := by
  cases hl : ltL a b with
  | false => rfl
  | true => have := cmpD_neg.2 hl; simp at h; omega
theorem lt_ge {a b : List Int} (h : decide (0 ≤ cmpD a b) = false) : ltL a b = true := cmpD_neg.1 (by simp at h; omega)
theorem pick_eq {a b c : Bool} (h : (bif a then b else c) = true) : (a = true ∧ b = true) ∨ (a = false ∧ c = true) := by cases a <;> simp_all
theorem pick_ne {a b c : Bool} (h : (bif a then b else c) = false) : (a = true ∧ b = false) ∨ (a = false ∧ c = false) := by cases a <;> simp_all
/-- soundpost/pool.Check -/
theorem spec19 (ts : List Tk) (hts : ∀ t ∈ ts, t.Ok) (hn1 : ts.length ≤ 1000) : FnSpec Tryd.prog 19 [.d (poolD ts)] [] (iv .i64 (ckE ts)) [] [] := by
  refine fnSpec_of (rs := [.tmp 2]) Tryd.func19 rfl rfl (Nat.le_of_ble_eq_true rfl) (by simp [St.get]) fun E hk hn => ?_
  apply WPA.seq
  apply WPA.region
  · apply Trace.boxD 10 [] (.plain rfl) rfl rfl
    apply Trace.pu [] (.assign (.plain rfl))
    exact .nil _
  · exact keepOK_of hk hn rfl
  apply WPA.seq
  apply WPA.seq
  apply WPA.region
  · apply Trace.pu [] (.fieldAddr fl24_0 (.plain rfl) rfl)
    first | apply Trace.pu [_] (.loadLoc1D ty22 (.plain rfl) rfl rfl) | apply Trace.pu [_] (.loadLoc1 ty22 (.plain rfl) rfl rfl) | apply Trace.pu [] (.loadRp1 ty22 (.plain rfl) rfl) | apply Trace.pu [_] (.loadCol1 ty22 (.plain rfl) rfl rfl rfl (fun _ => by omega))
    apply Trace.pu [] (.len rfl Tryd.underlying22 (.plain rfl) rfl)
    apply Trace.pu [] (.cmp (.plain rfl) (.plain rfl) rfl)
    exact .nil _
  · exact keepOK_of hk hn rfl
  refine WPA.cond rfl (fun hc1 => ?_) (fun hc1 => ?_)
  · simp at hc1; omega
  · apply WPA.skip
    apply WPA.seq
    apply WPA.seq
    apply WPA.region
    · apply Trace.pu [] (.fieldAddr fl24_0 (.plain rfl) rfl)
      first | apply Trace.pu [_] (.loadLoc1D ty22 (.plain rfl) rfl rfl) | apply Trace.pu [_] (.loadLoc1 ty22 (.plain rfl) rfl rfl) | apply Trace.pu [] (.loadRp1 ty22 (.plain rfl) rfl) | apply Trace.pu [_] (.loadCol1 ty22 (.plain rfl) rfl rfl rfl (fun _ => by omega))
      apply Trace.pu [] (.len rfl Tryd.underlying22 (.plain rfl) rfl)
      apply Trace.pu [] (.move (.plain rfl))
      exact .nil _
    · exact keepOK_of hk hn rfl
    apply WPA.block
    refine WPA.loop (σ := Nat) (fun i => [(sl 1, .av (.loc 10 0)), (sl 12, .av (.d (tksD ts))), (sl 13, .av (iv .i64 (ts.length))), (sl 14, .av (iv .i64 (i))), (bk 10, .blk (.data [tksD ts]))]) (fun i => i ≤ ts.length ∧ ∀ j, j < i → okAt ts j = true) (fun i => ts.length - i) 0
      (St.le_cons rfl (St.le_cons rfl (St.le_cons rfl (St.le_cons rfl (St.le_cons rfl (St.le_nil _)))))) ⟨Nat.zero_le _, fun j hj => absurd hj (by omega)⟩ fun i hi => ?_
    apply WPA.seq
    apply WPA.region
    · apply Trace.pu [] (.cmp (.plain rfl) (.plain rfl) rfl)
      exact .nil _
    · exact keepOK_of hk hn rfl
    apply WPA.seq
    refine WPA.cond rfl (fun hc2 => ?_) (fun hc2 => ?_)
    · have hlt : i < ts.length := by simp at hc2; omega
      obtain ⟨t, hte⟩ : ∃ t, ts.getD i default = t := ⟨_, rfl⟩
      have hto : t.Ok := by rw [← hte]; exact hts _ (getD_mem' hlt)
      apply WPA.skip
      apply WPA.seq
      apply WPA.block
      apply WPA.seq
      apply WPA.region
      · apply Trace.pu [] (.move (.plain rfl))
        first | apply Trace.pu [] (.indexRows el22 (.plain rfl) (.plain rfl) (fun _ => ⟨by omega, by omega⟩)) | apply Trace.pu [] (.indexOwn el22 (.plain rfl) (.plain rfl) (fun _ => ⟨by omega, by omega⟩)) | apply Trace.pu [] (.indexSl el22 (.plain rfl) (.plain rfl) (fun _ => ⟨by omega, by omega⟩)) | apply Trace.pu [] (.indexSa el22 (.plain rfl) (.plain rfl) (fun _ => ⟨by omega, by omega⟩))
        apply Trace.pu [] ((Pure.loadRp ty49 (.plain rfl) (fun _ => by rw [Int.toNat_natCast]; exact tk_len hts hlt)).to (y := .d (.agg t.cells)) (by rw [Int.toNat_natCast, tk_take hts, hte]))
        apply Trace.alloc 4 [] (.data _) zo49 (cellsAs_data _) rfl
        apply Trace.pu [] (.assign (.plain rfl))
        apply Trace.storeD (cs' := t.cells) ty49 (.plain rfl) (.plain rfl) rfl rfl (Tk.cells_length hto.len) (cells_one t) (by decide) (spliceL_all (by rw [Tk.cells_length hto.len]; rfl))
        exact .nil _
      · exact keepOK_of hk hn rfl
      apply WPA.seq
      apply WPA.seq
      apply WPA.draw mixed
      · apply Trace.pu [] (.move (.plain rfl))
        apply Trace.pu [] (.cmp (.plain rfl) (.plain rfl) rfl)
        apply Trace.pu [] (.move (.plain rfl))
        apply Trace.pg [] rfl (.fieldAddr fl24_0 (.plain rfl) rfl)
        first | apply Trace.pg [_] rfl (.loadLoc1D ty22 (.gd rfl (fun h => h)) rfl rfl) | apply Trace.pg [_] rfl (.loadLoc1 ty22 (.gd rfl (fun h => h)) rfl rfl) | apply Trace.pg [] rfl (.loadRp1 ty22 (.gd rfl (fun h => h)) rfl) | apply Trace.pg [_] rfl (.loadCol1 ty22 (.gd rfl (fun h => h)) rfl rfl rfl (fun _ => by omega))
        apply Trace.pg [] rfl (.move (.plain rfl))
        apply Trace.pg [] rfl (.arith (.gd rfl (fun h => h)) (.plain rfl) rfl (fun _ => bd64 (by omega)))
        apply Trace.pg [] rfl (.indexRows el22 (.gd rfl (fun h => h)) (.gd rfl (fun h => h)) (fun h => by simp at h; omega))
        apply Trace.pg [] rfl (.fieldAddr fl49_0 (.gd rfl (fun h => h)) rfl)
        apply Trace.pg [] rfl ((Pure.loadRp ty27 (.gd rfl (fun h => h)) (fun h => by rw [show ((i : Int) - 1).toNat = i - 1 by omega, List.drop_zero]; have := tk_len hts (i := i - 1) (by omega); omega)).to (y := .d (byD (ts.getD (i - 1) default).d)) (by rw [show ((i : Int) - 1).toNat = i - 1 by omega]; exact row_d hts (by omega)))
        apply Trace.pg [] rfl (.fieldAddr fl49_0 (.plain rfl) rfl)
        apply Trace.pg [_] rfl ((Pure.loadLocD ty27 (.gd rfl (fun h => h)) rfl (fun _ => by rw [Tk.cells_length hto.len]; decide)).to (y := .d (byD t.d)) (by rw [cells_d hto.len]))
        apply Trace.cg rfl (callArgs0 (.cons (.gd rfl (fun h => h)) (.cons (.gd rfl (fun h => h)) .nil))) (fun h => spec35 (ts.getD (i - 1) default).d t.d (hts _ (getD_mem' (by omega))).len hto.len (hts _ (getD_mem' (by omega))).byt hto.byt) en35
        apply Trace.pg [] rfl (.cmp (.gd rfl (fun h => h)) (.plain rfl) rfl)
        apply Trace.pu [] (.pick (.plain rfl) (.gd rfl (by simp)) (.plain rfl))
        exact .nil _
      · rfl
      · exact keepOK_of hk hn rfl
      refine WPA.cond rfl (fun hc3 => ?_) (fun hc3 => ?_)
      · have hE : chk ts = false := chk_false hlt (by
          rcases pick_eq hc3 with ⟨h1, h2⟩ | ⟨_, h2⟩
          · have h3 : ltL (ts.getD (i - 1) default).d t.d = false := ge_lt h2
            have h4 : ¬ i = 0 := by simp at h1; omega
            simp only [okAt, hte, h3, h4, decide_false, Bool.or_false, Bool.false_and]
          · cases h2)
        apply WPA.seq
        apply WPA.region
        · apply Trace.pu [] (.assign (.plain rfl))
          exact .nil _
        · exact keepOK_of hk hn rfl
        apply WPA.ret
        refine ⟨.inr rfl, ⟨_, (.cons (.tmp rfl) .nil), ?_⟩, by simp [St.get]⟩
        simp [resOf, D.ofV, ckE, hE]
      · have hord : (decide (i = 0) || ltL (ts.getD (i - 1) default).d t.d) = true := by
          rcases pick_ne hc3 with ⟨h1, h2⟩ | ⟨h1, _⟩
          · have : ltL (ts.getD (i - 1) default).d t.d = true := lt_ge h2
            rw [this, Bool.or_true]
          · have : i = 0 := by simp at h1; omega
            simp [this]
        apply WPA.skip
        apply WPA.seq
        apply WPA.region
        · apply Trace.pu [] (.fieldAddr fl49_1 (.plain rfl) rfl)
          apply Trace.pu [_] (.loadLoc1D ty25 (.plain rfl) rfl (cells_x hto.len))
          apply Trace.ct (callArgs0 (.cons (.plain rfl) .nil)) (spec29 t.xs hto.few hto.big) en29
          apply Trace.pu [] (.move (.plain rfl))
          apply Trace.pu [] (.extract (.plain rfl) rfl)
          apply Trace.pu [] (.extract (.plain rfl) rfl)
          apply Trace.alloc 5 [] (.data _) zo27 (cellsAs_data _) rfl
          apply Trace.storeD (cs' := (nmR t.xs).1.map fun x => .v (.int .u8 x)) ty27 (.plain rfl) (.plain rfl) rfl rfl (by rw [List.length_map]; exact nmR_length _) (by_one _) (by decide) (spliceL_all (by simp only [List.length_map, nmR_length]; rfl))
          apply Trace.pu [] (.assign (.plain rfl))
          exact .nil _
        · exact keepOK_of hk hn rfl
        apply WPA.seq
        apply WPA.region
        · apply Trace.pu [] (.move (.plain rfl))
          apply Trace.pu [] (.not (.plain rfl))
          apply Trace.pu [] (.move (.plain rfl))
          apply Trace.pg [_] rfl (.loadAllD ty27 (.plain rfl) rfl (by rw [List.length_map]; exact nmR_length _))
          apply Trace.pg [] rfl (.fieldAddr fl49_0 (.plain rfl) rfl)
          apply Trace.pg [_] rfl ((Pure.loadLocD ty27 (.gd rfl (fun h => h)) rfl (fun _ => by rw [Tk.cells_length hto.len]; decide)).to (y := .d (byD t.d)) (by rw [cells_d hto.len]))
          apply Trace.pg [] rfl (.ane ba27 (.gd rfl (fun h => h)) (.gd rfl (fun h => h)) (fun _ => nmR_length _) (fun _ => hto.len))
          apply Trace.pu [] (.pick (.plain rfl) (.plain rfl) (.gd rfl (by simp)))
          exact .nil _
        · exact keepOK_of hk hn rfl
        refine WPA.cond rfl (fun hc4 => ?_) (fun hc4 => ?_)
        · have hE : chk ts = false := chk_false hlt (by
            have : (nmOk t.xs && decide (nmD t.xs = t.d)) = false := by
              cases ho : nmOk t.xs with
              | false => rfl
              | true =>
                rw [nm_good ho] at hc4
                simpa using hc4
            simp only [okAt, hte, this, Bool.and_false])
          apply WPA.seq
          apply WPA.region
          · apply Trace.pu [] (.assign (.plain rfl))
            exact .nil _
          · exact keepOK_of hk hn rfl
          apply WPA.ret
          refine ⟨.inr rfl, ⟨_, (.cons (.tmp rfl) .nil), ?_⟩, by simp [St.get]⟩
          simp [resOf, D.ofV, ckE, hE]
        · have hok : okAt ts i = true := by
            have : (nmOk t.xs && decide (nmD t.xs = t.d)) = true := by
              cases ho : nmOk t.xs with
              | false => rw [nm_bad ho] at hc4; simp at hc4
              | true =>
                rw [nm_good ho] at hc4
                simpa using hc4
            simp only [okAt, hte, this, hord, Bool.and_true]
          apply WPA.skip
          apply WPA.region
          · apply Trace.pu [] (.arith (.plain rfl) (.plain rfl) rfl (fun _ => bd64 (by omega)))
            apply Trace.pu [] (.move (.plain rfl))
            exact .nil _
          · exact keepOK_of hk hn rfl
          exact ⟨i + 1, ⟨by omega, fun j hj => by
            by_cases h : j = i
            · rw [h]; exact hok
            · exact hi.2 j (by omega)⟩, by omega, St.le_cons rfl (St.le_cons rfl (St.le_cons rfl (St.le_cons (iv_eq (by omega)) (St.le_cons rfl (St.le_nil _)))))⟩
    · have hend : i = ts.length := by simp at hc2; omega
      have hG : chk ts = true := chk_true fun j hj => hi.2 j (by omega)
      apply WPA.exit
      apply WPA.seq
      apply WPA.region
      · apply Trace.pu [] (.assign (.plain rfl))
        exact .nil _
      · exact keepOK_of hk hn rfl
      apply WPA.ret
      refine ⟨.inr rfl, ⟨_, (.cons (.tmp rfl) .nil), ?_⟩, by simp [St.get]⟩
      simp [resOf, D.ofV, ckE, hG]

end Go.Proofs.YtmdfamnnnoieaaaDoor


/- pool.Get, pool.Look. -/
namespace Go.Proofs.YtmdfamnnnoieaaaDoor
open Go
set_option linter.unusedVariables false
set_option linter.unusedSimpArgs false
set_option maxRecDepth 10000
set_option maxHeartbeats 1000000

theorem chk_srt {ts : List Tk} (h : chk ts = true) : Srt ts := by
  intro i j hij hj
  have step : ∀ m, m + 1 < ts.length → ltL (ts.getD m default).d (ts.getD (m + 1) default).d = true := fun m hm => by
    have := chk_at h hm
    simp only [okAt, Bool.and_eq_true, Bool.or_eq_true, decide_eq_true_eq] at this
    rcases this.1 with h1 | h1
    · omega
    · simpa using h1
  obtain ⟨n, rfl⟩ : ∃ n, j = i + 1 + n := ⟨j - (i + 1), by omega⟩
  clear hij
  induction n with
  | zero => exact step i hj
  | succ n ih => exact ltL_trans (ih (by omega)) (step (i + 1 + n) (by omega))
def lookE (ts : List Tk) (k : List Int) : List Int × Bool := match ts.find? fun t => decide (t.d = k) with
  | some t => (t.xs, true)
  | none => ([], false)
def getE (ts : List Tk) (k : List Int) : List Int × Int := if chk ts then (if metOf ts k then ((ts.getD (atOf ts k) default).xs, 0) else ([], 251)) else ([], 250)
theorem row_x {ts : List Tk} (h : ∀ t ∈ ts, t.Ok) {i : Nat} (hi : i < ts.length) : ((tkRow ts i).drop 32)[0]? = some (intsD (ts.getD i default).xs) := by
  rw [List.getElem?_drop]
  exact cells_x (h _ (getD_mem' hi)).len
theorem find_at {ts : List Tk} {k : List Int} {i : Nat} (hi : i < ts.length) (he : (ts.getD i default).d = k) (hn : ∀ j, j < i → ¬ (ts.getD j default).d = k) : (ts.find? fun t => decide (t.d = k)) = some (ts.getD i default) := by
  have hg : ts.getD i default = ts[i] := by rw [List.getD_eq_getElem?_getD, List.getElem?_eq_getElem hi]; rfl
  rw [hg] at he ⊢
  rw [List.find?_eq_some_iff_getElem]
  refine ⟨by simpa using he, i, hi, rfl, fun j hj => ?_⟩
  have := hn j hj
  have hgj : ts.getD j default = ts[j] := by rw [List.getD_eq_getElem?_getD, List.getElem?_eq_getElem (by omega)]; rfl
  rw [hgj] at this
  simpa using this
theorem find_no {ts : List Tk} {k : List Int} (hn : ∀ j, j < ts.length → ¬ (ts.getD j default).d = k) : (ts.find? fun t => decide (t.d = k)) = none := by
  rw [List.find?_eq_none]
  intro t ht
  obtain ⟨j, hj, rfl⟩ := List.getElem_of_mem ht
  have := hn j hj
  have hgj : ts.getD j default = ts[j] := by rw [List.getD_eq_getElem?_getD, List.getElem?_eq_getElem hj]; rfl
  rw [hgj] at this
  simpa using this
/-- soundpost/pool.Get -/
theorem spec13 (ts : List Tk) (k : List Int) (hts : ∀ t ∈ ts, t.Ok) (hkl : k.length = 32) (hkb : Byt k) (hn1 : ts.length ≤ 1000) : FnSpec Tryd.prog 13 [.d (poolD ts), .d (byD k)] [] (.tup ([intsD (getE ts k).1, .v (.int .i64 (getE ts k).2)].map .d)) [] [] := by
  refine fnSpec_of (rs := [.tmp 4, .tmp 5]) Tryd.func13 rfl rfl (Nat.le_of_ble_eq_true rfl) (by simp [St.get]) fun E hk hn => ?_
  apply WPA.seq
  apply WPA.region
  · apply Trace.boxD 10 [] (.plain rfl) rfl rfl
    apply Trace.boxD 11 [] (.plain rfl) rfl rfl
    apply Trace.pu [] (.assign (.plain rfl))
    apply Trace.pu [] (.assign (.plain rfl))
    exact .nil _
  · exact keepOK_of hk hn rfl
  apply WPA.seq
  apply WPA.seq
  apply WPA.region
  · apply Trace.pu [_] (.loadAllD ty24 (.plain rfl) rfl rfl)
    apply Trace.cu (callArgs0 (.cons (.plain rfl) .nil)) (spec19 ts hts hn1) en19
    apply Trace.pu [] (.assign (.plain rfl))
    exact .nil _
  · exact keepOK_of hk hn rfl
  apply WPA.seq
  apply WPA.region
  · apply Trace.pu [] (.move (.plain rfl))
    apply Trace.pu [] (.cmp (.plain rfl) (.plain rfl) rfl)
    exact .nil _
  · exact keepOK_of hk hn rfl
  refine WPA.cond rfl (fun hc1 => ?_) (fun hc1 => ?_)
  · have hE : chk ts = false := by
      cases h : chk ts with
      | false => rfl
      | true => simp [ckE, h] at hc1
    apply WPA.seq
    apply WPA.region
    · apply Trace.pu [] (.move (.plain rfl))
      apply Trace.pu [] (.assign (.plain rfl))
      apply Trace.pu [] (.assign (.plain rfl))
      exact .nil _
    · exact keepOK_of hk hn rfl
    refine WPA.ghost (Ghost.slot (t := 4) (y := .d (intsD [])) rfl den_nilRows) ?_
    apply WPA.ret
    refine ⟨.inr rfl, ⟨_, (.cons (.tmp rfl) (.cons (.tmp rfl) .nil)), ?_⟩, by simp [St.get]⟩
    simp [getE, hE, resOf, ckE]
  · have hC : chk ts = true := by
      cases h : chk ts with
      | true => rfl
      | false => simp [ckE, h] at hc1
    have hS := chk_srt hC
    apply WPA.skip
    apply WPA.seq
    apply WPA.region
    · apply Trace.pu [_] (.loadAllD ty24 (.plain rfl) rfl rfl)
      apply Trace.pu [_] (.loadAllD ty27 (.plain rfl) rfl (by simp [hkl]))
      apply Trace.ct (callArgs0 (.cons (.plain rfl) (.cons (.plain rfl) .nil))) (spec30 ts k hts hkl hkb hS (by omega)) en30
      apply Trace.pu [] (.move (.plain rfl))
      apply Trace.pu [] (.extract (.plain rfl) rfl)
      apply Trace.pu [] (.extract (.plain rfl) rfl)
      apply Trace.pu [] (.assign (.plain rfl))
      apply Trace.pu [] (.assign (.plain rfl))
      exact .nil _
    · exact keepOK_of hk hn rfl
    apply WPA.seq
    apply WPA.seq
    apply WPA.region
    · apply Trace.pu [] (.move (.plain rfl))
      apply Trace.pu [] (.not (.plain rfl))
      exact .nil _
    · exact keepOK_of hk hn rfl
    refine WPA.cond rfl (fun hc2 => ?_) (fun hc2 => ?_)
    · have hM : metOf ts k = false := by simpa using hc2
      apply WPA.seq
      apply WPA.region
      · apply Trace.pu [] (.assign (.plain rfl))
        apply Trace.pu [] (.assign (.plain rfl))
        exact .nil _
      · exact keepOK_of hk hn rfl
      refine WPA.ghost (Ghost.slot (t := 4) (y := .d (intsD [])) rfl den_nilRows) ?_
      apply WPA.ret
      refine ⟨.inr rfl, ⟨_, (.cons (.tmp rfl) (.cons (.tmp rfl) .nil)), ?_⟩, by simp [St.get]⟩
      simp [getE, hC, hM, resOf, D.ofV]
    · have hM : metOf ts k = true := by simpa using hc2
      have hlt : atOf ts k < ts.length := by
        unfold metOf at hM
        simp at hM
        exact hM.1
      apply WPA.skip
      apply WPA.seq
      apply WPA.region
      · apply Trace.pu [] (.fieldAddr fl24_0 (.plain rfl) rfl)
        first | apply Trace.pu [_] (.loadLoc1D ty22 (.plain rfl) rfl rfl) | apply Trace.pu [_] (.loadLoc1 ty22 (.plain rfl) rfl rfl) | apply Trace.pu [] (.loadRp1 ty22 (.plain rfl) rfl) | apply Trace.pu [_] (.loadCol1 ty22 (.plain rfl) rfl rfl rfl (fun _ => by omega))
        apply Trace.pu [] (.move (.plain rfl))
        first | apply Trace.pu [] (.indexRows el22 (.plain rfl) (.plain rfl) (fun _ => ⟨by omega, by omega⟩)) | apply Trace.pu [] (.indexOwn el22 (.plain rfl) (.plain rfl) (fun _ => ⟨by omega, by omega⟩)) | apply Trace.pu [] (.indexSl el22 (.plain rfl) (.plain rfl) (fun _ => ⟨by omega, by omega⟩)) | apply Trace.pu [] (.indexSa el22 (.plain rfl) (.plain rfl) (fun _ => ⟨by omega, by omega⟩))
        apply Trace.pu [] (.fieldAddr fl49_1 (.plain rfl) rfl)
        apply Trace.pu [] (.loadRp1 ty25 (.plain rfl) (by rw [Int.toNat_natCast]; exact row_x hts hlt))
        apply Trace.pu [] (.assign (.plain rfl))
        apply Trace.pu [] (.assign (.plain rfl))
        exact .nil _
      · exact keepOK_of hk hn rfl
      apply WPA.ret
      refine ⟨.inr rfl, ⟨_, (.cons (.tmp rfl) (.cons (.tmp rfl) .nil)), ?_⟩, by simp [St.get]⟩
      simp [getE, hC, hM, resOf, D.ofV]
/-- soundpost/pool.Look -/
theorem spec15 (ts : List Tk) (k : List Int) (hts : ∀ t ∈ ts, t.Ok) (hkl : k.length = 32) (hkb : Byt k) (hn1 : ts.length ≤ 1000) : FnSpec Tryd.prog 15 [.d (poolD ts), .d (byD k)] [] (.tup ([intsD (lookE ts k).1, .v (.bool (lookE ts k).2)].map .d)) [] [] := by
  refine fnSpec_of (rs := [.tmp 4, .tmp 5]) Tryd.func15 rfl rfl (Nat.le_of_ble_eq_true rfl) (by simp [St.get]) fun E hk hn => ?_
  apply WPA.seq
  apply WPA.region
  · apply Trace.boxD 10 [] (.plain rfl) rfl rfl
    apply Trace.boxD 11 [] (.plain rfl) rfl rfl
    apply Trace.pu [] (.assign (.plain rfl))
    apply Trace.pu [] (.assign (.plain rfl))
    exact .nil _
  · exact keepOK_of hk hn rfl
  apply WPA.seq
  apply WPA.seq
  apply WPA.region
  · apply Trace.pu [] (.fieldAddr fl24_0 (.plain rfl) rfl)
    first | apply Trace.pu [_] (.loadLoc1D ty22 (.plain rfl) rfl rfl) | apply Trace.pu [_] (.loadLoc1 ty22 (.plain rfl) rfl rfl) | apply Trace.pu [] (.loadRp1 ty22 (.plain rfl) rfl) | apply Trace.pu [_] (.loadCol1 ty22 (.plain rfl) rfl rfl rfl (fun _ => by omega))
    apply Trace.pu [] (.len rfl Tryd.underlying22 (.plain rfl) rfl)
    apply Trace.pu [] (.move (.plain rfl))
    exact .nil _
  · exact keepOK_of hk hn rfl
  apply WPA.block
  refine WPA.loop (σ := Nat) (fun i => [(sl 3, .av (.loc 11 0)), (sl 9, .av (.d (tksD ts))), (sl 10, .av (iv .i64 (ts.length))), (sl 11, .av (iv .i64 (i))), (bk 11, .blk (.data (k.map fun x => .v (.int .u8 x))))]) (fun i => i ≤ ts.length ∧ ∀ j, j < i → ¬ (ts.getD j default).d = k) (fun i => ts.length - i) 0
    (St.le_cons rfl (St.le_cons rfl (St.le_cons rfl (St.le_cons rfl (St.le_cons rfl (St.le_nil _)))))) ⟨Nat.zero_le _, fun j hj => absurd hj (by omega)⟩ fun i hi => ?_
  apply WPA.seq
  apply WPA.region
  · apply Trace.pu [] (.cmp (.plain rfl) (.plain rfl) rfl)
    exact .nil _
  · exact keepOK_of hk hn rfl
  apply WPA.seq
  refine WPA.cond rfl (fun hc1 => ?_) (fun hc1 => ?_)
  · have hlt : i < ts.length := by simp at hc1; omega
    obtain ⟨t, hte⟩ : ∃ t, ts.getD i default = t := ⟨_, rfl⟩
    have hto : t.Ok := by rw [← hte]; exact hts _ (getD_mem' hlt)
    apply WPA.skip
    apply WPA.seq
    apply WPA.block
    apply WPA.seq
    apply WPA.region
    · first | apply Trace.pu [] (.indexRows el22 (.plain rfl) (.plain rfl) (fun _ => ⟨by omega, by omega⟩)) | apply Trace.pu [] (.indexOwn el22 (.plain rfl) (.plain rfl) (fun _ => ⟨by omega, by omega⟩)) | apply Trace.pu [] (.indexSl el22 (.plain rfl) (.plain rfl) (fun _ => ⟨by omega, by omega⟩)) | apply Trace.pu [] (.indexSa el22 (.plain rfl) (.plain rfl) (fun _ => ⟨by omega, by omega⟩))
      apply Trace.pu [] ((Pure.loadRp ty49 (.plain rfl) (fun _ => by rw [Int.toNat_natCast]; exact tk_len hts hlt)).to (y := .d (.agg t.cells)) (by rw [Int.toNat_natCast, tk_take hts, hte]))
      apply Trace.alloc 7 [] (.data _) zo49 (cellsAs_data _) rfl
      apply Trace.storeD (cs' := t.cells) ty49 (.plain rfl) (.plain rfl) rfl rfl (Tk.cells_length hto.len) (cells_one t) (by decide) (spliceL_all (by rw [Tk.cells_length hto.len]; rfl))
      exact .nil _
    · exact keepOK_of hk hn rfl
    apply WPA.seq
    apply WPA.region
    · apply Trace.pu [] (.fieldAddr fl49_0 (.plain rfl) rfl)
      apply Trace.pu [_] ((Pure.loadLocD ty27 (.plain rfl) rfl (fun _ => by rw [Tk.cells_length hto.len]; decide)).to (y := .d (byD t.d)) (by rw [cells_d hto.len]))
      apply Trace.pu [_] (.loadAllD ty27 (.plain rfl) rfl (by simp [hkl]))
      apply Trace.pu [] (.aeq ba27 (.plain rfl) (.plain rfl) (fun _ => hto.len) (fun _ => hkl))
      exact .nil _
    · exact keepOK_of hk hn rfl
    refine WPA.cond rfl (fun hc2 => ?_) (fun hc2 => ?_)
    · have he : t.d = k := by simpa using hc2
      have hF := find_at hlt (hte.symm ▸ he) hi.2
      apply WPA.seq
      apply WPA.region
      · apply Trace.pu [] (.fieldAddr fl49_1 (.plain rfl) rfl)
        apply Trace.pu [_] (.loadLoc1D ty25 (.plain rfl) rfl (cells_x hto.len))
        apply Trace.pu [] (.assign (.plain rfl))
        apply Trace.pu [] (.assign (.plain rfl))
        exact .nil _
      · exact keepOK_of hk hn rfl
      apply WPA.ret
      refine ⟨.inr rfl, ⟨_, (.cons (.tmp rfl) (.cons (.tmp rfl) .nil)), ?_⟩, by simp [St.get]⟩
      simp only [lookE, hF, hte, resOf, D.ofV, List.map]
    · have he : ¬ t.d = k := by simpa using hc2
      apply WPA.skip
      apply WPA.region
      · apply Trace.pu [] (.arith (.plain rfl) (.plain rfl) rfl (fun _ => bd64 (by omega)))
        apply Trace.pu [] (.move (.plain rfl))
        exact .nil _
      · exact keepOK_of hk hn rfl
      exact ⟨i + 1, ⟨by omega, fun j hj => by
        by_cases h : j = i
        · rw [h, hte]; exact he
        · exact hi.2 j (by omega)⟩, by omega, St.le_cons rfl (St.le_cons rfl (St.le_cons rfl (St.le_cons (iv_eq (by omega)) (St.le_cons rfl (St.le_nil _)))))⟩
  · have hend : i = ts.length := by simp at hc1; omega
    have hF := find_no (ts := ts) (k := k) fun j hj => hi.2 j (by omega)
    apply WPA.exit
    apply WPA.seq
    apply WPA.region
    · apply Trace.pu [] (.assign (.plain rfl))
      apply Trace.pu [] (.assign (.plain rfl))
      exact .nil _
    · exact keepOK_of hk hn rfl
    refine WPA.ghost (Ghost.slot (t := 4) (y := .d (intsD [])) rfl den_nilRows) ?_
    apply WPA.ret
    refine ⟨.inr rfl, ⟨_, (.cons (.tmp rfl) (.cons (.tmp rfl) .nil)), ?_⟩, by simp [St.get]⟩
    simp [lookE, hF, resOf, D.ofV]

end Go.Proofs.YtmdfamnnnoieaaaDoor


/- pool.Put. -/
namespace Go.Proofs.YtmdfamnnnoieaaaDoor
open Go
set_option linter.unusedVariables false
set_option linter.unusedSimpArgs false
set_option maxRecDepth 10000
set_option maxHeartbeats 1000000

theorem dsOf_map (ds : List D) : dsOf (ds.map .d) = some ds := by
  induction ds with
  | nil => rfl
  | cons x r ih => simp only [List.map_cons, dsOf, ih]
section
variable {P : Program} {S : St} {ro : Ro} {ops : Array Oper} {d : Nat} {t e ty : TypeId} {pos : String} {af : Array Edge} {x : Operand}
/-- []T{x} of a value of n cells. -/
theorem Trace.buildOne {S' : St} {r : List Oper} {L : List Ax} {zs : List Value} {n : Nat} {ds : List D}
    (ht : sliceOf P t e n = true) (hz : ZeroIs P e zs) (hzn : zs.length = n) (hn : 0 < n) (h16 : n ≤ 1000) (e1 : Ev S true x (.d (.agg ds))) (hl : ds.length = n)
    (h : Trace P ro ops r ((sl d, .av (.d (.rows n 1 fun _ => ds))) :: S) L S') :
    Trace P ro ops (⟨some d, .buildSlice t 1 #[(0, x)], ty, pos, af, none⟩ :: r) S (⟨opNames ⟨some d, .buildSlice t 1 #[(0, x)], ty, pos, af, none⟩ ++ ([] : List Nat).map bk, S, [(sl d, some (.av (.d (.rows n 1 fun _ => ds))))], []⟩ :: L) S' := by
  have hlen : (vals ((List.range (1 * n)).map fun k => zs.getD (k % n) undef)).length = n := by simp [vals]
  refine Trace.buildRows (l := ds.map .d) (dl := ds) ht hz hzn hn (by omega) (.cons e1 rfl (off := 0) (by simp [hl]) (by rw [hlen]; simp [hl]) ?_) (dsOf_map ds) (fun i hi => ?_) h
  · rw [spliceL_all (by rw [hlen]; simp [hl])]
    exact .nil _ _
  · have : i = 0 := by omega
    subst this
    rw [Nat.zero_mul, List.drop_zero, List.take_of_length_le (by omega)]
end
theorem putB_byt (len u : Nat) : Byt (putB len u) := by
  intro x hx
  simp only [putB, List.mem_map, List.mem_range] at hx
  obtain ⟨j, _, rfl⟩ := hx
  omega
theorem outB_byt (s : V8) : Byt (outB s) := by
  intro x hx
  simp only [outB, List.mem_flatMap] at hx
  obtain ⟨w, _, hw⟩ := hx
  exact putB_byt _ _ x hw
theorem nmD_byt (xs : List Int) : Byt (nmD xs) := outB_byt _
theorem nmD_length (xs : List Int) : (nmD xs).length = 32 := tagM_length _ _
def insE (ts : List Tk) (t : Tk) : List Tk := ts.take (atOf ts t.d) ++ [t] ++ ts.drop (atOf ts t.d)
def putE (ts : List Tk) (xs : List Int) : List Tk × List Int × Int :=
  if nmOk xs && chk ts then (if metOf ts (nmD xs) then (ts, nmD xs, 0) else (insE ts ⟨nmD xs, xs⟩, nmD xs, 0)) else ([], zero32, 250)
theorem rows_take {ts : List Tk} (h : ∀ t ∈ ts, t.Ok) {n : Nat} (hn : n ≤ ts.length) : ∀ i, i < n → tkRow ts (0 + i) = (tkCols (ts.take n)).map (Col.at · i) := by
  intro i hi
  rw [tkCols_row (fun t ht => h t (List.mem_of_mem_take ht)) (by simp; omega)]
  unfold tkRow
  rw [Nat.zero_add, List.getD_eq_getElem?_getD, List.getD_eq_getElem?_getD, List.getElem?_take, if_pos hi]
theorem rows_drop {ts : List Tk} (h : ∀ t ∈ ts, t.Ok) {n : Nat} : ∀ i, i < ts.length - n → tkRow ts (n + i) = (tkCols (ts.drop n)).map (Col.at · i) := by
  intro i hi
  rw [tkCols_row (fun t ht => h t (List.mem_of_mem_drop ht)) (by simp; omega)]
  unfold tkRow
  rw [List.getD_eq_getElem?_getD, List.getD_eq_getElem?_getD, List.getElem?_drop]
theorem rows_one {t : Tk} (h : t.Ok) : ∀ i, i < 1 → t.cells = (tkCols [t]).map (Col.at · i) := by
  intro i hi
  have : i = 0 := by omega
  subst this
  rw [tkCols_row (by intro s hs; simp at hs; subst hs; exact h) (by simp)]
  rfl
theorem insE_mem {ts : List Tk} {t s : Tk} : s ∈ insE ts t ↔ s ∈ ts ∨ s = t := by
  unfold insE
  rw [List.mem_append, List.mem_append, List.mem_singleton]
  constructor
  · rintro ((h | h) | h)
    · exact .inl (List.mem_of_mem_take h)
    · exact .inr h
    · exact .inl (List.mem_of_mem_drop h)
  · rintro (h | h)
    · rw [← List.take_append_drop (atOf ts t.d) ts, List.mem_append] at h
      rcases h with h | h
      · exact .inl (.inl h)
      · exact .inr h
    · exact .inl (.inr h)
theorem insE_length (ts : List Tk) (t : Tk) : (insE ts t).length = ts.length + 1 := by
  unfold insE
  have := atOf_le ts t.d
  simp
  omega
theorem agg_own {ds : List D} {l n : Nat} : mkAgg (ds.map .d ++ [.own l n]) = .agg (ds.map .d ++ [.own l n]) := by
  have : dsOf (ds.map AV.d ++ [.own l n]) = none := by
    induction ds with
    | nil => rfl
    | cons x r ih => simp only [List.map_cons, List.cons_append, dsOf, ih]
  simp only [mkAgg, this]
theorem fill33 {ds : List D} {a : AV} {zs : List AV} (h : ds.length = 32) (hz : zs.length = 33) : spliceL (spliceL zs 0 (ds.map .d)) 32 [a] = ds.map .d ++ [a] := by
  have hl : (ds.map AV.d).length = 32 := by simpa using h
  generalize ds.map AV.d = us at *
  unfold spliceL
  rw [List.take_zero, List.nil_append, hl, List.take_append_of_le_length (by omega), List.take_of_length_le (by omega), List.drop_of_length_le (by simp [hl, hz])]
  simp
theorem one_snoc {ds : List D} {l n : Nat} (h : ∀ x ∈ ds, (AV.d x).oneB = true) : ∀ x ∈ ds.map AV.d ++ [.own l n], x.oneB = true := by
  intro x hx
  rcases List.mem_append.1 hx with hx | hx
  · obtain ⟨z, hz, rfl⟩ := List.mem_map.1 hx
    exact h z hz
  · simp at hx; subst hx; rfl
/-- soundpost/pool.Put -/
theorem spec11 (ts : List Tk) (xs : List Int) (hts : ∀ t ∈ ts, t.Ok) (hn1 : ts.length ≤ 1000) (hx : xs.length ≤ 1000) (hb : ∀ x ∈ xs, -9223372036854775808 ≤ x ∧ x ≤ 9223372036854775807) : FnSpec Tryd.prog 11 [.d (poolD ts), .d (intsD xs)] [] (.tup ([poolD (putE ts xs).1, byD (putE ts xs).2.1, .v (.int .i64 (putE ts xs).2.2)].map .d)) [] [] := by
  refine fnSpec_of (rs := [.cell 4 24, .cell 5 27, .tmp 6]) Tryd.func11 rfl rfl (Nat.le_of_ble_eq_true rfl) (by simp [St.get]) fun E hk hn => ?_
  apply WPA.seq
  apply WPA.region
  · apply Trace.boxD 10 [] (.plain rfl) rfl rfl
    apply Trace.alloc 4 [] (.data _) zo24 (cellsAs_data _) rfl
    apply Trace.alloc 5 [] (.data _) zo27 (cellsAs_data _) rfl
    apply Trace.pu [] (.assign (.plain rfl))
    exact .nil _
  · exact keepOK_of hk hn rfl
  apply WPA.seq
  apply WPA.region
  · apply Trace.pu [] (.move (.plain rfl))
    apply Trace.ct (callArgs0 (.cons (.plain rfl) .nil)) (spec29 xs hx hb) en29
    apply Trace.pu [] (.move (.plain rfl))
    apply Trace.pu [] (.extract (.plain rfl) rfl)
    apply Trace.pu [] (.extract (.plain rfl) rfl)
    apply Trace.storeD (cs' := (nmR xs).1.map fun x => .v (.int .u8 x)) ty27 (.plain rfl) (.plain rfl) rfl rfl (by rw [List.length_map]; exact nmR_length _) (by_one _) (by decide) (spliceL_all (by simp only [List.length_map, nmR_length]; rfl))
    apply Trace.pu [] (.assign (.plain rfl))
    exact .nil _
  · exact keepOK_of hk hn rfl
  apply WPA.seq
  apply WPA.seq
  apply WPA.region
  · apply Trace.pu [] (.move (.plain rfl))
    apply Trace.pu [] (.not (.plain rfl))
    apply Trace.pu [] (.move (.plain rfl))
    apply Trace.pg [_] rfl (.loadAllD ty24 (.plain rfl) rfl rfl)
    apply Trace.cg rfl (callArgs0 (.cons (.gd rfl (fun h => h)) .nil)) (fun h => spec19 ts hts hn1) en19
    apply Trace.pg [] rfl (.cmp (.gd rfl (fun h => h)) (.plain rfl) rfl)
    apply Trace.pu [] (.pick (.plain rfl) (.plain rfl) (.gd rfl (by simp)))
    exact .nil _
  · exact keepOK_of hk hn rfl
  refine WPA.cond rfl (fun hc1 => ?_) (fun hc1 => ?_)
  · have hE : (nmOk xs && chk ts) = false := by
      cases ho : nmOk xs with
      | false => rfl
      | true =>
        rw [nm_good ho] at hc1
        cases h : chk ts with
        | false => rfl
        | true => simp [ckE, h] at hc1
    apply WPA.seq
    apply WPA.region
    · apply Trace.pu [_] (.loadAllD ty24 (.plain rfl) rfl rfl)
      apply Trace.pu [] (.build zo27 pl27 (.nil _ _) rfl)
      apply Trace.storeD ty24 (.plain rfl) (.plain rfl) rfl rfl rfl (by simp [AV.oneB, single]) (by decide) rfl
      apply Trace.storeD (cs' := zero32.map fun x => .v (.int .u8 x)) ty27 (.plain rfl) (.plain rfl) rfl rfl rfl (by_one zero32) (by simp [nmR_length]) (spliceL_all (by simp only [List.length_map, nmR_length]; rfl))
      apply Trace.pu [] (.assign (.plain rfl))
      exact .nil _
    · exact keepOK_of hk hn rfl
    refine WPA.ghost (Ghost.dataLe (l := 4) (ds' := [tksD []]) rfl (.rows .nil)) ?_
    apply WPA.ret
    refine ⟨.inr rfl, ⟨_, (.cons (.cellD rfl rfl ty24 rfl) (.cons (.cellD rfl rfl ty27 rfl) (.cons (.tmp rfl) .nil))), ?_⟩, by simp [St.get]⟩
    simp only [putE, hE, Bool.false_eq_true, if_false]
    rfl
  · have hC : nmOk xs = true ∧ chk ts = true := by
      cases ho : nmOk xs with
      | false => rw [nm_bad ho] at hc1; simp at hc1
      | true =>
        rw [nm_good ho] at hc1
        cases h : chk ts with
        | true => exact ⟨rfl, rfl⟩
        | false => simp [ckE, h] at hc1
    obtain ⟨hO, hC⟩ := hC
    have hS := chk_srt hC
    rw [nm_good hO]
    have hAt := atOf_le ts (nmD xs)
    have hTo : (⟨nmD xs, xs⟩ : Tk).Ok := ⟨nmD_length xs, nmD_byt xs, hb, hx⟩
    apply WPA.skip
    apply WPA.seq
    apply WPA.region
    · apply Trace.pu [_] (.loadAllD ty24 (.plain rfl) rfl rfl)
      apply Trace.pu [_] (.loadAllD ty27 (.plain rfl) rfl (by simp [nmD_length]))
      apply Trace.ct (callArgs0 (.cons (.plain rfl) (.cons (.plain rfl) .nil))) (spec30 ts (nmD xs) hts (nmD_length xs) (nmD_byt xs) hS (by omega)) en30
      apply Trace.pu [] (.move (.plain rfl))
      apply Trace.pu [] (.extract (.plain rfl) rfl)
      apply Trace.pu [] (.extract (.plain rfl) rfl)
      apply Trace.pu [] (.assign (.plain rfl))
      apply Trace.pu [] (.assign (.plain rfl))
      exact .nil _
    · exact keepOK_of hk hn rfl
    apply WPA.seq
    apply WPA.seq
    apply WPA.region
    · apply Trace.pu [] (.move (.plain rfl))
      exact .nil _
    · exact keepOK_of hk hn rfl
    refine WPA.cond rfl (fun hc2 => ?_) (fun hc2 => ?_)
    · have hM : metOf ts (nmD xs) = true := hc2
      apply WPA.seq
      apply WPA.draw mixed
      · apply Trace.pu [_] (.loadAllD ty24 (.plain rfl) rfl rfl)
        apply Trace.pu [_] (.loadAllD ty27 (.plain rfl) rfl (by simp [nmD_length]))
        apply Trace.storeD ty24 (.plain rfl) (.plain rfl) rfl rfl rfl (by simp [AV.oneB, single]) (by decide) rfl
        apply Trace.storeD (cs' := ((nmD xs).map fun x => D.v (.int .u8 x))) ty27 (.plain rfl) (.plain rfl) rfl rfl (by simp [nmD_length]) (by_one _) (by simp [nmD_length]) (spliceL_all rfl)
        apply Trace.pu [] (.assign (.plain rfl))
        exact .nil _
      · rfl
      · exact keepOK_of hk hn rfl
      apply WPA.ret
      refine ⟨.inr rfl, ⟨_, (.cons (.cellD rfl rfl ty24 rfl) (.cons (.cellD rfl rfl ty27 (by simp [nmD_length])) (.cons (.tmp rfl) .nil))), ?_⟩, by simp [St.get]⟩
      simp only [putE, hO, hC, hM, Bool.and_self, if_true]
      rfl
    · have hM : metOf ts (nmD xs) = false := hc2
      apply WPA.skip
      apply WPA.seq
      apply WPA.seq
      apply WPA.region
      · apply Trace.pu [] (.fieldAddr fl24_0 (.plain rfl) rfl)
        first | apply Trace.pu [_] (.loadLoc1D ty22 (.plain rfl) rfl rfl) | apply Trace.pu [_] (.loadLoc1 ty22 (.plain rfl) rfl rfl) | apply Trace.pu [] (.loadRp1 ty22 (.plain rfl) rfl) | apply Trace.pu [_] (.loadCol1 ty22 (.plain rfl) rfl rfl rfl (fun _ => by omega))
        apply Trace.pu [] (.len rfl Tryd.underlying22 (.plain rfl) rfl)
        apply Trace.pu [] (.cmp (.plain rfl) (.plain rfl) rfl)
        exact .nil _
      · exact keepOK_of hk hn rfl
      refine WPA.cond rfl (fun hc3 => ?_) (fun hc3 => ?_)
      · simp at hc3; omega
      · apply WPA.skip
        apply WPA.seq
        apply WPA.draw mixed
        · apply Trace.pu [_] (.loadAllD ty27 (.plain rfl) rfl (by simp [nmD_length]))
          apply Trace.buildSlice 41 [] so25 zo3 rfl (by decide) (by decide) (.nil _ _) rfl (cs := [.ds []]) rfl rfl
          apply Trace.pu [] (.move (.plain rfl))
          apply Trace.append 43 [bk 41, sl 41] ap25 kd25 (by decide) (.own (.plain rfl) rfl) (.rows (cs := [.ints .i64 xs]) (.plain rfl) rfl (by simp [Col.len]) (fun i hi => rfl)) (Col.ones rfl) (labs_ok rfl) (by omega) (by omega) (cs := [.ds (xs.map fun m => .v (.int .i64 m))]) rfl rfl
          apply Trace.pu [] ((Pure.build zo49 pl49 (.cons (u := .d (byD (nmD xs))) (us := ((nmD xs).map fun x => D.v (.int .u8 x)).map .d) (.plain rfl) rfl (off := 0) (by show some (0, 32) = _; simp [nmD_length]) (by simp [nmD_length, vals]) (.cons (.plain rfl) rfl (off := 32) rfl (by rw [spliceL_length (by simp [nmD_length, vals])]; exact Nat.le_of_ble_eq_true rfl) (.nil _ _))) rfl).to (y := .agg (((nmD xs).map fun x => D.v (.int .u8 x)).map .d ++ [.own 43 (0 + xs.length)])) (by rw [← agg_own]; exact congrArg mkAgg (fill33 (by simp [nmD_length]) rfl)))
          apply Trace.alloc 6 [] (.cells _) zo49 (cellsAs_vals _) rfl
          apply Trace.storeLoc (cs' := ((nmD xs).map fun x => D.v (.int .u8 x)).map .d ++ [.own 43 (0 + xs.length)]) ty49 (.plain rfl) (.plain rfl) rfl rfl (by simp [nmD_length]) (one_snoc (by_one _)) (by decide) (spliceL_all (by simp [nmD_length]))
          exact .nil _
        · rfl
        · exact keepOK_of hk hn rfl
        apply WPA.seq
        refine WPA.ghost (Ghost.cellFreeze (lb := 6) (j := 32) (l := 43) (g := fun i => [.v (.int .i64 (xs.getD i 0))]) (cs' := (Tk.cells ⟨nmD xs, xs⟩).map .d) rfl (by rw [List.getElem?_append_right (by simp [nmD_length])]; simp [nmD_length]) rfl rfl (fun i hi => by simp [Col.at, List.getD_eq_getElem?_getD, show i < xs.length by omega]) (by rw [Nat.zero_add, List.set_append, if_neg (by simp [nmD_length])]; simp [nmD_length, Tk.cells, intsD])) ?_
        refine WPA.ghost ((Ghost.reblk (l := 6) (B := .cells ((Tk.cells ⟨nmD xs, xs⟩).map .d)) (B' := .data (Tk.cells ⟨nmD xs, xs⟩)) rfl fun V M w h => h).trans (Ghost.weaken fun m c e => by rwa [← cons_upd])) ?_
        apply WPA.draw mixed
        · apply Trace.pu [] (.fieldAddr fl24_0 (.plain rfl) rfl)
          apply Trace.pu [_] (.loadLoc1D ty22 (.plain rfl) rfl rfl)
          apply Trace.pu [] (.fieldAddr fl24_0 (.plain rfl) rfl)
          apply Trace.pu [_] (.loadLoc1D ty22 (.plain rfl) rfl rfl)
          apply Trace.pu [] (.move (.plain rfl))
          apply Trace.pu [] ((Pure.cutRows so22 (.plain rfl) (.no _) (.to _ (.plain rfl) (fun _ => by omega)) (fun _ => ⟨by omega, by omega⟩)).to (y := .d (.rows 33 (atOf ts (nmD xs)) fun i => tkRow ts (0 + i))) (by rw [Int.toNat_natCast, Nat.sub_zero]))
          apply Trace.append 51 [] ap22 kd22 (by decide) (.nil (.plain rfl)) (.rows (cs := tkCols (ts.take (atOf ts (nmD xs)))) (.plain rfl) (tkCols_length _) (fun c hc => by rw [tkCols_len _ c hc]; simp; omega) (rows_take hts hAt)) (tkCols_one _) (labs_ok rfl) (by omega) (by omega) rfl rfl
          apply Trace.pu [_] (.loadAllD ty49 (.plain rfl) rfl (Tk.cells_length (nmD_length xs)))
          apply Trace.buildOne so22 zo49 rfl (by decide) (by decide) (.plain rfl) (Tk.cells_length (nmD_length xs))
          apply Trace.append 54 [bk 51, sl 51] ap22 kd22 (by decide) (.own (.plain rfl) rfl) (.rows (cs := tkCols [⟨nmD xs, xs⟩]) (.plain rfl) (tkCols_length _) (fun c hc => by rw [tkCols_len _ c hc]; rfl) (rows_one hTo)) (tkCols_one _) (labs_ok rfl) (by omega) (by omega) (tkCols_cat _ _) rfl
          apply Trace.pu [] (.fieldAddr fl24_0 (.plain rfl) rfl)
          apply Trace.pu [_] (.loadLoc1D ty22 (.plain rfl) rfl rfl)
          apply Trace.pu [] (.move (.plain rfl))
          apply Trace.pu [] ((Pure.cutRows so22 (.plain rfl) (.to _ (.plain rfl) (fun _ => by omega)) (.no _) (fun _ => ⟨by omega, by omega⟩)).to (y := .d (.rows 33 (ts.length - atOf ts (nmD xs)) fun i => tkRow ts (atOf ts (nmD xs) + i))) (by rw [Int.toNat_natCast]))
          apply Trace.append 59 [bk 54, sl 54] ap22 kd22 (by decide) (.own (.plain rfl) rfl) (.rows (cs := tkCols (ts.drop (atOf ts (nmD xs)))) (.plain rfl) (tkCols_length _) (fun c hc => by rw [tkCols_len _ c hc]; simp) (rows_drop hts)) (tkCols_one _) (labs_ok rfl) (by omega) (by omega) (tkCols_cat _ _) rfl
          apply Trace.pu [] (.fieldAddr fl24_0 (.plain rfl) rfl)
          apply Trace.storeDA ty22 (.plain rfl) (.plain rfl) rfl rfl rfl (by simp [AV.oneB, single]) (by decide) rfl
          exact .nil _
        · rfl
        · exact keepOK_of hk hn rfl
        apply WPA.seq
        have hlen : 0 + atOf ts (nmD xs) + 1 + (ts.length - atOf ts (nmD xs)) = (insE ts ⟨nmD xs, xs⟩).length := by rw [insE_length]; omega
        refine WPA.ghost (Ghost.cellFreeze (lb := 4) (j := 0) (l := 59) (g := tkRow (insE ts ⟨nmD xs, xs⟩)) (cs' := [.d (tksD (insE ts ⟨nmD xs, xs⟩))]) rfl rfl rfl rfl (fun i hi => tkCols_row (ts := insE ts ⟨nmD xs, xs⟩) (fun s hs => by rcases insE_mem.1 hs with h | h; exact hts s h; rw [h]; exact hTo) (by rw [← hlen]; exact hi)) (by rw [hlen]; rfl)) ?_
        refine WPA.ghost ((Ghost.reblk (l := 4) (B := .cells [.d (tksD (insE ts ⟨nmD xs, xs⟩))]) (B' := .data [tksD (insE ts ⟨nmD xs, xs⟩)]) rfl fun V M w h => h).trans (Ghost.weaken fun m c e => by rwa [← cons_upd])) ?_
        apply WPA.draw mixed
        · apply Trace.pu [_] (.loadAllD ty24 (.plain rfl) rfl rfl)
          apply Trace.pu [_] (.loadAllD ty27 (.plain rfl) rfl (by simp [nmD_length]))
          apply Trace.storeD ty24 (.plain rfl) (.plain rfl) rfl rfl rfl (by simp [AV.oneB, single]) (Nat.le_of_ble_eq_true rfl) rfl
          apply Trace.storeD (cs' := ((nmD xs).map fun x => D.v (.int .u8 x))) ty27 (.plain rfl) (.plain rfl) rfl rfl (by simp [nmD_length]) (by_one _) (by simp [nmD_length]) (spliceL_all rfl)
          apply Trace.pu [] (.assign (.plain rfl))
          exact .nil _
        · rfl
        · exact keepOK_of hk hn rfl
        apply WPA.ret
        refine ⟨.inr rfl, ⟨_, (.cons (.cellD rfl rfl ty24 rfl) (.cons (.cellD rfl rfl ty27 (by simp [nmD_length])) (.cons (.tmp rfl) .nil))), ?_⟩, by simp [St.get]⟩
        simp only [putE, hO, hC, hM, Bool.and_self, if_true, Bool.false_eq_true, if_false]
        rfl

end Go.Proofs.YtmdfamnnnoieaaaDoor


/- Merging two lists of takes in order. Plain Lean, no program in sight. -/
namespace Go.Proofs.YtmdfamnnnoieaaaDoor
open Go
set_option linter.unusedVariables false
set_option linter.unusedSimpArgs false

def mstep : List Tk → List Tk → Option (Tk × List Tk × List Tk)
  | [], [] => none
  | a :: ar, [] => some (a, ar, [])
  | [], b :: bs => some (b, [], bs)
  | a :: ar, b :: bs => if ltL a.d b.d then some (a, ar, b :: bs) else if ltL b.d a.d then some (b, a :: ar, bs) else some (a, ar, bs)
theorem mstep_lt {a b a' b' : List Tk} {t : Tk} (h : mstep a b = some (t, a', b')) : a'.length + b'.length < a.length + b.length := by
  cases a with
  | nil =>
    cases b with
    | nil => simp [mstep] at h
    | cons y ys => simp [mstep] at h; obtain ⟨rfl, rfl, rfl⟩ := h; simp
  | cons x xs =>
    cases b with
    | nil => simp [mstep] at h; obtain ⟨rfl, rfl, rfl⟩ := h; simp
    | cons y ys =>
      simp only [mstep] at h
      split at h
      · injection h with h; injection h with h1 h; injection h with h2 h3; subst h2; subst h3; simp
      · split at h
        · injection h with h; injection h with h1 h; injection h with h2 h3; subst h2; subst h3; simp
        · injection h with h; injection h with h1 h; injection h with h2 h3; subst h2; subst h3; simp; omega
def mrgF : Nat → List Tk → List Tk → List Tk
  | 0, _, _ => []
  | n + 1, a, b => match mstep a b with
    | none => []
    | some (t, a', b') => t :: mrgF n a' b'
theorem mrgF_more : ∀ (n m : Nat) (a b : List Tk), a.length + b.length ≤ n → n ≤ m → mrgF m a b = mrgF n a b
  | 0, m, a, b, h, _ => by
    have ha : a = [] := List.length_eq_zero_iff.1 (by omega)
    have hb : b = [] := List.length_eq_zero_iff.1 (by omega)
    subst ha; subst hb
    cases m <;> rfl
  | n + 1, 0, a, b, _, hm => by omega
  | n + 1, m + 1, a, b, h, hm => by
    simp only [mrgF]
    cases hs : mstep a b with
    | none => rfl
    | some p =>
      obtain ⟨t, a', b'⟩ := p
      have := mstep_lt hs
      simp only
      rw [mrgF_more n m a' b' (by omega) (by omega)]
def mrg (a b : List Tk) : List Tk := mrgF (a.length + b.length) a b
theorem mrg_none {a b : List Tk} (h : mstep a b = none) : mrg a b = [] := by
  unfold mrg
  cases hn : a.length + b.length with
  | zero => rfl
  | succ n => simp only [mrgF, h]
theorem mrg_some {a b a' b' : List Tk} {t : Tk} (h : mstep a b = some (t, a', b')) : mrg a b = t :: mrg a' b' := by
  have hl := mstep_lt h
  unfold mrg
  obtain ⟨n, hn⟩ : ∃ n, a.length + b.length = n + 1 := ⟨a.length + b.length - 1, by omega⟩
  rw [hn]
  simp only [mrgF, h]
  rw [mrgF_more (a'.length + b'.length) n a' b' (Nat.le_refl _) (by omega)]
/-- Less by digest. -/
theorem mrg_ind {p : List Tk → List Tk → Prop} (h0 : ∀ a b, mstep a b = none → p a b) (h1 : ∀ a b t a' b', mstep a b = some (t, a', b') → p a' b' → p a b) : ∀ (n : Nat) (a b : List Tk), a.length + b.length ≤ n → p a b
  | 0, a, b, h => h0 a b (by
    have ha : a = [] := List.length_eq_zero_iff.1 (by omega)
    have hb : b = [] := List.length_eq_zero_iff.1 (by omega)
    subst ha; subst hb; rfl)
  | n + 1, a, b, h => by
    cases hs : mstep a b with
    | none => exact h0 a b hs
    | some q =>
      obtain ⟨t, a', b'⟩ := q
      have := mstep_lt hs
      exact h1 a b t a' b' hs (mrg_ind h0 h1 n a' b' (by omega))
theorem mrg_length (a b : List Tk) : (mrg a b).length ≤ a.length + b.length := by
  refine mrg_ind (p := fun a b => (mrg a b).length ≤ a.length + b.length) (fun a b h => by rw [mrg_none h]; simp) (fun a b t a' b' h ih => ?_) _ a b (Nat.le_refl _)
  rw [mrg_some h]
  have := mstep_lt h
  simp
  omega

end Go.Proofs.YtmdfamnnnoieaaaDoor

/- pool.both: the iterator over two lists in order. -/
namespace Go.Proofs.YtmdfamnnnoieaaaDoor
open Go
set_option linter.unusedVariables false
set_option linter.unusedSimpArgs false
set_option maxRecDepth 10000
set_option maxHeartbeats 2000000

theorem Pure.toC {P : Program} {S : St} {bl : List Nat} {o : Oper} {c : Bool} {x z : AV} (h : Pure P S bl o c x) (e : c = true → x = z) : Pure P S bl o c z :=
  ⟨h.1, fun E V M a w g hc => by rw [← e hc]; exact h.2 E V M a w g hc⟩
theorem gdd {m n : Nat} (h : (decide ((m : Int) = 0) == false && decide (0 < (n : Int)) == true) = true) : 0 < m ∧ 0 < n := by
  simp only [Bool.and_eq_true, beq_iff_eq, decide_eq_false_iff_not, decide_eq_true_eq] at h
  omega
theorem gd1 {m : Nat} (h : (decide ((m : Int) = 0) == false) = true) : 0 < m := by
  simp only [beq_iff_eq, decide_eq_false_iff_not] at h
  omega
theorem m1 {u v : List Tk} (hne : 0 < u.length ∨ 0 < v.length) (h : (bif decide ((v.length : Int) = 0) then true else (bif decide (0 < (u.length : Int)) then decide (cmpD (u.getD 0 default).d (v.getD 0 default).d < 0) else false)) = true) : ∃ x us, u = x :: us ∧ mstep u v = some (x, us, v) := by
  cases u with
  | nil => cases v with
    | nil => simp at hne
    | cons y vs => simp at h <;> omega
  | cons x us => cases v with
    | nil => exact ⟨x, us, rfl, rfl⟩
    | cons y vs =>
      have hl : ltL x.d y.d = true := by
        rcases pick_eq h with ⟨h1, _⟩ | ⟨_, h1⟩
        · simp at h1; omega
        · rcases pick_eq h1 with ⟨_, h2⟩ | ⟨_, h2⟩
          · exact cmpD_neg.1 (of_decide_eq_true h2)
          · cases h2
      exact ⟨x, us, rfl, by simp [mstep, hl]⟩
theorem m1n {u v : List Tk} (hne : 0 < u.length ∨ 0 < v.length) (h : (bif decide ((v.length : Int) = 0) then true else (bif decide (0 < (u.length : Int)) then decide (cmpD (u.getD 0 default).d (v.getD 0 default).d < 0) else false)) = false) :
    (∃ y vs, v = y :: vs) ∧ ∀ x us y vs, u = x :: us → v = y :: vs → ltL x.d y.d = false := by
  cases v with
  | nil => simp at h
  | cons y vs =>
    refine ⟨⟨y, vs, rfl⟩, fun x us y' vs' hu hv => ?_⟩
    injection hv with e1 e2
    subst e1; subst hu
    cases hl : ltL x.d y.d with
    | false => rfl
    | true =>
      have h3 := cmpD_neg.2 hl
      rcases pick_ne h with ⟨_, h1⟩ | ⟨_, h1⟩
      · cases h1
      · rcases pick_ne h1 with ⟨_, h2⟩ | ⟨h2, _⟩
        · have h2 := of_decide_eq_false h2
          exact absurd h3 h2
        · have h2 := of_decide_eq_false h2
          simp at h2 <;> omega
theorem m2 {u v : List Tk} (hn : (∃ y vs, v = y :: vs) ∧ ∀ x us y vs, u = x :: us → v = y :: vs → ltL x.d y.d = false) (h : (bif decide ((u.length : Int) = 0) then true else decide (0 < cmpD (u.getD 0 default).d (v.getD 0 default).d)) = true) : ∃ y vs, v = y :: vs ∧ mstep u v = some (y, u, vs) := by
  obtain ⟨⟨y, vs, rfl⟩, hx⟩ := hn
  refine ⟨y, vs, rfl, ?_⟩
  cases u with
  | nil => rfl
  | cons x us =>
    have h1 := hx x us y vs rfl rfl
    have h2 : ltL y.d x.d = true := by
      rcases pick_eq h with ⟨h3, _⟩ | ⟨_, h3⟩
      · simp at h3; omega
      · exact cmpD_pos.1 (of_decide_eq_true h3)
    simp [mstep, h1, h2]
theorem m3 {u v : List Tk} (hn : (∃ y vs, v = y :: vs) ∧ ∀ x us y vs, u = x :: us → v = y :: vs → ltL x.d y.d = false) (h : (bif decide ((u.length : Int) = 0) then true else decide (0 < cmpD (u.getD 0 default).d (v.getD 0 default).d)) = false) : ∃ x us y vs, u = x :: us ∧ v = y :: vs ∧ mstep u v = some (x, us, vs) := by
  obtain ⟨⟨y, vs, rfl⟩, hx⟩ := hn
  cases u with
  | nil => simp at h
  | cons x us =>
    have h1 := hx x us y vs rfl rfl
    have h2 : ltL y.d x.d = false := by
      cases hl : ltL y.d x.d with
      | false => rfl
      | true =>
        have h3 := cmpD_pos.2 hl
        rcases pick_ne h with ⟨_, h4⟩ | ⟨_, h4⟩
        · cases h4
        · exact absurd h3 (of_decide_eq_false h4)
    exact ⟨x, us, y, vs, rfl, rfl, by simp [mstep, h1, h2]⟩
theorem jstep {a b u v u2 v2 : List Tk} {t : Tk} {k : Nat} (h2 : (mrg a b).drop k = mrg u v) (hm : mstep u v = some (t, u2, v2)) : k < (mrg a b).length ∧ (mrg a b).getD k default = t ∧ (mrg a b).drop (k + 1) = mrg u2 v2 := by
  rw [mrg_some hm] at h2
  have hk : k < (mrg a b).length := by
    apply Classical.byContradiction
    intro hn
    rw [List.drop_of_length_le (by omega)] at h2
    cases h2
  rw [List.drop_eq_getElem_cons hk] at h2
  injection h2 with e1 e2
  exact ⟨hk, by rw [List.getD_eq_getElem?_getD, List.getElem?_eq_getElem hk]; exact e1, e2⟩
abbrev CsM (l : List Tk) : St := [(bk 4, .blk (.cells [.own 16 l.length])), (bk 16, .blk (.app 33 l.length (tkCols l)))]
abbrev tsM : List (Nat × AV) := [(4, .loc 4 0)]
abbrev lhM (ac bo : Code) : LH := ⟨.ready, none, #[21], ac, bo, 34⟩
theorem tail_rows {x : Tk} {l : List Tk} : AV.d (.rows 33 ((x :: l).length - (1 : Int).toNat) fun i => tkRow (x :: l) ((1 : Int).toNat + i)) = .d (tksD l) := by
  have h1 : (x :: l).length - (1 : Int).toNat = l.length := by simp
  have h2 : (fun i => tkRow (x :: l) ((1 : Int).toNat + i)) = tkRow l := by
    funext i
    have : (1 : Int).toNat + i = i + 1 := by simp; omega
    rw [this]
    simp [tkRow]
  rw [h1, h2]
/-- soundpost/pool.both -/
theorem spec37 (a b : List Tk) : FnSpec Tryd.prog 37 [.d (tksD a), .d (tksD b)] [] (.fn 48 [.loc 60 0, .loc 61 0]) [(bk 60, .blk (.data [tksD a])), (bk 61, .blk (.data [tksD b]))] [] := by
  refine fnSpec_of (rs := [.tmp 4]) Tryd.func37 rfl rfl (Nat.le_of_ble_eq_true rfl) (by simp [St.get]) fun E hk hn => ?_
  apply WPA.seq
  apply WPA.region
  · apply Trace.boxD 60 [] (.plain rfl) rfl rfl
    apply Trace.boxD 61 [] (.plain rfl) rfl rfl
    apply Trace.pu [] (.assign (.plain rfl))
    exact .nil _
  · exact keepOK_of hk hn rfl
  apply WPA.seq
  apply WPA.region
  · apply Trace.pu [] (.funcL (.cons (.plain rfl) (.cons (.plain rfl) .nil)))
    apply Trace.pu [] (.assign (.plain rfl))
    exact .nil _
  · exact keepOK_of hk hn rfl
  apply WPA.ret
  refine ⟨.inr rfl, ⟨_, (.cons (.tmp rfl) .nil), ?_⟩, blks_of (.cons rfl (.cons rfl .nil))⟩
  rfl
/-- soundpost/pool.both$1 -/
theorem itM {a b : List Tk} (ha : ∀ t ∈ a, t.Ok) (hb : ∀ t ∈ b, t.Ok) (ha1 : a.length ≤ 1000) (hb1 : b.length ≤ 1000) {ac bo : Code} (hY : ∀ k, k < (mrg a b).length → ∀ t, (mrg a b).getD k default = t → YSpec Tryd.prog 70 [.d (.agg t.cells)] ((bk 70, .blk (.lp (lhM ac bo) tsM)) :: CsM ((mrg a b).take k)) (bv true) ((bk 70, .blk (.lp (lhM ac bo) tsM)) :: CsM ((mrg a b).take (k + 1))) [70, 4]) : FnSpec Tryd.prog 48 [.yld 70, .loc 60 0, .loc 61 0] ((bk 70, .blk (.lp (lhM ac bo) tsM)) :: (bk 60, .blk (.data [tksD a])) :: (bk 61, .blk (.data [tksD b])) :: CsM []) (.tup []) ((bk 70, .blk (.lp (lhM ac bo) tsM)) :: (bk 60, .blk (.data [tksD []])) :: (bk 61, .blk (.data [tksD []])) :: CsM (mrg a b)) [70, 60, 61, 4] := by
  refine fnSpec_of (rs := []) Tryd.func48 rfl rfl (Nat.le_of_ble_eq_true rfl) (odd_of rfl) fun E hk hn => ?_
  apply WPA.block
  refine WPA.loop (σ := (Nat × List Tk × List Tk)) (fun i => [(sl 0, .av (.yld 70)), (sl 1, .av (.loc 60 0)), (sl 2, .av (.loc 61 0)), (bk 60, .blk (.data [tksD i.2.1])), (bk 61, .blk (.data [tksD i.2.2])), (bk 70, .blk (.lp (lhM ac bo) tsM)), (bk 4, .blk (.cells [.own 16 ((mrg a b).take i.1).length])), (bk 16, .blk (.app 33 ((mrg a b).take i.1).length (tkCols ((mrg a b).take i.1))))]) (fun i => i.1 ≤ (mrg a b).length ∧ (mrg a b).drop i.1 = mrg i.2.1 i.2.2 ∧ (∀ t ∈ i.2.1, t.Ok) ∧ (∀ t ∈ i.2.2, t.Ok) ∧ i.2.1.length ≤ 1000 ∧ i.2.2.length ≤ 1000) (fun i => i.2.1.length + i.2.2.length) (0, a, b)
    (St.le_cons rfl (St.le_cons rfl (St.le_cons rfl (St.le_cons rfl (St.le_cons rfl (St.le_cons rfl (St.le_cons rfl (St.le_cons rfl (St.le_nil _))))))))) ⟨Nat.zero_le _, rfl, ha, hb, ha1, hb1⟩ fun i hi => ?_
  obtain ⟨k, u, v⟩ := i
  simp only at hi ⊢
  obtain ⟨h1, h2, h3, h4, h5, h6⟩ := hi
  apply WPA.seq
  apply WPA.seq
  apply WPA.region
  · first | apply Trace.pu [_] (.loadLoc1D ty22 (.plain rfl) rfl rfl) | apply Trace.pu [_] (.loadLoc1 ty22 (.plain rfl) rfl rfl) | apply Trace.pu [] (.loadRp1 ty22 (.plain rfl) rfl) | apply Trace.pu [_] (.loadCol1 ty22 (.plain rfl) rfl rfl rfl (fun _ => by omega))
    apply Trace.pu [] (.len rfl Tryd.underlying22 (.plain rfl) rfl)
    apply Trace.pu [] (.cmp (.plain rfl) (.plain rfl) rfl)
    apply Trace.pu [] (.move (.plain rfl))
    first | apply Trace.pg [_] rfl (.loadLoc1D ty22 (.plain rfl) rfl rfl) | apply Trace.pg [_] rfl (.loadLoc1 ty22 (.plain rfl) rfl rfl) | apply Trace.pg [] rfl (.loadRp1 ty22 (.plain rfl) rfl) | apply Trace.pg [_] rfl (.loadCol1 ty22 (.plain rfl) rfl rfl rfl (fun _ => by omega))
    apply Trace.pg [] rfl (.len rfl Tryd.underlying22 (.gd rfl (fun h => h)) rfl)
    apply Trace.pg [] rfl (.cmp (.gd rfl (fun h => h)) (.plain rfl) rfl)
    apply Trace.pu [] (.pick (.plain rfl) (.plain rfl) (.gd rfl (by simp)))
    exact .nil _
  · exact keepOK_of hk hn rfl
  refine WPA.cond rfl (fun hc1 => ?_) (fun hc1 => ?_)
  · have hne : 0 < u.length ∨ 0 < v.length := by
      rcases pick_eq hc1 with ⟨h, _⟩ | ⟨_, h⟩
      · left; simp at h; simpa using h
      · right; simp at h; simpa using h
    apply WPA.skip
    apply WPA.block
    apply WPA.seq
    apply WPA.region
    · apply Trace.alloc 6 [] (.data _) zo49 (cellsAs_data _) rfl
      exact .nil _
    · exact keepOK_of hk hn rfl
    apply WPA.seq
    apply WPA.block
    apply WPA.seq
    apply WPA.draw mixed
    · first | apply Trace.pu [_] (.loadLoc1D ty22 (.plain rfl) rfl rfl) | apply Trace.pu [_] (.loadLoc1 ty22 (.plain rfl) rfl rfl) | apply Trace.pu [] (.loadRp1 ty22 (.plain rfl) rfl) | apply Trace.pu [_] (.loadCol1 ty22 (.plain rfl) rfl rfl rfl (fun _ => by omega))
      apply Trace.pu [] (.len rfl Tryd.underlying22 (.plain rfl) rfl)
      apply Trace.pu [] (.cmp (.plain rfl) (.plain rfl) rfl)
      apply Trace.pu [] (.move (.plain rfl))
      first | apply Trace.pg [_] rfl (.loadLoc1D ty22 (.plain rfl) rfl rfl) | apply Trace.pg [_] rfl (.loadLoc1 ty22 (.plain rfl) rfl rfl) | apply Trace.pg [] rfl (.loadRp1 ty22 (.plain rfl) rfl) | apply Trace.pg [_] rfl (.loadCol1 ty22 (.plain rfl) rfl rfl rfl (fun _ => by omega))
      apply Trace.pg [] rfl (.len rfl Tryd.underlying22 (.gd rfl (fun h => h)) rfl)
      apply Trace.pg [] rfl (.cmp (.gd rfl (fun h => h)) (.plain rfl) rfl)
      apply Trace.pg [] rfl (.move (.gd rfl (fun h => h)))
      first | apply Trace.pg [_] rfl (.loadLoc1D ty22 (.plain rfl) rfl rfl) | apply Trace.pg [_] rfl (.loadLoc1 ty22 (.plain rfl) rfl rfl) | apply Trace.pg [] rfl (.loadRp1 ty22 (.plain rfl) rfl) | apply Trace.pg [_] rfl (.loadCol1 ty22 (.plain rfl) rfl rfl rfl (fun _ => by omega))
      apply Trace.pg [] rfl (.indexRows el22 (.gd rfl (fun h => h)) (.plain rfl) (fun h => by have := gdd h; exact ⟨by decide, this.2⟩))
      apply Trace.pg [] rfl (.fieldAddr fl49_0 (.gd rfl (fun h => h)) rfl)
      apply Trace.pg [] rfl (Pure.toC (Pure.loadRp ty27 (.gd rfl (fun h => h)) (fun h => by rw [List.drop_zero]; have h9 := gdd h; have := tk_len (i := 0) h3 (by omega); exact Nat.le_trans (by decide) this)) (fun h => row_d (i := 0) h3 (by have := gdd h; omega)))
      first | apply Trace.pg [_] rfl (.loadLoc1D ty22 (.plain rfl) rfl rfl) | apply Trace.pg [_] rfl (.loadLoc1 ty22 (.plain rfl) rfl rfl) | apply Trace.pg [] rfl (.loadRp1 ty22 (.plain rfl) rfl) | apply Trace.pg [_] rfl (.loadCol1 ty22 (.plain rfl) rfl rfl rfl (fun _ => by omega))
      apply Trace.pg [] rfl (.indexRows el22 (.gd rfl (fun h => h)) (.plain rfl) (fun h => by have := gdd h; exact ⟨by decide, this.1⟩))
      apply Trace.pg [] rfl (.fieldAddr fl49_0 (.gd rfl (fun h => h)) rfl)
      apply Trace.pg [] rfl (Pure.toC (Pure.loadRp ty27 (.gd rfl (fun h => h)) (fun h => by rw [List.drop_zero]; have h9 := gdd h; have := tk_len (i := 0) h4 (by omega); exact Nat.le_trans (by decide) this)) (fun h => row_d (i := 0) h4 (by have := gdd h; omega)))
      apply Trace.cg rfl (callArgs0 (.cons (.gd rfl (fun h => h)) (.cons (.gd rfl (fun h => h)) .nil))) (fun h => spec35 (u.getD 0 default).d (v.getD 0 default).d (h3 _ (getD_mem' (by have := gdd h; omega))).len (h4 _ (getD_mem' (by have := gdd h; omega))).len (h3 _ (getD_mem' (by have := gdd h; omega))).byt (h4 _ (getD_mem' (by have := gdd h; omega))).byt) en35
      apply Trace.pg [] rfl (.cmp (.gd rfl (fun h => h)) (.plain rfl) rfl)
      apply Trace.pg [] rfl (.pick (.gd rfl (fun h => h)) (.gd rfl (by simp)) (.plain rfl))
      apply Trace.pu [] (.pick (.plain rfl) (.plain rfl) (.gd rfl (by simp)))
      apply Trace.pu [] (.assign (.plain rfl))
      exact .nil _
    · rfl
    · exact keepOK_of hk hn rfl
    refine WPA.cond rfl (fun hc2 => ?_) (fun hc2 => ?_)
    · obtain ⟨x, us, rfl, hm⟩ := m1 hne hc2
      obtain ⟨hkl, hkt, hkd⟩ := jstep h2 hm
      have hto : x.Ok := h3 x (by simp)
      apply WPA.draw mixed
      · first | apply Trace.pu [_] (.loadLoc1D ty22 (.plain rfl) rfl rfl) | apply Trace.pu [_] (.loadLoc1 ty22 (.plain rfl) rfl rfl) | apply Trace.pu [] (.loadRp1 ty22 (.plain rfl) rfl) | apply Trace.pu [_] (.loadCol1 ty22 (.plain rfl) rfl rfl rfl (fun _ => by omega))
        apply Trace.pu [] (.indexRows el22 (.plain rfl) (.plain rfl) (fun _ => ⟨by decide, by simp⟩))
        apply Trace.pu [] ((Pure.loadRp ty49 (.plain rfl) (fun _ => tk_len (i := 0) h3 (by simp))).to (y := .d (.agg x.cells)) (by exact congrArg (fun l => AV.d (.agg l)) (tk_take h3 0)))
        first | apply Trace.pu [_] (.loadLoc1D ty22 (.plain rfl) rfl rfl) | apply Trace.pu [_] (.loadLoc1 ty22 (.plain rfl) rfl rfl) | apply Trace.pu [] (.loadRp1 ty22 (.plain rfl) rfl) | apply Trace.pu [_] (.loadCol1 ty22 (.plain rfl) rfl rfl rfl (fun _ => by omega))
        apply Trace.pu [] ((Pure.cutRows so22 (.plain rfl) (.to _ (.plain rfl) (fun _ => by decide)) (.no _) (fun _ => ⟨by simp, Nat.le_refl _⟩)).to (tail_rows))
        apply Trace.storeD (cs' := x.cells) ty49 (.plain rfl) (.plain rfl) rfl rfl (Tk.cells_length hto.len) (cells_one x) (by decide) (spliceL_all (by rw [Tk.cells_length hto.len]; rfl))
        apply Trace.storeD ty22 (.plain rfl) (.plain rfl) rfl rfl rfl (by simp [AV.oneB, single]) (Nat.le_of_ble_eq_true rfl) rfl
        exact .nil _
      · rfl
      · exact keepOK_of hk hn rfl
      apply WPA.seq
      apply WPA.region
      · apply Trace.pu [] (.move (.plain rfl))
        apply Trace.pu [_] (.loadAllD ty49 (.plain rfl) rfl (Tk.cells_length hto.len))
        apply Trace.cyG (gs := []) [16] [bk 70, bk 4, bk 16] (yieldArgs (.plain rfl) (.cons (.plain rfl) .nil)) (hY k hkl x hkt) rfl (.cons rfl (.cons rfl (.cons rfl (.nil)))) rfl rfl
        apply Trace.pu [] (.not (.plain rfl))
        exact .nil _
      · exact keepOK_of hk hn rfl
      refine WPA.cond rfl (fun hc3 => ?_) (fun hc3 => ?_)
      · cases hc3
      · apply WPA.skip
        have hML := mstep_lt hm
        first
        | exact ⟨(k + 1, us, v), ⟨hkl, hkd, fun t ht => h3 t (by simp [ht]), h4, by simp at h5; show us.length ≤ _; omega, h6⟩, hML, (St.le_cons rfl (St.le_cons rfl (St.le_cons rfl (St.le_cons rfl (St.le_cons rfl (St.le_cons rfl (St.le_cons rfl (St.le_cons rfl (St.le_nil _)))))))))⟩
        | exact ⟨(k + 1, u, vs), ⟨hkl, hkd, h3, fun t ht => h4 t (by simp [ht]), h5, by simp at h6; show vs.length ≤ _; omega⟩, hML, (St.le_cons rfl (St.le_cons rfl (St.le_cons rfl (St.le_cons rfl (St.le_cons rfl (St.le_cons rfl (St.le_cons rfl (St.le_cons rfl (St.le_nil _)))))))))⟩
        | exact ⟨(k + 1, us, vs), ⟨hkl, hkd, fun t ht => h3 t (by simp [ht]), fun t ht => h4 t (by simp [ht]), by simp at h5; show us.length ≤ _; omega, by simp at h6; show vs.length ≤ _; omega⟩, hML, (St.le_cons rfl (St.le_cons rfl (St.le_cons rfl (St.le_cons rfl (St.le_cons rfl (St.le_cons rfl (St.le_cons rfl (St.le_cons rfl (St.le_nil _)))))))))⟩
    · have hnn := m1n hne hc2
      apply WPA.seq
      have hv0 : 0 < v.length := by obtain ⟨⟨y, vs, e⟩, _⟩ := hnn; rw [e]; simp
      apply WPA.draw mixed
      · first | apply Trace.pu [_] (.loadLoc1D ty22 (.plain rfl) rfl rfl) | apply Trace.pu [_] (.loadLoc1 ty22 (.plain rfl) rfl rfl) | apply Trace.pu [] (.loadRp1 ty22 (.plain rfl) rfl) | apply Trace.pu [_] (.loadCol1 ty22 (.plain rfl) rfl rfl rfl (fun _ => by omega))
        apply Trace.pu [] (.len rfl Tryd.underlying22 (.plain rfl) rfl)
        apply Trace.pu [] (.cmp (.plain rfl) (.plain rfl) rfl)
        apply Trace.pu [] (.move (.plain rfl))
        first | apply Trace.pg [_] rfl (.loadLoc1D ty22 (.plain rfl) rfl rfl) | apply Trace.pg [_] rfl (.loadLoc1 ty22 (.plain rfl) rfl rfl) | apply Trace.pg [] rfl (.loadRp1 ty22 (.plain rfl) rfl) | apply Trace.pg [_] rfl (.loadCol1 ty22 (.plain rfl) rfl rfl rfl (fun _ => by omega))
        apply Trace.pg [] rfl (.indexRows el22 (.gd rfl (fun h => h)) (.plain rfl) (fun h => ⟨by decide, gd1 h⟩))
        apply Trace.pg [] rfl (.fieldAddr fl49_0 (.gd rfl (fun h => h)) rfl)
        apply Trace.pg [] rfl (Pure.toC (Pure.loadRp ty27 (.gd rfl (fun h => h)) (fun h => by rw [List.drop_zero]; have h9 := gd1 h; have := tk_len (i := 0) h3 (by omega); exact Nat.le_trans (by decide) this)) (fun h => row_d (i := 0) h3 (gd1 h)))
        first | apply Trace.pg [_] rfl (.loadLoc1D ty22 (.plain rfl) rfl rfl) | apply Trace.pg [_] rfl (.loadLoc1 ty22 (.plain rfl) rfl rfl) | apply Trace.pg [] rfl (.loadRp1 ty22 (.plain rfl) rfl) | apply Trace.pg [_] rfl (.loadCol1 ty22 (.plain rfl) rfl rfl rfl (fun _ => by omega))
        apply Trace.pg [] rfl (.indexRows el22 (.gd rfl (fun h => h)) (.plain rfl) (fun h => ⟨by decide, hv0⟩))
        apply Trace.pg [] rfl (.fieldAddr fl49_0 (.gd rfl (fun h => h)) rfl)
        apply Trace.pg [] rfl (Pure.toC (Pure.loadRp ty27 (.gd rfl (fun h => h)) (fun h => by rw [List.drop_zero]; have := tk_len (i := 0) h4 hv0; exact Nat.le_trans (by decide) this)) (fun h => row_d (i := 0) h4 hv0))
        apply Trace.cg rfl (callArgs0 (.cons (.gd rfl (fun h => h)) (.cons (.gd rfl (fun h => h)) .nil))) (fun h => spec35 (u.getD 0 default).d (v.getD 0 default).d (h3 _ (getD_mem' (gd1 h))).len (h4 _ (getD_mem' hv0)).len (h3 _ (getD_mem' (gd1 h))).byt (h4 _ (getD_mem' hv0)).byt) en35
        apply Trace.pg [] rfl (.cmp (.gd rfl (fun h => h)) (.plain rfl) rfl)
        apply Trace.pu [] (.pick (.plain rfl) (.plain rfl) (.gd rfl (by simp)))
        apply Trace.pu [] (.assign (.plain rfl))
        exact .nil _
      · rfl
      · exact keepOK_of hk hn rfl
      refine WPA.cond rfl (fun hc4 => ?_) (fun hc4 => ?_)
      · obtain ⟨x, vs, rfl, hm⟩ := m2 hnn hc4
        obtain ⟨hkl, hkt, hkd⟩ := jstep h2 hm
        have hto : x.Ok := h4 x (by simp)
        apply WPA.draw mixed
        · first | apply Trace.pu [_] (.loadLoc1D ty22 (.plain rfl) rfl rfl) | apply Trace.pu [_] (.loadLoc1 ty22 (.plain rfl) rfl rfl) | apply Trace.pu [] (.loadRp1 ty22 (.plain rfl) rfl) | apply Trace.pu [_] (.loadCol1 ty22 (.plain rfl) rfl rfl rfl (fun _ => by omega))
          apply Trace.pu [] (.indexRows el22 (.plain rfl) (.plain rfl) (fun _ => ⟨by decide, by simp⟩))
          apply Trace.pu [] ((Pure.loadRp ty49 (.plain rfl) (fun _ => tk_len (i := 0) h4 (by simp))).to (y := .d (.agg x.cells)) (by exact congrArg (fun l => AV.d (.agg l)) (tk_take h4 0)))
          first | apply Trace.pu [_] (.loadLoc1D ty22 (.plain rfl) rfl rfl) | apply Trace.pu [_] (.loadLoc1 ty22 (.plain rfl) rfl rfl) | apply Trace.pu [] (.loadRp1 ty22 (.plain rfl) rfl) | apply Trace.pu [_] (.loadCol1 ty22 (.plain rfl) rfl rfl rfl (fun _ => by omega))
          apply Trace.pu [] ((Pure.cutRows so22 (.plain rfl) (.to _ (.plain rfl) (fun _ => by decide)) (.no _) (fun _ => ⟨by simp, Nat.le_refl _⟩)).to (tail_rows))
          apply Trace.storeD (cs' := x.cells) ty49 (.plain rfl) (.plain rfl) rfl rfl (Tk.cells_length hto.len) (cells_one x) (by decide) (spliceL_all (by rw [Tk.cells_length hto.len]; rfl))
          apply Trace.storeD ty22 (.plain rfl) (.plain rfl) rfl rfl rfl (by simp [AV.oneB, single]) (Nat.le_of_ble_eq_true rfl) rfl
          exact .nil _
        · rfl
        · exact keepOK_of hk hn rfl
        apply WPA.seq
        apply WPA.region
        · apply Trace.pu [] (.move (.plain rfl))
          apply Trace.pu [_] (.loadAllD ty49 (.plain rfl) rfl (Tk.cells_length hto.len))
          apply Trace.cyG (gs := []) [16] [bk 70, bk 4, bk 16] (yieldArgs (.plain rfl) (.cons (.plain rfl) .nil)) (hY k hkl x hkt) rfl (.cons rfl (.cons rfl (.cons rfl (.nil)))) rfl rfl
          apply Trace.pu [] (.not (.plain rfl))
          exact .nil _
        · exact keepOK_of hk hn rfl
        refine WPA.cond rfl (fun hc5 => ?_) (fun hc5 => ?_)
        · cases hc5
        · apply WPA.skip
          have hML := mstep_lt hm
          first
          | exact ⟨(k + 1, us, v), ⟨hkl, hkd, fun t ht => h3 t (by simp [ht]), h4, by simp at h5; show us.length ≤ _; omega, h6⟩, hML, (St.le_cons rfl (St.le_cons rfl (St.le_cons rfl (St.le_cons rfl (St.le_cons rfl (St.le_cons rfl (St.le_cons rfl (St.le_cons rfl (St.le_nil _)))))))))⟩
          | exact ⟨(k + 1, u, vs), ⟨hkl, hkd, h3, fun t ht => h4 t (by simp [ht]), h5, by simp at h6; show vs.length ≤ _; omega⟩, hML, (St.le_cons rfl (St.le_cons rfl (St.le_cons rfl (St.le_cons rfl (St.le_cons rfl (St.le_cons rfl (St.le_cons rfl (St.le_cons rfl (St.le_nil _)))))))))⟩
          | exact ⟨(k + 1, us, vs), ⟨hkl, hkd, fun t ht => h3 t (by simp [ht]), fun t ht => h4 t (by simp [ht]), by simp at h5; show us.length ≤ _; omega, by simp at h6; show vs.length ≤ _; omega⟩, hML, (St.le_cons rfl (St.le_cons rfl (St.le_cons rfl (St.le_cons rfl (St.le_cons rfl (St.le_cons rfl (St.le_cons rfl (St.le_cons rfl (St.le_nil _)))))))))⟩
      · obtain ⟨x, us, y, vs, rfl, rfl, hm⟩ := m3 hnn hc4
        obtain ⟨hkl, hkt, hkd⟩ := jstep h2 hm
        have hto : x.Ok := h3 x (by simp)
        apply WPA.draw mixed
        · first | apply Trace.pu [_] (.loadLoc1D ty22 (.plain rfl) rfl rfl) | apply Trace.pu [_] (.loadLoc1 ty22 (.plain rfl) rfl rfl) | apply Trace.pu [] (.loadRp1 ty22 (.plain rfl) rfl) | apply Trace.pu [_] (.loadCol1 ty22 (.plain rfl) rfl rfl rfl (fun _ => by omega))
          apply Trace.pu [] (.indexRows el22 (.plain rfl) (.plain rfl) (fun _ => ⟨by decide, by simp⟩))
          apply Trace.pu [] ((Pure.loadRp ty49 (.plain rfl) (fun _ => tk_len (i := 0) h3 (by simp))).to (y := .d (.agg x.cells)) (by exact congrArg (fun l => AV.d (.agg l)) (tk_take h3 0)))
          first | apply Trace.pu [_] (.loadLoc1D ty22 (.plain rfl) rfl rfl) | apply Trace.pu [_] (.loadLoc1 ty22 (.plain rfl) rfl rfl) | apply Trace.pu [] (.loadRp1 ty22 (.plain rfl) rfl) | apply Trace.pu [_] (.loadCol1 ty22 (.plain rfl) rfl rfl rfl (fun _ => by omega))
          apply Trace.pu [] ((Pure.cutRows so22 (.plain rfl) (.to _ (.plain rfl) (fun _ => by decide)) (.no _) (fun _ => ⟨by simp, Nat.le_refl _⟩)).to (tail_rows))
          first | apply Trace.pu [_] (.loadLoc1D ty22 (.plain rfl) rfl rfl) | apply Trace.pu [_] (.loadLoc1 ty22 (.plain rfl) rfl rfl) | apply Trace.pu [] (.loadRp1 ty22 (.plain rfl) rfl) | apply Trace.pu [_] (.loadCol1 ty22 (.plain rfl) rfl rfl rfl (fun _ => by omega))
          apply Trace.pu [] ((Pure.cutRows so22 (.plain rfl) (.to _ (.plain rfl) (fun _ => by decide)) (.no _) (fun _ => ⟨by simp, Nat.le_refl _⟩)).to (tail_rows))
          apply Trace.storeD (cs' := x.cells) ty49 (.plain rfl) (.plain rfl) rfl rfl (Tk.cells_length hto.len) (cells_one x) (by decide) (spliceL_all (by rw [Tk.cells_length hto.len]; rfl))
          apply Trace.storeD ty22 (.plain rfl) (.plain rfl) rfl rfl rfl (by simp [AV.oneB, single]) (Nat.le_of_ble_eq_true rfl) rfl
          apply Trace.storeD ty22 (.plain rfl) (.plain rfl) rfl rfl rfl (by simp [AV.oneB, single]) (Nat.le_of_ble_eq_true rfl) rfl
          exact .nil _
        · rfl
        · exact keepOK_of hk hn rfl
        apply WPA.seq
        apply WPA.region
        · apply Trace.pu [] (.move (.plain rfl))
          apply Trace.pu [_] (.loadAllD ty49 (.plain rfl) rfl (Tk.cells_length hto.len))
          apply Trace.cyG (gs := []) [16] [bk 70, bk 4, bk 16] (yieldArgs (.plain rfl) (.cons (.plain rfl) .nil)) (hY k hkl x hkt) rfl (.cons rfl (.cons rfl (.cons rfl (.nil)))) rfl rfl
          apply Trace.pu [] (.not (.plain rfl))
          exact .nil _
        · exact keepOK_of hk hn rfl
        refine WPA.cond rfl (fun hc6 => ?_) (fun hc6 => ?_)
        · cases hc6
        · apply WPA.skip
          have hML := mstep_lt hm
          first
          | exact ⟨(k + 1, us, v), ⟨hkl, hkd, fun t ht => h3 t (by simp [ht]), h4, by simp at h5; show us.length ≤ _; omega, h6⟩, hML, (St.le_cons rfl (St.le_cons rfl (St.le_cons rfl (St.le_cons rfl (St.le_cons rfl (St.le_cons rfl (St.le_cons rfl (St.le_cons rfl (St.le_nil _)))))))))⟩
          | exact ⟨(k + 1, u, vs), ⟨hkl, hkd, h3, fun t ht => h4 t (by simp [ht]), h5, by simp at h6; show vs.length ≤ _; omega⟩, hML, (St.le_cons rfl (St.le_cons rfl (St.le_cons rfl (St.le_cons rfl (St.le_cons rfl (St.le_cons rfl (St.le_cons rfl (St.le_cons rfl (St.le_nil _)))))))))⟩
          | exact ⟨(k + 1, us, vs), ⟨hkl, hkd, fun t ht => h3 t (by simp [ht]), fun t ht => h4 t (by simp [ht]), by simp at h5; show us.length ≤ _; omega, by simp at h6; show vs.length ≤ _; omega⟩, hML, (St.le_cons rfl (St.le_cons rfl (St.le_cons rfl (St.le_cons rfl (St.le_cons rfl (St.le_cons rfl (St.le_cons rfl (St.le_cons rfl (St.le_nil _)))))))))⟩
  · obtain ⟨hu, hv⟩ : u = [] ∧ v = [] := by
      rcases pick_ne hc1 with ⟨_, h⟩ | ⟨h, h9⟩
      · cases h
      · simp at h h9; exact ⟨by simpa using h, by simpa using h9⟩
    subst hu; subst hv
    have hkl : (mrg a b).take k = mrg a b := by
      have : mrg [] [] = [] := rfl
      rw [this] at h2
      exact List.take_of_length_le (by have := List.drop_eq_nil_iff.1 h2; omega)
    rw [hkl]
    apply WPA.exit
    refine ⟨.inl rfl, ⟨_, (.nil), ?_⟩, blks_of (.cons rfl (.cons rfl (.cons rfl (.cons rfl (.cons rfl (.nil))))))⟩
    rfl

end Go.Proofs.YtmdfamnnnoieaaaDoor


/- pool.Merge. -/
namespace Go.Proofs.YtmdfamnnnoieaaaDoor
open Go
set_option linter.unusedVariables false
set_option linter.unusedSimpArgs false
set_option maxRecDepth 10000
set_option maxHeartbeats 2000000

section
variable {P : Program} {S : St} {ro : Ro} {E : Env}
theorem WPA.endG {c : Code} {Q : Exit → St → Prop} (h : WPA P ro E c S fun e T => ∃ U, Ghost E T U ∧ Q e U) : WPA P ro E c S Q := fun a w hr => wpIn_mono (h a w hr) fun e a w hp => by
  rcases hp with ⟨S', ⟨U, g, q⟩, ⟨ms, h0, h1, h2, h3⟩⟩ | hp
  · exact .inl ⟨U, q, ⟨ms, h0, h1, h2, g _ w h3⟩⟩
  · exact .inr hp
end
def mergeE (a b : List Tk) : List Tk × Int := if chk a && chk b then (mrg a b, 0) else ([], 250)
theorem mstep_mem {a b a2 b2 : List Tk} {t : Tk} (h : mstep a b = some (t, a2, b2)) : (t ∈ a ∨ t ∈ b) ∧ (∀ x ∈ a2, x ∈ a) ∧ ∀ x ∈ b2, x ∈ b := by
  cases a with
  | nil =>
    cases b with
    | nil => simp [mstep] at h
    | cons y ys => simp [mstep] at h; obtain ⟨rfl, rfl, rfl⟩ := h; simp +contextual
  | cons x xs =>
    cases b with
    | nil => simp [mstep] at h; obtain ⟨rfl, rfl, rfl⟩ := h; simp +contextual
    | cons y ys =>
      simp only [mstep] at h
      split at h
      · injection h with h; injection h with h1 h; injection h with h2 h3; subst h1; subst h2; subst h3; simp +contextual
      · split at h
        · injection h with h; injection h with h1 h; injection h with h2 h3; subst h1; subst h2; subst h3; simp +contextual
        · injection h with h; injection h with h1 h; injection h with h2 h3; subst h1; subst h2; subst h3; simp +contextual
theorem mrg_mem (a b : List Tk) : ∀ t ∈ mrg a b, t ∈ a ∨ t ∈ b := by
  refine mrg_ind (p := fun a b => ∀ t ∈ mrg a b, t ∈ a ∨ t ∈ b) (fun a b h => by rw [mrg_none h]; simp) (fun a b t a2 b2 h ih => ?_) _ a b (Nat.le_refl _)
  rw [mrg_some h]
  obtain ⟨h1, h2, h3⟩ := mstep_mem h
  intro s hs
  rcases List.mem_cons.1 hs with rfl | hs
  · exact h1
  · rcases ih s hs with h | h
    · exact .inl (h2 s h)
    · exact .inr (h3 s h)
/-- soundpost/pool.Merge -/
theorem spec21 (a b : List Tk) (ha : ∀ t ∈ a, t.Ok) (hb : ∀ t ∈ b, t.Ok) (hl : a.length + b.length ≤ 1000) : FnSpec Tryd.prog 21 [.d (poolD a), .d (poolD b)] [] (.tup ([poolD (mergeE a b).1, .v (.int .i64 (mergeE a b).2)].map .d)) [] [] := by
  refine fnSpec_of_marks (rs := [.cell 4 24, .cell 5 30]) Tryd.func21 rfl rfl (Nat.le_of_ble_eq_true rfl) (by simp [St.get]) fun E hk hn => ?_
  apply WPA.seq
  apply WPA.region
  · apply Trace.boxD 10 [] (.plain rfl) rfl rfl
    apply Trace.boxD 11 [] (.plain rfl) rfl rfl
    apply Trace.alloc 4 [] (.data _) zo24 (cellsAs_data _) rfl
    apply Trace.alloc 5 [] (.data _) zo30 (cellsAs_data _) rfl
    exact .nil _
  · exact keepOK_of hk hn rfl
  apply WPA.seq
  apply WPA.seq
  apply WPA.region
  · apply Trace.pu [_] (.loadAllD ty24 (.plain rfl) rfl rfl)
    apply Trace.cu (callArgs0 (.cons (.plain rfl) .nil)) (spec19 a ha (by omega)) en19
    apply Trace.pu [] (.cmp (.plain rfl) (.plain rfl) rfl)
    apply Trace.pu [] (.move (.plain rfl))
    apply Trace.pg [_] rfl (.loadAllD ty24 (.plain rfl) rfl rfl)
    apply Trace.cg rfl (callArgs0 (.cons (.gd rfl (fun h => h)) .nil)) (fun h => spec19 b hb (by omega)) en19
    apply Trace.pg [] rfl (.cmp (.gd rfl (fun h => h)) (.plain rfl) rfl)
    apply Trace.pu [] (.pick (.plain rfl) (.plain rfl) (.gd rfl (by simp)))
    exact .nil _
  · exact keepOK_of hk hn rfl
  refine WPA.cond rfl (fun hc1 => ?_) (fun hc1 => ?_)
  · have hE : (chk a && chk b) = false := by
      cases h : chk a with
      | false => rfl
      | true => cases h9 : chk b with
        | false => rfl
        | true => simp [ckE, h, h9] at hc1
    apply WPA.seq
    apply WPA.region
    · apply Trace.pu [_] (.loadAllD ty24 (.plain rfl) rfl rfl)
      apply Trace.storeD ty24 (.plain rfl) (.plain rfl) rfl rfl rfl (by simp [AV.oneB, single]) (by decide) rfl
      apply Trace.storeD ty30 (.plain rfl) (.plain rfl) rfl rfl rfl (by simp [AV.oneB, single]) (by decide) rfl
      exact .nil _
    · exact keepOK_of hk hn rfl
    refine WPA.ghost (Ghost.dataLe (l := 4) (ds' := [tksD []]) rfl (.rows .nil)) ?_
    apply WPA.ret
    refine ⟨.inr rfl, ⟨_, (.cons (.cellD rfl rfl ty24 rfl) (.cons (.cellD1 rfl rfl ty30 rfl) .nil)), ?_⟩, by simp [St.get]⟩
    simp only [mergeE, hE, Bool.false_eq_true, if_false]
    rfl
  · have hC : (chk a && chk b) = true := by
      cases h : chk a with
      | false => simp [ckE, h] at hc1
      | true => cases h9 : chk b with
        | false => simp [ckE, h, h9] at hc1
        | true => rfl
    have hml := mrg_length a b
    have hmo : ∀ t ∈ mrg a b, t.Ok := fun t ht => (mrg_mem a b t ht).elim (ha t) (hb t)
    apply WPA.skip
    apply WPA.seq
    apply WPA.seq
    apply WPA.region
    · apply Trace.pu [] (.fieldAddr fl24_0 (.plain rfl) rfl)
      apply Trace.pu [_] (.loadLoc1D ty22 (.plain rfl) rfl rfl)
      apply Trace.pu [] (.fieldAddr fl24_0 (.plain rfl) rfl)
      apply Trace.pu [_] (.loadLoc1D ty22 (.plain rfl) rfl rfl)
      apply Trace.cb [60, 61] [] (callArgs0 (.cons (.plain rfl) (.cons (.plain rfl) .nil))) (spec37 a b) en37 .nil rfl rfl
      exact .nil _
    · exact keepOK_of hk hn rfl
    apply WPA.block
    refine WPA.ghost (Ghost.dataCells (l := 4) (cs := [nilS]) rfl rfl) ?_
    refine WPA.ghost (Ghost.cellNil (lb := 4) (j := 0) (l := 16) (cols := tkCols []) (n := 33) rfl rfl rfl rfl (by rw [hk]; decide) (tkCols_length _) (tkCols_len []) rfl) ?_
    refine WPA.rangeFunc (L := 70) (ts := tsM) (ts' := tsM) (new := [16]) (ds := [bk 60, bk 61, bk 4, bk 16]) rfl rfl rfl en48 (.cons rfl (.nil)) hn rfl rfl (by rw [hk]; decide) (by simp) (itM ha hb (by omega) (by omega) (fun k hk2 t ht => ?_)) (.cons rfl (.cons rfl (.cons rfl (.cons rfl (.cons rfl (.nil)))))) rfl rfl rfl rfl (by rw [hk]; simp) ?_
    · have htm : t ∈ mrg a b := by rw [← ht]; exact getD_mem' hk2
      have hto := hmo t htm
      have htl : ((mrg a b).take k).length = k := by rw [List.length_take]; omega
      have htk : (mrg a b).take (k + 1) = (mrg a b).take k ++ [t] := by
        rw [take_succ' _ _ hk2]
        congr 2
        rw [← ht, List.getD_eq_getElem?_getD, List.getElem?_eq_getElem hk2]; rfl
      refine ySpec_of (pe := none) (S1 := [(sl 6, .av (.loc 6 0)), (sl 4, .av (.loc 4 0)), (bk 6, .blk (.data t.cells)), (bk 4, .blk (.cells [.own 16 ((mrg a b).take k).length])), (bk 16, .blk (.app 33 ((mrg a b).take k).length (tkCols ((mrg a b).take k))))]) rfl rfl rfl rfl rfl rfl rfl rfl ?_ ?_
      · intro E l hk hn
        apply WPA.region
        · apply Trace.alloc 6 [] (.data _) zo49 (cellsAs_data _) rfl
          apply Trace.storeD (cs' := t.cells) ty49 (.plain rfl) (.plain rfl) rfl rfl (Tk.cells_length hto.len) (cells_one t) (by decide) (spliceL_all (by rw [Tk.cells_length hto.len]; rfl))
          exact .nil _
        · exact keepOK_of hk hn rfl
        exact ⟨rfl, St.le_cons rfl (St.le_cons rfl (St.le_cons rfl (St.le_cons rfl (St.le_cons rfl (St.le_nil _)))))⟩
      · intro E l hk hn
        apply WPA.block
        apply WPA.seq
        apply WPA.seq
        apply WPA.region
        · apply Trace.pu [] (.fieldAddr fl24_0 (.plain rfl) rfl)
          first | apply Trace.pu [_] (.loadLoc1D ty22 (.plain rfl) rfl rfl) | apply Trace.pu [_] (.loadLoc1 ty22 (.plain rfl) rfl rfl) | apply Trace.pu [] (.loadRp1 ty22 (.plain rfl) rfl) | apply Trace.pu [_] (.loadCol1 ty22 (.plain rfl) rfl rfl rfl (fun _ => by omega))
          apply Trace.pu [] (.len rfl Tryd.underlying22 (.plain rfl) rfl)
          apply Trace.pu [] (.cmp (.plain rfl) (.plain rfl) rfl)
          exact .nil _
        · exact keepOK_of hk hn rfl
        refine WPA.cond rfl (fun hc2 => ?_) (fun hc2 => ?_)
        · simp [htl] at hc2; omega
        · apply WPA.skip
          refine WPA.endG ?_
          apply WPA.region
          · apply Trace.pu [] (.fieldAddr fl24_0 (.plain rfl) rfl)
            first | apply Trace.pu [_] (.loadLoc1D ty22 (.plain rfl) rfl rfl) | apply Trace.pu [_] (.loadLoc1 ty22 (.plain rfl) rfl rfl) | apply Trace.pu [] (.loadRp1 ty22 (.plain rfl) rfl) | apply Trace.pu [_] (.loadCol1 ty22 (.plain rfl) rfl rfl rfl (fun _ => by omega))
            apply Trace.pu [_] (.loadAllD ty49 (.plain rfl) rfl (Tk.cells_length hto.len))
            apply Trace.buildOne so22 zo49 rfl (by decide) (by decide) (.plain rfl) (Tk.cells_length hto.len)
            apply Trace.append 46 [bk 16] ap22 kd22 (by decide) (.own (.plain rfl) rfl) (.rows (cs := tkCols [t]) (.plain rfl) (tkCols_length _) (fun c hc => by rw [tkCols_len _ c hc]; rfl) (rows_one hto)) (tkCols_one _) (labs_ok rfl) (by omega) (by omega) (tkCols_cat _ _) rfl
            apply Trace.pu [] (.fieldAddr fl24_0 (.plain rfl) rfl)
            apply Trace.storeLoc ty22 (.plain rfl) (.plain rfl) rfl rfl rfl (by simp [AV.oneB, single]) (Nat.le_of_ble_eq_true rfl) rfl
            exact .nil _
          · exact keepOK_of hk hn rfl
          refine ⟨_, (Ghost.weaken (T := [(bk 4, .blk (.cells [.own 46 (((mrg a b).take k).length + 1)])), (bk 46, .blk (.app 33 (((mrg a b).take k).length + 1) (tkCols ((mrg a b).take k ++ [t]))))]) (St.le_cons rfl (St.le_cons rfl (St.le_nil _)))).trans (Ghost.swap 46 16 (by rw [hk]; decide) (by rw [hk]; decide) rfl), rfl, ?_⟩
          have e1 : ((mrg a b).take k ++ [t]).length = ((mrg a b).take k).length + 1 := by rw [List.length_append]; rfl
          rw [htk]
          refine blks_of (.cons ?_ (.cons ?_ .nil)) <;> (rw [e1]; rfl)
    · refine WPA.ghost (Ghost.cellFreeze (lb := 4) (j := 0) (l := 16) (g := tkRow (mrg a b)) (cs' := [.d (tksD (mrg a b))]) rfl rfl rfl rfl (fun i hi => tkCols_row hmo hi) rfl) ?_
      refine WPA.ghost ((Ghost.reblk (l := 4) (B := .cells [.d (tksD (mrg a b))]) (B' := .data [tksD (mrg a b)]) rfl fun V M w h => h).trans (Ghost.weaken fun m c e => by rwa [← cons_upd])) ?_
      apply WPA.seq
      apply WPA.region
      · apply Trace.pu [_] (.loadAllD ty24 (.plain rfl) rfl rfl)
        apply Trace.storeD ty24 (.plain rfl) (.plain rfl) rfl rfl rfl (by simp [AV.oneB, single]) (Nat.le_of_ble_eq_true rfl) rfl
        apply Trace.storeD ty30 (.plain rfl) (.plain rfl) rfl rfl rfl (by simp [AV.oneB, single]) (by decide) rfl
        exact .nil _
      · exact keepOK_of hk hn rfl
      apply WPA.ret
      refine ⟨.inr rfl, ⟨_, (.cons (.cellD rfl rfl ty24 rfl) (.cons (.cellD1 rfl rfl ty30 rfl) .nil)), ?_⟩, by simp [St.get]⟩
      simp only [mergeE, hC, if_true]
      rfl

end Go.Proofs.YtmdfamnnnoieaaaDoor

