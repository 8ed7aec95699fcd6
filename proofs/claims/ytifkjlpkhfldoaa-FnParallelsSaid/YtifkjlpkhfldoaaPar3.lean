/- Contracts of the functions on parallel columns: blanks, the best join. -/
import Derived.Test.YtifkjlpkhfldoaaPar2
namespace Go.Proofs.Ytifkjlpkhfldoaa.Ai
open Go Go.Proofs
set_option maxRecDepth 10000
set_option maxHeartbeats 4000000
set_option linter.unusedVariables false
/-- The blanks behind the first k entries of one row. -/
def blankT (r zs : List Int) (k : Nat) : List Int := List.zipWith (fun z n => z + (hiF r - n)) (zs.take k) (r.take k) ++ zs.drop k
theorem blankT_zero (r zs : List Int) : blankT r zs 0 = zs := by simp [blankT]
theorem blankT_len {r zs : List Int} (h : zs.length = r.length) (k : Nat) : (blankT r zs k).length = zs.length := by
  simp [blankT]; omega
theorem blankT_all {r zs : List Int} (h : zs.length = r.length) {k : Nat} (hk : r.length ≤ k) : blankT r zs k = blankR r zs := by
  unfold blankT blankR
  rw [List.take_of_length_le (by omega), List.take_of_length_le hk, List.drop_of_length_le (by omega), List.append_nil]
theorem blankT_at {r zs : List Int} (h : zs.length = r.length) {k : Nat} {z : Int} (hz : zs[k]? = some z) : (blankT r zs k)[k]? = some z := by
  have hk := (List.getElem?_eq_some_iff.1 hz).1
  have e : (List.zipWith (fun z n => z + (hiF r - n)) (zs.take k) (r.take k)).length = k := by simp; omega
  unfold blankT
  rw [List.getElem?_append_right (by omega), e, Nat.sub_self, List.getElem?_drop]
  exact hz
theorem blankT_step {r zs : List Int} (h : zs.length = r.length) {k : Nat} {z n : Int} (hz : zs[k]? = some z) (hn : r[k]? = some n) : blankT r zs (k + 1) = (blankT r zs k).set k (z + (hiF r - n)) := by
  have hk := (List.getElem?_eq_some_iff.1 hz).1
  have e : (List.zipWith (fun z n => z + (hiF r - n)) (zs.take k) (r.take k)).length = k := by simp; omega
  unfold blankT
  rw [List.take_add_one, List.take_add_one, hz, hn, Option.toList_some, Option.toList_some, List.zipWith_append (by simp; omega), List.set_append_right _ _ (by omega), e, Nat.sub_self, List.drop_eq_getElem_cons hk, List.set_cons_zero]
  simp
def blanksT (l : List (List Int)) (k : Nat) : List Int := (l.take k).foldl (fun zs r => blankR r zs) (List.replicate (headP l).toNat 0)
theorem blanksT_step {l : List (List Int)} {k : Nat} {r : List Int} (h : l[k]? = some r) : blanksT l (k + 1) = blankR r (blanksT l k) := by
  unfold blanksT; rw [List.take_add_one, h, Option.toList_some, List.foldl_append]; rfl
theorem blanksT_all {l : List (List Int)} {k : Nat} (h : l.length ≤ k) : blanksT l k = blanksF l := by
  unfold blanksT blanksF; rw [List.take_of_length_le h]
theorem blanksT_len {l : List (List Int)} (hp : parB l = true) : ∀ k ≤ l.length, ((blanksT l k).length : Int) = headP l
  | 0, _ => by
    have : 0 ≤ headP l := by unfold headP; omega
    simp [blanksT]; omega
  | k + 1, h => by
    have e : l[k]? = some l[k] := List.getElem?_eq_getElem h
    have h1 := blanksT_len hp k (by omega)
    have h2 := ((parB_spec hp).1 l[k] (List.getElem_mem h)).1
    rw [blanksT_step e, blankR_len (by omega)]
    omega
theorem zip_bd {M H : Int} : ∀ (zs rs : List Int), (∀ z ∈ zs, 0 ≤ z ∧ z ≤ M) → (∀ n ∈ rs, 0 ≤ n ∧ n ≤ H) → ∀ z ∈ List.zipWith (fun z n => z + (H - n)) zs rs, 0 ≤ z ∧ z ≤ M + H
  | [], _, _, _ => fun z hz => by simp at hz
  | _ :: _, [], _, _ => fun z hz => by simp at hz
  | a :: zs, b :: rs, h1, h2 => fun z hz => by
    rcases List.mem_cons.1 hz with rfl | hz
    · have := h1 a (by simp); have := h2 b (by simp); show 0 ≤ a + (H - b) ∧ a + (H - b) ≤ M + H; omega
    · exact zip_bd zs rs (fun z hz => h1 z (by simp [hz])) (fun n hn => h2 n (by simp [hn])) z hz
theorem blankT_bd {r zs : List Int} {M : Int} (hz : ∀ z ∈ zs, 0 ≤ z ∧ z ≤ M) (hr : ∀ n ∈ r, 0 ≤ n ∧ n ≤ 200) (k : Nat) : ∀ z ∈ blankT r zs k, 0 ≤ z ∧ z ≤ M + 200 := fun z hm => by
  have hh := hiF_ge r
  have hl := hiF_le (r := r) (B := 200) (by omega) fun n hn => (hr n hn).2
  unfold blankT at hm
  rcases List.mem_append.1 hm with hm | hm
  · have := zip_bd (M := M) (H := hiF r) (zs.take k) (r.take k) (fun z h => hz z (List.mem_of_mem_take h)) (fun n h => ⟨(hr n (List.mem_of_mem_take h)).1, hh.2 n (List.mem_of_mem_take h)⟩) z hm
    omega
  · have := hz z (List.mem_of_mem_drop hm); omega
theorem blanksT_bd {l : List (List Int)} (hp : parB l = true) : ∀ k ≤ l.length, ∀ z ∈ blanksT l k, 0 ≤ z ∧ z ≤ 200 * (k : Int)
  | 0, _ => fun z hz => by have := List.eq_of_mem_replicate (show z ∈ List.replicate _ 0 from hz); omega
  | k + 1, h => by
    have e : l[k]? = some l[k] := List.getElem?_eq_getElem h
    have h1 := blanksT_bd hp k (by omega)
    have h2 := ((parB_spec hp).1 l[k] (List.getElem_mem h))
    have h3 := blanksT_len hp k (by omega)
    rw [blanksT_step e, ← blankT_all (by omega) (Nat.le_refl _)]
    intro z hz
    have := blankT_bd h1 h2.2.2.2 _ z hz
    omega
theorem blanks_spec {l : List (List Int)} {b : List Int} (h : (b, true) = blanksAns l) : parB l = true ∧ b = blanksF l := by
  unfold blanksAns at h
  split at h
  · rename_i hc; exact ⟨hc, (Prod.mk.inj h).1⟩
  · cases (Prod.mk.inj h).2
theorem blanks_no {l : List (List Int)} {b : List Int} (h : (b, false) = blanksAns l) : parB l = false := by
  unfold blanksAns at h
  split at h
  · cases (Prod.mk.inj h).2
  · rename_i hc; simpa using hc
theorem head_in {l : List (List Int)} (h : parB l = true) (hn : l.length ≠ 0) : 1 ≤ headP l ∧ headP l ≤ 6 := by
  obtain ⟨p1, p2⟩ := parB_spec h
  cases l with
  | nil => simp at hn
  | cons a r => have := p1 a (by simp); omega
theorem blanksF_len {l : List (List Int)} (h : parB l = true) : ((blanksF l).length : Int) = headP l := by
  rw [← blanksT_all (Nat.le_refl _)]; exact blanksT_len h _ (Nat.le_refl _)
def bestJ (f : Nat → Int) : Nat → Nat
  | 0 => 0
  | k + 1 => bestI f k
theorem bestJ_step {f : Nat → Int} {k b : Nat} (h : b = bestJ f k) : bestJ f (k + 1) = if f k > f b then k else b := by
  subst h
  cases k with
  | zero => show 0 = _; split <;> rfl
  | succ k => rfl
theorem bestJ_le (f : Nat → Int) (k : Nat) : bestJ f k ≤ k := by
  cases k with
  | zero => exact Nat.le_refl _
  | succ k => have := bestI_le f k; simp only [bestJ]; omega
theorem swap_head {l : List (List Int)} {i k r r' : Int} {x : List Int} (hx : l[(0 : Int).toNat]? = some x) (h1 : parB l = true) (hr : r = x.length - 1) (h3 : inB i 0 r = true) (hr' : r' = x.length - 1) (h4 : inB k 0 r' = true) : swapB l i k = true := by
  have hn : l.length ≠ 0 := fun e => by rw [List.length_eq_zero_iff.1 e] at hx; simp at hx
  have hd := headP_some hx
  unfold swapB
  rw [h1, decide_eq_false (by omega), hd, ← hr, h3, hr, ← hr', h4]; rfl
theorem swap_no1 {l : List (List Int)} {i k r : Int} {x : List Int} (hx : l[(0 : Int).toNat]? = some x) (h : inB i 0 r = false ∨ inB k 0 r = false) (hr : r = x.length - 1) : swapB l i k = false := by
  have hd := headP_some hx
  unfold swapB
  rw [hd, ← hr]
  rcases h with h | h <;> rw [h] <;> simp
theorem map_takeS {l : List (List Int)} {f : List Int → List Int} {i : Nat} {x : List Int} (h : l[i]? = some x) : (l.take (i + 1)).map f = (l.take i).map f ++ [f x] := by
  rw [List.take_add_one, h, Option.toList_some, List.map_append]; rfl
def joinT (l : List (List Int)) (i k : Nat) : List (List Int) := if k ≤ i then l.take k else l.take i ++ addR (rowAt l i) (rowAt l (i + 1)) :: (l.take k).drop (i + 2)
theorem joinT_low {l : List (List Int)} {i k : Nat} {x : List Int} (hk : k < i) (h : l[k]? = some x) : joinT l i (k + 1) = joinT l i k ++ [x] := by
  unfold joinT
  rw [if_pos (by omega), if_pos (by omega), List.take_add_one, h]; rfl
theorem joinT_mid {l : List (List Int)} {i : Nat} {x y : List Int} (h : l[i]? = some x) (h2 : l[i + 1]? = some y) : joinT l i (i + 1) = joinT l i i ++ [addR x y] := by
  unfold joinT
  rw [if_neg (by omega), if_pos (Nat.le_refl _), rowAt_some h, rowAt_some h2, List.drop_of_length_le (by simp; omega)]
theorem joinT_skip {l : List (List Int)} {i : Nat} : joinT l i (i + 1 + 1) = joinT l i (i + 1) := by
  unfold joinT
  rw [if_neg (by omega), if_neg (by omega), List.drop_of_length_le (by simp; omega), List.drop_of_length_le (by simp; omega)]
theorem joinT_high {l : List (List Int)} {i k : Nat} {x : List Int} (hk : i + 2 ≤ k) (h : l[k]? = some x) : joinT l i (k + 1) = joinT l i k ++ [x] := by
  have hl := (List.getElem?_eq_some_iff.1 h).1
  unfold joinT
  rw [if_neg (by omega), if_neg (by omega), List.take_add_one, h, Option.toList_some, List.drop_append_of_le_length (by simp; omega)]; simp
theorem joinT_all {l : List (List Int)} {i k : Nat} (hi : i + 1 < l.length) (hk : l.length ≤ k) : joinT l i k = joinF l i := by
  unfold joinT joinF
  rw [if_neg (by omega), List.take_of_length_le hk]
theorem joinT_len {l : List (List Int)} {i k : Nat} : (joinT l i k).length ≤ l.length + 1 := by
  unfold joinT; split <;> simp <;> omega
theorem row_small {l : List (List Int)} (hp : parB l = true) {i : Nat} {r : List Int} (h : r ∈ joinF l i) : r.length ≤ 1099511627776 := by
  obtain ⟨p1, p2⟩ := parB_spec hp
  have hr : ∀ j, (rowAt l j).length ≤ 6 := fun j => by
    unfold rowAt
    rw [List.getD_eq_getElem?_getD]
    cases e : l[j]? with
    | none => simp
    | some r => exact (p1 r (List.mem_of_getElem? e)).2.2.1
  unfold joinF at h
  rcases List.mem_append.1 h with hm | hm
  · have := (p1 r (List.mem_of_mem_take hm)).2.2.1; omega
  · rcases List.mem_cons.1 hm with rfl | hm
    · have := hr i; simp [addR]; omega
    · have := (p1 r (List.mem_of_mem_drop hm)).2.2.1; omega
theorem BlanksOf_ok (l : List (List Int))  : OkA Try.prog 13 [.isl 1 (rows (cSl 1 cInt) l)] (· = (lb 3 1 cInt) (blanksAns l)) :=
  OkA.unnil 3 1 (fn_intro envOk fieldsOk mixed Try.func13 rfl fun κ X Y L Q m hQ => by
    conv => cbv
    refine r_callB m.sX (AreParallel_ok l) (fun h1 => ?_) (fun h1 => ?_) <;> conv => cbv
    · obtain ⟨p1, p2⟩ := parB_spec h1
      refine r_lenR m.sX fun n1 hn1 mn1 => ?_
      conv => cbv
      refine r_gtr m.sX (fun h2 => ?_) (fun h2 => ?_) <;> conv => cbv
      · refine r_index m.sX (by omega) (by omega) fun x1 hx1 => ?_
        conv => cbv
        have mx1 := get_mem hx1
        have hd := headP_some hx1
        have p3 := p1 x1 mx1
        refine r_lenR m.sX fun n2 hn2 mn2 => ?_
        conv => cbv
        refine r_make cInt 0 m.sX rfl (by omega) (by omega) (by dsimp only; omega) (by omega) fun blanks hblanks => ?_   -- blanks = replicate n2
        have lblanks : (blanks.length : Int) = n2 := by rw [hblanks]; first | done | (simp; done) | (simp; omega)
        conv => cbv
        refine r_lenR m.sX fun n3 hn3 mn3 => ?_
        conv => cbv
        refine r_loopF (α := List Int × Int) m 48 [22, 23, 24] [⟨4, 33, 3, 1, 0⟩] (fun σ => [(4, .osl 33 0), (22, .isl 1 (rows (cSl 1 cInt) l)), (23, .int .i64 n3), (24, .int .i64 σ.2)]) (fun σ => [(33, 0, .row 3 1 (rows cInt σ.1))])
          (fun σ => (0 ≤ σ.2) ∧ (σ.2 ≤ n3) ∧ (σ.1 = blanksT l σ.2.toNat)) (fun σ => (n3 - σ.2).toNat) (blanks, 0) ?_ ?_ ?_ ?_
        · cbv
        · cbv
        · exact ⟨(by (try dsimp only); first | omega | (simp only [List.length_nil]; omega) | (simp only [List.length_cons, List.length_nil]; omega)), (by (try dsimp only); first | omega | (simp only [List.length_nil]; omega) | (simp only [List.length_cons, List.length_nil]; omega)), (by (try dsimp only) <;> (rw [hblanks, show n2.toNat = (headP l).toNat by omega]; rfl))⟩
        rintro ⟨blanks_2, i1⟩ ⟨lo1, hi1, q⟩ E hE F hF
        dsimp only at lo1 hi1 q
        conv => cbv
        refine r_lss m.sX (fun h3 => ?_) (fun h3 => ?_) <;> conv => cbv
        · refine r_index m.sX (by omega) (by omega) fun row hrow => ?_
          conv => cbv
          have mrow := get_mem hrow
          have drow := drop_cons hrow
          have krow := take_snoc hrow
          have jrow : (i1 + 1).toNat = Int.toNat i1 + 1 := by omega
          have pr := p1 row mrow
          have bl := blanksT_len h1 i1.toNat (by omega)
          rw [← q] at bl
          have bb := blanksT_bd h1 i1.toNat (by omega)
          rw [← q] at bb
          have le : blanks_2.length = row.length := by omega
          have w2 := par_hi h1 hrow
          refine r_lenR m.sX fun n4 hn4 mn4 => ?_
          conv => cbv
          refine r_loopF (α := List Int × Int) m 48 [6, 22, 23, 24, 28, 29, 30] [⟨4, 33, 3, 1, 0⟩] (fun σ => [(4, .osl 33 0), (6, .isl 1 (rows cInt row)), (22, .isl 1 (rows (cSl 1 cInt) l)), (23, .int .i64 n3), (24, .int .i64 i1), (28, .isl 1 (rows cInt row)), (29, .int .i64 n4), (30, .int .i64 σ.2)]) (fun σ => [(33, 0, .row 3 1 (rows cInt σ.1))])
            (fun σ => (0 ≤ σ.2) ∧ (σ.2 ≤ n4) ∧ (σ.1 = blankT row blanks_2 σ.2.toNat) ∧ ((σ.1.length : Int) = row.length)) (fun σ => (n4 - σ.2).toNat) (blanks_2, 0) ?_ ?_ ?_ ?_
          · cbv
          · cbv
          · exact ⟨(by (try dsimp only); first | omega | (simp only [List.length_nil]; omega) | (simp only [List.length_cons, List.length_nil]; omega)), (by (try dsimp only); first | omega | (simp only [List.length_nil]; omega) | (simp only [List.length_cons, List.length_nil]; omega)), (by (try dsimp only) <;> (exact (blankT_zero _ _).symm)), (by (try dsimp only) <;> first | omega | rfl | (simp [*]; done))⟩
          rintro ⟨blanks_3, i2⟩ ⟨lo2, hi2, q2, ll⟩ E2 hE2 F2 hF2
          dsimp only at lo2 hi2 q2 ll
          conv => cbv
          refine r_lss m.sX (fun h4 => ?_) (fun h4 => ?_) <;> conv => cbv
          · refine r_index m.sX (by omega) (by omega) fun n hn => ?_
            conv => cbv
            have mn := get_mem hn
            have dn := drop_cons hn
            have kn := take_snoc hn
            have jn : (i2 + 1).toNat = Int.toNat i2 + 1 := by omega
            have vn := nth_some hn
            have bn := pr.2.2.2 n mn
            obtain ⟨z, hz⟩ := get_ex (xs := blanks_2) (i := Int.toNat i2) (by omega)
            have hz3 := blankT_at le hz
            rw [← q2] at hz3
            have bz := bb z (get_mem hz)
            refine r_draw m (by kernel_rfl) ?_
            conv => cbv
            refine r_oindex m.sY (by omega) (by omega) ?_
            conv => cbv
            obtain ⟨x2, hx2⟩ := get_ex (xs := blanks_3) (i := Int.toNat i2) (by omega)
            have mx2 := get_mem hx2
            have dx2 := drop_cons hx2
            have kx2 := take_snoc hx2
            have jx2 : (i2 + 1).toNat = Int.toNat i2 + 1 := by omega
            have vx2 := nth_some hx2
            have ez : x2 = z := Option.some.inj (hx2.symm.trans hz3)
            refine r_oload m.sY hx2 (Nat.le_of_ble_eq_true rfl) ?_
            conv => cbv
            refine r_callFS (PV.int .i64) m.sY (greatest_ok row) trivial fun r1 hr1 => ?_
            conv => cbv
            refine r_subf m.sY (by omega) (by omega) fun r2 hr2 => ?_
            conv => cbv
            refine r_addf m.sY (by omega) (by omega) fun r3 hr3 => ?_
            conv => cbv
            refine r_oindex m.sY (by omega) (by omega) ?_
            conv => cbv
            obtain ⟨y1, hy1⟩ := get_ex (xs := blanks_3) (i := Int.toNat i2) (by omega)
            refine r_ostore (l := Int.toNat i2) r3 m.sY hy1 (Nat.le_of_ble_eq_true rfl) rfl fun blanks_4 hblanks_4 => ?_   -- blanks_4 = blanks_3.set i2 r3
            have lblanks_4 : (blanks_4.length : Int) = blanks_3.length := by rw [hblanks_4]; first | done | (simp; done) | (simp; omega)
            conv => cbv
            refine r_addf m.sX (by omega) (by omega) fun r4 hr4 => ?_
            conv => cbv
            try have tr4 : Int.toNat r4 = Int.toNat i2 + 1 := by omega
            refine hE2 _ (blanks_4, r4) ?_ ?_ ⟨(by (try dsimp only); first | omega | (simp only [List.length_nil]; omega) | (simp only [List.length_cons, List.length_nil]; omega)), (by (try dsimp only); first | omega | (simp only [List.length_nil]; omega) | (simp only [List.length_cons, List.length_nil]; omega)), (by (try dsimp only) <;> (rw [hblanks_4, q2, tr4, blankT_step le hz hn, hr3, ez, hr2, hr1])), (by (try dsimp only) <;> first | omega | rfl | (simp [*]; done) | (rw [ll]; simp [*]; done))⟩ (by first | omega | (dsimp only; omega))
            · cbv
            · cbv
          · have dz_i2 := drop_end (xs := row) (i := Int.toNat i2) (by omega)
            have tz_i2 := take_end (xs := row) (i := Int.toNat i2) (by omega)
            refine hF2 _ _ ?_
            conv => cbv
            refine r_addf m.sX (by omega) (by omega) fun r5 hr5 => ?_
            conv => cbv
            try have tr5 : Int.toNat r5 = Int.toNat i1 + 1 := by omega
            refine hE _ (blanks_3, r5) ?_ ?_ ⟨(by (try dsimp only); first | omega | (simp only [List.length_nil]; omega) | (simp only [List.length_cons, List.length_nil]; omega)), (by (try dsimp only); first | omega | (simp only [List.length_nil]; omega) | (simp only [List.length_cons, List.length_nil]; omega)), (by (try dsimp only) <;> (rw [q2, tr5, blanksT_step hrow, ← q, blankT_all le (by omega)]))⟩ (by first | omega | (dsimp only; omega))
            · cbv
            · cbv
        · have dz_i1 := drop_end (xs := l) (i := Int.toNat i1) (by omega)
          have tz_i1 := take_end (xs := l) (i := Int.toNat i1) (by omega)
          refine hF _ _ ?_
          conv => cbv
          exact hQ (.tup [.fr 3 1 (rows cInt blanks_2), .bool true]) (Eq.trans (by first | rfl | (simp only [lb, lbI, rows_cons, rows_nil, unnilT, unnil, unnilTI, unnilI]; done) | (simp only [lb, lbI, rows_cons, rows_nil, unnilT, unnil, unnilTI, unnilI]; rfl)) (congrArg ((lb 3 1 cInt)) (show (blanks_2, true) = blanksAns l from by rw [blanksAns, if_pos h1, q, blanksT_all (by omega)])))   -- leaf 1
      · refine r_lenR m.sX fun n5 hn5 mn5 => ?_
        conv => cbv
        refine r_loopF (α := List Int × Int) m 48 [22, 23, 24] [⟨4, 33, 3, 1, 0⟩] (fun σ => [(4, .osl 33 0), (22, .isl 1 (rows (cSl 1 cInt) l)), (23, .int .i64 n5), (24, .int .i64 σ.2)]) (fun σ => [(33, 0, .row 3 1 (rows cInt σ.1))])
          (fun σ => (0 ≤ σ.2) ∧ (σ.2 ≤ n5) ∧ (σ.1 = [])) (fun σ => (n5 - σ.2).toNat) ([], 0) ?_ ?_ ?_ ?_
        · cbv
        · (try dsimp only); (try simp only [rows_cons, rows_nil]); cbv
        · exact ⟨(by (try dsimp only); first | omega | (simp only [List.length_nil]; omega) | (simp only [List.length_cons, List.length_nil]; omega)), (by (try dsimp only); first | omega | (simp only [List.length_nil]; omega) | (simp only [List.length_cons, List.length_nil]; omega)), (by (try dsimp only) <;> first | omega | rfl | (simp [*]; done))⟩
        rintro ⟨blanks_5, i3⟩ ⟨lo3, hi3, q⟩ E hE F hF
        dsimp only at lo3 hi3 q
        conv => cbv
        refine r_lss m.sX (fun h5 => ?_) (fun h5 => ?_) <;> conv => cbv
        · refine r_index m.sX (by omega) (by omega) fun row_2 hrow_2 => ?_
          conv => cbv
          have mrow_2 := get_mem hrow_2
          have drow_2 := drop_cons hrow_2
          have krow_2 := take_snoc hrow_2
          have jrow_2 : (i3 + 1).toNat = Int.toNat i3 + 1 := by omega
          refine r_lenR m.sX fun n6 hn6 mn6 => ?_
          conv => cbv
          refine r_loopF (α := List Int × Int) m 48 [6, 22, 23, 24, 28, 29, 30] [⟨4, 33, 3, 1, 0⟩] (fun σ => [(4, .osl 33 0), (6, .isl 1 (rows cInt row_2)), (22, .isl 1 (rows (cSl 1 cInt) l)), (23, .int .i64 n5), (24, .int .i64 i3), (28, .isl 1 (rows cInt row_2)), (29, .int .i64 n6), (30, .int .i64 σ.2)]) (fun σ => [(33, 0, .row 3 1 (rows cInt σ.1))])
            (fun σ => (0 ≤ σ.2) ∧ (σ.2 ≤ n6)) (fun σ => (n6 - σ.2).toNat) (blanks_5, 0) ?_ ?_ ?_ ?_
          · cbv
          · cbv
          · exact ⟨(by (try dsimp only); first | omega | (simp only [List.length_nil]; omega) | (simp only [List.length_cons, List.length_nil]; omega)), (by (try dsimp only); first | omega | (simp only [List.length_nil]; omega) | (simp only [List.length_cons, List.length_nil]; omega))⟩
          rintro ⟨blanks_6, i4⟩ ⟨lo4, hi4⟩ E2 hE2 F2 hF2
          dsimp only at lo4 hi4
          conv => cbv
          refine r_lss m.sX (fun h6 => ?_) (fun h6 => ?_) <;> conv => cbv
          · refine r_index m.sX (by omega) (by omega) fun n_2 hn_2 => ?_
            conv => cbv
            have mn_2 := get_mem hn_2
            have dn_2 := drop_cons hn_2
            have kn_2 := take_snoc hn_2
            have jn_2 : (i4 + 1).toNat = Int.toNat i4 + 1 := by omega
            have vn_2 := nth_some hn_2
            refine r_draw m (by kernel_rfl) ?_
            conv => cbv
            refine r_oindex m.sY (by omega) (by omega) ?_
            conv => cbv
            obtain ⟨x3, hx3⟩ := get_ex (xs := blanks_6) (i := Int.toNat i4) (by omega)
            have mx3 := get_mem hx3
            have dx3 := drop_cons hx3
            have kx3 := take_snoc hx3
            have jx3 : (i4 + 1).toNat = Int.toNat i4 + 1 := by omega
            have vx3 := nth_some hx3
            refine r_oload m.sY hx3 (Nat.le_of_ble_eq_true rfl) ?_
            conv => cbv
            refine r_callFS (PV.int .i64) m.sY (greatest_ok row_2) trivial fun r6 hr6 => ?_
            conv => cbv
            refine r_subf m.sY (by omega) (by omega) fun r7 hr7 => ?_
            conv => cbv
            refine r_addf m.sY (by omega) (by omega) fun r8 hr8 => ?_
            conv => cbv
            refine r_oindex m.sY (by omega) (by omega) ?_
            conv => cbv
            obtain ⟨y2, hy2⟩ := get_ex (xs := blanks_6) (i := Int.toNat i4) (by omega)
            refine r_ostore (l := Int.toNat i4) r8 m.sY hy2 (Nat.le_of_ble_eq_true rfl) rfl fun blanks_7 hblanks_7 => ?_   -- blanks_7 = blanks_6.set i4 r8
            have lblanks_7 : (blanks_7.length : Int) = blanks_6.length := by rw [hblanks_7]; first | done | (simp; done) | (simp; omega)
            conv => cbv
            refine r_addf m.sX (by omega) (by omega) fun r9 hr9 => ?_
            conv => cbv
            try have tr9 : Int.toNat r9 = Int.toNat i4 + 1 := by omega
            refine hE2 _ (blanks_7, r9) ?_ ?_ ⟨(by (try dsimp only); first | omega | (simp only [List.length_nil]; omega) | (simp only [List.length_cons, List.length_nil]; omega)), (by (try dsimp only); first | omega | (simp only [List.length_nil]; omega) | (simp only [List.length_cons, List.length_nil]; omega))⟩ (by first | omega | (dsimp only; omega))
            · cbv
            · cbv
          · have dz_i4 := drop_end (xs := row_2) (i := Int.toNat i4) (by omega)
            have tz_i4 := take_end (xs := row_2) (i := Int.toNat i4) (by omega)
            refine hF2 _ _ ?_
            conv => cbv
            refine r_addf m.sX (by omega) (by omega) fun r10 hr10 => ?_
            conv => cbv
            try have tr10 : Int.toNat r10 = Int.toNat i3 + 1 := by omega
            refine hE _ (blanks_6, r10) ?_ ?_ ⟨(by (try dsimp only); first | omega | (simp only [List.length_nil]; omega) | (simp only [List.length_cons, List.length_nil]; omega)), (by (try dsimp only); first | omega | (simp only [List.length_nil]; omega) | (simp only [List.length_cons, List.length_nil]; omega)), (by (try dsimp only) <;> (omega))⟩ (by first | omega | (dsimp only; omega))
            · cbv
            · cbv
        · have dz_i3 := drop_end (xs := l) (i := Int.toNat i3) (by omega)
          have tz_i3 := take_end (xs := l) (i := Int.toNat i3) (by omega)
          refine hF _ _ ?_
          conv => cbv
          exact hQ (.tup [.fr 3 1 (rows cInt blanks_5), .bool true]) (Eq.trans (by first | rfl | (simp only [lb, lbI, rows_cons, rows_nil, unnilT, unnil, unnilTI, unnilI]; done) | (simp only [lb, lbI, rows_cons, rows_nil, unnilT, unnil, unnilTI, unnilI]; rfl)) (congrArg ((lb 3 1 cInt)) (show (blanks_5, true) = blanksAns l from by rw [blanksAns, if_pos h1, q, List.eq_nil_of_length_eq_zero (show l.length = 0 by omega)]; rfl)))   -- leaf 2
    · exact hQ (.tup [.fr 3 1 [], .bool false]) (Eq.trans (by first | rfl | (simp only [lb, lbI, rows_cons, rows_nil, unnilT, unnil, unnilTI, unnilI]; done) | (simp only [lb, lbI, rows_cons, rows_nil, unnilT, unnil, unnilTI, unnilI]; rfl)) (congrArg ((lb 3 1 cInt)) (show ([], false) = blanksAns l from by rw [blanksAns, if_neg (by rw [h1]; simp)]))))   -- leaf 3

theorem plBlanks_ok (l : List (List Int)) (hp : parB l = true) : OkA Try.prog 91 [.isl 1 (rows (cSl 1 cInt) l)] (· = .fr 3 1 (rows cInt (blanksF l))) :=
  OkA.unnil 3 1 (fn_intro envOk fieldsOk mixed Try.func91 rfl fun κ X Y L Q m hQ => by
    obtain ⟨p1, p2⟩ := parB_spec hp
    conv => cbv
    refine r_lenR m.sX fun n1 hn1 mn1 => ?_
    conv => cbv
    refine r_eql m.sX (fun h1 => ?_) (fun h1 => ?_) <;> conv => cbv
    · exact hQ (.nil) (Eq.trans (by first | rfl | (simp only [lb, lbI, rows_cons, rows_nil, unnilT, unnil, unnilTI, unnilI]; done) | (simp only [lb, lbI, rows_cons, rows_nil, unnilT, unnil, unnilTI, unnilI]; rfl)) (congrArg (fun l => PV.fr 3 1 (rows cInt l)) (show [] = blanksF l from by rw [List.eq_nil_of_length_eq_zero (show l.length = 0 by omega)]; rfl)))   -- leaf 1
    · refine r_index m.sX (by omega) (by omega) fun x1 hx1 => ?_
      conv => cbv
      have mx1 := get_mem hx1
      have hd := headP_some hx1
      have p3 := p1 x1 mx1
      refine r_lenR m.sX fun n2 hn2 mn2 => ?_
      conv => cbv
      refine r_make cInt 0 m.sX rfl (by omega) (by omega) (by dsimp only; omega) (by omega) fun out hout => ?_   -- out = replicate n2
      have lout : (out.length : Int) = n2 := by rw [hout]; first | done | (simp; done) | (simp; omega)
      conv => cbv
      refine r_lenR m.sX fun n3 hn3 mn3 => ?_
      conv => cbv
      refine r_loopF (α := List Int × Int) m 42 [16, 17, 18] [⟨3, 25, 3, 1, 0⟩] (fun σ => [(3, .osl 25 0), (16, .isl 1 (rows (cSl 1 cInt) l)), (17, .int .i64 n3), (18, .int .i64 σ.2)]) (fun σ => [(25, 0, .row 3 1 (rows cInt σ.1))])
        (fun σ => (0 ≤ σ.2) ∧ (σ.2 ≤ n3) ∧ (σ.1 = blanksT l σ.2.toNat)) (fun σ => (n3 - σ.2).toNat) (out, 0) ?_ ?_ ?_ ?_
      · cbv
      · cbv
      · exact ⟨(by (try dsimp only); first | omega | (simp only [List.length_nil]; omega) | (simp only [List.length_cons, List.length_nil]; omega)), (by (try dsimp only); first | omega | (simp only [List.length_nil]; omega) | (simp only [List.length_cons, List.length_nil]; omega)), (by (try dsimp only) <;> (rw [hout, show n2.toNat = (headP l).toNat by omega]; rfl))⟩
      rintro ⟨out_2, i1⟩ ⟨lo1, hi1, q⟩ E hE F hF
      dsimp only at lo1 hi1 q
      conv => cbv
      refine r_lss m.sX (fun h2 => ?_) (fun h2 => ?_) <;> conv => cbv
      · refine r_index m.sX (by omega) (by omega) fun row hrow => ?_
        conv => cbv
        have mrow := get_mem hrow
        have drow := drop_cons hrow
        have krow := take_snoc hrow
        have jrow : (i1 + 1).toNat = Int.toNat i1 + 1 := by omega
        have pr := p1 row mrow
        have bl := blanksT_len hp i1.toNat (by omega)
        rw [← q] at bl
        have bb := blanksT_bd hp i1.toNat (by omega)
        rw [← q] at bb
        have le : out_2.length = row.length := by omega
        have w2 := par_hi hp hrow
        refine r_lenR m.sX fun n4 hn4 mn4 => ?_
        conv => cbv
        refine r_loopF (α := List Int × Int) m 42 [5, 16, 17, 18, 22, 23, 24] [⟨3, 25, 3, 1, 0⟩] (fun σ => [(3, .osl 25 0), (5, .isl 1 (rows cInt row)), (16, .isl 1 (rows (cSl 1 cInt) l)), (17, .int .i64 n3), (18, .int .i64 i1), (22, .isl 1 (rows cInt row)), (23, .int .i64 n4), (24, .int .i64 σ.2)]) (fun σ => [(25, 0, .row 3 1 (rows cInt σ.1))])
          (fun σ => (0 ≤ σ.2) ∧ (σ.2 ≤ n4) ∧ (σ.1 = blankT row out_2 σ.2.toNat) ∧ ((σ.1.length : Int) = row.length)) (fun σ => (n4 - σ.2).toNat) (out_2, 0) ?_ ?_ ?_ ?_
        · cbv
        · cbv
        · exact ⟨(by (try dsimp only); first | omega | (simp only [List.length_nil]; omega) | (simp only [List.length_cons, List.length_nil]; omega)), (by (try dsimp only); first | omega | (simp only [List.length_nil]; omega) | (simp only [List.length_cons, List.length_nil]; omega)), (by (try dsimp only) <;> (exact (blankT_zero _ _).symm)), (by (try dsimp only) <;> first | omega | rfl | (simp [*]; done))⟩
        rintro ⟨out_3, i2⟩ ⟨lo2, hi2, q2, ll⟩ E2 hE2 F2 hF2
        dsimp only at lo2 hi2 q2 ll
        conv => cbv
        refine r_lss m.sX (fun h3 => ?_) (fun h3 => ?_) <;> conv => cbv
        · refine r_index m.sX (by omega) (by omega) fun n hn => ?_
          conv => cbv
          have mn := get_mem hn
          have dn := drop_cons hn
          have kn := take_snoc hn
          have jn : (i2 + 1).toNat = Int.toNat i2 + 1 := by omega
          have vn := nth_some hn
          have bn := pr.2.2.2 n mn
          obtain ⟨z, hz⟩ := get_ex (xs := out_2) (i := Int.toNat i2) (by omega)
          have hz3 := blankT_at le hz
          rw [← q2] at hz3
          have bz := bb z (get_mem hz)
          refine r_draw m (by kernel_rfl) ?_
          conv => cbv
          refine r_oindex m.sY (by omega) (by omega) ?_
          conv => cbv
          obtain ⟨x2, hx2⟩ := get_ex (xs := out_3) (i := Int.toNat i2) (by omega)
          have mx2 := get_mem hx2
          have dx2 := drop_cons hx2
          have kx2 := take_snoc hx2
          have jx2 : (i2 + 1).toNat = Int.toNat i2 + 1 := by omega
          have vx2 := nth_some hx2
          have ez : x2 = z := Option.some.inj (hx2.symm.trans hz3)
          refine r_oload m.sY hx2 (Nat.le_of_ble_eq_true rfl) ?_
          conv => cbv
          refine r_callFS (PV.int .i64) m.sY (plHigh_ok row) trivial fun r1 hr1 => ?_
          conv => cbv
          refine r_subf m.sY (by omega) (by omega) fun r2 hr2 => ?_
          conv => cbv
          refine r_addf m.sY (by omega) (by omega) fun r3 hr3 => ?_
          conv => cbv
          refine r_oindex m.sY (by omega) (by omega) ?_
          conv => cbv
          obtain ⟨y1, hy1⟩ := get_ex (xs := out_3) (i := Int.toNat i2) (by omega)
          refine r_ostore (l := Int.toNat i2) r3 m.sY hy1 (Nat.le_of_ble_eq_true rfl) rfl fun out_4 hout_4 => ?_   -- out_4 = out_3.set i2 r3
          have lout_4 : (out_4.length : Int) = out_3.length := by rw [hout_4]; first | done | (simp; done) | (simp; omega)
          conv => cbv
          refine r_addf m.sX (by omega) (by omega) fun r4 hr4 => ?_
          conv => cbv
          try have tr4 : Int.toNat r4 = Int.toNat i2 + 1 := by omega
          refine hE2 _ (out_4, r4) ?_ ?_ ⟨(by (try dsimp only); first | omega | (simp only [List.length_nil]; omega) | (simp only [List.length_cons, List.length_nil]; omega)), (by (try dsimp only); first | omega | (simp only [List.length_nil]; omega) | (simp only [List.length_cons, List.length_nil]; omega)), (by (try dsimp only) <;> (rw [hout_4, q2, tr4, blankT_step le hz hn, hr3, ez, hr2, hr1])), (by (try dsimp only) <;> first | omega | rfl | (simp [*]; done) | (rw [ll]; simp [*]; done))⟩ (by first | omega | (dsimp only; omega))
          · cbv
          · cbv
        · have dz_i2 := drop_end (xs := row) (i := Int.toNat i2) (by omega)
          have tz_i2 := take_end (xs := row) (i := Int.toNat i2) (by omega)
          refine hF2 _ _ ?_
          conv => cbv
          refine r_addf m.sX (by omega) (by omega) fun r5 hr5 => ?_
          conv => cbv
          try have tr5 : Int.toNat r5 = Int.toNat i1 + 1 := by omega
          refine hE _ (out_3, r5) ?_ ?_ ⟨(by (try dsimp only); first | omega | (simp only [List.length_nil]; omega) | (simp only [List.length_cons, List.length_nil]; omega)), (by (try dsimp only); first | omega | (simp only [List.length_nil]; omega) | (simp only [List.length_cons, List.length_nil]; omega)), (by (try dsimp only) <;> (rw [q2, tr5, blanksT_step hrow, ← q, blankT_all le (by omega)]))⟩ (by first | omega | (dsimp only; omega))
          · cbv
          · cbv
      · have dz_i1 := drop_end (xs := l) (i := Int.toNat i1) (by omega)
        have tz_i1 := take_end (xs := l) (i := Int.toNat i1) (by omega)
        refine hF _ _ ?_
        conv => cbv
        exact hQ (.fr 3 1 (rows cInt out_2)) (Eq.trans (by first | rfl | (simp only [lb, lbI, rows_cons, rows_nil, unnilT, unnil, unnilTI, unnilI]; done) | (simp only [lb, lbI, rows_cons, rows_nil, unnilT, unnil, unnilTI, unnilI]; rfl)) (congrArg (fun l => PV.fr 3 1 (rows cInt l)) (show out_2 = blanksF l from by rw [q, blanksT_all (by omega)]))))   -- leaf 2

theorem specBlanksOf_ok (l : List (List Int))  : OkA Try.prog 14 [.isl 1 (rows (cSl 1 cInt) l)] (· = (lb 3 1 cInt) (blanksAns l)) :=
  OkA.unnil 3 1 (fn_intro envOk fieldsOk mixed Try.func14 rfl fun κ X Y L Q m hQ => by
    conv => cbv
    refine r_callB m.sX (plGood_ok l) (fun h1 => ?_) (fun h1 => ?_) <;> conv => cbv
    · refine r_callF (fun l => PV.fr _ _ (rows _ l)) m.sX (plBlanks_ok l (by first | rfl | assumption | omega | (simp only [List.length_append, List.length_cons, List.length_nil] at *; omega))) fun v1 hv1 => ?_
      conv => cbv
      exact hQ (.tup [.fr 3 1 (rows cInt v1), .bool true]) (Eq.trans (by first | rfl | (simp only [lb, lbI, rows_cons, rows_nil, unnilT, unnil, unnilTI, unnilI]; done) | (simp only [lb, lbI, rows_cons, rows_nil, unnilT, unnil, unnilTI, unnilI]; rfl)) (congrArg ((lb 3 1 cInt)) (show (v1, true) = blanksAns l from by first | (rw [blanksAns, if_pos h1, hv1]; done) | (rw [blanksAns, if_neg (by rw [h1]; simp)]; done))))   -- leaf 1
    · exact hQ (.tup [.nil, .bool false]) (Eq.trans (by first | rfl | (simp only [lb, lbI, rows_cons, rows_nil, unnilT, unnil, unnilTI, unnilI]; done) | (simp only [lb, lbI, rows_cons, rows_nil, unnilT, unnil, unnilTI, unnilI]; rfl)) (congrArg ((lb 3 1 cInt)) (show ([], false) = blanksAns l from by first | (rw [blanksAns, if_pos h1, hv1]; done) | (rw [blanksAns, if_neg (by rw [h1]; simp)]; done)))))   -- leaf 2

theorem BestJoin_ok (l : List (List Int))  : OkA Try.prog 23 [.isl 1 (rows (cSl 1 cInt) l)] (· = iib (bestAns l)) :=
  fn_intro envOk fieldsOk mixed Try.func23 rfl fun κ X Y L Q m hQ => by
    conv => cbv
    refine r_callB m.sX (isMark_ok l 0) (fun h1 => ?_) (fun h1 => ?_) <;> conv => cbv
    · obtain ⟨hp, hi⟩ := mark_spec h1
      have hl4 := (parB_spec hp).2
      refine r_loopF (α := Int × Int) m 29 [0, 5, 6] [] (fun σ => [(0, .isl 1 (rows (cSl 1 cInt) l)), (5, .int .i64 σ.1), (6, .int .i64 σ.2)]) (fun σ => [])
        (fun σ => (0 ≤ σ.2 ∧ σ.2 + 1 ≤ l.length) ∧ (0 ≤ σ.1 ∧ σ.1 + 1 < l.length) ∧ (σ.1.toNat = bestJ (savedF l) σ.2.toNat)) (fun σ => ((l.length : Int) - σ.2).toNat) (0, 0) ?_ ?_ ?_ ?_
      · cbv
      · cbv
      · exact ⟨(by (try dsimp only) <;> first | omega | rfl | (simp [*]; done)), (by (try dsimp only) <;> first | omega | rfl | (simp [*]; done)), (by (try dsimp only) <;> (rfl))⟩
      rintro ⟨best, i⟩ ⟨ip, bb, bq⟩ E hE F hF
      dsimp only at ip bb bq
      conv => cbv
      refine r_addf m.sX (by omega) (by omega) fun r1 hr1 => ?_
      conv => cbv
      refine r_lenR m.sX fun n1 hn1 mn1 => ?_
      conv => cbv
      refine r_lss m.sX (fun h2 => ?_) (fun h2 => ?_) <;> conv => cbv
      · refine r_callF (PV.int .i64) m.sX (savedBy_ok l i (by first | rfl | assumption | omega | (simp only [List.length_append, List.length_cons, List.length_nil] at *; omega)) (by first | rfl | assumption | omega | (simp only [List.length_append, List.length_cons, List.length_nil] at *; omega))) fun r2 hr2 => ?_
        conv => cbv
        refine r_callF (PV.int .i64) m.sX (savedBy_ok l best (by first | rfl | assumption | omega | (simp only [List.length_append, List.length_cons, List.length_nil] at *; omega)) (by first | rfl | assumption | omega | (simp only [List.length_append, List.length_cons, List.length_nil] at *; omega))) fun r3 hr3 => ?_
        conv => cbv
        refine r_gtr m.sX (fun h3 => ?_) (fun h3 => ?_) <;> conv => cbv
        · refine r_addf m.sX (by omega) (by omega) fun i_2 hi_2 => ?_
          conv => cbv
          refine hE _ (i, i_2) ?_ ?_ ⟨(by (try dsimp only) <;> first | omega | rfl | (simp [*]; done) | (rw [ip]; simp [*]; done)), (by (try dsimp only) <;> first | omega | rfl | (simp [*]; done) | (rw [bb]; simp [*]; done)), (by (try dsimp only) <;> (first | (rw [show i_2.toNat = i.toNat + 1 by omega, bestJ_step bq, if_pos (by rw [← hr2, ← hr3]; omega)]; done) | (rw [show i_3.toNat = i.toNat + 1 by omega, bestJ_step bq, if_neg (by rw [← hr2, ← hr3]; omega)]; done)))⟩ (by first | omega | (dsimp only; omega))
          · cbv
          · cbv
        · refine r_addf m.sX (by omega) (by omega) fun i_3 hi_3 => ?_
          conv => cbv
          refine hE _ (best, i_3) ?_ ?_ ⟨(by (try dsimp only) <;> first | omega | rfl | (simp [*]; done) | (rw [ip]; simp [*]; done)), (by (try dsimp only) <;> first | omega | rfl | (simp [*]; done) | (rw [bb]; simp [*]; done)), (by (try dsimp only) <;> (first | (rw [show i_2.toNat = i.toNat + 1 by omega, bestJ_step bq, if_pos (by rw [← hr2, ← hr3]; omega)]; done) | (rw [show i_3.toNat = i.toNat + 1 by omega, bestJ_step bq, if_neg (by rw [← hr2, ← hr3]; omega)]; done)))⟩ (by first | omega | (dsimp only; omega))
          · cbv
          · cbv
      · refine hF _ _ ?_
        conv => cbv
        refine r_callF (PV.int .i64) m.sX (savedBy_ok l best (by first | rfl | assumption | omega | (simp only [List.length_append, List.length_cons, List.length_nil] at *; omega)) (by first | rfl | assumption | omega | (simp only [List.length_append, List.length_cons, List.length_nil] at *; omega))) fun r4 hr4 => ?_
        conv => cbv
        exact hQ (.tup [.int .i64 best, .int .i64 r4, .bool true]) (Eq.trans (by first | rfl | (simp only [lb, lbI, rows_cons, rows_nil, unnilT, unnil, unnilTI, unnilI]; done) | (simp only [lb, lbI, rows_cons, rows_nil, unnilT, unnil, unnilTI, unnilI]; rfl)) (congrArg (iib) (show (best, r4, true) = bestAns l from by have e : best.toNat = bestI (savedF l) (l.length - 2) := (by rw [bq, show i.toNat = (l.length - 2) + 1 by omega]; rfl); rw [bestAns, if_pos h1, hr4, ← e, show ((best.toNat : Nat) : Int) = best by omega])))   -- leaf 1
    · exact hQ (.tup [.int .i64 0, .int .i64 0, .bool false]) (Eq.trans (by first | rfl | (simp only [lb, lbI, rows_cons, rows_nil, unnilT, unnil, unnilTI, unnilI]; done) | (simp only [lb, lbI, rows_cons, rows_nil, unnilT, unnil, unnilTI, unnilI]; rfl)) (congrArg (iib) (show (0, 0, false) = bestAns l from by rw [bestAns, if_neg (by rw [h1]; simp)])))   -- leaf 2

theorem specBestJoin_ok (l : List (List Int))  : OkA Try.prog 24 [.isl 1 (rows (cSl 1 cInt) l)] (· = iib (bestAns l)) :=
  fn_intro envOk fieldsOk mixed Try.func24 rfl fun κ X Y L Q m hQ => by
    conv => cbv
    refine r_callB m.sX (plGood_ok l) (fun h1 => ?_) (fun h1 => ?_) <;> conv => cbv
    · have hl4 := (parB_spec h1).2
      refine r_lenR m.sX fun n1 hn1 mn1 => ?_
      conv => cbv
      refine r_lss m.sX (fun h2 => ?_) (fun h2 => ?_) <;> conv => cbv
      · exact hQ (.tup [.int .i64 0, .int .i64 0, .bool false]) (Eq.trans (by first | rfl | (simp only [lb, lbI, rows_cons, rows_nil, unnilT, unnil, unnilTI, unnilI]; done) | (simp only [lb, lbI, rows_cons, rows_nil, unnilT, unnil, unnilTI, unnilI]; rfl)) (congrArg (iib) (show (0, 0, false) = bestAns l from by rw [bestAns, if_neg (fun e => by have := (mark_spec e).2; omega)])))   -- leaf 1
      · have hm : markB l 0 = true := mark_of h1 rfl (inB_of (by omega) (by omega))
        refine r_loopF (α := Int × Int) m 34 [0, 5, 6] [] (fun σ => [(0, .isl 1 (rows (cSl 1 cInt) l)), (5, .int .i64 σ.1), (6, .int .i64 σ.2)]) (fun σ => [])
          (fun σ => (0 ≤ σ.2 ∧ σ.2 + 1 ≤ l.length) ∧ (0 ≤ σ.1 ∧ σ.1 + 1 < l.length) ∧ (σ.1.toNat = bestJ (savedF l) σ.2.toNat)) (fun σ => ((l.length : Int) - σ.2).toNat) (0, 0) ?_ ?_ ?_ ?_
        · cbv
        · cbv
        · exact ⟨(by (try dsimp only) <;> first | omega | rfl | (simp [*]; done)), (by (try dsimp only) <;> first | omega | rfl | (simp [*]; done)), (by (try dsimp only) <;> (rfl))⟩
        rintro ⟨best, i⟩ ⟨ip, bb, bq⟩ E hE F hF
        dsimp only at ip bb bq
        conv => cbv
        refine r_lenR m.sX fun n2 hn2 mn2 => ?_
        conv => cbv
        refine r_subf m.sX (by omega) (by omega) fun r1 hr1 => ?_
        conv => cbv
        refine r_lss m.sX (fun h3 => ?_) (fun h3 => ?_) <;> conv => cbv
        · refine r_callF (PV.int .i64) m.sX (plSaved_ok l i (by first | rfl | assumption | omega | (simp only [List.length_append, List.length_cons, List.length_nil] at *; omega)) (by first | rfl | assumption | omega | (simp only [List.length_append, List.length_cons, List.length_nil] at *; omega))) fun r2 hr2 => ?_
          conv => cbv
          refine r_callF (PV.int .i64) m.sX (plSaved_ok l best (by first | rfl | assumption | omega | (simp only [List.length_append, List.length_cons, List.length_nil] at *; omega)) (by first | rfl | assumption | omega | (simp only [List.length_append, List.length_cons, List.length_nil] at *; omega))) fun r3 hr3 => ?_
          conv => cbv
          refine r_gtr m.sX (fun h4 => ?_) (fun h4 => ?_) <;> conv => cbv
          · refine r_addf m.sX (by omega) (by omega) fun i_2 hi_2 => ?_
            conv => cbv
            refine hE _ (i, i_2) ?_ ?_ ⟨(by (try dsimp only) <;> first | omega | rfl | (simp [*]; done) | (rw [ip]; simp [*]; done)), (by (try dsimp only) <;> first | omega | rfl | (simp [*]; done) | (rw [bb]; simp [*]; done)), (by (try dsimp only) <;> (first | (rw [show i_2.toNat = i.toNat + 1 by omega, bestJ_step bq, if_pos (by rw [← hr2, ← hr3]; omega)]; done) | (rw [show i_3.toNat = i.toNat + 1 by omega, bestJ_step bq, if_neg (by rw [← hr2, ← hr3]; omega)]; done)))⟩ (by first | omega | (dsimp only; omega))
            · cbv
            · cbv
          · refine r_addf m.sX (by omega) (by omega) fun i_3 hi_3 => ?_
            conv => cbv
            refine hE _ (best, i_3) ?_ ?_ ⟨(by (try dsimp only) <;> first | omega | rfl | (simp [*]; done) | (rw [ip]; simp [*]; done)), (by (try dsimp only) <;> first | omega | rfl | (simp [*]; done) | (rw [bb]; simp [*]; done)), (by (try dsimp only) <;> (first | (rw [show i_2.toNat = i.toNat + 1 by omega, bestJ_step bq, if_pos (by rw [← hr2, ← hr3]; omega)]; done) | (rw [show i_3.toNat = i.toNat + 1 by omega, bestJ_step bq, if_neg (by rw [← hr2, ← hr3]; omega)]; done)))⟩ (by first | omega | (dsimp only; omega))
            · cbv
            · cbv
        · refine hF _ _ ?_
          conv => cbv
          refine r_callF (PV.int .i64) m.sX (plSaved_ok l best (by first | rfl | assumption | omega | (simp only [List.length_append, List.length_cons, List.length_nil] at *; omega)) (by first | rfl | assumption | omega | (simp only [List.length_append, List.length_cons, List.length_nil] at *; omega))) fun r4 hr4 => ?_
          conv => cbv
          exact hQ (.tup [.int .i64 best, .int .i64 r4, .bool true]) (Eq.trans (by first | rfl | (simp only [lb, lbI, rows_cons, rows_nil, unnilT, unnil, unnilTI, unnilI]; done) | (simp only [lb, lbI, rows_cons, rows_nil, unnilT, unnil, unnilTI, unnilI]; rfl)) (congrArg (iib) (show (best, r4, true) = bestAns l from by have e : best.toNat = bestI (savedF l) (l.length - 2) := (by rw [bq, show i.toNat = (l.length - 2) + 1 by omega]; rfl); rw [bestAns, if_pos hm, hr4, ← e, show ((best.toNat : Nat) : Int) = best by omega])))   -- leaf 2
    · exact hQ (.tup [.int .i64 0, .int .i64 0, .bool false]) (Eq.trans (by first | rfl | (simp only [lb, lbI, rows_cons, rows_nil, unnilT, unnil, unnilTI, unnilI]; done) | (simp only [lb, lbI, rows_cons, rows_nil, unnilT, unnil, unnilTI, unnilI]; rfl)) (congrArg (iib) (show (0, 0, false) = bestAns l from by rw [bestAns, markB, h1]; rfl)))   -- leaf 3

theorem MostBlank_ok (l : List (List Int))  : OkA Try.prog 28 [.isl 1 (rows (cSl 1 cInt) l)] (· = ib (blankAns l)) :=
  fn_intro envOk fieldsOk mixed Try.func28 rfl fun κ X Y L Q m hQ => by
    conv => cbv
    refine r_callF (lb 3 1 cInt) m.sX (BlanksOf_ok l) fun v hblanks => ?_
    obtain ⟨blanks, ok⟩ := v
    conv => cbv
    rcases Bool.eq_false_or_eq_true ok with rfl | rfl <;> conv => cbv
    · obtain ⟨hp, hb⟩ := blanks_spec hblanks
      refine r_lenR m.sX fun n1 hn1 mn1 => ?_
      conv => cbv
      refine r_eql m.sX (fun h1 => ?_) (fun h1 => ?_) <;> conv => cbv
      · exact hQ (.tup [.int .i64 0, .bool false]) (Eq.trans (by first | rfl | (simp only [lb, lbI, rows_cons, rows_nil, unnilT, unnil, unnilTI, unnilI]; done) | (simp only [lb, lbI, rows_cons, rows_nil, unnilT, unnil, unnilTI, unnilI]; rfl)) (congrArg (ib) (show (0, false) = blankAns l from by rw [blankAns, decide_eq_true (show (l.length : Int) = 0 by omega)]; simp)))   -- leaf 1
      · have hd := head_in hp (by omega)
        have hbl := blanksF_len hp
        rw [← hb] at hbl
        refine r_lenR m.sX fun n2 hn2 mn2 => ?_
        conv => cbv
        refine r_loopF (α := Int × Int) m 37 [6, 21, 22, 23] [⟨4, 33, 3, 1, 0⟩] (fun σ => [(4, .osl 33 0), (6, .int .i64 σ.1), (21, .osl 33 0), (22, .int .i64 n2), (23, .int .i64 σ.2)]) (fun σ => [(33, 0, .row 3 1 (rows cInt blanks))])
          (fun σ => (0 ≤ σ.2) ∧ (σ.2 ≤ n2) ∧ (0 ≤ σ.1 ∧ σ.1 < blanks.length) ∧ (σ.1.toNat = bestJ (nth blanks) σ.2.toNat)) (fun σ => (n2 - σ.2).toNat) (0, 0) ?_ ?_ ?_ ?_
        · cbv
        · cbv
        · exact ⟨(by (try dsimp only); first | omega | (simp only [List.length_nil]; omega) | (simp only [List.length_cons, List.length_nil]; omega)), (by (try dsimp only); first | omega | (simp only [List.length_nil]; omega) | (simp only [List.length_cons, List.length_nil]; omega)), (by (try dsimp only) <;> first | omega | rfl | (simp [*]; done)), (by (try dsimp only) <;> (rfl))⟩
        rintro ⟨best, i1⟩ ⟨lo1, hi1, bb, bq⟩ E hE F hF
        dsimp only at lo1 hi1 bb bq
        conv => cbv
        refine r_lss m.sX (fun h2 => ?_) (fun h2 => ?_) <;> conv => cbv
        · refine r_oindex m.sX (by omega) (by omega) ?_
          conv => cbv
          obtain ⟨n, hn⟩ := get_ex (xs := blanks) (i := Int.toNat i1) (by omega)
          have mn := get_mem hn
          have dn := drop_cons hn
          have kn := take_snoc hn
          have jn : (i1 + 1).toNat = Int.toNat i1 + 1 := by omega
          have vn := nth_some hn
          have w1 := nth_some hn
          refine r_oload m.sX hn (Nat.le_of_ble_eq_true rfl) ?_
          conv => cbv
          refine r_oindex m.sX (by omega) (by omega) ?_
          conv => cbv
          obtain ⟨x1, hx1⟩ := get_ex (xs := blanks) (i := Int.toNat best) (by omega)
          have mx1 := get_mem hx1
          have vx1 := nth_some hx1
          have w2 := nth_some hx1
          refine r_oload m.sX hx1 (Nat.le_of_ble_eq_true rfl) ?_
          conv => cbv
          refine r_gtr m.sX (fun h3 => ?_) (fun h3 => ?_) <;> conv => cbv
          · refine r_addf m.sX (by omega) (by omega) fun r1 hr1 => ?_
            conv => cbv
            try have tr1 : Int.toNat r1 = Int.toNat i1 + 1 := by omega
            refine hE _ (i1, r1) ?_ ?_ ⟨(by (try dsimp only); first | omega | (simp only [List.length_nil]; omega) | (simp only [List.length_cons, List.length_nil]; omega)), (by (try dsimp only); first | omega | (simp only [List.length_nil]; omega) | (simp only [List.length_cons, List.length_nil]; omega)), (by (try dsimp only) <;> first | omega | rfl | (simp [*]; done) | (rw [bb]; simp [*]; done)), (by (try dsimp only) <;> (first | (rw [tr1, bestJ_step bq, if_pos (by rw [w1, w2]; omega)]; done) | (rw [tr1, bestJ_step bq, if_neg (by rw [w1, w2]; omega)]; done)))⟩ (by first | omega | (dsimp only; omega))
            · cbv
            · cbv
          · refine r_addf m.sX (by omega) (by omega) fun r2 hr2 => ?_
            conv => cbv
            try have tr2 : Int.toNat r2 = Int.toNat i1 + 1 := by omega
            refine hE _ (best, r2) ?_ ?_ ⟨(by (try dsimp only); first | omega | (simp only [List.length_nil]; omega) | (simp only [List.length_cons, List.length_nil]; omega)), (by (try dsimp only); first | omega | (simp only [List.length_nil]; omega) | (simp only [List.length_cons, List.length_nil]; omega)), (by (try dsimp only) <;> first | omega | rfl | (simp [*]; done) | (rw [bb]; simp [*]; done)), (by (try dsimp only) <;> (first | (rw [tr2, bestJ_step bq, if_pos (by rw [w1, w2]; omega)]; done) | (rw [tr2, bestJ_step bq, if_neg (by rw [w1, w2]; omega)]; done)))⟩ (by first | omega | (dsimp only; omega))
            · cbv
            · cbv
        · have dz_i1 := drop_end (xs := blanks) (i := Int.toNat i1) (by omega)
          have tz_i1 := take_end (xs := blanks) (i := Int.toNat i1) (by omega)
          refine hF _ _ ?_
          conv => cbv
          exact hQ (.tup [.int .i64 best, .bool true]) (Eq.trans (by first | rfl | (simp only [lb, lbI, rows_cons, rows_nil, unnilT, unnil, unnilTI, unnilI]; done) | (simp only [lb, lbI, rows_cons, rows_nil, unnilT, unnil, unnilTI, unnilI]; rfl)) (congrArg (ib) (show (best, true) = blankAns l from by have e : best.toNat = bestI (nth (blanksF l)) (headP l - 1).toNat := (by rw [bq, show i1.toNat = (headP l - 1).toNat + 1 by omega, hb]; rfl); rw [blankAns, hp, decide_eq_false (show ¬ (l.length : Int) = 0 by omega), ← e, show ((best.toNat : Nat) : Int) = best by omega]; rfl)))   -- leaf 2
    · exact hQ (.tup [.int .i64 0, .bool false]) (Eq.trans (by first | rfl | (simp only [lb, lbI, rows_cons, rows_nil, unnilT, unnil, unnilTI, unnilI]; done) | (simp only [lb, lbI, rows_cons, rows_nil, unnilT, unnil, unnilTI, unnilI]; rfl)) (congrArg (ib) (show (0, false) = blankAns l from by rw [blankAns, blanks_no hblanks]; rfl)))   -- leaf 3

theorem specMostBlank_ok (l : List (List Int))  : OkA Try.prog 29 [.isl 1 (rows (cSl 1 cInt) l)] (· = ib (blankAns l)) :=
  fn_intro envOk fieldsOk mixed Try.func29 rfl fun κ X Y L Q m hQ => by
    conv => cbv
    refine r_callB m.sX (plGood_ok l) (fun h1 => ?_) (fun h1 => ?_) <;> conv => cbv
    · refine r_lenR m.sX fun n1 hn1 mn1 => ?_
      conv => cbv
      refine r_eql m.sX (fun h2 => ?_) (fun h2 => ?_) <;> conv => cbv
      · exact hQ (.tup [.int .i64 0, .bool false]) (Eq.trans (by first | rfl | (simp only [lb, lbI, rows_cons, rows_nil, unnilT, unnil, unnilTI, unnilI]; done) | (simp only [lb, lbI, rows_cons, rows_nil, unnilT, unnil, unnilTI, unnilI]; rfl)) (congrArg (ib) (show (0, false) = blankAns l from by rw [blankAns, decide_eq_true (show (l.length : Int) = 0 by omega)]; simp)))   -- leaf 1
      · have hd := head_in h1 (by omega)
        have hbl := blanksF_len h1
        refine r_callF (fun l => PV.fr _ _ (rows _ l)) m.sX (plBlanks_ok l (by first | rfl | assumption | omega | (simp only [List.length_append, List.length_cons, List.length_nil] at *; omega))) fun blanks hblanks => ?_
        conv => cbv
        rw [← hblanks] at hbl
        refine r_lenR m.sX fun n2 hn2 mn2 => ?_
        conv => cbv
        refine r_loopF (α := Int × Int) m 34 [4, 18, 19, 20] [⟨5, 41, 3, 1, 0⟩] (fun σ => [(4, .int .i64 σ.1), (5, .osl 41 0), (18, .osl 41 0), (19, .int .i64 n2), (20, .int .i64 σ.2)]) (fun σ => [(41, 0, .row 3 1 (rows cInt blanks))])
          (fun σ => (0 ≤ σ.2) ∧ (σ.2 ≤ n2) ∧ (0 ≤ σ.1 ∧ σ.1 < blanks.length) ∧ (σ.1.toNat = bestJ (nth blanks) σ.2.toNat)) (fun σ => (n2 - σ.2).toNat) (0, 0) ?_ ?_ ?_ ?_
        · cbv
        · cbv
        · exact ⟨(by (try dsimp only); first | omega | (simp only [List.length_nil]; omega) | (simp only [List.length_cons, List.length_nil]; omega)), (by (try dsimp only); first | omega | (simp only [List.length_nil]; omega) | (simp only [List.length_cons, List.length_nil]; omega)), (by (try dsimp only) <;> first | omega | rfl | (simp [*]; done)), (by (try dsimp only) <;> (rfl))⟩
        rintro ⟨best, i1⟩ ⟨lo1, hi1, bb, bq⟩ E hE F hF
        dsimp only at lo1 hi1 bb bq
        conv => cbv
        refine r_lss m.sX (fun h3 => ?_) (fun h3 => ?_) <;> conv => cbv
        · refine r_oindex m.sX (by omega) (by omega) ?_
          conv => cbv
          obtain ⟨n, hn⟩ := get_ex (xs := blanks) (i := Int.toNat i1) (by omega)
          have mn := get_mem hn
          have dn := drop_cons hn
          have kn := take_snoc hn
          have jn : (i1 + 1).toNat = Int.toNat i1 + 1 := by omega
          have vn := nth_some hn
          have w1 := nth_some hn
          refine r_oload m.sX hn (Nat.le_of_ble_eq_true rfl) ?_
          conv => cbv
          refine r_oindex m.sX (by omega) (by omega) ?_
          conv => cbv
          obtain ⟨x1, hx1⟩ := get_ex (xs := blanks) (i := Int.toNat best) (by omega)
          have mx1 := get_mem hx1
          have vx1 := nth_some hx1
          have w2 := nth_some hx1
          refine r_oload m.sX hx1 (Nat.le_of_ble_eq_true rfl) ?_
          conv => cbv
          refine r_gtr m.sX (fun h4 => ?_) (fun h4 => ?_) <;> conv => cbv
          · refine r_addf m.sX (by omega) (by omega) fun r1 hr1 => ?_
            conv => cbv
            try have tr1 : Int.toNat r1 = Int.toNat i1 + 1 := by omega
            refine hE _ (i1, r1) ?_ ?_ ⟨(by (try dsimp only); first | omega | (simp only [List.length_nil]; omega) | (simp only [List.length_cons, List.length_nil]; omega)), (by (try dsimp only); first | omega | (simp only [List.length_nil]; omega) | (simp only [List.length_cons, List.length_nil]; omega)), (by (try dsimp only) <;> first | omega | rfl | (simp [*]; done) | (rw [bb]; simp [*]; done)), (by (try dsimp only) <;> (first | (rw [tr1, bestJ_step bq, if_pos (by rw [w1, w2]; omega)]; done) | (rw [tr1, bestJ_step bq, if_neg (by rw [w1, w2]; omega)]; done)))⟩ (by first | omega | (dsimp only; omega))
            · cbv
            · cbv
          · refine r_addf m.sX (by omega) (by omega) fun r2 hr2 => ?_
            conv => cbv
            try have tr2 : Int.toNat r2 = Int.toNat i1 + 1 := by omega
            refine hE _ (best, r2) ?_ ?_ ⟨(by (try dsimp only); first | omega | (simp only [List.length_nil]; omega) | (simp only [List.length_cons, List.length_nil]; omega)), (by (try dsimp only); first | omega | (simp only [List.length_nil]; omega) | (simp only [List.length_cons, List.length_nil]; omega)), (by (try dsimp only) <;> first | omega | rfl | (simp [*]; done) | (rw [bb]; simp [*]; done)), (by (try dsimp only) <;> (first | (rw [tr2, bestJ_step bq, if_pos (by rw [w1, w2]; omega)]; done) | (rw [tr2, bestJ_step bq, if_neg (by rw [w1, w2]; omega)]; done)))⟩ (by first | omega | (dsimp only; omega))
            · cbv
            · cbv
        · have dz_i1 := drop_end (xs := blanks) (i := Int.toNat i1) (by omega)
          have tz_i1 := take_end (xs := blanks) (i := Int.toNat i1) (by omega)
          refine hF _ _ ?_
          conv => cbv
          exact hQ (.tup [.int .i64 best, .bool true]) (Eq.trans (by first | rfl | (simp only [lb, lbI, rows_cons, rows_nil, unnilT, unnil, unnilTI, unnilI]; done) | (simp only [lb, lbI, rows_cons, rows_nil, unnilT, unnil, unnilTI, unnilI]; rfl)) (congrArg (ib) (show (best, true) = blankAns l from by have e : best.toNat = bestI (nth (blanksF l)) (headP l - 1).toNat := (by rw [bq, show i1.toNat = (headP l - 1).toNat + 1 by omega, hblanks]; rfl); rw [blankAns, h1, decide_eq_false (show ¬ (l.length : Int) = 0 by omega), ← e, show ((best.toNat : Nat) : Int) = best by omega]; rfl)))   -- leaf 2
    · exact hQ (.tup [.int .i64 0, .bool false]) (Eq.trans (by first | rfl | (simp only [lb, lbI, rows_cons, rows_nil, unnilT, unnil, unnilTI, unnilI]; done) | (simp only [lb, lbI, rows_cons, rows_nil, unnilT, unnil, unnilTI, unnilI]; rfl)) (congrArg (ib) (show (0, false) = blankAns l from by rw [blankAns, h1]; rfl)))   -- leaf 3

theorem SwapColumns_ok (l : List (List Int)) (i : Int) (k : Int)  : OkA Try.prog 26 [.isl 1 (rows (cSl 1 cInt) l), .int .i64 i, .int .i64 k] (· = (lb 30 1 (cSl 1 cInt)) (swapAns l i k)) :=
  OkA.unnil 30 1 (fn_intro envOk fieldsOk mixed Try.func26 rfl fun κ X Y L Q m hQ => by
    conv => cbv
    refine r_callB m.sX (AreParallel_ok l) (fun h1 => ?_) (fun h1 => ?_) <;> conv => cbv
    · have hl4 := parB_spec h1
      refine r_lenR m.sX fun n1 hn1 mn1 => ?_
      conv => cbv
      refine r_eql m.sX (fun h2 => ?_) (fun h2 => ?_) <;> conv => cbv
      · exact hQ (.tup [.fr 30 1 [], .bool false]) (Eq.trans (by first | rfl | (simp only [lb, lbI, rows_cons, rows_nil, unnilT, unnil, unnilTI, unnilI]; done) | (simp only [lb, lbI, rows_cons, rows_nil, unnilT, unnil, unnilTI, unnilI]; rfl)) (congrArg ((lb 30 1 (cSl 1 cInt))) (show ([], false) = swapAns l i k from by first | (rw [swapAns, if_pos hs, q, tz_i1]; done) | (rw [swapAns, if_neg (by rw [swap_no1 hx1 (.inr (by assumption)) (by omega)]; simp)]; done) | (rw [swapAns, if_neg (by rw [swap_no1 hx1 (.inl (by assumption)) (by omega)]; simp)]; done) | (rw [swapAns, swapB, decide_eq_true (show (l.length : Int) = 0 by omega)]; simp) | (rw [swapAns, swapB, h1]; rfl))))   -- leaf 1
      · refine r_index m.sX (by omega) (by omega) fun x1 hx1 => ?_
        conv => cbv
        have mx1 := get_mem hx1
        refine r_lenR m.sX fun n2 hn2 mn2 => ?_
        conv => cbv
        refine r_subf m.sX (by omega) (by omega) fun r1 hr1 => ?_
        conv => cbv
        refine r_callB m.sX (within_ok i 0 r1) (fun h3 => ?_) (fun h3 => ?_) <;> conv => cbv
        · refine r_index m.sX (by omega) (by omega) fun x2 hx2 => ?_
          conv => cbv
          have mx2 := get_mem hx2
          obtain rfl : x1 = x2 := Option.some.inj (hx1.symm.trans hx2)
          refine r_lenR m.sX fun n3 hn3 mn3 => ?_
          conv => cbv
          refine r_subf m.sX (by omega) (by omega) fun r2 hr2 => ?_
          conv => cbv
          refine r_callB m.sX (within_ok k 0 r2) (fun h4 => ?_) (fun h4 => ?_) <;> conv => cbv
          · have hs := swap_head hx1 h1 (by omega) h3 (by omega) h4
            obtain ⟨sb, -, -⟩ := swap_ok hs
            have bi := inB_spec h3
            have bk := inB_spec h4
            refine r_lenR m.sX fun n4 hn4 mn4 => ?_
            conv => cbv
            refine r_loopF (α := List (List Int) × Int) m 71 [1, 2, 42, 43, 44] [⟨8, 65, 30, 1, 0⟩] (fun σ => [(1, .int .i64 i), (2, .int .i64 k), (8, .osl 65 0), (42, .isl 1 (rows (cSl 1 cInt) l)), (43, .int .i64 n4), (44, .int .i64 σ.2)]) (fun σ => [(65, 0, .row 30 1 (rows (cSl 1 cInt) σ.1))])
              (fun σ => (0 ≤ σ.2) ∧ (σ.2 ≤ n4) ∧ (σ.1 = (l.take σ.2.toNat).map (swapR i.toNat k.toNat)) ∧ ((σ.1.length : Int) ≤ σ.2)) (fun σ => (n4 - σ.2).toNat) ([], 0) ?_ ?_ ?_ ?_
            · cbv
            · (try dsimp only); (try simp only [rows_cons, rows_nil]); cbv
            · exact ⟨(by (try dsimp only); first | omega | (simp only [List.length_nil]; omega) | (simp only [List.length_cons, List.length_nil]; omega)), (by (try dsimp only); first | omega | (simp only [List.length_nil]; omega) | (simp only [List.length_cons, List.length_nil]; omega)), (by (try dsimp only) <;> (rfl)), (by (try dsimp only) <;> first | omega | rfl | (simp [*]; done))⟩
            rintro ⟨next, i1⟩ ⟨lo1, hi1, q, ll⟩ E hE F hF
            dsimp only at lo1 hi1 q ll
            conv => cbv
            refine r_lss m.sX (fun h5 => ?_) (fun h5 => ?_) <;> conv => cbv
            · refine r_index m.sX (by omega) (by omega) fun row hrow => ?_
              conv => cbv
              have mrow := get_mem hrow
              have drow := drop_cons hrow
              have krow := take_snoc hrow
              have jrow : (i1 + 1).toNat = Int.toNat i1 + 1 := by omega
              have sr := sb row mrow
              have pr := hl4.1 row mrow
              refine r_append0R m.sX (by first | omega | (dsimp only; omega)) (by first | omega | (dsimp only; omega)) fun other hother => ?_
              conv => cbv
              have lother : (other.length : Int) = row.length := by rw [hother]; first | done | (simp; done) | (simp; omega)
              refine r_draw m (by kernel_rfl) ?_
              conv => cbv
              refine r_index m.sY (by omega) (by omega) fun x3 hx3 => ?_
              conv => cbv
              have mx3 := get_mem hx3
              have vx3 := nth_some hx3
              have w3 := nth_some hx3
              refine r_index m.sY (by omega) (by omega) fun x4 hx4 => ?_
              conv => cbv
              have mx4 := get_mem hx4
              have vx4 := nth_some hx4
              have w4 := nth_some hx4
              refine r_oindex m.sY (by omega) (by omega) ?_
              conv => cbv
              obtain ⟨y1, hy1⟩ := get_ex (xs := other) (i := Int.toNat i) (by omega)
              refine r_ostore (l := Int.toNat i) x3 m.sY hy1 (Nat.le_of_ble_eq_true rfl) rfl fun zs1 hzs1 => ?_   -- zs1 = other.set i x3
              have lzs1 : (zs1.length : Int) = other.length := by rw [hzs1]; first | done | (simp; done) | (simp; omega)
              conv => cbv
              refine r_oindex m.sY (by omega) (by omega) ?_
              conv => cbv
              obtain ⟨y2, hy2⟩ := get_ex (xs := zs1) (i := Int.toNat k) (by omega)
              refine r_ostore (l := Int.toNat k) x4 m.sY hy2 (Nat.le_of_ble_eq_true rfl) rfl fun zs2 hzs2 => ?_   -- zs2 = zs1.set k x4
              have lzs2 : (zs2.length : Int) = zs1.length := by rw [hzs2]; first | done | (simp; done) | (simp; omega)
              conv => cbv
              refine r_append1 (zs2) m.sX rfl (by first | omega | (dsimp only; omega)) (by first | omega | (dsimp only; omega)) fun next_2 hnext_2 => ?_
              conv => cbv
              have lnext_2 : (next_2.length : Int) = next.length + 1 := by rw [hnext_2]; first | done | (simp; done) | (simp; omega)
              refine r_addf m.sX (by omega) (by omega) fun r3 hr3 => ?_
              conv => cbv
              try have tr3 : Int.toNat r3 = Int.toNat i1 + 1 := by omega
              refine hE _ (next_2, r3) ?_ ?_ ⟨(by (try dsimp only); first | omega | (simp only [List.length_nil]; omega) | (simp only [List.length_cons, List.length_nil]; omega)), (by (try dsimp only); first | omega | (simp only [List.length_nil]; omega) | (simp only [List.length_cons, List.length_nil]; omega)), (by (try dsimp only) <;> (rw [hnext_2, q, tr3, map_takeS hrow, hzs2, hzs1, hother, swapR, w3, w4])), (by (try dsimp only) <;> first | omega | rfl | (simp [*]; done) | (rw [ll]; simp [*]; done))⟩ (by first | omega | (dsimp only; omega))
              · cbv
              · cbv
            · have dz_i1 := drop_end (xs := l) (i := Int.toNat i1) (by omega)
              have tz_i1 := take_end (xs := l) (i := Int.toNat i1) (by omega)
              refine hF _ _ ?_
              conv => cbv
              exact hQ (.tup [.fr 30 1 (rows (cSl 1 cInt) next), .bool true]) (Eq.trans (by first | rfl | (simp only [lb, lbI, rows_cons, rows_nil, unnilT, unnil, unnilTI, unnilI]; done) | (simp only [lb, lbI, rows_cons, rows_nil, unnilT, unnil, unnilTI, unnilI]; rfl)) (congrArg ((lb 30 1 (cSl 1 cInt))) (show (next, true) = swapAns l i k from by first | (rw [swapAns, if_pos hs, q, tz_i1]; done) | (rw [swapAns, if_neg (by rw [swap_no1 hx1 (.inr (by assumption)) (by omega)]; simp)]; done) | (rw [swapAns, if_neg (by rw [swap_no1 hx1 (.inl (by assumption)) (by omega)]; simp)]; done) | (rw [swapAns, swapB, decide_eq_true (show (l.length : Int) = 0 by omega)]; simp) | (rw [swapAns, swapB, h1]; rfl))))   -- leaf 2
          · exact hQ (.tup [.fr 30 1 [], .bool false]) (Eq.trans (by first | rfl | (simp only [lb, lbI, rows_cons, rows_nil, unnilT, unnil, unnilTI, unnilI]; done) | (simp only [lb, lbI, rows_cons, rows_nil, unnilT, unnil, unnilTI, unnilI]; rfl)) (congrArg ((lb 30 1 (cSl 1 cInt))) (show ([], false) = swapAns l i k from by first | (rw [swapAns, if_pos hs, q, tz_i1]; done) | (rw [swapAns, if_neg (by rw [swap_no1 hx1 (.inr (by assumption)) (by omega)]; simp)]; done) | (rw [swapAns, if_neg (by rw [swap_no1 hx1 (.inl (by assumption)) (by omega)]; simp)]; done) | (rw [swapAns, swapB, decide_eq_true (show (l.length : Int) = 0 by omega)]; simp) | (rw [swapAns, swapB, h1]; rfl))))   -- leaf 3
        · exact hQ (.tup [.fr 30 1 [], .bool false]) (Eq.trans (by first | rfl | (simp only [lb, lbI, rows_cons, rows_nil, unnilT, unnil, unnilTI, unnilI]; done) | (simp only [lb, lbI, rows_cons, rows_nil, unnilT, unnil, unnilTI, unnilI]; rfl)) (congrArg ((lb 30 1 (cSl 1 cInt))) (show ([], false) = swapAns l i k from by first | (rw [swapAns, if_pos hs, q, tz_i1]; done) | (rw [swapAns, if_neg (by rw [swap_no1 hx1 (.inr (by assumption)) (by omega)]; simp)]; done) | (rw [swapAns, if_neg (by rw [swap_no1 hx1 (.inl (by assumption)) (by omega)]; simp)]; done) | (rw [swapAns, swapB, decide_eq_true (show (l.length : Int) = 0 by omega)]; simp) | (rw [swapAns, swapB, h1]; rfl))))   -- leaf 4
    · exact hQ (.tup [.fr 30 1 [], .bool false]) (Eq.trans (by first | rfl | (simp only [lb, lbI, rows_cons, rows_nil, unnilT, unnil, unnilTI, unnilI]; done) | (simp only [lb, lbI, rows_cons, rows_nil, unnilT, unnil, unnilTI, unnilI]; rfl)) (congrArg ((lb 30 1 (cSl 1 cInt))) (show ([], false) = swapAns l i k from by first | (rw [swapAns, if_pos hs, q, tz_i1]; done) | (rw [swapAns, if_neg (by rw [swap_no1 hx1 (.inr (by assumption)) (by omega)]; simp)]; done) | (rw [swapAns, if_neg (by rw [swap_no1 hx1 (.inl (by assumption)) (by omega)]; simp)]; done) | (rw [swapAns, swapB, decide_eq_true (show (l.length : Int) = 0 by omega)]; simp) | (rw [swapAns, swapB, h1]; rfl)))))   -- leaf 5

theorem specSwapColumns_ok (l : List (List Int)) (i : Int) (k : Int)  : OkA Try.prog 27 [.isl 1 (rows (cSl 1 cInt) l), .int .i64 i, .int .i64 k] (· = (lb 30 1 (cSl 1 cInt)) (swapAns l i k)) :=
  OkA.unnil 30 1 (fn_intro envOk fieldsOk mixed Try.func27 rfl fun κ X Y L Q m hQ => by
    conv => cbv
    refine r_callB m.sX (plGood_ok l) (fun h1 => ?_) (fun h1 => ?_) <;> conv => cbv
    · have hl4 := parB_spec h1
      refine r_lenR m.sX fun n1 hn1 mn1 => ?_
      conv => cbv
      refine r_eql m.sX (fun h2 => ?_) (fun h2 => ?_) <;> conv => cbv
      · exact hQ (.tup [.nil, .bool false]) (Eq.trans (by first | rfl | (simp only [lb, lbI, rows_cons, rows_nil, unnilT, unnil, unnilTI, unnilI]; done) | (simp only [lb, lbI, rows_cons, rows_nil, unnilT, unnil, unnilTI, unnilI]; rfl)) (congrArg ((lb 30 1 (cSl 1 cInt))) (show ([], false) = swapAns l i k from by first | (rw [swapAns, if_pos hs, q, tz_i1]; done) | (rw [swapAns, if_neg (by rw [swap_no1 hx1 (.inr (by assumption)) (by omega)]; simp)]; done) | (rw [swapAns, if_neg (by rw [swap_no1 hx1 (.inl (by assumption)) (by omega)]; simp)]; done) | (rw [swapAns, swapB, decide_eq_true (show (l.length : Int) = 0 by omega)]; simp) | (rw [swapAns, swapB, h1]; rfl))))   -- leaf 1
      · refine r_index m.sX (by omega) (by omega) fun x1 hx1 => ?_
        conv => cbv
        have mx1 := get_mem hx1
        refine r_lenR m.sX fun n2 hn2 mn2 => ?_
        conv => cbv
        refine r_subf m.sX (by omega) (by omega) fun r1 hr1 => ?_
        conv => cbv
        refine r_callB m.sX (l1In_ok i 0 r1) (fun h3 => ?_) (fun h3 => ?_) <;> conv => cbv
        · refine r_index m.sX (by omega) (by omega) fun x2 hx2 => ?_
          conv => cbv
          have mx2 := get_mem hx2
          obtain rfl : x1 = x2 := Option.some.inj (hx1.symm.trans hx2)
          refine r_lenR m.sX fun n3 hn3 mn3 => ?_
          conv => cbv
          refine r_subf m.sX (by omega) (by omega) fun r2 hr2 => ?_
          conv => cbv
          refine r_callB m.sX (l1In_ok k 0 r2) (fun h4 => ?_) (fun h4 => ?_) <;> conv => cbv
          · have hs := swap_head hx1 h1 (by omega) h3 (by omega) h4
            obtain ⟨sb, -, -⟩ := swap_ok hs
            have bi := inB_spec h3
            have bk := inB_spec h4
            refine r_lenR m.sX fun n4 hn4 mn4 => ?_
            conv => cbv
            refine r_loopF (α := List (List Int) × Int) m 68 [1, 2, 40, 41, 42] [⟨8, 65, 30, 1, 0⟩] (fun σ => [(1, .int .i64 i), (2, .int .i64 k), (8, .osl 65 0), (40, .isl 1 (rows (cSl 1 cInt) l)), (41, .int .i64 n4), (42, .int .i64 σ.2)]) (fun σ => [(65, 0, .row 30 1 (rows (cSl 1 cInt) σ.1))])
              (fun σ => (0 ≤ σ.2) ∧ (σ.2 ≤ n4) ∧ (σ.1 = (l.take σ.2.toNat).map (swapR i.toNat k.toNat)) ∧ ((σ.1.length : Int) ≤ σ.2)) (fun σ => (n4 - σ.2).toNat) ([], 0) ?_ ?_ ?_ ?_
            · cbv
            · (try dsimp only); (try simp only [rows_cons, rows_nil]); cbv
            · exact ⟨(by (try dsimp only); first | omega | (simp only [List.length_nil]; omega) | (simp only [List.length_cons, List.length_nil]; omega)), (by (try dsimp only); first | omega | (simp only [List.length_nil]; omega) | (simp only [List.length_cons, List.length_nil]; omega)), (by (try dsimp only) <;> (rfl)), (by (try dsimp only) <;> first | omega | rfl | (simp [*]; done))⟩
            rintro ⟨out, i1⟩ ⟨lo1, hi1, q, ll⟩ E hE F hF
            dsimp only at lo1 hi1 q ll
            conv => cbv
            refine r_lss m.sX (fun h5 => ?_) (fun h5 => ?_) <;> conv => cbv
            · refine r_index m.sX (by omega) (by omega) fun row hrow => ?_
              conv => cbv
              have mrow := get_mem hrow
              have drow := drop_cons hrow
              have krow := take_snoc hrow
              have jrow : (i1 + 1).toNat = Int.toNat i1 + 1 := by omega
              have sr := sb row mrow
              have pr := hl4.1 row mrow
              refine r_callF (fun l => PV.fr _ _ (rows _ l)) m.sX (l1Own_ok row (by first | rfl | assumption | omega | (simp only [List.length_append, List.length_cons, List.length_nil] at *; omega))) fun next hnext => ?_
              conv => cbv
              have nl : (next.length : Int) = row.length := (by rw [hnext])
              refine r_index m.sX (by omega) (by omega) fun x3 hx3 => ?_
              conv => cbv
              have mx3 := get_mem hx3
              have vx3 := nth_some hx3
              have w3 := nth_some hx3
              refine r_oindex m.sX (by omega) (by omega) ?_
              conv => cbv
              obtain ⟨y1, hy1⟩ := get_ex (xs := next) (i := Int.toNat i) (by omega)
              refine r_ostore (l := Int.toNat i) x3 m.sX hy1 (Nat.le_of_ble_eq_true rfl) rfl fun zs1 hzs1 => ?_   -- zs1 = next.set i x3
              have lzs1 : (zs1.length : Int) = next.length := by rw [hzs1]; first | done | (simp; done) | (simp; omega)
              conv => cbv
              refine r_index m.sX (by omega) (by omega) fun x4 hx4 => ?_
              conv => cbv
              have mx4 := get_mem hx4
              have vx4 := nth_some hx4
              have w4 := nth_some hx4
              refine r_oindex m.sX (by omega) (by omega) ?_
              conv => cbv
              obtain ⟨y2, hy2⟩ := get_ex (xs := zs1) (i := Int.toNat k) (by omega)
              refine r_ostore (l := Int.toNat k) x4 m.sX hy2 (Nat.le_of_ble_eq_true rfl) rfl fun zs2 hzs2 => ?_   -- zs2 = zs1.set k x4
              have lzs2 : (zs2.length : Int) = zs1.length := by rw [hzs2]; first | done | (simp; done) | (simp; omega)
              conv => cbv
              refine r_append1 (zs2) m.sX rfl (by first | omega | (dsimp only; omega)) (by first | omega | (dsimp only; omega)) fun out_2 hout_2 => ?_
              conv => cbv
              have lout_2 : (out_2.length : Int) = out.length + 1 := by rw [hout_2]; first | done | (simp; done) | (simp; omega)
              refine r_addf m.sX (by omega) (by omega) fun r3 hr3 => ?_
              conv => cbv
              try have tr3 : Int.toNat r3 = Int.toNat i1 + 1 := by omega
              refine hE _ (out_2, r3) ?_ ?_ ⟨(by (try dsimp only); first | omega | (simp only [List.length_nil]; omega) | (simp only [List.length_cons, List.length_nil]; omega)), (by (try dsimp only); first | omega | (simp only [List.length_nil]; omega) | (simp only [List.length_cons, List.length_nil]; omega)), (by (try dsimp only) <;> (rw [hout_2, q, tr3, map_takeS hrow, hzs2, hzs1, hnext, swapR, w3, w4])), (by (try dsimp only) <;> first | omega | rfl | (simp [*]; done) | (rw [ll]; simp [*]; done))⟩ (by first | omega | (dsimp only; omega))
              · cbv
              · cbv
            · have dz_i1 := drop_end (xs := l) (i := Int.toNat i1) (by omega)
              have tz_i1 := take_end (xs := l) (i := Int.toNat i1) (by omega)
              refine hF _ _ ?_
              conv => cbv
              exact hQ (.tup [.fr 30 1 (rows (cSl 1 cInt) out), .bool true]) (Eq.trans (by first | rfl | (simp only [lb, lbI, rows_cons, rows_nil, unnilT, unnil, unnilTI, unnilI]; done) | (simp only [lb, lbI, rows_cons, rows_nil, unnilT, unnil, unnilTI, unnilI]; rfl)) (congrArg ((lb 30 1 (cSl 1 cInt))) (show (out, true) = swapAns l i k from by first | (rw [swapAns, if_pos hs, q, tz_i1]; done) | (rw [swapAns, if_neg (by rw [swap_no1 hx1 (.inr (by assumption)) (by omega)]; simp)]; done) | (rw [swapAns, if_neg (by rw [swap_no1 hx1 (.inl (by assumption)) (by omega)]; simp)]; done) | (rw [swapAns, swapB, decide_eq_true (show (l.length : Int) = 0 by omega)]; simp) | (rw [swapAns, swapB, h1]; rfl))))   -- leaf 2
          · exact hQ (.tup [.nil, .bool false]) (Eq.trans (by first | rfl | (simp only [lb, lbI, rows_cons, rows_nil, unnilT, unnil, unnilTI, unnilI]; done) | (simp only [lb, lbI, rows_cons, rows_nil, unnilT, unnil, unnilTI, unnilI]; rfl)) (congrArg ((lb 30 1 (cSl 1 cInt))) (show ([], false) = swapAns l i k from by first | (rw [swapAns, if_pos hs, q, tz_i1]; done) | (rw [swapAns, if_neg (by rw [swap_no1 hx1 (.inr (by assumption)) (by omega)]; simp)]; done) | (rw [swapAns, if_neg (by rw [swap_no1 hx1 (.inl (by assumption)) (by omega)]; simp)]; done) | (rw [swapAns, swapB, decide_eq_true (show (l.length : Int) = 0 by omega)]; simp) | (rw [swapAns, swapB, h1]; rfl))))   -- leaf 3
        · exact hQ (.tup [.nil, .bool false]) (Eq.trans (by first | rfl | (simp only [lb, lbI, rows_cons, rows_nil, unnilT, unnil, unnilTI, unnilI]; done) | (simp only [lb, lbI, rows_cons, rows_nil, unnilT, unnil, unnilTI, unnilI]; rfl)) (congrArg ((lb 30 1 (cSl 1 cInt))) (show ([], false) = swapAns l i k from by first | (rw [swapAns, if_pos hs, q, tz_i1]; done) | (rw [swapAns, if_neg (by rw [swap_no1 hx1 (.inr (by assumption)) (by omega)]; simp)]; done) | (rw [swapAns, if_neg (by rw [swap_no1 hx1 (.inl (by assumption)) (by omega)]; simp)]; done) | (rw [swapAns, swapB, decide_eq_true (show (l.length : Int) = 0 by omega)]; simp) | (rw [swapAns, swapB, h1]; rfl))))   -- leaf 4
    · exact hQ (.tup [.nil, .bool false]) (Eq.trans (by first | rfl | (simp only [lb, lbI, rows_cons, rows_nil, unnilT, unnil, unnilTI, unnilI]; done) | (simp only [lb, lbI, rows_cons, rows_nil, unnilT, unnil, unnilTI, unnilI]; rfl)) (congrArg ((lb 30 1 (cSl 1 cInt))) (show ([], false) = swapAns l i k from by first | (rw [swapAns, if_pos hs, q, tz_i1]; done) | (rw [swapAns, if_neg (by rw [swap_no1 hx1 (.inr (by assumption)) (by omega)]; simp)]; done) | (rw [swapAns, if_neg (by rw [swap_no1 hx1 (.inl (by assumption)) (by omega)]; simp)]; done) | (rw [swapAns, swapB, decide_eq_true (show (l.length : Int) = 0 by omega)]; simp) | (rw [swapAns, swapB, h1]; rfl)))))   -- leaf 5

theorem JoinRows_ok (l : List (List Int)) (i : Int)  : OkA Try.prog 20 [.isl 1 (rows (cSl 1 cInt) l), .int .i64 i] (· = (lb 30 1 (cSl 1 cInt)) (joinAns l i)) :=
  OkA.unnil 30 1 (fn_intro envOk fieldsOk mixed Try.func20 rfl fun κ X Y L Q m hQ => by
    conv => cbv
    refine r_callB m.sX (isMark_ok l i) (fun h1 => ?_) (fun h1 => ?_) <;> conv => cbv
    · obtain ⟨hp, hi⟩ := mark_spec h1
      have hl4 := parB_spec hp
      refine r_lenR m.sX fun n1 hn1 mn1 => ?_
      conv => cbv
      refine r_loopF (α := List (List Int) × Int) m 52 [0, 1, 15, 16, 17] [⟨6, 49, 30, 1, 0⟩] (fun σ => [(0, .isl 1 (rows (cSl 1 cInt) l)), (1, .int .i64 i), (6, .osl 49 0), (15, .isl 1 (rows (cSl 1 cInt) l)), (16, .int .i64 n1), (17, .int .i64 σ.2)]) (fun σ => [(49, 0, .row 30 1 (rows (cSl 1 cInt) σ.1))])
        (fun σ => (0 ≤ σ.2) ∧ (σ.2 ≤ n1) ∧ (σ.1 = joinT l i.toNat σ.2.toNat) ∧ ((σ.1.length : Int) ≤ σ.2)) (fun σ => (n1 - σ.2).toNat) ([], 0) ?_ ?_ ?_ ?_
      · cbv
      · (try dsimp only); (try simp only [rows_cons, rows_nil]); cbv
      · exact ⟨(by (try dsimp only); first | omega | (simp only [List.length_nil]; omega) | (simp only [List.length_cons, List.length_nil]; omega)), (by (try dsimp only); first | omega | (simp only [List.length_nil]; omega) | (simp only [List.length_cons, List.length_nil]; omega)), (by (try dsimp only) <;> (unfold joinT; rw [if_pos (by omega)]; rfl)), (by (try dsimp only) <;> first | omega | rfl | (simp [*]; done))⟩
      rintro ⟨next, i1⟩ ⟨lo1, hi1, q, ll⟩ E hE F hF
      dsimp only at lo1 hi1 q ll
      conv => cbv
      refine r_lss m.sX (fun h2 => ?_) (fun h2 => ?_) <;> conv => cbv
      · refine r_index m.sX (by omega) (by omega) fun row hrow => ?_
        conv => cbv
        have mrow := get_mem hrow
        have drow := drop_cons hrow
        have krow := take_snoc hrow
        have jrow : (i1 + 1).toNat = Int.toNat i1 + 1 := by omega
        have pr := hl4.1 row mrow
        refine r_eql m.sX (fun h3 => ?_) (fun h3 => ?_) <;> conv => cbv
        · refine r_addf m.sX (by omega) (by omega) fun r1 hr1 => ?_
          conv => cbv
          refine r_index m.sX (by omega) (by omega) fun x1 hx1 => ?_
          conv => cbv
          have mx1 := get_mem hx1
          have hx1b : l[i.toNat + 1]? = some x1 := (by rw [show i.toNat + 1 = r1.toNat by omega]; exact hx1)
          obtain ⟨j1, j2, j3, j4⟩ := par_rows hp hrow hx1
          refine r_callF (fun l => PV.fr _ _ (rows _ l)) m.sX (joined_ok row x1 (by first | rfl | assumption | omega | (simp only [List.length_append, List.length_cons, List.length_nil] at *; omega)) (by first | rfl | assumption | omega | (simp only [List.length_append, List.length_cons, List.length_nil] at *; omega)) (by first | rfl | assumption | omega | (simp only [List.length_append, List.length_cons, List.length_nil] at *; omega)) (by first | rfl | assumption | omega | (simp only [List.length_append, List.length_cons, List.length_nil] at *; omega))) fun v1 hv1 => ?_
          conv => cbv
          refine r_append1 (v1) m.sX rfl (by first | omega | (dsimp only; omega)) (by first | omega | (dsimp only; omega)) fun next_2 hnext_2 => ?_
          conv => cbv
          have lnext_2 : (next_2.length : Int) = next.length + 1 := by rw [hnext_2]; first | done | (simp; done) | (simp; omega)
          refine r_addf m.sX (by omega) (by omega) fun r2 hr2 => ?_
          conv => cbv
          try have tr2 : Int.toNat r2 = Int.toNat i1 + 1 := by omega
          refine hE _ (next_2, r2) ?_ ?_ ⟨(by (try dsimp only); first | omega | (simp only [List.length_nil]; omega) | (simp only [List.length_cons, List.length_nil]; omega)), (by (try dsimp only); first | omega | (simp only [List.length_nil]; omega) | (simp only [List.length_cons, List.length_nil]; omega)), (by (try dsimp only) <;> (first | (rw [hnext_2, q, tr2, hv1, show i1.toNat = i.toNat by omega, joinT_mid (show l[i.toNat]? = some row by rw [show i.toNat = i1.toNat by omega]; exact hrow) hx1b]; done) | (rw [q, tr2, show i1.toNat = i.toNat + 1 by omega, joinT_skip]; done) | (rw [hnext_3, q, tr2, hzs1]; rcases Int.lt_or_lt_of_ne h3 with z | z; (rw [joinT_low (by omega) hrow]); (rw [joinT_high (by omega) hrow])))), (by (try dsimp only) <;> first | omega | rfl | (simp [*]; done) | (rw [ll]; simp [*]; done))⟩ (by first | omega | (dsimp only; omega))
          · cbv
          · cbv
        · refine r_addf m.sX (by omega) (by omega) fun r3 hr3 => ?_
          conv => cbv
          refine r_eql m.sX (fun h4 => ?_) (fun h4 => ?_) <;> conv => cbv
          · refine r_addf m.sX (by omega) (by omega) fun r4 hr4 => ?_
            conv => cbv
            try have tr4 : Int.toNat r4 = Int.toNat i1 + 1 := by omega
            refine hE _ (next, r4) ?_ ?_ ⟨(by (try dsimp only); first | omega | (simp only [List.length_nil]; omega) | (simp only [List.length_cons, List.length_nil]; omega)), (by (try dsimp only); first | omega | (simp only [List.length_nil]; omega) | (simp only [List.length_cons, List.length_nil]; omega)), (by (try dsimp only) <;> (first | (rw [hnext_2, q, tr4, hv1, show i1.toNat = i.toNat by omega, joinT_mid (show l[i.toNat]? = some row by rw [show i.toNat = i1.toNat by omega]; exact hrow) hx1b]; done) | (rw [q, tr4, show i1.toNat = i.toNat + 1 by omega, joinT_skip]; done) | (rw [hnext_3, q, tr4, hzs1]; rcases Int.lt_or_lt_of_ne h3 with z | z; (rw [joinT_low (by omega) hrow]); (rw [joinT_high (by omega) hrow])))), (by (try dsimp only) <;> first | omega | rfl | (simp [*]; done) | (rw [ll]; simp [*]; done))⟩ (by first | omega | (dsimp only; omega))
            · cbv
            · cbv
          · refine r_append0R m.sX (by first | omega | (dsimp only; omega)) (by first | omega | (dsimp only; omega)) fun zs1 hzs1 => ?_
            conv => cbv
            have lzs1 : (zs1.length : Int) = row.length := by rw [hzs1]; first | done | (simp; done) | (simp; omega)
            refine r_append1 (zs1) m.sX rfl (by first | omega | (dsimp only; omega)) (by first | omega | (dsimp only; omega)) fun next_3 hnext_3 => ?_
            conv => cbv
            have lnext_3 : (next_3.length : Int) = next.length + 1 := by rw [hnext_3]; first | done | (simp; done) | (simp; omega)
            refine r_addf m.sX (by omega) (by omega) fun r5 hr5 => ?_
            conv => cbv
            try have tr5 : Int.toNat r5 = Int.toNat i1 + 1 := by omega
            refine hE _ (next_3, r5) ?_ ?_ ⟨(by (try dsimp only); first | omega | (simp only [List.length_nil]; omega) | (simp only [List.length_cons, List.length_nil]; omega)), (by (try dsimp only); first | omega | (simp only [List.length_nil]; omega) | (simp only [List.length_cons, List.length_nil]; omega)), (by (try dsimp only) <;> (first | (rw [hnext_2, q, tr5, hv1, show i1.toNat = i.toNat by omega, joinT_mid (show l[i.toNat]? = some row by rw [show i.toNat = i1.toNat by omega]; exact hrow) hx1b]; done) | (rw [q, tr5, show i1.toNat = i.toNat + 1 by omega, joinT_skip]; done) | (rw [hnext_3, q, tr5, hzs1]; rcases Int.lt_or_lt_of_ne h3 with z | z; (rw [joinT_low (by omega) hrow]); (rw [joinT_high (by omega) hrow])))), (by (try dsimp only) <;> first | omega | rfl | (simp [*]; done) | (rw [ll]; simp [*]; done))⟩ (by first | omega | (dsimp only; omega))
            · cbv
            · cbv
      · have e : next = joinF l i.toNat := (by rw [q, joinT_all (by omega) (by omega)])
        have dz_i1 := drop_end (xs := l) (i := Int.toNat i1) (by omega)
        have tz_i1 := take_end (xs := l) (i := Int.toNat i1) (by omega)
        refine hF _ _ ?_
        conv => cbv
        refine .inl (r_callBO m.sX ((AreParallel_ok next).ok flat_bool) (fun h5 => ?_) (fun h5 => ?_)) <;> conv => cbv
        · exact hQ (.tup [.fr 30 1 (rows (cSl 1 cInt) next), .bool true]) (Eq.trans (by first | rfl | (simp only [lb, lbI, rows_cons, rows_nil, unnilT, unnil, unnilTI, unnilI]; done) | (simp only [lb, lbI, rows_cons, rows_nil, unnilT, unnil, unnilTI, unnilI]; rfl)) (congrArg ((lb 30 1 (cSl 1 cInt))) (show (next, true) = joinAns l i from by rw [joinAns, h1, ← e, h5]; rfl)))   -- leaf 1
        · exact hQ (.tup [.fr 30 1 [], .bool false]) (Eq.trans (by first | rfl | (simp only [lb, lbI, rows_cons, rows_nil, unnilT, unnil, unnilTI, unnilI]; done) | (simp only [lb, lbI, rows_cons, rows_nil, unnilT, unnil, unnilTI, unnilI]; rfl)) (congrArg ((lb 30 1 (cSl 1 cInt))) (show ([], false) = joinAns l i from by rw [joinAns, ← e, h5]; simp)))   -- leaf 2
    · exact hQ (.tup [.fr 30 1 [], .bool false]) (Eq.trans (by first | rfl | (simp only [lb, lbI, rows_cons, rows_nil, unnilT, unnil, unnilTI, unnilI]; done) | (simp only [lb, lbI, rows_cons, rows_nil, unnilT, unnil, unnilTI, unnilI]; rfl)) (congrArg ((lb 30 1 (cSl 1 cInt))) (show ([], false) = joinAns l i from by rw [joinAns, h1]; rfl))))   -- leaf 3

theorem specJoinRows_ok (l : List (List Int)) (i : Int)  : OkA Try.prog 21 [.isl 1 (rows (cSl 1 cInt) l), .int .i64 i] (· = (lb 30 1 (cSl 1 cInt)) (joinAns l i)) :=
  OkA.unnil 30 1 (fn_intro envOk fieldsOk mixed Try.func21 rfl fun κ X Y L Q m hQ => by
    conv => cbv
    refine r_callB m.sX (plGood_ok l) (fun h1 => ?_) (fun h1 => ?_) <;> conv => cbv
    · have hl4 := parB_spec h1
      refine r_lenR m.sX fun n1 hn1 mn1 => ?_
      conv => cbv
      refine r_subf m.sX (by omega) (by omega) fun r1 hr1 => ?_
      conv => cbv
      refine r_callB m.sX (l1In_ok i 0 r1) (fun h2 => ?_) (fun h2 => ?_) <;> conv => cbv
      · have hm := mark_of h1 (by omega) h2
        obtain ⟨hp, hi⟩ := mark_spec hm
        refine r_callF (fun l => PV.fr _ _ (rows _ l)) m.sX (plJoin_ok l i (by first | rfl | assumption | omega | (simp only [List.length_append, List.length_cons, List.length_nil] at *; omega)) (by first | rfl | assumption | omega | (simp only [List.length_append, List.length_cons, List.length_nil] at *; omega))) fun v1 hv1 => ?_
        conv => cbv
        have js := join_small hp i.toNat
        rw [← hv1] at js
        refine r_lenR m.sX fun n2 hn2 mn2 => ?_
        conv => cbv
        refine r_loopF (α := List (List Int) × Int) m 38 [23, 24] [⟨6, 49, 30, 1, 0⟩, ⟨22, 177, 30, 1, 0⟩] (fun σ => [(6, .osl 49 0), (22, .osl 177 0), (23, .int .i64 n2), (24, .int .i64 σ.2)]) (fun σ => [(49, 0, .row 30 1 (rows (cSl 1 cInt) σ.1)), (177, 0, .row 30 1 (rows (cSl 1 cInt) v1))])
          (fun σ => (0 ≤ σ.2) ∧ (σ.2 ≤ n2) ∧ (σ.1 = v1.take σ.2.toNat) ∧ ((σ.1.length : Int) ≤ σ.2)) (fun σ => (n2 - σ.2).toNat) ([], 0) ?_ ?_ ?_ ?_
        · cbv
        · (try dsimp only); (try simp only [rows_cons, rows_nil]); cbv
        · exact ⟨(by (try dsimp only); first | omega | (simp only [List.length_nil]; omega) | (simp only [List.length_cons, List.length_nil]; omega)), (by (try dsimp only); first | omega | (simp only [List.length_nil]; omega) | (simp only [List.length_cons, List.length_nil]; omega)), (by (try dsimp only) <;> (rfl)), (by (try dsimp only) <;> first | omega | rfl | (simp [*]; done))⟩
        rintro ⟨out, i1⟩ ⟨lo1, hi1, q, ll⟩ E hE F hF
        dsimp only at lo1 hi1 q ll
        conv => cbv
        refine r_lss m.sX (fun h3 => ?_) (fun h3 => ?_) <;> conv => cbv
        · refine r_oindex m.sX (by omega) (by omega) ?_
          conv => cbv
          obtain ⟨row, hrow⟩ := get_ex (xs := v1) (i := Int.toNat i1) (by omega)
          have mrow := get_mem hrow
          have drow := drop_cons hrow
          have krow := take_snoc hrow
          have jrow : (i1 + 1).toNat = Int.toNat i1 + 1 := by omega
          have rl : row.length ≤ 1099511627776 := row_small hp (by rw [← hv1]; exact get_mem hrow)
          refine r_oload m.sX hrow (Nat.le_of_ble_eq_true rfl) ?_
          conv => cbv
          refine r_callF (fun l => PV.fr _ _ (rows _ l)) m.sX (l1Own_ok row (by first | rfl | assumption | omega | (simp only [List.length_append, List.length_cons, List.length_nil] at *; omega))) fun v2 hv2 => ?_
          conv => cbv
          refine r_append1 (v2) m.sX rfl (by first | omega | (dsimp only; omega)) (by first | omega | (dsimp only; omega)) fun out_2 hout_2 => ?_
          conv => cbv
          have lout_2 : (out_2.length : Int) = out.length + 1 := by rw [hout_2]; first | done | (simp; done) | (simp; omega)
          refine r_addf m.sX (by omega) (by omega) fun r2 hr2 => ?_
          conv => cbv
          try have tr2 : Int.toNat r2 = Int.toNat i1 + 1 := by omega
          refine hE _ (out_2, r2) ?_ ?_ ⟨(by (try dsimp only); first | omega | (simp only [List.length_nil]; omega) | (simp only [List.length_cons, List.length_nil]; omega)), (by (try dsimp only); first | omega | (simp only [List.length_nil]; omega) | (simp only [List.length_cons, List.length_nil]; omega)), (by (try dsimp only) <;> (rw [hout_2, q, tr2, take_snoc hrow, hv2])), (by (try dsimp only) <;> first | omega | rfl | (simp [*]; done) | (rw [ll]; simp [*]; done))⟩ (by first | omega | (dsimp only; omega))
          · cbv
          · cbv
        · have e : out = joinF l i.toNat := (by rw [q, List.take_of_length_le (by omega), hv1])
          have dz_i1 := drop_end (xs := v1) (i := Int.toNat i1) (by omega)
          have tz_i1 := take_end (xs := v1) (i := Int.toNat i1) (by omega)
          refine hF _ _ ?_
          conv => cbv
          refine .inl (r_callBO m.sX ((plGood_ok out).ok flat_bool) (fun h4 => ?_) (fun h4 => ?_)) <;> conv => cbv
          · exact hQ (.tup [.fr 30 1 (rows (cSl 1 cInt) out), .bool true]) (Eq.trans (by first | rfl | (simp only [lb, lbI, rows_cons, rows_nil, unnilT, unnil, unnilTI, unnilI]; done) | (simp only [lb, lbI, rows_cons, rows_nil, unnilT, unnil, unnilTI, unnilI]; rfl)) (congrArg ((lb 30 1 (cSl 1 cInt))) (show (out, true) = joinAns l i from by rw [joinAns, hm, ← e, h4]; rfl)))   -- leaf 1
          · exact hQ (.tup [.nil, .bool false]) (Eq.trans (by first | rfl | (simp only [lb, lbI, rows_cons, rows_nil, unnilT, unnil, unnilTI, unnilI]; done) | (simp only [lb, lbI, rows_cons, rows_nil, unnilT, unnil, unnilTI, unnilI]; rfl)) (congrArg ((lb 30 1 (cSl 1 cInt))) (show ([], false) = joinAns l i from by rw [joinAns, ← e, h4]; simp)))   -- leaf 2
      · exact hQ (.tup [.nil, .bool false]) (Eq.trans (by first | rfl | (simp only [lb, lbI, rows_cons, rows_nil, unnilT, unnil, unnilTI, unnilI]; done) | (simp only [lb, lbI, rows_cons, rows_nil, unnilT, unnil, unnilTI, unnilI]; rfl)) (congrArg ((lb 30 1 (cSl 1 cInt))) (show ([], false) = joinAns l i from by rw [joinAns, mark_no (by omega) h2]; rfl)))   -- leaf 3
    · exact hQ (.tup [.nil, .bool false]) (Eq.trans (by first | rfl | (simp only [lb, lbI, rows_cons, rows_nil, unnilT, unnil, unnilTI, unnilI]; done) | (simp only [lb, lbI, rows_cons, rows_nil, unnilT, unnil, unnilTI, unnilI]; rfl)) (congrArg ((lb 30 1 (cSl 1 cInt))) (show ([], false) = joinAns l i from by rw [joinAns, markB, h1]; rfl))))   -- leaf 4

end Go.Proofs.Ytifkjlpkhfldoaa.Ai
