/- Contracts of spec.plChoose, spec.LeaveMarks. -/
import Derived.Test.YtalookmhhkojeaaMarks
import Derived.Test.YtalookmhhkojeaaCommon
import Derived.Test.YtalookmhhkojeaaNilI
namespace Go.Proofs.Ytalookmhhkojeaa.Ai
open Go Go.Proofs
set_option linter.unusedSimpArgs false
set_option maxRecDepth 10000
set_option maxHeartbeats 4000000
set_option linter.unusedVariables false
def chT (n : Nat) (h : List Int → Int) (k f : Nat) (ms : List Int) (i : Nat) : List Int × Int := (List.range' f (i - f)).foldl (fun s i => mergeM s (chooseS n h k (i + 1) (ms ++ [(i : Int)]))) ([], -1)
theorem chT_step {n : Nat} {h : List Int → Int} {k f : Nat} {ms : List Int} {i : Nat} (hf : f ≤ i) : chT n h k f ms (i + 1) = mergeM (chT n h k f ms i) (chooseS n h k (i + 1) (ms ++ [(i : Int)])) := by
  unfold chT
  rw [show i + 1 - f = (i - f) + 1 by omega, List.range'_1_concat, List.foldl_append, show f + (i - f) = i by omega]; rfl
theorem chT_all {n : Nat} {h : List Int → Int} {k f : Nat} {ms : List Int} {i : Nat} (hi : i - f = n - 1 - f) : chT n h k f ms i = chooseS n h (k + 1) f ms := by
  unfold chT; rw [hi, chooseS]
theorem plChoose_body (l : List (List Int)) (marks : List Int) (from_ : Int) (k : Int) (hp : parB l = true) (hm : MarksOk l.length marks) (hf : ∀ m ∈ marks, m < from_) (hk : 0 ≤ k ∧ (marks.length : Int) + k ≤ 4) (h0 : 0 ≤ from_ ∧ from_ ≤ l.length) (ih : 0 < k → ∀ (ms : List Int) (f j : Int), j = k - 1 → (MarksOk l.length ms ∧ (∀ m ∈ ms, m < f)) → 0 ≤ f → f ≤ l.length → (ms.length : Int) = marks.length + 1 → OkA Try.prog 67 [.isl 1 (rows (cSl 1 cInt) l), .isl 1 (rows cInt ms), .int .i64 f, .int .i64 j] (· = liI 1 cInt (chooseS l.length (leftF l) (k.toNat - 1) f.toNat ms))) : OkA Try.prog 67 [.isl 1 (rows (cSl 1 cInt) l), .isl 1 (rows cInt marks), .int .i64 from_, .int .i64 k] (· = (liI 1 cInt) (chooseS l.length (leftF l) k.toNat from_.toNat marks)) :=
  OkA.unnil 3 1 (fn_intro envOk fieldsOk mixed Try.func67 rfl fun κ X Y L Q m hQ => by
    have hl4 := (parB_spec hp).2
    conv => cbv
    refine r_eql m.sX (fun h1 => ?_) (fun h1 => ?_) <;> conv => cbv
    · refine r_callF (PV.int .i64) m.sX (plLeft_ok l marks (by first | rfl | assumption | omega | (simp only [List.length_append, List.length_cons, List.length_nil] at *; omega)) (by first | rfl | assumption | omega | (simp only [List.length_append, List.length_cons, List.length_nil] at *; omega)) (by first | rfl | assumption | omega | (simp only [List.length_append, List.length_cons, List.length_nil] at *; omega))) fun r1 hr1 => ?_
      conv => cbv
      exact hQ (.tup [.isl 1 (rows cInt marks), .int .i64 r1]) (Eq.trans (by first | rfl | (simp only [lb, lbI, rows_cons, rows_nil, unnilT, unnil, unnilTI, unnilI]; done) | (simp only [lb, lbI, rows_cons, rows_nil, unnilT, unnil, unnilTI, unnilI]; rfl)) (congrArg ((liI 1 cInt)) (show (marks, r1) = chooseS l.length (leftF l) k.toNat from_.toNat marks from by rw [hr1, show k.toNat = 0 by omega]; rfl)))   -- leaf 1
    · refine r_nilI 10 1 m rfl ?_
      conv => cbv
      refine r_loopF (α := List Int × Int × Int) m 58 [0, 1, 3, 10, 11, 12] [] (fun σ => [(0, .isl 1 (rows (cSl 1 cInt) l)), (1, .isl 1 (rows cInt marks)), (3, .int .i64 k), (10, .isl 1 (rows cInt σ.1)), (11, .int .i64 σ.2.1), (12, .int .i64 σ.2.2)]) (fun σ => [])
        (fun σ => (from_ ≤ σ.2.2 ∧ σ.2.2 ≤ l.length ∧ σ.2.2 ≤ max from_ ((l.length : Int) - 1)) ∧ ((σ.1, σ.2.1) = chT l.length (leftF l) (k.toNat - 1) from_.toNat marks σ.2.2.toNat)) (fun σ => (l.length - σ.2.2).toNat) ([], -1, from_) ?_ ?_ ?_ ?_
      · cbv
      · (try dsimp only); (try simp only [rows_cons, rows_nil]); cbv
      · exact ⟨(by (try dsimp only) <;> first | omega | rfl | (simp [*]; done)), (by (try dsimp only) <;> (unfold chT; rw [Nat.sub_self]; rfl))⟩
      rintro ⟨best, least, i⟩ ⟨ib, q⟩ E hE F hF
      dsimp only at ib q
      conv => cbv
      refine r_lenR m.sX fun n1 hn1 mn1 => ?_
      conv => cbv
      refine r_subf m.sX (by omega) (by omega) fun r2 hr2 => ?_
      conv => cbv
      refine r_lss m.sX (fun h2 => ?_) (fun h2 => ?_) <;> conv => cbv
      · refine r_callF (fun l => PV.fr _ _ (rows _ l)) m.sX (l1Own_ok marks (by first | rfl | assumption | omega | (simp only [List.length_append, List.length_cons, List.length_nil] at *; omega))) fun v1 hv1 => ?_
        conv => cbv
        have lv1 : v1.length = marks.length := (by rw [hv1])
        refine r_append1 (i) m.sX rfl (by first | omega | (dsimp only; omega)) (by first | omega | (dsimp only; omega)) fun zs1 hzs1 => ?_
        conv => cbv
        have lzs1 : (zs1.length : Int) = v1.length + 1 := by rw [hzs1]; first | done | (simp; done) | (simp; omega)
        refine r_addf m.sX (by omega) (by omega) fun r3 hr3 => ?_
        conv => cbv
        have ezs1 : (zs1.length : Int) = marks.length + 1 := (by omega)
        have dzs1 : MarksOk l.length zs1 ∧ ∀ m ∈ zs1, m < r3 := (by have e : ((i.toNat : Nat) : Int) = i := (by omega); have q := marks_snoc hm (i := i.toNat) (fun m hm' => by have := hf m hm'; omega) (by omega); have q2 := last_lt (ms := marks) (m := i.toNat) (fun m hm' => by have := hf m hm'; omega); rw [e] at q q2; rw [hzs1, hv1]; exact ⟨q, fun m hm' => by have := q2 m hm'; omega⟩)
        refine r_subf m.sX (by omega) (by omega) fun r4 hr4 => ?_
        conv => cbv
        refine .inr (r_pcallF (liI 1 cInt) m.sX (ih (by omega) zs1 r3 r4 (by omega) dzs1 (by omega) (by omega) ezs1) fun v hnext => ?_)
        obtain ⟨next, high⟩ := v
        conv => cbv
        have cn : chooseS l.length (leftF l) (k.toNat - 1) (i.toNat + 1) (marks ++ [((i.toNat : Nat) : Int)]) = (next, high) := (by rw [hnext, hzs1, hv1, show r3.toNat = i.toNat + 1 by omega, show ((i.toNat : Nat) : Int) = i by omega])
        refine r_geq m.sX (fun h3 => ?_) (fun h3 => ?_) <;> conv => cbv
        · refine r_lss m.sX (fun h4 => ?_) (fun h4 => ?_) <;> conv => cbv
          · refine r_addf m.sX (by omega) (by omega) fun i_2 hi_2 => ?_
            conv => cbv
            refine hE _ (next, high, i_2) ?_ ?_ ⟨(by (try dsimp only) <;> first | omega | rfl | (simp [*]; done) | (rw [ib]; simp [*]; done)), (by (try dsimp only) <;> (rw [show Int.toNat i_2 = i.toNat + 1 by omega, chT_step (by omega), ← q, cn]; show _ = (if 0 ≤ high ∧ (least < 0 ∨ high < least) then (next, high) else (best, least)); first | (rw [if_pos (by omega)]; done) | (rw [if_neg (by omega)]; done)))⟩ (by first | omega | (dsimp only; omega))
            · cbv
            · cbv
          · refine r_lss m.sX (fun h5 => ?_) (fun h5 => ?_) <;> conv => cbv
            · refine r_addf m.sX (by omega) (by omega) fun i_3 hi_3 => ?_
              conv => cbv
              refine hE _ (next, high, i_3) ?_ ?_ ⟨(by (try dsimp only) <;> first | omega | rfl | (simp [*]; done) | (rw [ib]; simp [*]; done)), (by (try dsimp only) <;> (rw [show Int.toNat i_3 = i.toNat + 1 by omega, chT_step (by omega), ← q, cn]; show _ = (if 0 ≤ high ∧ (least < 0 ∨ high < least) then (next, high) else (best, least)); first | (rw [if_pos (by omega)]; done) | (rw [if_neg (by omega)]; done)))⟩ (by first | omega | (dsimp only; omega))
              · cbv
              · cbv
            · refine r_addf m.sX (by omega) (by omega) fun i_4 hi_4 => ?_
              conv => cbv
              refine hE _ (best, least, i_4) ?_ ?_ ⟨(by (try dsimp only) <;> first | omega | rfl | (simp [*]; done) | (rw [ib]; simp [*]; done)), (by (try dsimp only) <;> (rw [show Int.toNat i_4 = i.toNat + 1 by omega, chT_step (by omega), ← q, cn]; show _ = (if 0 ≤ high ∧ (least < 0 ∨ high < least) then (next, high) else (best, least)); first | (rw [if_pos (by omega)]; done) | (rw [if_neg (by omega)]; done)))⟩ (by first | omega | (dsimp only; omega))
              · cbv
              · cbv
        · refine r_addf m.sX (by omega) (by omega) fun i_5 hi_5 => ?_
          conv => cbv
          refine hE _ (best, least, i_5) ?_ ?_ ⟨(by (try dsimp only) <;> first | omega | rfl | (simp [*]; done) | (rw [ib]; simp [*]; done)), (by (try dsimp only) <;> (rw [show Int.toNat i_5 = i.toNat + 1 by omega, chT_step (by omega), ← q, cn]; show _ = (if 0 ≤ high ∧ (least < 0 ∨ high < least) then (next, high) else (best, least)); first | (rw [if_pos (by omega)]; done) | (rw [if_neg (by omega)]; done)))⟩ (by first | omega | (dsimp only; omega))
          · cbv
          · cbv
      · refine hF _ _ ?_
        conv => cbv
        exact hQ (.tup [.isl 1 (rows cInt best), .int .i64 least]) (Eq.trans (by first | rfl | (simp only [lb, lbI, rows_cons, rows_nil, unnilT, unnil, unnilTI, unnilI]; done) | (simp only [lb, lbI, rows_cons, rows_nil, unnilT, unnil, unnilTI, unnilI]; rfl)) (congrArg ((liI 1 cInt)) (show (best, least) = chooseS l.length (leftF l) k.toNat from_.toNat marks from by rw [q, chT_all (by omega), show k.toNat - 1 + 1 = k.toNat by omega]))))   -- leaf 2

theorem plChoose_go {l : List (List Int)} (hp : parB l = true) : ∀ (n : Nat) (marks : List Int) (f k : Int), k.toNat = n → MarksOk l.length marks → (∀ m ∈ marks, m < f) → (0 ≤ k ∧ (marks.length : Int) + k ≤ 4) → (0 ≤ f ∧ f ≤ l.length) →
    OkA Try.prog 67 [.isl 1 (rows (cSl 1 cInt) l), .isl 1 (rows cInt marks), .int .i64 f, .int .i64 k] (· = liI 1 cInt (chooseS l.length (leftF l) k.toNat f.toNat marks)) := by
  intro n
  induction n with
  | zero => intro marks f k hn hm hf hk h0; exact plChoose_body l marks f k hp hm hf hk h0 fun h => absurd h (by omega)
  | succ n ih =>
    intro marks f k hn hm hf hk h0
    refine plChoose_body l marks f k hp hm hf hk h0 fun h ms f' j hj hd h1 h2 hl => ?_
    have := ih ms f' j (by omega) hd.1 hd.2 (by omega) ⟨h1, h2⟩
    rwa [show j.toNat = k.toNat - 1 by omega] at this
theorem plChoose0_ok (l : List (List Int)) (k : Int) (hp : parB l = true) (hk : 0 ≤ k ∧ k ≤ 4) : OkA Try.prog 67 [.isl 1 (rows (cSl 1 cInt) l), .nil, .int .i64 0, .int .i64 k] (· = liI 1 cInt (leaveF l k)) := by
  have h := plChoose_go hp k.toNat [] 0 k rfl ⟨.nil, fun m hm => (by cases hm)⟩ (fun m hm => (by cases hm)) (by simpa using hk) ⟨Int.le_refl _, by omega⟩
  refine ⟨h.1, fun w I vs hI ha => h.2 w I vs hI ?_⟩
  rw [rows_nil]
  cases ha with
  | cons a1 ha => cases ha with
    | cons a2 ha => exact .cons a1 (.cons (a2.nil_isl 1) ha)

/- Contract of spec.LeaveMarks. -/
theorem specLeaveMarks_ok (l : List (List Int)) (k : Int)  : OkA Try.prog 18 [.isl 1 (rows (cSl 1 cInt) l), .int .i64 k] (· = (licI 1 cInt) (leaveAns l k)) :=
  OkA.iceI 1 (fn_intro envOk fieldsOk mixed Try.func18 rfl fun κ X Y L Q m hQ => by
    conv => cbv
    refine r_callB m.sX (plGood_ok l) (fun h1 => ?_) (fun h1 => ?_) <;> conv => cbv
    · refine r_callB m.sX (l1In_ok k 0 4) (fun h2 => ?_) (fun h2 => ?_) <;> conv => cbv
      · have kb := inB_spec h2
        refine r_lenR m.sX fun n1 hn1 mn1 => ?_
        conv => cbv
        refine r_subf m.sX (by omega) (by omega) fun r1 hr1 => ?_
        conv => cbv
        refine r_callF (PV.int .i64) m.sX (l1Most_ok 0 r1) fun r2 hr2 => ?_
        conv => cbv
        refine r_gtr m.sX (fun h3 => ?_) (fun h3 => ?_) <;> conv => cbv
        · exact hQ (.tup [.nil, .int .i64 0, .bool false]) (Eq.trans (by first | rfl | (simp only [lic, licI, lb, lbI, rows_cons, rows_nil, unnilT, unnil, unnilTI, unnilI]; done) | (simp only [lic, licI, lb, lbI, rows_cons, rows_nil, unnilT, unnil, unnilTI, unnilI]; rfl)) (congrArg ((licI 1 cInt)) (show ([], 0, false) = leaveAns l k from by first | (have ok : leaveOk l k = true := (by unfold leaveOk; rw [h1, h2, decide_eq_true (by omega)]; rfl); rw [leaveAns, if_pos ok, ← hbest]; done) | (rw [leaveAns, if_pos (by simp [leaveOk, *]; omega)]; done) | (rw [leaveAns, if_neg (by simp [leaveOk, *]; omega)]; done) | (simp [leaveAns, leaveOk, *]; done))))   -- leaf 1
        · refine r_callF (liI 1 cInt) m.sX (plChoose0_ok l k h1 (by omega)) fun v hbest => ?_
          obtain ⟨best, least⟩ := v
          conv => cbv
          exact hQ (.tup [.isl 1 (rows cInt best), .int .i64 least, .bool true]) (Eq.trans (by first | rfl | (simp only [lic, licI, lb, lbI, rows_cons, rows_nil, unnilT, unnil, unnilTI, unnilI]; done) | (simp only [lic, licI, lb, lbI, rows_cons, rows_nil, unnilT, unnil, unnilTI, unnilI]; rfl)) (congrArg ((licI 1 cInt)) (show (best, least, true) = leaveAns l k from by first | (have ok : leaveOk l k = true := (by unfold leaveOk; rw [h1, h2, decide_eq_true (by omega)]; rfl); rw [leaveAns, if_pos ok, ← hbest]; done) | (rw [leaveAns, if_pos (by simp [leaveOk, *]; omega)]; done) | (rw [leaveAns, if_neg (by simp [leaveOk, *]; omega)]; done) | (simp [leaveAns, leaveOk, *]; done))))   -- leaf 2
      · exact hQ (.tup [.nil, .int .i64 0, .bool false]) (Eq.trans (by first | rfl | (simp only [lic, licI, lb, lbI, rows_cons, rows_nil, unnilT, unnil, unnilTI, unnilI]; done) | (simp only [lic, licI, lb, lbI, rows_cons, rows_nil, unnilT, unnil, unnilTI, unnilI]; rfl)) (congrArg ((licI 1 cInt)) (show ([], 0, false) = leaveAns l k from by first | (have ok : leaveOk l k = true := (by unfold leaveOk; rw [h1, h2, decide_eq_true (by omega)]; rfl); rw [leaveAns, if_pos ok, ← hbest]; done) | (rw [leaveAns, if_pos (by simp [leaveOk, *]; omega)]; done) | (rw [leaveAns, if_neg (by simp [leaveOk, *]; omega)]; done) | (simp [leaveAns, leaveOk, *]; done))))   -- leaf 3
    · exact hQ (.tup [.nil, .int .i64 0, .bool false]) (Eq.trans (by first | rfl | (simp only [lic, licI, lb, lbI, rows_cons, rows_nil, unnilT, unnil, unnilTI, unnilI]; done) | (simp only [lic, licI, lb, lbI, rows_cons, rows_nil, unnilT, unnil, unnilTI, unnilI]; rfl)) (congrArg ((licI 1 cInt)) (show ([], 0, false) = leaveAns l k from by first | (have ok : leaveOk l k = true := (by unfold leaveOk; rw [h1, h2, decide_eq_true (by omega)]; rfl); rw [leaveAns, if_pos ok, ← hbest]; done) | (rw [leaveAns, if_pos (by simp [leaveOk, *]; omega)]; done) | (rw [leaveAns, if_neg (by simp [leaveOk, *]; omega)]; done) | (simp [leaveAns, leaveOk, *]; done)))))   -- leaf 4


end Go.Proofs.Ytalookmhhkojeaa.Ai
