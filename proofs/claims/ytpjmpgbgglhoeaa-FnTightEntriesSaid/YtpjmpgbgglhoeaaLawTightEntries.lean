/- The law FnTightEntries: its body returns true. -/
import Derived.Test.YtpjmpgbgglhoeaaTableDraw2
import Derived.Test.YtpjmpgbgglhoeaaAiCut
import Derived.Test.YtpjmpgbgglhoeaaTableFacts
namespace Go.Proofs.Ytpjmpgbgglhoeaa.Ai
open Go Go.Proofs
set_option maxRecDepth 10000
set_option maxHeartbeats 4000000
set_option linter.unusedVariables false

noncomputable abbrev midTightEntries (more : List Int) : List (Nat × PV) := [(1, .isl 1 (rows cU8 more))]

section
variable {κ : Ctx} {X Y : Req → (PV → Prop) → Prop} {L : Code → (Ex → St → Prop) → St → Prop} {Q : PV → Prop}

theorem tightEntries_part1 (m : Mach Try.prog G κ X Y L) (hQ : ∀ r, r = PV.bool true → Q r) (code more : List Int) (hf : ∀ x ∈ code, 0 ≤ x ∧ x ≤ 255) (E0 : St → Prop)
    (hE0 : ∀ (s' : St) (a : Unit), headOk s' [] = true → Ai.norm [1] [] s' = St.at 292 (midTightEntries more) [] → (more.length : Int) ≤ 9223372036854775807 → E0 s') :
    Ai.code X L G (front 7 (Try.f6.body.getD .skip)) (fun e s' => match e with | .normal => E0 s' | .exit i => EndsIn (post G Try.f6.results.toList Q) (.exit i) s' | .ret => EndsIn (post G Try.f6.results.toList Q) .ret s') (start 292 [.isl 1 (rows cU8 code), .isl 1 (rows cU8 more)] []) := by
  conv => cbv
  refine r_callB m.sX (big_ok code more) (fun h1 => ?_) (fun h1 => ?_) <;> conv => cbv
  · exact hQ _ (congrArg PV.bool (by first | rfl | omega | (simp [*]; done) | (subst_vars; simp [*]; done)))   -- leaf 1
  · rw [Bool.or_eq_false_iff, decide_eq_false_iff_not, decide_eq_false_iff_not] at h1
    have h : CurIn code := ⟨by omega, hf⟩
    have hd : (more.length : Int) ≤ 9223372036854775807 := by omega
    refine r_callE m.sX ((drawTightEntries_ok code h).iceE) ?_
    rintro _ ⟨_, ⟨n, l, gap, rfl, bn_1, bn_2⟩, rfl⟩
    conv => cbv
    refine r_callF (lbI 1 cInt) m.sX ((TightEntries_ok n l gap (by first | rfl | assumption | omega | (simp only [List.length_append, List.length_cons, List.length_nil] at *; omega))).ice) fun v ht => ?_
    obtain ⟨t, ok⟩ := v
    conv => cbv
    refine r_callF (lbI 1 cInt) m.sX ((specTightEntries_ok n l gap (by first | rfl | assumption | omega | (simp only [List.length_append, List.length_cons, List.length_nil] at *; omega))).ice) fun y1 hy1 => ?_
    obtain rfl := ht.trans hy1.symm
    clear hy1
    conv => cbv
    rcases Bool.eq_false_or_eq_true ok with rfl | rfl <;> conv => cbv
    · have og := tight_ok ht
      have tin := okG_in og
      have hc := tin.cols
      have hgp := tin.gap
      have tv := tight_val ht
      refine r_callBT m.sX (sameInts_ok t t) (by first | assumption | (simp [*]; done) | omega) ?_   -- h2
      conv => cbv
      refine r_lenR m.sX fun n1 hn1 mn1 => ?_
      conv => cbv
      refine r_loopF (α := Int) m 292 [1, 5, 6, 7, 10, 79, 80] [] (fun σ => [(1, .isl 1 (rows cU8 more)), (5, .int .i64 n), (6, .isl 3 (rows cEntry l)), (7, .int .i64 gap), (10, .isl 1 (rows cInt t)), (79, .int .i64 n1), (80, .int .i64 σ)]) (fun σ => [])
        (fun σ => (0 ≤ σ) ∧ (σ ≤ n1)) (fun σ => (n1 - σ).toNat) 0 ?_ ?_ ?_ ?_
      · cbv
      · cbv
      · exact ⟨(by (try dsimp only); first | omega | (simp only [List.length_nil]; omega)), (by (try dsimp only); first | omega | (simp only [List.length_nil]; omega))⟩
      rintro i1 ⟨lo1, hi1⟩ E hE F hF
      conv => cbv
      refine r_lss m.sX (fun h3 => ?_) (fun h3 => ?_) <;> conv => cbv
      · refine r_callF ib m.sX (RoomOfEntry_ok n l gap i1 (by first | rfl | assumption | omega | (simp only [List.length_append, List.length_cons, List.length_nil] at *; omega))) fun v hr => ?_
        obtain ⟨r, one⟩ := v
        conv => cbv
        refine r_callF ib m.sX (specRoomOfEntry_ok n l gap i1 (by first | rfl | assumption | omega | (simp only [List.length_append, List.length_cons, List.length_nil] at *; omega))) fun y2 hy2 => ?_
        obtain rfl := hr.trans hy2.symm
        clear hy2
        conv => cbv
        obtain rfl : one = true := by refine (room_ok hr).symm.trans ?_; rw [og]; simp [inB]; omega
        conv => cbv
        have rv := room_val hr
        obtain ⟨y, hy⟩ := get_ex (xs := l) (i := Int.toNat i1) (by omega)
        have ey : r = roomF n l gap y := by rw [rv, roomAt, hy]
        have rn := room_nonneg tin (get_mem hy)
        refine r_neqF m.sX (by omega) ?_
        conv => cbv
        refine r_lssF m.sX (by omega) ?_
        conv => cbv
        refine r_callB m.sX (pIn_ok t i1) (fun h6 => ?_) (fun h6 => ?_) <;> conv => cbv
        · refine r_eqlT m.sX ((by rw [ey]; exact (tight_iff hy lo1).1 (by rw [← tv]; exact of_decide_eq_true h6))) ?_
          conv => cbv
          refine r_addf m.sX (by omega) (by omega) fun r1 hr1 => ?_
          conv => cbv
          have tr1 : Int.toNat r1 = Int.toNat i1 + 1 := by omega
          refine hE _ r1 ?_ ?_ ⟨(by (try dsimp only); first | omega | (simp only [List.length_nil]; omega)), (by (try dsimp only); first | omega | (simp only [List.length_nil]; omega))⟩ (by first | omega | (dsimp only; omega))
          · cbv
          · cbv
        · refine r_eqlF m.sX ((by rw [ey]; exact fun e => (of_decide_eq_false h6) (by rw [tv]; exact (tight_iff hy lo1).2 e))) ?_
          conv => cbv
          refine r_addf m.sX (by omega) (by omega) fun r2 hr2 => ?_
          conv => cbv
          have tr2 : Int.toNat r2 = Int.toNat i1 + 1 := by omega
          refine hE _ r2 ?_ ?_ ⟨(by (try dsimp only); first | omega | (simp only [List.length_nil]; omega)), (by (try dsimp only); first | omega | (simp only [List.length_nil]; omega))⟩ (by first | omega | (dsimp only; omega))
          · cbv
          · cbv
      · have dz_i1 := drop_end (xs := l) (i := Int.toNat i1) (by omega)
        have tz_i1 := take_end (xs := l) (i := Int.toNat i1) (by omega)
        refine hF _ _ ?_
        conv => cbv
        refine r_callF ib m.sX (TableWidth_ok n l gap (by first | rfl | assumption | omega | (simp only [List.length_append, List.length_cons, List.length_nil] at *; omega))) fun v hwidth => ?_
        obtain ⟨width, one_2⟩ := v
        conv => cbv
        obtain rfl : one_2 = true := by exact (tot_ok hwidth).symm.trans og
        conv => cbv
        have wv := tot_val hwidth
        have sg := sAt_gap tin
        refine r_subf m.sX (by omega) (by omega) fun r3 hr3 => ?_
        conv => cbv
        have g1 := mul_bound (show 0 ≤ r3 by omega) (show r3 ≤ 9 by omega) hgp.1 hgp.2
        refine r_mulf m.sX (by omega) (by omega) fun r4 hr4 => ?_
        conv => cbv
        refine r_gtr m.sX (fun h9 => ?_) (fun h9 => ?_) <;> conv => cbv
        · refine r_lenR m.sX fun n2 hn2 mn2 => ?_
          conv => cbv
          refine r_eqlF m.sX ((by have := tight_ne tin (show (n - 1) * gap < sAt l gap n.toNat - gap by rw [← hr3, ← hr4, ← wv]; omega); rw [← tv] at this; have := List.length_pos_iff.2 this; omega)) ?_
          conv => cbv
          exact hE0 _ () (by cbv) (by cbv) hd
        · exact hE0 _ () (by cbv) (by cbv) hd
    · refine r_callBT m.sX (sameInts_ok t t) (by first | assumption | (simp [*]; done) | omega) ?_   -- h11
      conv => cbv
      exact hE0 _ () (by cbv) (by cbv) hd

theorem tightEntries_part2 (m : Mach Try.prog G κ X Y L) (hQ : ∀ r, r = PV.bool true → Q r) (more : List Int) (h : CurIn more) (E0 : St → Prop)
    (hE0 : ∀ (s' : St) (a : Unit), headOk s' [] = true → Ai.norm [1] [] s' = St.at 292 (midTightEntries more) [] → True → E0 s') :
    Ai.code X L G (front 5 (rest 7 (Try.f6.body.getD .skip))) (fun e s' => match e with | .normal => E0 s' | .exit i => EndsIn (post G Try.f6.results.toList Q) (.exit i) s' | .ret => EndsIn (post G Try.f6.results.toList Q) .ret s') (St.at 292 (midTightEntries more) []) := by
  conv => cbv
  refine r_callE m.sX ((drawLatestColumns_ok more h).iceE) ?_
  rintro _ ⟨_, ⟨m_, u, by_, total, rfl, bm__1, bm__2⟩, rfl⟩
  conv => cbv
  refine r_callF (lbI 1 cInt) m.sX (LatestColumns_ok m_ u by_ total (by first | rfl | assumption | omega | (simp only [List.length_append, List.length_cons, List.length_nil] at *; omega))) fun v ha => ?_
  obtain ⟨a, one⟩ := v
  conv => cbv
  refine r_callF (lbI 1 cInt) m.sX ((specLatestColumns_ok m_ u by_ total (by first | rfl | assumption | omega | (simp only [List.length_append, List.length_cons, List.length_nil] at *; omega))).ice) fun y1 hy1 => ?_
  obtain rfl := ha.trans hy1.symm
  clear hy1
  conv => cbv
  rcases Bool.eq_false_or_eq_true one with rfl | rfl <;> conv => cbv
  · have it := lat_ok ha
    obtain ⟨og, tin, tb, tle⟩ := isTot_spec it
    have hc := tin.cols
    have hgp := tin.gap
    have av := lat_val ha
    have sg := sAt_gap tin
    have al : (a.length : Int) = m_ := by rw [av, List.length_cons, List.length_take, latF_length]; omega
    refine r_callBT m.sX (sameInts_ok a a) (by first | assumption | (simp [*]; done) | omega) ?_   -- h1
    conv => cbv
    refine r_callF (lbI 1 cInt) m.sX (LeastStarts_ok m_ u by_ (by first | rfl | assumption | omega | (simp only [List.length_append, List.length_cons, List.length_nil] at *; omega))) fun v hstarts => ?_
    obtain ⟨starts, three⟩ := v
    conv => cbv
    obtain rfl : three = true := by exact (least_ok hstarts).symm.trans og
    conv => cbv
    have sv := least_val hstarts
    have sl : (starts.length : Int) = m_ := by rw [sv, List.length_take, startsF_length]; omega
    refine r_lenR m.sX fun n1 hn1 mn1 => ?_
    conv => cbv
    refine r_lenR m.sX fun n2 hn2 mn2 => ?_
    conv => cbv
    refine r_neqF m.sX (by omega) ?_
    conv => cbv
    refine r_lenR m.sX fun n3 hn3 mn3 => ?_
    conv => cbv
    refine r_loopF (α := Int) m 292 [1, 19, 20, 21, 22, 27, 194, 195, 196] [] (fun σ => [(1, .isl 1 (rows cU8 more)), (19, .int .i64 m_), (20, .isl 3 (rows cEntry u)), (21, .int .i64 by_), (22, .int .i64 total), (27, .isl 1 (rows cInt starts)), (194, .isl 1 (rows cInt a)), (195, .int .i64 n3), (196, .int .i64 σ)]) (fun σ => [])
      (fun σ => (0 ≤ σ) ∧ (σ ≤ n3)) (fun σ => (n3 - σ).toNat) 0 ?_ ?_ ?_ ?_
    · cbv
    · cbv
    · exact ⟨(by (try dsimp only); first | omega | (simp only [List.length_nil]; omega)), (by (try dsimp only); first | omega | (simp only [List.length_nil]; omega))⟩
    rintro i1 ⟨lo2, hi2⟩ E hE F hF
    conv => cbv
    refine r_lss m.sX (fun h3 => ?_) (fun h3 => ?_) <;> conv => cbv
    · refine r_index m.sX (by omega) (by omega) fun start hstart => ?_
      conv => cbv
      have mstart := get_mem hstart
      have dstart := drop_cons hstart
      have kstart := take_snoc hstart
      have jstart : (i1 + 1).toNat = Int.toNat i1 + 1 := by omega
      have vstart := nth_some hstart
      refine r_index m.sX (by omega) (by omega) fun x1 hx1 => ?_
      conv => cbv
      have mx1 := get_mem hx1
      have dx1 := drop_cons hx1
      have kx1 := take_snoc hx1
      have jx1 : (i1 + 1).toNat = Int.toNat i1 + 1 := by omega
      have vx1 := nth_some hx1
      have lg := lat_ge it (i := Int.toNat i1) (by omega)
      rw [← av, ← sv, vx1, vstart] at lg
      refine r_lssF m.sX (by omega) ?_
      conv => cbv
      refine r_addf m.sX (by omega) (by omega) fun r1 hr1 => ?_
      conv => cbv
      have tr1 : Int.toNat r1 = Int.toNat i1 + 1 := by omega
      refine hE _ r1 ?_ ?_ ⟨(by (try dsimp only); first | omega | (simp only [List.length_nil]; omega)), (by (try dsimp only); first | omega | (simp only [List.length_nil]; omega))⟩ (by first | omega | (dsimp only; omega))
      · cbv
      · cbv
    · have dz_i1 := drop_end (xs := a) (i := Int.toNat i1) (by omega)
      have tz_i1 := take_end (xs := a) (i := Int.toNat i1) (by omega)
      refine hF _ _ ?_
      conv => cbv
      refine r_callF (lbI 1 cInt) m.sX ((SpreadTable_ok m_ u by_ total (by first | rfl | assumption | omega | (simp only [List.length_append, List.length_cons, List.length_nil] at *; omega))).ice) fun v hw => ?_
      obtain ⟨w, four⟩ := v
      conv => cbv
      refine r_callF (lbI 1 cInt) m.sX ((specSpreadTable_ok m_ u by_ total (by first | rfl | assumption | omega | (simp only [List.length_append, List.length_cons, List.length_nil] at *; omega))).ice) fun y2 hy2 => ?_
      obtain rfl := hw.trans hy2.symm
      clear hy2
      conv => cbv
      obtain rfl : four = true := by exact (spread_ok hw).symm.trans it
      conv => cbv
      have wv := spread_val hw
      have wl := widths_length u by_ (Int.toNat m_)
      have wm := widths_mem tin (m := Int.toNat m_) (by omega)
      have sm := spread_mem (m := total - (sAt u by_ (Int.toNat m_) - by_)) (n := m_) (ws := widthsF u by_ (Int.toNat m_)) (by omega) (by omega) wm
      rw [← wv] at sm
      have ls : (w.length : Int) = m_ := by rw [wv, spread_length, wl]; omega
      have wf : SumFits w := sumfits_of 20000 (fun z hz => by have := sm z hz; omega) (by omega)
      have ss := spread_sum (m := total - (sAt u by_ (Int.toNat m_) - by_)) (n := m_) (ws := widthsF u by_ (Int.toNat m_)) (by omega) (by rw [wl]; omega)
      have e0 := widths_sum u by_ (Int.toNat m_) (Int.toNat m_) (Nat.le_refl _)
      rw [take_end (by omega), Int.toNat_of_nonneg (by omega)] at e0
      rw [← wv, e0] at ss
      refine r_callBT m.sX (sameInts_ok w w) (by first | assumption | (simp [*]; done) | omega) ?_   -- h5
      conv => cbv
      refine r_callF (PV.int .i64) m.sX (pSum_ok w (by first | rfl | assumption | omega | (simp only [List.length_append, List.length_cons, List.length_nil] at *; omega))) fun r2 hr2 => ?_
      conv => cbv
      refine r_subf m.sX (by omega) (by omega) fun r3 hr3 => ?_
      conv => cbv
      have g1 := mul_bound (show 0 ≤ r3 by omega) (show r3 ≤ 9 by omega) hgp.1 hgp.2
      refine r_mulf m.sX (by omega) (by omega) fun r4 hr4 => ?_
      conv => cbv
      have e4 : r4 = m_ * by_ - by_ := by rw [hr4, hr3, Int.sub_mul, Int.one_mul]
      refine r_addf m.sX (by omega) (by omega) fun r5 hr5 => ?_
      conv => cbv
      refine r_neqF m.sX (by omega) ?_
      conv => cbv
      exact hE0 _ () (by cbv) (by cbv) trivial
  · refine r_callBT m.sX (sameInts_ok a a) (by first | assumption | (simp [*]; done) | omega) ?_   -- h7
    conv => cbv
    exact hE0 _ () (by cbv) (by cbv) trivial

theorem tightEntries_part3 (m : Mach Try.prog G κ X Y L) (hQ : ∀ r, r = PV.bool true → Q r) (more : List Int) (h : CurIn more) :
    Ai.code X L G (rest 5 (rest 7 (Try.f6.body.getD .skip))) (EndsIn (post G Try.f6.results.toList Q)) (St.at 292 (midTightEntries more) []) := by
  conv => cbv
  refine r_callE m.sX ((drawWidthWithout_ok more h).iceE) ?_
  rintro _ ⟨_, ⟨k, v, space, i, rfl, bk_1, bk_2⟩, rfl⟩
  conv => cbv
  refine r_callF ib m.sX (WidthWithout_ok k v space i (by first | rfl | assumption | omega | (simp only [List.length_append, List.length_cons, List.length_nil] at *; omega))) fun v hw => ?_
  obtain ⟨w, three⟩ := v
  conv => cbv
  refine r_callF ib m.sX (specWidthWithout_ok k v space i (by first | rfl | assumption | omega | (simp only [List.length_append, List.length_cons, List.length_nil] at *; omega))) fun y1 hy1 => ?_
  obtain rfl := hw.trans hy1.symm
  clear hy1
  conv => cbv
  rcases Bool.eq_false_or_eq_true three with rfl | rfl <;> conv => cbv
  · obtain ⟨og, wv⟩ := without_val hw
    refine r_neqF m.sX (by omega) ?_
    conv => cbv
    refine r_callF ib m.sX (TableWidth_ok k v space (by first | rfl | assumption | omega | (simp only [List.length_append, List.length_cons, List.length_nil] at *; omega))) fun v hwidth => ?_
    obtain ⟨width, five⟩ := v
    conv => cbv
    obtain rfl : five = true := by exact (tot_ok hwidth).symm.trans og
    conv => cbv
    have tv := tot_val hwidth
    have se := sAt_erase v space (Int.toNat i) (Int.toNat k)
    refine r_leqT m.sX (by omega) ?_
    conv => cbv
    exact hQ _ (congrArg PV.bool (by first | rfl | omega | (simp [*]; done) | (subst_vars; simp [*]; done)))   -- leaf 2
  · refine r_neqF m.sX (by omega) ?_
    conv => cbv
    exact hQ _ (congrArg PV.bool (by first | rfl | omega | (simp [*]; done) | (subst_vars; simp [*]; done)))   -- leaf 3

end

theorem lawTightEntries_ok (code more : List Int) (hf : ∀ x ∈ code, 0 ≤ x ∧ x ≤ 255) (hg : ∀ x ∈ more, 0 ≤ x ∧ x ≤ 255) : OkA Try.prog 6 [.isl 1 (rows cU8 code), .isl 1 (rows cU8 more)] (· = .bool true) :=
  fn_introW envOk fieldsOk mixed Try.func6 rfl (c := Try.f6.body.getD .skip) rfl fun κ X Y L Q m hQ =>
    W_cut m 7 292 [1] [] (fun _ : Unit => midTightEntries more) (fun _ => []) (fun _ => (more.length : Int) ≤ 9223372036854775807) (tightEntries_part1 m hQ code more hf) fun _ hl =>
    W_cut m 5 292 [1] [] (fun _ : Unit => midTightEntries more) (fun _ => []) (fun _ => True) (tightEntries_part2 m hQ more ⟨hl, hg⟩) fun _ _ =>
    W_last m (tightEntries_part3 m hQ more ⟨hl, hg⟩)

end Go.Proofs.Ytpjmpgbgglhoeaa.Ai
