/- Contracts of the functions on the narrowest way to set a word. -/
import Derived.Test.YtkdaikliahnenaaFont
namespace Go.Proofs.Ytkdaikliahnenaa.Ai
open Go Go.Proofs
set_option maxRecDepth 10000
set_option maxHeartbeats 4000000
set_option linter.unusedVariables false
theorem narrowestFrom_ok (f : List FSort) (word : List UInt8) (ho : okFont f = true) (hw : word.length ≤ 16) : OkA Try.prog 77 [.isl 2 (rows cSort f), .str word] (· = .fr 3 1 (rows cInt ((tabN f word).map wV))) :=
  OkA.unnil 3 1 (fn_intro envOk fieldsOk mixed Try.func77 rfl fun κ X Y L Q m hQ => by
    have hc := okFont_codes ho
    have hs := okFont_sets ho
    conv => cbv
    refine r_slen (u := word) m.sX fun n1 hn1 mn1 => ?_   -- n1 = length of word
    conv => cbv
    refine r_addf m.sX (by omega) (by omega) fun r1 hr1 => ?_
    conv => cbv
    refine r_make cInt 0 m.sX rfl (by omega) (by omega) (by dsimp only; omega) (by omega) fun table htable => ?_   -- table = replicate r1
    have ltable : (table.length : Int) = r1 := by rw [htable]; first | done | (simp; done) | (simp; omega)
    conv => cbv
    refine r_slen (u := word) m.sX fun n2 hn2 mn2 => ?_   -- n2 = length of word
    conv => cbv
    refine r_subf m.sX (by omega) (by omega) fun at_ hat_ => ?_
    conv => cbv
    refine r_loopF (α := List Int × Int) m 74 [0, 1, 6] [⟨5, 41, 3, 1, 0⟩] (fun σ => [(0, .isl 2 (rows cSort f)), (1, .str word), (5, .osl 41 0), (6, .int .i64 σ.2)]) (fun σ => [(41, 0, .row 3 1 (rows cInt σ.1))])
      (fun σ => (-1 ≤ σ.2 ∧ σ.2 ≤ (word.length : Int) - 1) ∧ (σ.1.length = word.length + 1) ∧ (σ.1.drop (σ.2 + 1).toNat = (tabN f (word.drop (σ.2 + 1).toNat)).map wV)) (fun σ => (σ.2 + 1).toNat) (table, at_) ?_ ?_ ?_ ?_
    · cbv
    · cbv
    · exact ⟨(by (try dsimp only) <;> (omega)), (by (try dsimp only) <;> ((rw [htable, List.length_replicate]; omega))), (by (try dsimp only) <;> ((rw [htable, List.drop_replicate, List.drop_of_length_le (show word.length ≤ (at_ + 1).toNat by omega), show Int.toNat r1 - (at_ + 1).toNat = 1 by omega]; rfl)))⟩
    rintro ⟨table_2, at__2⟩ ⟨ib, tl, q⟩ E hE F hF
    dsimp only at ib tl q
    conv => cbv
    refine r_geq m.sX (fun h1 => ?_) (fun h1 => ?_) <;> conv => cbv
    · refine r_oindex m.sX (by omega) (by omega) ?_
      conv => cbv
      obtain ⟨y1, hy1⟩ := get_ex (xs := table_2) (i := Int.toNat at__2) (by omega)
      refine r_ostore (l := Int.toNat at__2) (-1) m.sX hy1 (Nat.le_of_ble_eq_true rfl) rfl fun table_3 htable_3 => ?_   -- table_3 = table_2.set at__2 -1
      have ltable_3 : (table_3.length : Int) = table_2.length := by rw [htable_3]; first | done | (simp; done) | (simp; omega)
      have ti0 := tabI_start (f := f) (by omega) (by omega) tl q
      rw [← htable_3] at ti0
      conv => cbv
      refine r_lenR m.sX fun n3 hn3 mn3 => ?_
      conv => cbv
      refine r_loopF (α := List Int × Int) m 74 [0, 1, 6, 24, 25, 26] [⟨5, 41, 3, 1, 0⟩] (fun σ => [(0, .isl 2 (rows cSort f)), (1, .str word), (5, .osl 41 0), (6, .int .i64 at__2), (24, .isl 2 (rows cSort f)), (25, .int .i64 n3), (26, .int .i64 σ.2)]) (fun σ => [(41, 0, .row 3 1 (rows cInt σ.1))])
        (fun σ => (0 ≤ σ.2) ∧ (σ.2 ≤ n3) ∧ (TabI f word at__2 σ.2 σ.1)) (fun σ => (n3 - σ.2).toNat) (table_3, 0) ?_ ?_ ?_ ?_
      · cbv
      · cbv
      · exact ⟨(by (try dsimp only); first | omega | (simp only [List.length_nil]; omega)), (by (try dsimp only); first | omega | (simp only [List.length_nil]; omega)), (by (try dsimp only) <;> (exact ti0))⟩
      rintro ⟨table_4, i1⟩ ⟨lo2, hi2, ti⟩ E2 hE2 F2 hF2
      dsimp only at lo2 hi2 ti
      conv => cbv
      refine r_lss m.sX (fun h2 => ?_) (fun h2 => ?_) <;> conv => cbv
      · refine r_index m.sX (by omega) (by omega) fun v hs_A => ?_
        obtain ⟨s_A, s_B⟩ := v
        conv => cbv
        have hs_ := hs_A
        have ms_ := get_mem hs_
        have ds_ := drop_cons hs_
        have ks_ := take_snoc hs_
        have js_ : (i1 + 1).toNat = Int.toNat i1 + 1 := by omega
        have sb := hs.1 _ ms_
        try dsimp only at sb
        have tlen := ti.len
        try dsimp only at tlen
        refine r_draw m (by kernel_rfl) ?_
        conv => cbv
        refine r_sslice' (u := word) (i := at__2) m.sY (by omega) (by first | omega | (simp only [List.length_cons, List.length_nil]; omega) | (simp; omega)) fun s1 hs1 => ?_   -- s1 = word[at__2:]
        have ls1 : (s1.length : Int) = word.length - at__2 := by rw [hs1]; first | done | (simp; done) | (simp; omega)
        conv => cbv
        refine r_callBS m.sY (HasPrefix_ok s1 s_A) (fun h3 => ?_) (fun h3 => ?_) <;> conv => cbv
        · rw [hs1] at h3
          have pl := preB_spec h3
          try dsimp only at pl
          have pl1 := pl.1
          try dsimp only at pl1
          rw [List.length_drop] at pl1
          refine r_slen (u := s_A) m.sX fun n4 hn4 mn4 => ?_   -- n4 = length of s_A
          conv => cbv
          refine r_addf m.sX (by omega) (by omega) fun r2 hr2 => ?_
          conv => cbv
          refine r_oindex m.sX (by omega) (by omega) ?_
          conv => cbv
          obtain ⟨rest, hrest⟩ := get_ex (xs := table_4) (i := Int.toNat r2) (by omega)
          have mrest := get_mem hrest
          have vrest := nth_some hrest
          have ts := tabI_step ho hw (by omega) (by omega) lo2 ti hs_ h3 (by dsimp only; omega) hrest
          try dsimp only at ts
          have tsb := ts.1
          try dsimp only at tsb
          refine r_oload m.sX hrest (Nat.le_of_ble_eq_true rfl) ?_
          conv => cbv
          refine r_draw m (by kernel_rfl) ?_
          conv => cbv
          refine r_geq m.sY (fun h4 => ?_) (fun h4 => ?_) <;> conv => cbv
          · refine r_oindex m.sY (by omega) (by omega) ?_
            conv => cbv
            obtain ⟨x1, hx1⟩ := get_ex (xs := table_4) (i := Int.toNat at__2) (by omega)
            have mx1 := get_mem hx1
            have vx1 := nth_some hx1
            refine r_oload m.sY hx1 (Nat.le_of_ble_eq_true rfl) ?_
            conv => cbv
            refine r_lss m.sY (fun h5 => ?_) (fun h5 => ?_) <;> conv => cbv
            · refine r_addf m.sX (by omega) (by omega) fun r3 hr3 => ?_
              conv => cbv
              refine r_oindex m.sX (by omega) (by omega) ?_
              conv => cbv
              obtain ⟨y2, hy2⟩ := get_ex (xs := table_4) (i := Int.toNat at__2) (by omega)
              refine r_ostore (l := Int.toNat at__2) r3 m.sX hy2 (Nat.le_of_ble_eq_true rfl) rfl fun table_5 htable_5 => ?_   -- table_5 = table_4.set at__2 r3
              have ltable_5 : (table_5.length : Int) = table_4.length := by rw [htable_5]; first | done | (simp; done) | (simp; omega)
              have tn := (ts.2.2 _ hx1).1 h4 (.inl h5)
              try dsimp only at tn
              conv => cbv
              refine r_addf m.sX (by omega) (by omega) fun r4 hr4 => ?_
              conv => cbv
              try have tr4 : Int.toNat r4 = Int.toNat i1 + 1 := by omega
              refine hE2 _ (table_5, r4) ?_ ?_ ⟨(by (try dsimp only); first | omega | (simp only [List.length_nil]; omega)), (by (try dsimp only); first | omega | (simp only [List.length_nil]; omega)), (by (try dsimp only) <;> (first | (rw [show r4 = i1 + 1 by omega, htable_5, show r3 = s_B + rest by omega]; exact tn) | (rw [show r4 = i1 + 1 by omega, htable_6, show r6 = s_B + rest by omega]; exact tn) | (rw [show r4 = i1 + 1 by omega]; exact tabI_no lo2 ti hs_ h3) | (rw [show r4 = i1 + 1 by omega]; exact ts.2.1 h4) | (rw [show r4 = i1 + 1 by omega]; exact (ts.2.2 _ hx1).2 h5 (show ¬ s_B + rest < _ by omega))))⟩ (by first | omega | (dsimp only; omega))
              · cbv
              · cbv
            · refine r_addf m.sY (by omega) (by omega) fun r5 hr5 => ?_
              conv => cbv
              refine r_oindex m.sY (by omega) (by omega) ?_
              conv => cbv
              obtain ⟨x2, hx2⟩ := get_ex (xs := table_4) (i := Int.toNat at__2) (by omega)
              have mx2 := get_mem hx2
              have vx2 := nth_some hx2
              refine r_oload m.sY hx2 (Nat.le_of_ble_eq_true rfl) ?_
              conv => cbv
              refine r_lss m.sY (fun h6 => ?_) (fun h6 => ?_) <;> conv => cbv
              · refine r_addf m.sX (by omega) (by omega) fun r6 hr6 => ?_
                conv => cbv
                refine r_oindex m.sX (by omega) (by omega) ?_
                conv => cbv
                obtain ⟨y3, hy3⟩ := get_ex (xs := table_4) (i := Int.toNat at__2) (by omega)
                refine r_ostore (l := Int.toNat at__2) r6 m.sX hy3 (Nat.le_of_ble_eq_true rfl) rfl fun table_6 htable_6 => ?_   -- table_6 = table_4.set at__2 r6
                have ltable_6 : (table_6.length : Int) = table_4.length := by rw [htable_6]; first | done | (simp; done) | (simp; omega)
                have tn := (ts.2.2 _ hx1).1 h4 (.inr (show s_B + rest < _ by omega))
                try dsimp only at tn
                conv => cbv
                refine r_addf m.sX (by omega) (by omega) fun r7 hr7 => ?_
                conv => cbv
                try have tr7 : Int.toNat r7 = Int.toNat i1 + 1 := by omega
                refine hE2 _ (table_6, r7) ?_ ?_ ⟨(by (try dsimp only); first | omega | (simp only [List.length_nil]; omega)), (by (try dsimp only); first | omega | (simp only [List.length_nil]; omega)), (by (try dsimp only) <;> (first | (rw [show r7 = i1 + 1 by omega, htable_5, show r3 = s_B + rest by omega]; exact tn) | (rw [show r7 = i1 + 1 by omega, htable_6, show r6 = s_B + rest by omega]; exact tn) | (rw [show r7 = i1 + 1 by omega]; exact tabI_no lo2 ti hs_ h3) | (rw [show r7 = i1 + 1 by omega]; exact ts.2.1 h4) | (rw [show r7 = i1 + 1 by omega]; exact (ts.2.2 _ hx1).2 h5 (show ¬ s_B + rest < _ by omega))))⟩ (by first | omega | (dsimp only; omega))
                · cbv
                · cbv
              · refine r_addf m.sX (by omega) (by omega) fun r8 hr8 => ?_
                conv => cbv
                try have tr8 : Int.toNat r8 = Int.toNat i1 + 1 := by omega
                refine hE2 _ (table_4, r8) ?_ ?_ ⟨(by (try dsimp only); first | omega | (simp only [List.length_nil]; omega)), (by (try dsimp only); first | omega | (simp only [List.length_nil]; omega)), (by (try dsimp only) <;> (first | (rw [show r8 = i1 + 1 by omega, htable_5, show r3 = s_B + rest by omega]; exact tn) | (rw [show r8 = i1 + 1 by omega, htable_6, show r6 = s_B + rest by omega]; exact tn) | (rw [show r8 = i1 + 1 by omega]; exact tabI_no lo2 ti hs_ h3) | (rw [show r8 = i1 + 1 by omega]; exact ts.2.1 h4) | (rw [show r8 = i1 + 1 by omega]; exact (ts.2.2 _ hx1).2 h5 (show ¬ s_B + rest < _ by omega))))⟩ (by first | omega | (dsimp only; omega))
                · cbv
                · cbv
          · refine r_addf m.sX (by omega) (by omega) fun r9 hr9 => ?_
            conv => cbv
            try have tr9 : Int.toNat r9 = Int.toNat i1 + 1 := by omega
            refine hE2 _ (table_4, r9) ?_ ?_ ⟨(by (try dsimp only); first | omega | (simp only [List.length_nil]; omega)), (by (try dsimp only); first | omega | (simp only [List.length_nil]; omega)), (by (try dsimp only) <;> (first | (rw [show r9 = i1 + 1 by omega, htable_5, show r3 = s_B + rest by omega]; exact tn) | (rw [show r9 = i1 + 1 by omega, htable_6, show r6 = s_B + rest by omega]; exact tn) | (rw [show r9 = i1 + 1 by omega]; exact tabI_no lo2 ti hs_ h3) | (rw [show r9 = i1 + 1 by omega]; exact ts.2.1 h4) | (rw [show r9 = i1 + 1 by omega]; exact (ts.2.2 _ hx1).2 h5 (show ¬ s_B + rest < _ by omega))))⟩ (by first | omega | (dsimp only; omega))
            · cbv
            · cbv
        · rw [hs1] at h3
          refine r_addf m.sX (by omega) (by omega) fun r10 hr10 => ?_
          conv => cbv
          try have tr10 : Int.toNat r10 = Int.toNat i1 + 1 := by omega
          refine hE2 _ (table_4, r10) ?_ ?_ ⟨(by (try dsimp only); first | omega | (simp only [List.length_nil]; omega)), (by (try dsimp only); first | omega | (simp only [List.length_nil]; omega)), (by (try dsimp only) <;> (first | (rw [show r10 = i1 + 1 by omega, htable_5, show r3 = s_B + rest by omega]; exact tn) | (rw [show r10 = i1 + 1 by omega, htable_6, show r6 = s_B + rest by omega]; exact tn) | (rw [show r10 = i1 + 1 by omega]; exact tabI_no lo2 ti hs_ h3) | (rw [show r10 = i1 + 1 by omega]; exact ts.2.1 h4) | (rw [show r10 = i1 + 1 by omega]; exact (ts.2.2 _ hx1).2 h5 (show ¬ s_B + rest < _ by omega))))⟩ (by first | omega | (dsimp only; omega))
          · cbv
          · cbv
      · have dz_i1 := drop_end (xs := f) (i := Int.toNat i1) (by omega)
        have tz_i1 := take_end (xs := f) (i := Int.toNat i1) (by omega)
        refine hF2 _ _ ?_
        conv => cbv
        refine r_subf m.sX (by omega) (by omega) fun at__3 hat__3 => ?_
        conv => cbv
        have te := tabI_end (by omega) (by omega) ti (by omega)
        try dsimp only at te
        have tlen2 := ti.len
        try dsimp only at tlen2
        refine hE _ (table_4, at__3) ?_ ?_ ⟨(by (try dsimp only) <;> (omega)), (by (try dsimp only) <;> (exact tlen2)), (by (try dsimp only) <;> (rw [show at__3 + 1 = at__2 by omega]; exact te))⟩ (by first | omega | (dsimp only; omega))
        · cbv
        · cbv
    · refine hF _ _ ?_
      conv => cbv
      exact hQ (.fr 3 1 (rows cInt table_2)) (Eq.trans (by first | rfl | (simp only [lb, lbI, rows_cons, rows_nil, unnilT, unnil, unnilTI, unnilI]; done) | (simp only [lb, lbI, rows_cons, rows_nil, unnilT, unnil, unnilTI, unnilI]; rfl)) (congrArg (fun l => PV.fr 3 1 (rows cInt l)) (show table_2 = (tabN f word).map wV from by rw [show (at__2 + 1).toNat = 0 by omega] at q; exact q))))   -- leaf 1

theorem NarrowestWay_ok (f : List FSort) (word : List UInt8)  : OkA Try.prog 14 [.isl 2 (rows cSort f), .str word] (· = (lic 3 1 cInt) (narA f word)) :=
  OkA.unnil 3 1 (fn_intro envOk fieldsOk mixed Try.func14 rfl fun κ X Y L Q m hQ => by
    conv => cbv
    refine r_callB m.sX (IsFont_ok f) (fun h1 => ?_) (fun h1 => ?_) <;> conv => cbv
    · refine r_callB m.sX (isWord_ok word) (fun h2 => ?_) (fun h2 => ?_) <;> conv => cbv
      · have wl := okWord_len h2
        have hs := okFont_sets h1
        refine r_callF (fun l => PV.fr _ _ (rows _ l)) m.sX (narrowestFrom_ok f word (by first | rfl | assumption | omega | (simp only [List.length_append, List.length_cons, List.length_nil] at *; omega)) (by first | rfl | assumption | omega | (simp only [List.length_append, List.length_cons, List.length_nil] at *; omega))) fun table htable => ?_
        conv => cbv
        have tl : table.length = word.length + 1 := (by rw [htable, List.length_map, tabN_len])
        refine r_oindex m.sX (by omega) (by omega) ?_
        conv => cbv
        obtain ⟨x1, hx1⟩ := get_ex (xs := table) (i := Int.toNat 0) (by omega)
        have mx1 := get_mem hx1
        have vx1 := nth_some hx1
        have x1e : x1 = wV (wayN f word) := (by have z := hx1; rw [htable, tab_get _ _ _ _ (by omega)] at z; exact (Option.some.inj z).symm)
        refine r_oload m.sX hx1 (Nat.le_of_ble_eq_true rfl) ?_
        conv => cbv
        refine r_lss m.sX (fun h3 => ?_) (fun h3 => ?_) <;> conv => cbv
        · exact hQ (.tup [.fr 3 1 [], .int .i64 0, .bool false]) (Eq.trans (by first | rfl | (simp only [lic, licI, lb, lbI, rows_cons, rows_nil, unnilT, unnil, unnilTI, unnilI]; done) | (simp only [lic, licI, lb, lbI, rows_cons, rows_nil, unnilT, unnil, unnilTI, unnilI]; rfl)) (congrArg ((lic 3 1 cInt)) (show ([], 0, false) = narA f word from by first | (rw [narA_none (.inr (.inr (way_neg h1 (by rw [← x1e]; exact h3))))]; done) | (rw [narA_none (.inr (.inl h2))]; done) | (rw [narA_none (.inl h1)]; done) | (obtain ⟨p, qp, ql⟩ := q; rw [List.drop_of_length_le (by omega), wayN_nil] at qp; rw [narA_some h1 h2 hpw, ql, ← Option.some.inj qp, x51, x1e, hpw]; simp [wV]))))   -- leaf 1
        · obtain ⟨pw, hpw⟩ := way_nonneg (f := f) (w := word) (by rw [← x1e]; omega)
          refine r_loopF (α := List Int × Int) m 90 [0, 1, 9] [⟨7, 57, 3, 1, 0⟩, ⟨8, 65, 3, 1, 0⟩] (fun σ => [(0, .isl 2 (rows cSort f)), (1, .str word), (7, .osl 57 0), (8, .osl 65 0), (9, .int .i64 σ.2)]) (fun σ => [(57, 0, .row 3 1 (rows cInt table)), (65, 0, .row 3 1 (rows cInt σ.1))])
            (fun σ => (0 ≤ σ.2) ∧ (σ.2 ≤ (word.length : Int)) ∧ ((σ.1.length : Int) ≤ σ.2) ∧ (∃ p, wayN f (word.drop σ.2.toNat) = some p ∧ pw.2 = σ.1 ++ p.2)) (fun σ => ((word.length : Int) - σ.2).toNat) ([], 0) ?_ ?_ ?_ ?_
          · cbv
          · (try dsimp only); simp only [rows_cons, rows_nil]; cbv
          · exact ⟨(by (try dsimp only); first | omega | (simp only [List.length_nil]; omega)), (by (try dsimp only); first | omega | (simp only [List.length_nil]; omega)), (by (try dsimp only) <;> first | omega | rfl | (simp [*]; done)), (by (try dsimp only) <;> (exact ⟨pw, hpw, rfl⟩))⟩
          rintro ⟨list, at_⟩ ⟨lo1, hi1, ll, q⟩ E hE F hF
          dsimp only at lo1 hi1 ll q
          conv => cbv
          refine r_slen (u := word) m.sX fun n1 hn1 mn1 => ?_   -- n1 = length of word
          conv => cbv
          refine r_lss m.sX (fun h4 => ?_) (fun h4 => ?_) <;> conv => cbv
          · refine r_lenR m.sX fun n2 hn2 mn2 => ?_
            conv => cbv
            obtain ⟨p, qp, ql⟩ := q
            obtain ⟨k, kf, kk⟩ := nar_step h1 (by omega) lo1 (by omega) qp
            refine r_loopF (α := List Int × Int × Int) m 90 [0, 1, 9, 34, 35, 36] [⟨7, 57, 3, 1, 0⟩, ⟨8, 65, 3, 1, 0⟩] (fun σ => [(0, .isl 2 (rows cSort f)), (1, .str word), (7, .osl 57 0), (8, .osl 65 0), (9, .int .i64 σ.2.1), (34, .isl 2 (rows cSort f)), (35, .int .i64 n2), (36, .int .i64 σ.2.2)]) (fun σ => [(57, 0, .row 3 1 (rows cInt table)), (65, 0, .row 3 1 (rows cInt σ.1))])
              (fun σ => (0 ≤ σ.2.2) ∧ (σ.2.2 ≤ n2) ∧ (σ.2.1 = at_) ∧ (σ.1 = list) ∧ (σ.2.2 ≤ k)) (fun σ => (n2 - σ.2.2).toNat) (list, at_, 0) ?_ ?_ ?_ ?_
            · cbv
            · cbv
            · exact ⟨(by (try dsimp only); first | omega | (simp only [List.length_nil]; omega)), (by (try dsimp only); first | omega | (simp only [List.length_nil]; omega)), (by (try dsimp only) <;> (rfl)), (by (try dsimp only) <;> (rfl)), (by (try dsimp only) <;> first | omega | rfl | (simp [*]; done))⟩
            rintro ⟨list_2, at__2, i1⟩ ⟨lo2, hi2, ea, el, ek⟩ E2 hE2 F2 hF2
            dsimp only at lo2 hi2 ea el ek
            conv => cbv
            refine r_lss m.sX (fun h5 => ?_) (fun h5 => ?_) <;> conv => cbv
            · refine r_index m.sX (by omega) (by omega) fun v hs_A => ?_
              obtain ⟨s_A, s_B⟩ := v
              conv => cbv
              have hs_ := hs_A
              have ms_ := get_mem hs_
              have ds_ := drop_cons hs_
              have ks_ := take_snoc hs_
              have js_ : (i1 + 1).toNat = Int.toNat i1 + 1 := by omega
              have sb := hs.1 _ ms_
              try dsimp only at sb
              have ll2 : list_2.length = list.length := (by rw [el])
              have kx := kk i1 _ lo2 ek hs_
              try dsimp only at kx
              refine r_draw m (by kernel_rfl) ?_
              conv => cbv
              refine r_sslice' (u := word) (i := at__2) m.sY (by omega) (by first | omega | (simp only [List.length_cons, List.length_nil]; omega) | (simp; omega)) fun s1 hs1 => ?_   -- s1 = word[at__2:]
              have ls1 : (s1.length : Int) = word.length - at__2 := by rw [hs1]; first | done | (simp; done) | (simp; omega)
              conv => cbv
              refine r_callBS m.sY (HasPrefix_ok s1 s_A) (fun h6 => ?_) (fun h6 => ?_) <;> conv => cbv
              · rw [hs1, ea] at h6
                have pl := (preB_spec h6).1
                try dsimp only at pl
                rw [List.length_drop] at pl
                refine r_slenS (u := s_A) m.sY (by omega) fun n3 hn3 => ?_   -- n3 = length of s_A
                conv => cbv
                refine r_addf m.sY (by omega) (by omega) fun r1 hr1 => ?_
                conv => cbv
                refine r_oindex m.sY (by omega) (by omega) ?_
                conv => cbv
                obtain ⟨x2, hx2⟩ := get_ex (xs := table) (i := Int.toNat r1) (by omega)
                have mx2 := get_mem hx2
                have vx2 := nth_some hx2
                have kr := kx.2 h6 r1 x2 (show r1 = at_ + s_A.length by omega) (by rw [← htable]; exact hx2)
                try dsimp only at kr
                have krb := kr.1
                try dsimp only at krb
                refine r_oload m.sY hx2 (Nat.le_of_ble_eq_true rfl) ?_
                conv => cbv
                refine r_geq m.sY (fun h7 => ?_) (fun h7 => ?_) <;> conv => cbv
                · refine r_slenS (u := s_A) m.sY (by omega) fun n4 hn4 => ?_   -- n4 = length of s_A
                  conv => cbv
                  refine r_addf m.sY (by omega) (by omega) fun r2 hr2 => ?_
                  conv => cbv
                  refine r_oindex m.sY (by omega) (by omega) ?_
                  conv => cbv
                  obtain ⟨x3, hx3⟩ := get_ex (xs := table) (i := Int.toNat r2) (by omega)
                  have mx3 := get_mem hx3
                  have vx3 := nth_some hx3
                  have x32 : x3 = x2 := (by rw [show r2 = r1 by omega, hx2] at hx3; exact (Option.some.inj hx3).symm)
                  refine r_oload m.sY hx3 (Nat.le_of_ble_eq_true rfl) ?_
                  conv => cbv
                  refine r_addf m.sY (by omega) (by omega) fun r3 hr3 => ?_
                  conv => cbv
                  refine r_oindex m.sY (by omega) (by omega) ?_
                  conv => cbv
                  obtain ⟨x4, hx4⟩ := get_ex (xs := table) (i := Int.toNat at__2) (by omega)
                  have mx4 := get_mem hx4
                  have vx4 := nth_some hx4
                  have x4e : x4 = p.1 := (by have z := hx4; rw [htable, tab_get _ _ _ _ (by omega), ea, qp] at z; exact (Option.some.inj z).symm)
                  refine r_oload m.sY hx4 (Nat.le_of_ble_eq_true rfl) ?_
                  conv => cbv
                  refine r_eql m.sY (fun h8 => ?_) (fun h8 => ?_) <;> conv => cbv
                  · refine r_append1 (i1) m.sX rfl (by first | omega | (dsimp only; omega)) (by first | omega | (dsimp only; omega)) fun list_3 hlist_3 => ?_
                    conv => cbv
                    have llist_3 : (list_3.length : Int) = list_2.length + 1 := by rw [hlist_3]; first | done | (simp; done) | (simp; omega)
                    obtain ⟨p', e1, e2⟩ := kr.2.2.2 h7 (show s_B + x2 = p.1 by omega)
                    refine r_slen (u := s_A) m.sX fun n5 hn5 mn5 => ?_   -- n5 = length of s_A
                    conv => cbv
                    refine r_addf m.sX (by omega) (by omega) fun at__3 hat__3 => ?_
                    conv => cbv
                    have ea3 : at__3 = r1 := (by omega)
                    have cl := okFont_codes h1 _ ms_
                    try dsimp only at cl
                    refine hF2 _ _ ?_
                    conv => cbv
                    try have tat__3 : Int.toNat at__3 = Int.toNat at_ + 1 := by omega
                    refine hE _ (list_3, at__3) ?_ ?_ ⟨(by (try dsimp only); first | omega | (simp only [List.length_nil]; omega)), (by (try dsimp only); first | omega | (simp only [List.length_nil]; omega)), (by (try dsimp only) <;> (omega)), (by (try dsimp only) <;> (first | (exfalso; omega) | (exact ⟨p', by rw [ea3]; exact e1, by rw [ql, e2, hlist_3, el]; simp⟩)))⟩ (by first | omega | (dsimp only; omega))
                    · cbv
                    · cbv
                  · have kn := kr.2.2.1 h7 (show s_B + x2 ≠ p.1 by omega)
                    try dsimp only at kn
                    refine r_addf m.sX (by omega) (by omega) fun r4 hr4 => ?_
                    conv => cbv
                    try have tr4 : Int.toNat r4 = Int.toNat i1 + 1 := by omega
                    refine hE2 _ (list_2, at__2, r4) ?_ ?_ ⟨(by (try dsimp only); first | omega | (simp only [List.length_nil]; omega)), (by (try dsimp only); first | omega | (simp only [List.length_nil]; omega)), (by (try dsimp only) <;> first | omega | rfl | (simp [*]; done) | (rw [ea]; simp [*]; done)), (by (try dsimp only) <;> first | omega | rfl | (simp [*]; done) | (rw [el]; simp [*]; done)), (by (try dsimp only) <;> first | omega | rfl | (simp [*]; done) | (rw [ek]; simp [*]; done))⟩ (by first | omega | (dsimp only; omega))
                    · cbv
                    · cbv
                · have kn := kr.2.1 (by omega)
                  try dsimp only at kn
                  refine r_addf m.sX (by omega) (by omega) fun r5 hr5 => ?_
                  conv => cbv
                  try have tr5 : Int.toNat r5 = Int.toNat i1 + 1 := by omega
                  refine hE2 _ (list_2, at__2, r5) ?_ ?_ ⟨(by (try dsimp only); first | omega | (simp only [List.length_nil]; omega)), (by (try dsimp only); first | omega | (simp only [List.length_nil]; omega)), (by (try dsimp only) <;> first | omega | rfl | (simp [*]; done) | (rw [ea]; simp [*]; done)), (by (try dsimp only) <;> first | omega | rfl | (simp [*]; done) | (rw [el]; simp [*]; done)), (by (try dsimp only) <;> first | omega | rfl | (simp [*]; done) | (rw [ek]; simp [*]; done))⟩ (by first | omega | (dsimp only; omega))
                  · cbv
                  · cbv
              · rw [hs1, ea] at h6
                have kn := kx.1 h6
                try dsimp only at kn
                refine r_addf m.sX (by omega) (by omega) fun r6 hr6 => ?_
                conv => cbv
                try have tr6 : Int.toNat r6 = Int.toNat i1 + 1 := by omega
                refine hE2 _ (list_2, at__2, r6) ?_ ?_ ⟨(by (try dsimp only); first | omega | (simp only [List.length_nil]; omega)), (by (try dsimp only); first | omega | (simp only [List.length_nil]; omega)), (by (try dsimp only) <;> first | omega | rfl | (simp [*]; done) | (rw [ea]; simp [*]; done)), (by (try dsimp only) <;> first | omega | rfl | (simp [*]; done) | (rw [el]; simp [*]; done)), (by (try dsimp only) <;> first | omega | rfl | (simp [*]; done) | (rw [ek]; simp [*]; done))⟩ (by first | omega | (dsimp only; omega))
                · cbv
                · cbv
            · have dz_i1 := drop_end (xs := f) (i := Int.toNat i1) (by omega)
              have tz_i1 := take_end (xs := f) (i := Int.toNat i1) (by omega)
              refine hF2 _ _ ?_
              conv => cbv
              try have tat__2 : Int.toNat at__2 = Int.toNat at_ + 1 := by omega
              refine hE _ (list_2, at__2) ?_ ?_ ⟨(by (try dsimp only); first | omega | (simp only [List.length_nil]; omega)), (by (try dsimp only); first | omega | (simp only [List.length_nil]; omega)), (by (try dsimp only) <;> (omega)), (by (try dsimp only) <;> (first | (exfalso; omega) | (exact ⟨p', by rw [ea3]; exact e1, by rw [ql, e2, hlist_3, el]; simp⟩)))⟩ (by first | omega | (dsimp only; omega))
              · cbv
              · cbv
          · refine hF _ _ ?_
            conv => cbv
            refine r_draw m (by kernel_rfl) ?_
            conv => cbv
            refine r_oindex m.sY (by omega) (by omega) ?_
            conv => cbv
            obtain ⟨x5, hx5⟩ := get_ex (xs := table) (i := Int.toNat 0) (by omega)
            have mx5 := get_mem hx5
            have vx5 := nth_some hx5
            have x51 : x5 = x1 := (by rw [hx1] at hx5; exact (Option.some.inj hx5).symm)
            refine r_oload m.sY hx5 (Nat.le_of_ble_eq_true rfl) ?_
            conv => cbv
            exact hQ (.tup [.fr 3 1 (rows cInt list), .int .i64 x5, .bool true]) (Eq.trans (by first | rfl | (simp only [lic, licI, lb, lbI, rows_cons, rows_nil, unnilT, unnil, unnilTI, unnilI]; done) | (simp only [lic, licI, lb, lbI, rows_cons, rows_nil, unnilT, unnil, unnilTI, unnilI]; rfl)) (congrArg ((lic 3 1 cInt)) (show (list, x5, true) = narA f word from by first | (rw [narA_none (.inr (.inr (way_neg h1 (by rw [← x1e]; exact h3))))]; done) | (rw [narA_none (.inr (.inl h2))]; done) | (rw [narA_none (.inl h1)]; done) | (obtain ⟨p, qp, ql⟩ := q; rw [List.drop_of_length_le (by omega), wayN_nil] at qp; rw [narA_some h1 h2 hpw, ql, ← Option.some.inj qp, x51, x1e, hpw]; simp [wV]))))   -- leaf 2
      · exact hQ (.tup [.fr 3 1 [], .int .i64 0, .bool false]) (Eq.trans (by first | rfl | (simp only [lic, licI, lb, lbI, rows_cons, rows_nil, unnilT, unnil, unnilTI, unnilI]; done) | (simp only [lic, licI, lb, lbI, rows_cons, rows_nil, unnilT, unnil, unnilTI, unnilI]; rfl)) (congrArg ((lic 3 1 cInt)) (show ([], 0, false) = narA f word from by first | (rw [narA_none (.inr (.inr (way_neg h1 (by rw [← x1e]; exact h3))))]; done) | (rw [narA_none (.inr (.inl h2))]; done) | (rw [narA_none (.inl h1)]; done) | (obtain ⟨p, qp, ql⟩ := q; rw [List.drop_of_length_le (by omega), wayN_nil] at qp; rw [narA_some h1 h2 hpw, ql, ← Option.some.inj qp, x51, x1e, hpw]; simp [wV]))))   -- leaf 3
    · exact hQ (.tup [.fr 3 1 [], .int .i64 0, .bool false]) (Eq.trans (by first | rfl | (simp only [lic, licI, lb, lbI, rows_cons, rows_nil, unnilT, unnil, unnilTI, unnilI]; done) | (simp only [lic, licI, lb, lbI, rows_cons, rows_nil, unnilT, unnil, unnilTI, unnilI]; rfl)) (congrArg ((lic 3 1 cInt)) (show ([], 0, false) = narA f word from by first | (rw [narA_none (.inr (.inr (way_neg h1 (by rw [← x1e]; exact h3))))]; done) | (rw [narA_none (.inr (.inl h2))]; done) | (rw [narA_none (.inl h1)]; done) | (obtain ⟨p, qp, ql⟩ := q; rw [List.drop_of_length_le (by omega), wayN_nil] at qp; rw [narA_some h1 h2 hpw, ql, ← Option.some.inj qp, x51, x1e, hpw]; simp [wV])))))   -- leaf 4

theorem tyLess_ok (a : List Int) (b : List Int)  : OkA Try.prog 80 [.isl 1 (rows cInt a), .isl 1 (rows cInt b)] (· = .bool (lessL a b)) :=
  fn_intro envOk fieldsOk mixed Try.func80 rfl fun κ X Y L Q m hQ => by
    conv => cbv
    refine r_loopF (α := Int) m 41 [0, 1, 5] [] (fun σ => [(0, .isl 1 (rows cInt a)), (1, .isl 1 (rows cInt b)), (5, .int .i64 σ)]) (fun σ => [])
      (fun σ => (lessL a b = lessL (a.drop σ.toNat) (b.drop σ.toNat)) ∧ (0 ≤ σ ∧ σ ≤ a.length ∧ σ ≤ b.length)) (fun σ => ((a.length : Int) - σ).toNat) 0 ?_ ?_ ?_ ?_
    · cbv
    · cbv
    · exact ⟨(by (try dsimp only) <;> (rfl)), (by (try dsimp only) <;> (omega))⟩
    rintro i ⟨q, ib⟩ E hE F hF
    conv => cbv
    refine r_lenR m.sX fun n1 hn1 mn1 => ?_
    conv => cbv
    refine r_lss m.sX (fun h1 => ?_) (fun h1 => ?_) <;> conv => cbv
    · refine r_lenR m.sX fun n2 hn2 mn2 => ?_
      conv => cbv
      refine r_lss m.sX (fun h2 => ?_) (fun h2 => ?_) <;> conv => cbv
      · refine r_draw m (by kernel_rfl) ?_
        conv => cbv
        refine r_index m.sY (by omega) (by omega) fun x1 hx1 => ?_
        conv => cbv
        have mx1 := get_mem hx1
        have vx1 := nth_some hx1
        refine r_index m.sY (by omega) (by omega) fun x2 hx2 => ?_
        conv => cbv
        have mx2 := get_mem hx2
        have vx2 := nth_some hx2
        refine r_neq m.sY (fun h3 => ?_) (fun h3 => ?_) <;> conv => cbv
        · refine r_draw m (by kernel_rfl) ?_
          conv => cbv
          refine r_index m.sY (by omega) (by omega) fun x3 hx3 => ?_
          conv => cbv
          have mx3 := get_mem hx3
          have vx3 := nth_some hx3
          obtain rfl : x1 = x3 := Option.some.inj (hx1.symm.trans hx3)
          refine r_index m.sY (by omega) (by omega) fun x4 hx4 => ?_
          conv => cbv
          have mx4 := get_mem hx4
          have vx4 := nth_some hx4
          obtain rfl : x2 = x4 := Option.some.inj (hx2.symm.trans hx4)
          refine r_lss m.sY (fun h4 => ?_) (fun h4 => ?_) <;> conv => cbv
          · refine hF _ _ ?_
            conv => cbv
            exact hQ _ (congrArg PV.bool (by first | (rw [q, lessL_drop hx1 hx2, if_neg h3]; done) | (rw [q, lessL_drop hx1 hx2, if_neg h3]; first | (rw [decide_eq_true (by omega)]; done) | (rw [decide_eq_false (by omega)]; done)) | (rw [q, lessL_end (by omega) (by omega) (by omega)]; first | (rw [decide_eq_true (by omega)]; done) | (rw [decide_eq_false (by omega)]; done))))   -- leaf 1
          · refine hF _ _ ?_
            conv => cbv
            exact hQ _ (congrArg PV.bool (by first | (rw [q, lessL_drop hx1 hx2, if_neg h3]; done) | (rw [q, lessL_drop hx1 hx2, if_neg h3]; first | (rw [decide_eq_true (by omega)]; done) | (rw [decide_eq_false (by omega)]; done)) | (rw [q, lessL_end (by omega) (by omega) (by omega)]; first | (rw [decide_eq_true (by omega)]; done) | (rw [decide_eq_false (by omega)]; done))))   -- leaf 2
        · refine r_addf m.sX (by omega) (by omega) fun i_2 hi_2 => ?_
          conv => cbv
          refine hE _ i_2 ?_ ?_ ⟨(by (try dsimp only) <;> (rw [q, lessL_drop hx1 hx2, if_pos h3, show i_2.toNat = i.toNat + 1 by omega])), (by (try dsimp only) <;> (omega))⟩ (by first | omega | (dsimp only; omega))
          · cbv
          · cbv
      · refine hF _ _ ?_
        conv => cbv
        refine r_lenR m.sX fun n3 hn3 mn3 => ?_
        conv => cbv
        refine r_lenR m.sX fun n4 hn4 mn4 => ?_
        conv => cbv
        refine r_lss m.sX (fun h5 => ?_) (fun h5 => ?_) <;> conv => cbv
        · exact hQ _ (congrArg PV.bool (by first | (rw [q, lessL_drop hx1 hx2, if_neg h3]; done) | (rw [q, lessL_drop hx1 hx2, if_neg h3]; first | (rw [decide_eq_true (by omega)]; done) | (rw [decide_eq_false (by omega)]; done)) | (rw [q, lessL_end (by omega) (by omega) (by omega)]; first | (rw [decide_eq_true (by omega)]; done) | (rw [decide_eq_false (by omega)]; done))))   -- leaf 3
        · exact hQ _ (congrArg PV.bool (by first | (rw [q, lessL_drop hx1 hx2, if_neg h3]; done) | (rw [q, lessL_drop hx1 hx2, if_neg h3]; first | (rw [decide_eq_true (by omega)]; done) | (rw [decide_eq_false (by omega)]; done)) | (rw [q, lessL_end (by omega) (by omega) (by omega)]; first | (rw [decide_eq_true (by omega)]; done) | (rw [decide_eq_false (by omega)]; done))))   -- leaf 4
    · refine hF _ _ ?_
      conv => cbv
      refine r_lenR m.sX fun n5 hn5 mn5 => ?_
      conv => cbv
      refine r_lenR m.sX fun n6 hn6 mn6 => ?_
      conv => cbv
      refine r_lss m.sX (fun h6 => ?_) (fun h6 => ?_) <;> conv => cbv
      · exact hQ _ (congrArg PV.bool (by first | (rw [q, lessL_drop hx1 hx2, if_neg h3]; done) | (rw [q, lessL_drop hx1 hx2, if_neg h3]; first | (rw [decide_eq_true (by omega)]; done) | (rw [decide_eq_false (by omega)]; done)) | (rw [q, lessL_end (by omega) (by omega) (by omega)]; first | (rw [decide_eq_true (by omega)]; done) | (rw [decide_eq_false (by omega)]; done))))   -- leaf 5
      · exact hQ _ (congrArg PV.bool (by first | (rw [q, lessL_drop hx1 hx2, if_neg h3]; done) | (rw [q, lessL_drop hx1 hx2, if_neg h3]; first | (rw [decide_eq_true (by omega)]; done) | (rw [decide_eq_false (by omega)]; done)) | (rw [q, lessL_end (by omega) (by omega) (by omega)]; first | (rw [decide_eq_true (by omega)]; done) | (rw [decide_eq_false (by omega)]; done))))   -- leaf 6

end Go.Proofs.Ytkdaikliahnenaa.Ai
