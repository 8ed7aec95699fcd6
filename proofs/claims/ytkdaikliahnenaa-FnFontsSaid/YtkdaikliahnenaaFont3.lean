/- Contracts of the functions on the narrowest way: the reference to set a word. -/
import Derived.Test.YtkdaikliahnenaaFont2
namespace Go.Proofs.Ytkdaikliahnenaa.Ai
open Go Go.Proofs
set_option maxRecDepth 10000
set_option maxHeartbeats 4000000
set_option linter.unusedVariables false
theorem specNarrowestWay_ok (f : List FSort) (word : List UInt8)  : OkA Try.prog 15 [.isl 2 (rows cSort f), .str word] (· = (licI 1 cInt) (narA f word)) :=
  OkA.iceI 1 (fn_intro envOk fieldsOk mixed Try.func15 rfl fun κ X Y L Q m hQ => by
    conv => cbv
    refine r_callB m.sX (tyAsked_ok f word) (fun h1 => ?_) (fun h1 => ?_) <;> conv => cbv
    · have h1' := h1
      rw [Bool.and_eq_true] at h1'
      have wl := okWord_len h1'.2
      have hs := okFont_sets h1'.1
      have fs : ∀ k, -100 ≤ setAt f k ∧ setAt f k ≤ 100 := fun k => by have z := font_sets h1'.1 k; omega
      refine r_slen (u := word) m.sX fun n1 hn1 mn1 => ?_   -- n1 = length of word
      conv => cbv
      refine r_addf m.sX (by omega) (by omega) fun r1 hr1 => ?_
      conv => cbv
      refine r_make (cSl 1 cInt) [] m.sX (by simp only [cSl, rows_nil]; rfl) (by omega) (by omega) (by dsimp only; omega) (by omega) fun ways hways => ?_   -- ways = replicate r1
      have lways : (ways.length : Int) = r1 := by rw [hways]; first | done | (simp; done) | (simp; omega)
      conv => cbv
      refine r_slen (u := word) m.sX fun n2 hn2 mn2 => ?_   -- n2 = length of word
      conv => cbv
      refine r_addf m.sX (by omega) (by omega) fun r2 hr2 => ?_
      conv => cbv
      refine r_make cBool false m.sX rfl (by omega) (by omega) (by dsimp only; omega) (by omega) fun found hfound => ?_   -- found = replicate r2
      have lfound : (found.length : Int) = r2 := by rw [hfound]; first | done | (simp; done) | (simp; omega)
      conv => cbv
      refine r_slen (u := word) m.sX fun n3 hn3 mn3 => ?_   -- n3 = length of word
      conv => cbv
      refine r_oindex m.sX (by omega) (by omega) ?_
      conv => cbv
      obtain ⟨y1, hy1⟩ := get_ex (xs := found) (i := Int.toNat n3) (by omega)
      refine r_ostore (l := Int.toNat n3) true m.sX hy1 (Nat.le_of_ble_eq_true rfl) rfl fun zs1 hzs1 => ?_   -- zs1 = found.set n3 true
      have lzs1 : (zs1.length : Int) = found.length := by rw [hzs1]; first | done | (simp; done) | (simp; omega)
      conv => cbv
      refine r_slen (u := word) m.sX fun n4 hn4 mn4 => ?_   -- n4 = length of word
      conv => cbv
      refine r_subf m.sX (by omega) (by omega) fun at_ hat_ => ?_
      conv => cbv
      refine r_loopF (α := List (List Int) × List Bool × Int) m 133 [0, 1, 9] [⟨7, 57, 26, 1, 0⟩, ⟨8, 65, 4, 1, 0⟩] (fun σ => [(0, .isl 2 (rows cSort f)), (1, .str word), (7, .osl 57 0), (8, .osl 65 0), (9, .int .i64 σ.2.2)]) (fun σ => [(57, 0, .row 26 1 (rows (cSl 1 cInt) σ.1)), (65, 0, .row 4 1 (rows cBool σ.2.1))])
        (fun σ => (-1 ≤ σ.2.2 ∧ σ.2.2 ≤ (word.length : Int) - 1) ∧ (σ.1.length = word.length + 1) ∧ (σ.2.1.length = word.length + 1) ∧ (σ.1.drop (σ.2.2 + 1).toNat = (tabN f (word.drop (σ.2.2 + 1).toNat)).map wL) ∧ (σ.2.1.drop (σ.2.2 + 1).toNat = (tabN f (word.drop (σ.2.2 + 1).toNat)).map Option.isSome) ∧ (∀ k, k < (σ.2.2 + 1).toNat → σ.2.1[k]? = some false ∧ σ.1[k]? = some [])) (fun σ => (σ.2.2 + 1).toNat) (ways, zs1, at_) ?_ ?_ ?_ ?_
      · cbv
      · cbv
      · exact ⟨(by (try dsimp only) <;> (omega)), (by (try dsimp only) <;> (omega)), (by (try dsimp only) <;> (omega)), (by (try dsimp only) <;> ((rw [hways, List.drop_replicate, List.drop_of_length_le (show word.length ≤ (at_ + 1).toNat by omega), show Int.toNat r1 - (at_ + 1).toNat = 1 by omega]; rfl))), (by (try dsimp only) <;> ((rw [hzs1, hfound, List.drop_of_length_le (show word.length ≤ (at_ + 1).toNat by omega), show Int.toNat r2 = word.length + 1 by omega, show Int.toNat n3 = word.length by omega, show (at_ + 1).toNat = word.length by omega, found_init]; rfl))), (by (try dsimp only) <;> ((intro k hk; rw [hzs1, hfound, hways, show Int.toNat r2 = word.length + 1 by omega, show Int.toNat n3 = word.length by omega]; exact ⟨found_init_lt (by omega), by rw [List.getElem?_replicate, if_pos (by omega)]⟩)))⟩
      rintro ⟨ways_2, found_2, at__2⟩ ⟨ib, l1, l2, q1, q2, nn⟩ E hE F hF
      dsimp only at ib l1 l2 q1 q2 nn
      conv => cbv
      refine r_geq m.sX (fun h2 => ?_) (fun h2 => ?_) <;> conv => cbv
      · refine r_lenR m.sX fun n5 hn5 mn5 => ?_
        conv => cbv
        have w0 := wayI_start (f := f) (by omega) (by omega) l1 l2 q1 q2 nn
        clear q1 q2 nn l1 l2 hn1 mn1 hr1 hways lways hn2 mn2 hr2 hfound lfound hn3 mn3 hy1 hzs1 lzs1 hn4 mn4 hat_
        refine r_loopF (α := List (List Int) × List Bool × Int) m 133 [0, 1, 9, 37, 38, 39] [⟨7, 57, 26, 1, 0⟩, ⟨8, 65, 4, 1, 0⟩] (fun σ => [(0, .isl 2 (rows cSort f)), (1, .str word), (7, .osl 57 0), (8, .osl 65 0), (9, .int .i64 at__2), (37, .isl 2 (rows cSort f)), (38, .int .i64 n5), (39, .int .i64 σ.2.2)]) (fun σ => [(57, 0, .row 26 1 (rows (cSl 1 cInt) σ.1)), (65, 0, .row 4 1 (rows cBool σ.2.1))])
          (fun σ => (0 ≤ σ.2.2) ∧ (σ.2.2 ≤ n5) ∧ (WayI f word at__2 σ.2.2 σ.1 σ.2.1)) (fun σ => (n5 - σ.2.2).toNat) (ways_2, found_2, 0) ?_ ?_ ?_ ?_
        · cbv
        · cbv
        · exact ⟨(by (try dsimp only); first | omega | (simp only [List.length_nil]; omega)), (by (try dsimp only); first | omega | (simp only [List.length_nil]; omega)), (by (try dsimp only) <;> (exact w0))⟩
        rintro ⟨ways_3, found_3, i1⟩ ⟨lo2, hi2, wi⟩ E2 hE2 F2 hF2
        dsimp only at lo2 hi2 wi
        conv => cbv
        refine r_lss m.sX (fun h3 => ?_) (fun h3 => ?_) <;> conv => cbv
        · refine r_index m.sX (by omega) (by omega) fun v hs_A => ?_
          obtain ⟨s_A, s_B⟩ := v
          conv => cbv
          have hs_ := hs_A
          have ms_ := get_mem hs_
          have ds_ := drop_cons hs_
          have ks_ := take_snoc hs_
          have js_ : (i1 + 1).toNat = Int.toNat i1 + 1 := by omega
          have wl1 := wi.len1
          try dsimp only at wl1
          have wl2 := wi.len2
          try dsimp only at wl2
          have cl := okFont_codes h1'.1 _ ms_
          try dsimp only at cl
          refine r_slen (u := s_A) m.sX fun n6 hn6 mn6 => ?_   -- n6 = length of s_A
          conv => cbv
          refine r_addf m.sX (by omega) (by omega) fun end_ hend_ => ?_
          conv => cbv
          refine r_draw m (by kernel_rfl) ?_
          conv => cbv
          refine r_slenS (u := word) m.sY (by omega) fun n7 hn7 => ?_   -- n7 = length of word
          conv => cbv
          refine r_gtr m.sY (fun h4 => ?_) (fun h4 => ?_) <;> conv => cbv
          · have pf : preB (word.drop at__2.toNat) s_A = false := preB_long (by rw [List.length_drop]; omega)
            refine r_addf m.sX (by omega) (by omega) fun r3 hr3 => ?_
            conv => cbv
            try have tr3 : Int.toNat r3 = Int.toNat i1 + 1 := by omega
            refine hE2 _ (ways_3, found_3, r3) ?_ ?_ ⟨(by (try dsimp only); first | omega | (simp only [List.length_nil]; omega)), (by (try dsimp only); first | omega | (simp only [List.length_nil]; omega)), (by (try dsimp only) <;> (first | (rw [show r3 = i1 + 1 by omega]; exact wayI_no lo2 wi hs_ (.inl pf)) | (rw [show r3 = i1 + 1 by omega]; exact wayI_no lo2 wi hs_ (.inr (none_of (found_at (by omega) wi.rest2 cl.1 (show end_ = at__2 + s_A.length by omega) hx1)))) | (rw [show r3 = i1 + 1 by omega, hways_4, hfound_4]; exact (st.2.2.2 _ hx3 hx4).1 (by omega)) | (rw [show r3 = i1 + 1 by omega]; exact (st.2.2.2 _ hx3 hx4).2 (by omega)) | (rw [show r3 = i1 + 1 by omega, hways_6, hfound_6]; exact st.2.2.1 hx3) | (exfalso; rw [so6] at h8; cases h8; done)))⟩ (by first | omega | (dsimp only; omega))
            · cbv
            · cbv
          · refine r_sslice (u := word) (i := at__2) (j := end_) m.sY (by omega) (by omega) (by first | omega | (simp only [List.length_cons, List.length_nil]; omega) | (simp; omega)) fun s1 hs1 => ?_   -- s1 = word[at__2:end_]
            have s1e : s1 = (word.drop at__2.toNat).take s_A.length := (by rw [hs1, List.drop_take]; congr 1; omega)
            have ls1 : (s1.length : Int) = end_ - at__2 := by rw [hs1]; first | done | (simp; done) | (simp; omega)
            conv => cbv
            refine r_sneq m.sY (fun h5 => ?_) (fun h5 => ?_) <;> conv => cbv
            · have pf : preB (word.drop at__2.toNat) s_A = false := preB_other (by rw [← s1e]; exact h5)
              refine r_addf m.sX (by omega) (by omega) fun r4 hr4 => ?_
              conv => cbv
              try have tr4 : Int.toNat r4 = Int.toNat i1 + 1 := by omega
              refine hE2 _ (ways_3, found_3, r4) ?_ ?_ ⟨(by (try dsimp only); first | omega | (simp only [List.length_nil]; omega)), (by (try dsimp only); first | omega | (simp only [List.length_nil]; omega)), (by (try dsimp only) <;> (first | (rw [show r4 = i1 + 1 by omega]; exact wayI_no lo2 wi hs_ (.inl pf)) | (rw [show r4 = i1 + 1 by omega]; exact wayI_no lo2 wi hs_ (.inr (none_of (found_at (by omega) wi.rest2 cl.1 (show end_ = at__2 + s_A.length by omega) hx1)))) | (rw [show r4 = i1 + 1 by omega, hways_4, hfound_4]; exact (st.2.2.2 _ hx3 hx4).1 (by omega)) | (rw [show r4 = i1 + 1 by omega]; exact (st.2.2.2 _ hx3 hx4).2 (by omega)) | (rw [show r4 = i1 + 1 by omega, hways_6, hfound_6]; exact st.2.2.1 hx3) | (exfalso; rw [so6] at h8; cases h8; done)))⟩ (by first | omega | (dsimp only; omega))
              · cbv
              · cbv
            · have pt : preB (word.drop at__2.toNat) s_A = true := preB_iff.2 ⟨by rw [List.length_drop]; omega, by rw [← s1e]; exact h5⟩
              refine r_oindex m.sY (by omega) (by omega) ?_
              conv => cbv
              obtain ⟨x1, hx1⟩ := get_ex (xs := found_3) (i := Int.toNat end_) (by omega)
              have mx1 := get_mem hx1
              refine r_oload m.sY hx1 (Nat.le_of_ble_eq_true rfl) ?_
              conv => cbv
              rcases Bool.eq_false_or_eq_true x1 with rfl | rfl <;> conv => cbv
              · refine r_oindex m.sX (by omega) (by omega) ?_
                conv => cbv
                obtain ⟨x2, hx2⟩ := get_ex (xs := ways_3) (i := Int.toNat end_) (by omega)
                have mx2 := get_mem hx2
                have x2w := ways_at (by omega) wi.rest1 cl.1 (show end_ = at__2 + s_A.length by omega) hx2
                try dsimp only at x2w
                have x2l : x2.length ≤ 16 := (by rw [x2w]; exact rest_len h1'.1 (by rw [List.length_drop]; omega) _)
                refine r_oload m.sX hx2 (Nat.le_of_ble_eq_true rfl) ?_
                conv => cbv
                refine r_appendL cInt [i1] m.sX (by simp only [rows_cons, rows_nil]; rfl) (by first | decide | (simp; omega) | omega) (by first | decide | (simp; omega) | omega) fun next hnext => ?_   -- next = [i1] ++ x2
                have hnx : next = i1 :: x2 := (by rw [hnext]; rfl)
                have st := wayI_step h1'.1 (by omega) (by omega) (by omega) lo2 wi hs_ pt (show end_ = at__2 + s_A.length by omega) hx1 hx2 hnx
                try dsimp only at st
                have ni := st.1.1
                try dsimp only at ni
                have nl := st.1.2
                try dsimp only at nl
                clear pt s1e hs1 ls1 x2w ds_ ks_ js_
                conv => cbv
                refine r_draw m (by kernel_rfl) ?_
                conv => cbv
                refine r_oindex m.sY (by omega) (by omega) ?_
                conv => cbv
                obtain ⟨x3, hx3⟩ := get_ex (xs := found_3) (i := Int.toNat at__2) (by omega)
                have mx3 := get_mem hx3
                refine r_oload m.sY hx3 (Nat.le_of_ble_eq_true rfl) ?_
                conv => cbv
                rcases Bool.eq_false_or_eq_true x3 with rfl | rfl <;> conv => cbv
                · refine .inl (r_callFSO intPV m.sY ((tyWide_ok f next (by first | rfl | assumption | omega | (simp only [List.length_append, List.length_cons, List.length_nil] at *; omega)) (by first | rfl | assumption | omega | (simp only [List.length_append, List.length_cons, List.length_nil] at *; omega)) (by first | rfl | assumption | omega | (simp only [List.length_append, List.length_cons, List.length_nil] at *; omega))).ok flat_int) trivial fun r5 hr5 => ?_)
                  conv => cbv
                  try dsimp only at hr5
                  refine r_oindex m.sY (by omega) (by omega) ?_
                  conv => cbv
                  obtain ⟨x4, hx4⟩ := get_ex (xs := ways_3) (i := Int.toNat at__2) (by omega)
                  have mx4 := get_mem hx4
                  have so4 := st.2.1 _ hx3 hx4
                  try dsimp only at so4
                  have si4 := so4.1
                  try dsimp only at si4
                  have sl4 := so4.2.1
                  try dsimp only at sl4
                  refine r_oload m.sY hx4 (Nat.le_of_ble_eq_true rfl) ?_
                  conv => cbv
                  refine r_callFS (PV.int .i64) m.sY (tyWide_ok f x4 (by first | rfl | assumption | omega | (simp only [List.length_append, List.length_cons, List.length_nil] at *; omega)) (by first | rfl | assumption | omega | (simp only [List.length_append, List.length_cons, List.length_nil] at *; omega)) (by first | rfl | assumption | omega | (simp only [List.length_append, List.length_cons, List.length_nil] at *; omega))) trivial fun r6 hr6 => ?_
                  conv => cbv
                  try dsimp only at hr6
                  refine r_lss m.sY (fun h6 => ?_) (fun h6 => ?_) <;> conv => cbv
                  · refine r_oindex m.sX (by omega) (by omega) ?_
                    conv => cbv
                    obtain ⟨y2, hy2⟩ := get_ex (xs := ways_3) (i := Int.toNat at__2) (by omega)
                    refine r_ostore (l := Int.toNat at__2) next m.sX hy2 (Nat.le_of_ble_eq_true rfl) rfl fun ways_4 hways_4 => ?_   -- ways_4 = ways_3.set at__2 next
                    have lways_4 : (ways_4.length : Int) = ways_3.length := by rw [hways_4]; first | done | (simp; done) | (simp; omega)
                    conv => cbv
                    refine r_oindex m.sX (by omega) (by omega) ?_
                    conv => cbv
                    obtain ⟨y3, hy3⟩ := get_ex (xs := found_3) (i := Int.toNat at__2) (by omega)
                    refine r_ostore (l := Int.toNat at__2) true m.sX hy3 (Nat.le_of_ble_eq_true rfl) rfl fun found_4 hfound_4 => ?_   -- found_4 = found_3.set at__2 true
                    have lfound_4 : (found_4.length : Int) = found_3.length := by rw [hfound_4]; first | done | (simp; done) | (simp; omega)
                    conv => cbv
                    refine r_addf m.sX (by omega) (by omega) fun r7 hr7 => ?_
                    conv => cbv
                    try have tr7 : Int.toNat r7 = Int.toNat i1 + 1 := by omega
                    refine hE2 _ (ways_4, found_4, r7) ?_ ?_ ⟨(by (try dsimp only); first | omega | (simp only [List.length_nil]; omega)), (by (try dsimp only); first | omega | (simp only [List.length_nil]; omega)), (by (try dsimp only) <;> (first | (rw [show r7 = i1 + 1 by omega]; exact wayI_no lo2 wi hs_ (.inl pf)) | (rw [show r7 = i1 + 1 by omega]; exact wayI_no lo2 wi hs_ (.inr (none_of (found_at (by omega) wi.rest2 cl.1 (show end_ = at__2 + s_A.length by omega) hx1)))) | (rw [show r7 = i1 + 1 by omega, hways_4, hfound_4]; exact (st.2.2.2 _ hx3 hx4).1 (by omega)) | (rw [show r7 = i1 + 1 by omega]; exact (st.2.2.2 _ hx3 hx4).2 (by omega)) | (rw [show r7 = i1 + 1 by omega, hways_6, hfound_6]; exact st.2.2.1 hx3) | (exfalso; rw [so6] at h8; cases h8; done)))⟩ (by first | omega | (dsimp only; omega))
                    · cbv
                    · cbv
                  · refine .inl (r_callFSO intPV m.sY ((tyWide_ok f next (by first | rfl | assumption | omega | (simp only [List.length_append, List.length_cons, List.length_nil] at *; omega)) (by first | rfl | assumption | omega | (simp only [List.length_append, List.length_cons, List.length_nil] at *; omega)) (by first | rfl | assumption | omega | (simp only [List.length_append, List.length_cons, List.length_nil] at *; omega))).ok flat_int) trivial fun r8 hr8 => ?_)
                    conv => cbv
                    try dsimp only at hr8
                    refine r_oindex m.sY (by omega) (by omega) ?_
                    conv => cbv
                    obtain ⟨x5, hx5⟩ := get_ex (xs := ways_3) (i := Int.toNat at__2) (by omega)
                    have mx5 := get_mem hx5
                    have so5 := st.2.1 _ hx3 hx5
                    try dsimp only at so5
                    have si5 := so5.1
                    try dsimp only at si5
                    have sl5 := so5.2.1
                    try dsimp only at sl5
                    refine r_oload m.sY hx5 (Nat.le_of_ble_eq_true rfl) ?_
                    conv => cbv
                    refine r_callFS (PV.int .i64) m.sY (tyWide_ok f x5 (by first | rfl | assumption | omega | (simp only [List.length_append, List.length_cons, List.length_nil] at *; omega)) (by first | rfl | assumption | omega | (simp only [List.length_append, List.length_cons, List.length_nil] at *; omega)) (by first | rfl | assumption | omega | (simp only [List.length_append, List.length_cons, List.length_nil] at *; omega))) trivial fun r9 hr9 => ?_
                    conv => cbv
                    try dsimp only at hr9
                    refine r_eql m.sY (fun h7 => ?_) (fun h7 => ?_) <;> conv => cbv
                    · refine r_oindex m.sY (by omega) (by omega) ?_
                      conv => cbv
                      obtain ⟨x6, hx6⟩ := get_ex (xs := ways_3) (i := Int.toNat at__2) (by omega)
                      have mx6 := get_mem hx6
                      have so6 := (st.2.1 _ hx3 hx6).2.2
                      try dsimp only at so6
                      refine r_oload m.sY hx6 (Nat.le_of_ble_eq_true rfl) ?_
                      conv => cbv
                      refine .inl (r_callBSO m.sY ((tyLess_ok next x6).ok flat_bool) (fun h8 => ?_) (fun h8 => ?_)) <;> conv => cbv
                      · refine r_oindex m.sX (by omega) (by omega) ?_
                        conv => cbv
                        obtain ⟨y4, hy4⟩ := get_ex (xs := ways_3) (i := Int.toNat at__2) (by omega)
                        refine r_ostore (l := Int.toNat at__2) next m.sX hy4 (Nat.le_of_ble_eq_true rfl) rfl fun ways_5 hways_5 => ?_   -- ways_5 = ways_3.set at__2 next
                        have lways_5 : (ways_5.length : Int) = ways_3.length := by rw [hways_5]; first | done | (simp; done) | (simp; omega)
                        conv => cbv
                        refine r_oindex m.sX (by omega) (by omega) ?_
                        conv => cbv
                        obtain ⟨y5, hy5⟩ := get_ex (xs := found_3) (i := Int.toNat at__2) (by omega)
                        refine r_ostore (l := Int.toNat at__2) true m.sX hy5 (Nat.le_of_ble_eq_true rfl) rfl fun found_5 hfound_5 => ?_   -- found_5 = found_3.set at__2 true
                        have lfound_5 : (found_5.length : Int) = found_3.length := by rw [hfound_5]; first | done | (simp; done) | (simp; omega)
                        conv => cbv
                        refine r_addf m.sX (by omega) (by omega) fun r10 hr10 => ?_
                        conv => cbv
                        try have tr10 : Int.toNat r10 = Int.toNat i1 + 1 := by omega
                        refine hE2 _ (ways_5, found_5, r10) ?_ ?_ ⟨(by (try dsimp only); first | omega | (simp only [List.length_nil]; omega)), (by (try dsimp only); first | omega | (simp only [List.length_nil]; omega)), (by (try dsimp only) <;> (first | (rw [show r10 = i1 + 1 by omega]; exact wayI_no lo2 wi hs_ (.inl pf)) | (rw [show r10 = i1 + 1 by omega]; exact wayI_no lo2 wi hs_ (.inr (none_of (found_at (by omega) wi.rest2 cl.1 (show end_ = at__2 + s_A.length by omega) hx1)))) | (rw [show r10 = i1 + 1 by omega, hways_4, hfound_4]; exact (st.2.2.2 _ hx3 hx4).1 (by omega)) | (rw [show r10 = i1 + 1 by omega]; exact (st.2.2.2 _ hx3 hx4).2 (by omega)) | (rw [show r10 = i1 + 1 by omega, hways_6, hfound_6]; exact st.2.2.1 hx3) | (exfalso; rw [so6] at h8; cases h8; done)))⟩ (by first | omega | (dsimp only; omega))
                        · cbv
                        · cbv
                      · refine r_addf m.sX (by omega) (by omega) fun r11 hr11 => ?_
                        conv => cbv
                        try have tr11 : Int.toNat r11 = Int.toNat i1 + 1 := by omega
                        refine hE2 _ (ways_3, found_3, r11) ?_ ?_ ⟨(by (try dsimp only); first | omega | (simp only [List.length_nil]; omega)), (by (try dsimp only); first | omega | (simp only [List.length_nil]; omega)), (by (try dsimp only) <;> (first | (rw [show r11 = i1 + 1 by omega]; exact wayI_no lo2 wi hs_ (.inl pf)) | (rw [show r11 = i1 + 1 by omega]; exact wayI_no lo2 wi hs_ (.inr (none_of (found_at (by omega) wi.rest2 cl.1 (show end_ = at__2 + s_A.length by omega) hx1)))) | (rw [show r11 = i1 + 1 by omega, hways_4, hfound_4]; exact (st.2.2.2 _ hx3 hx4).1 (by omega)) | (rw [show r11 = i1 + 1 by omega]; exact (st.2.2.2 _ hx3 hx4).2 (by omega)) | (rw [show r11 = i1 + 1 by omega, hways_6, hfound_6]; exact st.2.2.1 hx3) | (exfalso; rw [so6] at h8; cases h8; done)))⟩ (by first | omega | (dsimp only; omega))
                        · cbv
                        · cbv
                    · refine r_addf m.sX (by omega) (by omega) fun r12 hr12 => ?_
                      conv => cbv
                      try have tr12 : Int.toNat r12 = Int.toNat i1 + 1 := by omega
                      refine hE2 _ (ways_3, found_3, r12) ?_ ?_ ⟨(by (try dsimp only); first | omega | (simp only [List.length_nil]; omega)), (by (try dsimp only); first | omega | (simp only [List.length_nil]; omega)), (by (try dsimp only) <;> (first | (rw [show r12 = i1 + 1 by omega]; exact wayI_no lo2 wi hs_ (.inl pf)) | (rw [show r12 = i1 + 1 by omega]; exact wayI_no lo2 wi hs_ (.inr (none_of (found_at (by omega) wi.rest2 cl.1 (show end_ = at__2 + s_A.length by omega) hx1)))) | (rw [show r12 = i1 + 1 by omega, hways_4, hfound_4]; exact (st.2.2.2 _ hx3 hx4).1 (by omega)) | (rw [show r12 = i1 + 1 by omega]; exact (st.2.2.2 _ hx3 hx4).2 (by omega)) | (rw [show r12 = i1 + 1 by omega, hways_6, hfound_6]; exact st.2.2.1 hx3) | (exfalso; rw [so6] at h8; cases h8; done)))⟩ (by first | omega | (dsimp only; omega))
                      · cbv
                      · cbv
                · refine r_oindex m.sX (by omega) (by omega) ?_
                  conv => cbv
                  obtain ⟨y6, hy6⟩ := get_ex (xs := ways_3) (i := Int.toNat at__2) (by omega)
                  refine r_ostore (l := Int.toNat at__2) next m.sX hy6 (Nat.le_of_ble_eq_true rfl) rfl fun ways_6 hways_6 => ?_   -- ways_6 = ways_3.set at__2 next
                  have lways_6 : (ways_6.length : Int) = ways_3.length := by rw [hways_6]; first | done | (simp; done) | (simp; omega)
                  conv => cbv
                  refine r_oindex m.sX (by omega) (by omega) ?_
                  conv => cbv
                  obtain ⟨y7, hy7⟩ := get_ex (xs := found_3) (i := Int.toNat at__2) (by omega)
                  refine r_ostore (l := Int.toNat at__2) true m.sX hy7 (Nat.le_of_ble_eq_true rfl) rfl fun found_6 hfound_6 => ?_   -- found_6 = found_3.set at__2 true
                  have lfound_6 : (found_6.length : Int) = found_3.length := by rw [hfound_6]; first | done | (simp; done) | (simp; omega)
                  conv => cbv
                  refine r_addf m.sX (by omega) (by omega) fun r13 hr13 => ?_
                  conv => cbv
                  try have tr13 : Int.toNat r13 = Int.toNat i1 + 1 := by omega
                  refine hE2 _ (ways_6, found_6, r13) ?_ ?_ ⟨(by (try dsimp only); first | omega | (simp only [List.length_nil]; omega)), (by (try dsimp only); first | omega | (simp only [List.length_nil]; omega)), (by (try dsimp only) <;> (first | (rw [show r13 = i1 + 1 by omega]; exact wayI_no lo2 wi hs_ (.inl pf)) | (rw [show r13 = i1 + 1 by omega]; exact wayI_no lo2 wi hs_ (.inr (none_of (found_at (by omega) wi.rest2 cl.1 (show end_ = at__2 + s_A.length by omega) hx1)))) | (rw [show r13 = i1 + 1 by omega, hways_4, hfound_4]; exact (st.2.2.2 _ hx3 hx4).1 (by omega)) | (rw [show r13 = i1 + 1 by omega]; exact (st.2.2.2 _ hx3 hx4).2 (by omega)) | (rw [show r13 = i1 + 1 by omega, hways_6, hfound_6]; exact st.2.2.1 hx3) | (exfalso; rw [so6] at h8; cases h8; done)))⟩ (by first | omega | (dsimp only; omega))
                  · cbv
                  · cbv
              · refine r_addf m.sX (by omega) (by omega) fun r14 hr14 => ?_
                conv => cbv
                try have tr14 : Int.toNat r14 = Int.toNat i1 + 1 := by omega
                refine hE2 _ (ways_3, found_3, r14) ?_ ?_ ⟨(by (try dsimp only); first | omega | (simp only [List.length_nil]; omega)), (by (try dsimp only); first | omega | (simp only [List.length_nil]; omega)), (by (try dsimp only) <;> (first | (rw [show r14 = i1 + 1 by omega]; exact wayI_no lo2 wi hs_ (.inl pf)) | (rw [show r14 = i1 + 1 by omega]; exact wayI_no lo2 wi hs_ (.inr (none_of (found_at (by omega) wi.rest2 cl.1 (show end_ = at__2 + s_A.length by omega) hx1)))) | (rw [show r14 = i1 + 1 by omega, hways_4, hfound_4]; exact (st.2.2.2 _ hx3 hx4).1 (by omega)) | (rw [show r14 = i1 + 1 by omega]; exact (st.2.2.2 _ hx3 hx4).2 (by omega)) | (rw [show r14 = i1 + 1 by omega, hways_6, hfound_6]; exact st.2.2.1 hx3) | (exfalso; rw [so6] at h8; cases h8; done)))⟩ (by first | omega | (dsimp only; omega))
                · cbv
                · cbv
        · have dz_i1 := drop_end (xs := f) (i := Int.toNat i1) (by omega)
          have tz_i1 := take_end (xs := f) (i := Int.toNat i1) (by omega)
          refine hF2 _ _ ?_
          conv => cbv
          refine r_subf m.sX (by omega) (by omega) fun at__3 hat__3 => ?_
          conv => cbv
          have we := wayI_end (by omega) (by omega) wi (by omega)
          try dsimp only at we
          have wl3 := wi.len1
          try dsimp only at wl3
          have wl4 := wi.len2
          try dsimp only at wl4
          have wn := wi.none
          try dsimp only at wn
          refine hE _ (ways_3, found_3, at__3) ?_ ?_ ⟨(by (try dsimp only) <;> (omega)), (by (try dsimp only) <;> (exact wl3)), (by (try dsimp only) <;> (exact wl4)), (by (try dsimp only) <;> (rw [show at__3 + 1 = at__2 by omega]; exact we.1)), (by (try dsimp only) <;> (rw [show at__3 + 1 = at__2 by omega]; exact we.2)), (by (try dsimp only) <;> (rw [show at__3 + 1 = at__2 by omega]; exact wn))⟩ (by first | omega | (dsimp only; omega))
          · cbv
          · cbv
      · refine hF _ _ ?_
        conv => cbv
        refine r_oindex m.sX (by omega) (by omega) ?_
        conv => cbv
        obtain ⟨x7, hx7⟩ := get_ex (xs := found_2) (i := Int.toNat 0) (by omega)
        have mx7 := get_mem hx7
        rw [show (at__2 + 1).toNat = 0 by omega] at q1 q2
        have f0 := found_at0 q2 hx7
        try dsimp only at f0
        refine r_oload m.sX hx7 (Nat.le_of_ble_eq_true rfl) ?_
        conv => cbv
        rcases Bool.eq_false_or_eq_true x7 with rfl | rfl <;> conv => cbv
        · refine r_draw m (by kernel_rfl) ?_
          conv => cbv
          refine r_oindex m.sY (by omega) (by omega) ?_
          conv => cbv
          obtain ⟨x8, hx8⟩ := get_ex (xs := ways_2) (i := Int.toNat 0) (by omega)
          have mx8 := get_mem hx8
          have w8 := ways_at0 q1 hx8
          try dsimp only at w8
          refine r_oload m.sY hx8 (Nat.le_of_ble_eq_true rfl) ?_
          conv => cbv
          refine r_oindex m.sY (by omega) (by omega) ?_
          conv => cbv
          obtain ⟨x9, hx9⟩ := get_ex (xs := ways_2) (i := Int.toNat 0) (by omega)
          have mx9 := get_mem hx9
          have w9 := ways_at0 q1 hx9
          try dsimp only at w9
          obtain ⟨pw, hpw⟩ := some_of f0
          have wo := wayN_ok (okFont_codes h1'.1) word pw.1 pw.2 hpw
          try dsimp only at wo
          have wb := way_bound h1'.1 hpw
          try dsimp only at wb
          rw [hpw] at w8 w9
          have w9' : x9 = pw.2 := w9
          have wa : ∀ z ∈ x9, 0 ≤ z ∧ z < f.length := (by rw [w9']; exact wo.at_)
          have wb2 : x9.length ≤ 100 := (by rw [w9']; omega)
          refine r_oload m.sY hx9 (Nat.le_of_ble_eq_true rfl) ?_
          conv => cbv
          refine r_callFS (PV.int .i64) m.sY (tyWide_ok f x9 (by first | rfl | assumption | omega | (simp only [List.length_append, List.length_cons, List.length_nil] at *; omega)) (by first | rfl | assumption | omega | (simp only [List.length_append, List.length_cons, List.length_nil] at *; omega)) (by first | rfl | assumption | omega | (simp only [List.length_append, List.length_cons, List.length_nil] at *; omega))) trivial fun r15 hr15 => ?_
          conv => cbv
          try dsimp only at hr15
          exact hQ (.tup [.isl 1 (rows cInt x8), .int .i64 r15, .bool true]) (Eq.trans (by first | rfl | (simp only [lic, licI, lb, lbI, rows_cons, rows_nil, unnilT, unnil, unnilTI, unnilI]; done) | (simp only [lic, licI, lb, lbI, rows_cons, rows_nil, unnilT, unnil, unnilTI, unnilI]; rfl)) (congrArg ((licI 1 cInt)) (show (x8, r15, true) = narA f word from by first | (rw [narA_none (by rcases Bool.eq_false_or_eq_true (okFont f) with z | z; rcases Bool.eq_false_or_eq_true (okWord word) with z2 | z2; (rw [z, z2] at h1; cases h1); exact .inr (.inl z2); exact .inl z)]; done) | (rw [narA_none (.inr (.inr (none_of f0)))]; done) | (rw [narA_some h1'.1 h1'.2 hpw, hr15, w8, w9', wo.wide]; rfl))))   -- leaf 1
        · exact hQ (.tup [.nil, .int .i64 0, .bool false]) (Eq.trans (by first | rfl | (simp only [lic, licI, lb, lbI, rows_cons, rows_nil, unnilT, unnil, unnilTI, unnilI]; done) | (simp only [lic, licI, lb, lbI, rows_cons, rows_nil, unnilT, unnil, unnilTI, unnilI]; rfl)) (congrArg ((licI 1 cInt)) (show ([], 0, false) = narA f word from by first | (rw [narA_none (by rcases Bool.eq_false_or_eq_true (okFont f) with z | z; rcases Bool.eq_false_or_eq_true (okWord word) with z2 | z2; (rw [z, z2] at h1; cases h1); exact .inr (.inl z2); exact .inl z)]; done) | (rw [narA_none (.inr (.inr (none_of f0)))]; done) | (rw [narA_some h1'.1 h1'.2 hpw, hr15, w8, w9', wo.wide]; rfl))))   -- leaf 2
    · exact hQ (.tup [.nil, .int .i64 0, .bool false]) (Eq.trans (by first | rfl | (simp only [lic, licI, lb, lbI, rows_cons, rows_nil, unnilT, unnil, unnilTI, unnilI]; done) | (simp only [lic, licI, lb, lbI, rows_cons, rows_nil, unnilT, unnil, unnilTI, unnilI]; rfl)) (congrArg ((licI 1 cInt)) (show ([], 0, false) = narA f word from by first | (rw [narA_none (by rcases Bool.eq_false_or_eq_true (okFont f) with z | z; rcases Bool.eq_false_or_eq_true (okWord word) with z2 | z2; (rw [z, z2] at h1; cases h1); exact .inr (.inl z2); exact .inl z)]; done) | (rw [narA_none (.inr (.inr (none_of f0)))]; done) | (rw [narA_some h1'.1 h1'.2 hpw, hr15, w8, w9', wo.wide]; rfl)))))   -- leaf 3

end Go.Proofs.Ytkdaikliahnenaa.Ai
