/- Contracts of the reference's search for the fewest quoins. -/
import Derived.Test.YtiaodmfipeoegaaLockU
import Derived.Test.YtiaodmfipeoegaaChaseDraw
namespace Go.Proofs.Ytiaodmfipeoegaa.Ai
open Go Go.Proofs
set_option linter.unusedSimpArgs false
set_option maxRecDepth 10000
set_option maxHeartbeats 4000000
set_option linter.unusedVariables false
set_option maxHeartbeats 400000
/-- The first that does. -/
def firstG (f : Nat → List Int × Bool) : List Nat → List Int × Bool
  | [] => ([], false)
  | k :: r => if (f k).2 = true then f k else firstG f r
def nextQ (q : List Int) : Nat := match q.getLast? with
  | some x => (x + 1).toNat
  | none => 0
/-- What the search answers: so many numbers are still to be chosen. -/
def fewF (P : List Int → Bool) (most : Nat) : Nat → List Int → List Int × Bool
  | 0, q => (q, P q)
  | d + 1, q => firstG (fun k => fewF P most d (q ++ [(k : Int)])) (List.range' (nextQ q) (most - nextQ q))
noncomputable def fewP (w h : Int) (G : Grid) (all : Int) (right : Bool) (q : List Int) : Bool :=
  if right = true then decide (((setL (prsR w.toNat h.toNat G q)).length : Int) = all) else decide (((setL (prsD w.toNat h.toNat G q)).length : Int) = all)
theorem range_one {k m : Nat} (h : k < m) : List.range' k (m - k) = k :: List.range' (k + 1) (m - (k + 1)) := by
  rw [show m - k = (m - (k + 1)) + 1 by omega, List.range'_succ]
theorem next_some {q : List Int} {x : Int} {i : Nat} (hl : i = q.length - 1) (h : q[i]? = some x) : nextQ q = (x + 1).toNat := by
  unfold nextQ
  rw [List.getLast?_eq_getElem?, ← hl, h]
theorem next_nil {q : List Int} (h : q.length = 0) : nextQ q = 0 := by
  rw [List.length_eq_zero_iff.1 h]; rfl
theorem few_in {q : List Int} {m h : Int} (hq : ∀ y ∈ q, 0 ≤ y ∧ y < m) (e : m = h) : ∀ y ∈ q, 0 ≤ y ∧ y < h := e ▸ hq
theorem few_more {q z : List Int} {m k : Int} (hq : ∀ y ∈ q, 0 ≤ y ∧ y < m) (hk : 0 ≤ k ∧ k < m) (e : z = q ++ [k]) : ∀ y ∈ z, 0 ≤ y ∧ y < m := fun y hy => by
  rw [e] at hy
  rcases List.mem_append.1 hy with hy | hy
  · exact hq y hy
  · have : y = k := by simpa using hy
    omega
theorem few_end {P : List Int → Bool} {m n : Nat} {q : List Int} (h : n ≤ q.length) : fewF P m (n - q.length) q = (q, P q) := by
  rw [show n - q.length = 0 by omega]; rfl
/-- The search from a number on. -/
def fewK (P : List Int → Bool) (most n : Int) (q : List Int) (k : Nat) : List Int × Bool := firstG (fun k => fewF P most.toNat (n.toNat - (q.length + 1)) (q ++ [(k : Int)])) (List.range' k (most.toNat - k))
/-- Nothing has been found below a number. -/
def Srch (P : List Int → Bool) (most n : Int) (q : List Int) (k : Int) : Prop := fewF P most.toNat (n.toNat - q.length) q = fewK P most n q k.toNat
theorem Srch.start {P : List Int → Bool} {most n k : Int} {q : List Int} (h : (q.length : Int) < n) (hk : nextQ q = k.toNat) : Srch P most n q k := by
  unfold Srch fewK
  rw [show n.toNat - q.length = (n.toNat - (q.length + 1)) + 1 by omega, fewF, hk]
theorem fewK_one {P : List Int → Bool} {most n k : Int} {q z out : List Int} {ok : Bool} (h0 : 0 ≤ k) (hk : k < most) (hz : z = q ++ [k]) (e : (out, ok) = fewF P most.toNat (n.toNat - z.length) z) : fewK P most n q k.toNat = if ok = true then (out, ok) else fewK P most n q (k.toNat + 1) := by
  have e2 : fewF P most.toNat (n.toNat - (q.length + 1)) (q ++ [((k.toNat : Nat) : Int)]) = (out, ok) := by
    rw [show ((k.toNat : Nat) : Int) = k by omega, ← hz, e, show q.length + 1 = z.length by rw [hz]; simp]
  unfold fewK
  rw [range_one (by omega), firstG, e2]
theorem Srch.next {P : List Int → Bool} {most n k k2 : Int} {q z out : List Int} (s : Srch P most n q k) (h0 : 0 ≤ k) (hk : k < most) (hk2 : k2 = k + 1) (hz : z = q ++ [k]) (e : (out, false) = fewF P most.toNat (n.toNat - z.length) z) : Srch P most n q k2 := by
  unfold Srch at s ⊢
  rw [s, fewK_one h0 hk hz e, if_neg (by decide), show k2.toNat = k.toNat + 1 by omega]
theorem Srch.found {P : List Int → Bool} {most n k : Int} {q z out : List Int} (s : Srch P most n q k) (h0 : 0 ≤ k) (hk : k < most) (hz : z = q ++ [k]) (e : (out, true) = fewF P most.toNat (n.toNat - z.length) z) : (out, true) = fewF P most.toNat (n.toNat - q.length) q := by
  rw [Srch] at s
  rw [s, fewK_one h0 hk hz e, if_pos rfl]
theorem Srch.none {P : List Int → Bool} {most n k : Int} {q : List Int} (s : Srch P most n q k) (h0 : 0 ≤ k) (hk : most ≤ k) : ([], false) = fewF P most.toNat (n.toNat - q.length) q := by
  rw [Srch] at s
  rw [s, fewK, show most.toNat - k.toNat = 0 by omega]; rfl
theorem lkFewest_body (grid : List Int) (width : Int) (height : Int) (most : Int) (all : Int) (quoins : List Int) (n : Int) (right : Bool) (G : Grid) (fo : FlatOk grid width height G) (hR : right = true → most = height) (hC : right = false → most = width) (rt : Bool) (hrt : right = rt) (hm : 1 ≤ most ∧ most ≤ 8) (hq : ∀ y ∈ quoins, 0 ≤ y ∧ y < most) (hn : (quoins.length : Int) ≤ n ∧ n ≤ 8) (ih : (quoins.length : Int) < n → ∀ (qs : List Int), (∀ y ∈ qs, 0 ≤ y ∧ y < most) → (qs.length : Int) = quoins.length + 1 → OkA Try.prog 174 [.isl 1 (rows cInt grid), .int .i64 width, .int .i64 height, .int .i64 most, .int .i64 all, .isl 1 (rows cInt qs), .int .i64 n, .bool right] (· = lbI 1 cInt (fewF (fewP width height G all rt) most.toNat (n.toNat - qs.length) qs))) : OkA Try.prog 174 [.isl 1 (rows cInt grid), .int .i64 width, .int .i64 height, .int .i64 most, .int .i64 all, .isl 1 (rows cInt quoins), .int .i64 n, .bool right] (· = (lbI 1 cInt) (fewF (fewP width height G all rt) most.toNat (n.toNat - quoins.length) quoins)) :=
  OkA.iceI 1 (fn_intro envOk fieldsOk mixed Try.func174 rfl fun κ X Y L Q m hQ => by
    conv => cbv
    refine r_lenR m.sX fun n1 hn1 mn1 => ?_
    conv => cbv
    refine r_eql m.sX (fun h1 => ?_) (fun h1 => ?_) <;> conv => cbv
    · rcases Bool.eq_false_or_eq_true right with rfl | rfl <;> conv => cbv
      · refine r_callF (fun l => PV.isl _ (rows _ l)) m.sX (lkRight_ok grid width height quoins G fo (few_in hq (hR rfl))) fun v1 hv1 => ?_
        conv => cbv
        refine r_lenR m.sX fun n2 hn2 mn2 => ?_
        conv => cbv
        refine r_eql m.sX (fun h2 => ?_) (fun h2 => ?_) <;> conv => cbv
        · exact hQ (.tup [.isl 1 (rows cInt quoins), .bool true]) (Eq.trans (by first | rfl | (simp only [lb, lbI, rows_cons, rows_nil, unnilT, unnil, unnilTI, unnilI]; done) | (simp only [lb, lbI, rows_cons, rows_nil, unnilT, unnil, unnilTI, unnilI]; rfl)) (congrArg ((lbI 1 cInt)) (show (quoins, true) = fewF (fewP width height G all rt) most.toNat (n.toNat - quoins.length) quoins from by rw [few_end (by omega), fewP, ← hrt, if_pos rfl, ← hv1, decide_eq_true (by omega)])))   -- leaf 1
        · exact hQ (.tup [.isl 1 (rows cInt quoins), .bool false]) (Eq.trans (by first | rfl | (simp only [lb, lbI, rows_cons, rows_nil, unnilT, unnil, unnilTI, unnilI]; done) | (simp only [lb, lbI, rows_cons, rows_nil, unnilT, unnil, unnilTI, unnilI]; rfl)) (congrArg ((lbI 1 cInt)) (show (quoins, false) = fewF (fewP width height G all rt) most.toNat (n.toNat - quoins.length) quoins from by rw [few_end (by omega), fewP, ← hrt, if_pos rfl, ← hv1, decide_eq_false (by omega)])))   -- leaf 2
      · refine r_callF (fun l => PV.isl _ (rows _ l)) m.sX (lkBelow_ok grid width height quoins G fo (few_in hq (hC rfl))) fun v2 hv2 => ?_
        conv => cbv
        refine r_lenR m.sX fun n3 hn3 mn3 => ?_
        conv => cbv
        refine r_eql m.sX (fun h3 => ?_) (fun h3 => ?_) <;> conv => cbv
        · exact hQ (.tup [.isl 1 (rows cInt quoins), .bool true]) (Eq.trans (by first | rfl | (simp only [lb, lbI, rows_cons, rows_nil, unnilT, unnil, unnilTI, unnilI]; done) | (simp only [lb, lbI, rows_cons, rows_nil, unnilT, unnil, unnilTI, unnilI]; rfl)) (congrArg ((lbI 1 cInt)) (show (quoins, true) = fewF (fewP width height G all rt) most.toNat (n.toNat - quoins.length) quoins from by rw [few_end (by omega), fewP, ← hrt, if_neg (by decide), ← hv2, decide_eq_true (by omega)])))   -- leaf 3
        · exact hQ (.tup [.isl 1 (rows cInt quoins), .bool false]) (Eq.trans (by first | rfl | (simp only [lb, lbI, rows_cons, rows_nil, unnilT, unnil, unnilTI, unnilI]; done) | (simp only [lb, lbI, rows_cons, rows_nil, unnilT, unnil, unnilTI, unnilI]; rfl)) (congrArg ((lbI 1 cInt)) (show (quoins, false) = fewF (fewP width height G all rt) most.toNat (n.toNat - quoins.length) quoins from by rw [few_end (by omega), fewP, ← hrt, if_neg (by decide), ← hv2, decide_eq_false (by omega)])))   -- leaf 4
    · refine r_lenR m.sX fun n4 hn4 mn4 => ?_
      conv => cbv
      refine r_gtr m.sX (fun h4 => ?_) (fun h4 => ?_) <;> conv => cbv
      · refine r_lenR m.sX fun n5 hn5 mn5 => ?_
        conv => cbv
        refine r_subf m.sX (by omega) (by omega) fun r1 hr1 => ?_
        conv => cbv
        refine r_index m.sX (by omega) (by omega) fun x1 hx1 => ?_
        conv => cbv
        have mx1 := get_mem hx1
        have vx1 := nth_some hx1
        have xq := hq x1 (List.mem_of_getElem? hx1)
        refine r_addf m.sX (by omega) (by omega) fun next hnext => ?_
        conv => cbv
        have nq := next_some (by omega) hx1
        refine r_loopF (α := Int) m 79 [0, 1, 2, 3, 4, 5, 6, 7, 19] [] (fun σ => [(0, .isl 1 (rows cInt grid)), (1, .int .i64 width), (2, .int .i64 height), (3, .int .i64 most), (4, .int .i64 all), (5, .isl 1 (rows cInt quoins)), (6, .int .i64 n), (7, .bool right), (19, .int .i64 σ)]) (fun σ => [])
          (fun σ => (0 ≤ σ ∧ (nextQ quoins : Int) ≤ σ) ∧ (Srch (fewP width height G all rt) most n quoins σ)) (fun σ => (most - σ).toNat) next ?_ ?_ ?_ ?_
        · cbv
        · cbv
        · exact ⟨(by (try dsimp only) <;> first | omega | rfl | (simp [*]; done)), (by (try dsimp only) <;> (exact Srch.start (by omega) (by omega)))⟩
        rintro k ⟨kb, q⟩ E hE F hF
        conv => cbv
        refine r_lss m.sX (fun h5 => ?_) (fun h5 => ?_) <;> conv => cbv
        · refine r_callF (fun l => PV.fr _ _ (rows _ l)) m.sX (l1Own_ok quoins (by first | rfl | assumption | omega | (simp only [List.length_append, List.length_cons, List.length_nil] at *; omega))) fun v3 hv3 => ?_
          conv => cbv
          have lv3 : v3.length = quoins.length := (by rw [hv3])
          refine r_append1 (k) m.sX rfl (by first | omega | (dsimp only; omega)) (by first | omega | (dsimp only; omega)) fun zs1 hzs1 => ?_
          conv => cbv
          have lzs1 : (zs1.length : Int) = v3.length + 1 := by rw [hzs1]; first | done | (simp; done) | (simp; omega)
          have ezs1 : (zs1.length : Int) = quoins.length + 1 := (by rw [hzs1, hv3]; simp)
          have dzs1 : ∀ y ∈ zs1, 0 ≤ y ∧ y < most := few_more hq ⟨(show 0 ≤ k by omega), by omega⟩ (by rw [hzs1, hv3])
          refine .inr (r_pcallF (lbI 1 cInt) m.sX (ih (by omega) zs1 dzs1 ezs1) fun v hout => ?_)
          obtain ⟨out, ok⟩ := v
          conv => cbv
          rcases Bool.eq_false_or_eq_true ok with rfl | rfl <;> conv => cbv
          · refine hF _ _ ?_
            conv => cbv
            exact hQ (.tup [.isl 1 (rows cInt out), .bool true]) (Eq.trans (by first | rfl | (simp only [lb, lbI, rows_cons, rows_nil, unnilT, unnil, unnilTI, unnilI]; done) | (simp only [lb, lbI, rows_cons, rows_nil, unnilT, unnil, unnilTI, unnilI]; rfl)) (congrArg ((lbI 1 cInt)) (show (out, true) = fewF (fewP width height G all rt) most.toNat (n.toNat - quoins.length) quoins from by exact q.found (by omega) (by omega) (show zs1 = _ by rw [hzs1, hv3]) hout)))   -- leaf 5
          · refine r_addf m.sX (by omega) (by omega) fun k_2 hk_2 => ?_
            conv => cbv
            refine hE _ k_2 ?_ ?_ ⟨(by (try dsimp only) <;> first | omega | rfl | (simp [*]; done) | (rw [kb]; simp [*]; done)), (by (try dsimp only) <;> (first | exact q.next (by omega) (by omega) (by omega) (show zs1 = _ by rw [hzs1, hv3]) hout | exact q.next (by omega) (by omega) (by omega) (show zs2 = _ by rw [hzs2, hv4]) hout_2))⟩ (by first | omega | (dsimp only; omega))
            · cbv
            · cbv
        · refine hF _ _ ?_
          conv => cbv
          exact hQ (.tup [.nil, .bool false]) (Eq.trans (by first | rfl | (simp only [lb, lbI, rows_cons, rows_nil, unnilT, unnil, unnilTI, unnilI]; done) | (simp only [lb, lbI, rows_cons, rows_nil, unnilT, unnil, unnilTI, unnilI]; rfl)) (congrArg ((lbI 1 cInt)) (show ([], false) = fewF (fewP width height G all rt) most.toNat (n.toNat - quoins.length) quoins from by exact q.none (by omega) (by omega))))   -- leaf 6
      · have nq0 : nextQ quoins = 0 := next_nil (by omega)
        refine r_loopF (α := Int) m 79 [0, 1, 2, 3, 4, 5, 6, 7, 19] [] (fun σ => [(0, .isl 1 (rows cInt grid)), (1, .int .i64 width), (2, .int .i64 height), (3, .int .i64 most), (4, .int .i64 all), (5, .isl 1 (rows cInt quoins)), (6, .int .i64 n), (7, .bool right), (19, .int .i64 σ)]) (fun σ => [])
          (fun σ => (0 ≤ σ ∧ (nextQ quoins : Int) ≤ σ) ∧ (Srch (fewP width height G all rt) most n quoins σ)) (fun σ => (most - σ).toNat) 0 ?_ ?_ ?_ ?_
        · cbv
        · cbv
        · exact ⟨(by (try dsimp only) <;> first | omega | rfl | (simp [*]; done)), (by (try dsimp only) <;> (exact Srch.start (by omega) (by rw [nq0]; rfl)))⟩
        rintro k_3 ⟨kb, q⟩ E hE F hF
        conv => cbv
        refine r_lss m.sX (fun h6 => ?_) (fun h6 => ?_) <;> conv => cbv
        · refine r_callF (fun l => PV.fr _ _ (rows _ l)) m.sX (l1Own_ok quoins (by first | rfl | assumption | omega | (simp only [List.length_append, List.length_cons, List.length_nil] at *; omega))) fun v4 hv4 => ?_
          conv => cbv
          have lv4 : v4.length = quoins.length := (by rw [hv4])
          refine r_append1 (k_3) m.sX rfl (by first | omega | (dsimp only; omega)) (by first | omega | (dsimp only; omega)) fun zs2 hzs2 => ?_
          conv => cbv
          have lzs2 : (zs2.length : Int) = v4.length + 1 := by rw [hzs2]; first | done | (simp; done) | (simp; omega)
          have ezs2 : (zs2.length : Int) = quoins.length + 1 := (by rw [hzs2, hv4]; simp)
          have dzs2 : ∀ y ∈ zs2, 0 ≤ y ∧ y < most := few_more hq ⟨(show 0 ≤ k_3 by omega), by omega⟩ (by rw [hzs2, hv4])
          refine .inr (r_pcallF (lbI 1 cInt) m.sX (ih (by omega) zs2 dzs2 ezs2) fun v hout_2 => ?_)
          obtain ⟨out_2, ok_2⟩ := v
          conv => cbv
          rcases Bool.eq_false_or_eq_true ok_2 with rfl | rfl <;> conv => cbv
          · refine hF _ _ ?_
            conv => cbv
            exact hQ (.tup [.isl 1 (rows cInt out_2), .bool true]) (Eq.trans (by first | rfl | (simp only [lb, lbI, rows_cons, rows_nil, unnilT, unnil, unnilTI, unnilI]; done) | (simp only [lb, lbI, rows_cons, rows_nil, unnilT, unnil, unnilTI, unnilI]; rfl)) (congrArg ((lbI 1 cInt)) (show (out_2, true) = fewF (fewP width height G all rt) most.toNat (n.toNat - quoins.length) quoins from by exact q.found (by omega) (by omega) (show zs2 = _ by rw [hzs2, hv4]) hout_2)))   -- leaf 7
          · refine r_addf m.sX (by omega) (by omega) fun k_4 hk_4 => ?_
            conv => cbv
            refine hE _ k_4 ?_ ?_ ⟨(by (try dsimp only) <;> first | omega | rfl | (simp [*]; done) | (rw [kb]; simp [*]; done)), (by (try dsimp only) <;> (first | exact q.next (by omega) (by omega) (by omega) (show zs1 = _ by rw [hzs1, hv3]) hout | exact q.next (by omega) (by omega) (by omega) (show zs2 = _ by rw [hzs2, hv4]) hout_2))⟩ (by first | omega | (dsimp only; omega))
            · cbv
            · cbv
        · refine hF _ _ ?_
          conv => cbv
          exact hQ (.tup [.nil, .bool false]) (Eq.trans (by first | rfl | (simp only [lb, lbI, rows_cons, rows_nil, unnilT, unnil, unnilTI, unnilI]; done) | (simp only [lb, lbI, rows_cons, rows_nil, unnilT, unnil, unnilTI, unnilI]; rfl)) (congrArg ((lbI 1 cInt)) (show ([], false) = fewF (fewP width height G all rt) most.toNat (n.toNat - quoins.length) quoins from by exact q.none (by omega) (by omega)))))   -- leaf 8

theorem lkFewest_go {grid : List Int} {width height most all n : Int} {right : Bool} {G : Grid} (fo : FlatOk grid width height G) (hR : right = true → most = height) (hC : right = false → most = width) (hm : 1 ≤ most ∧ most ≤ 8) (hn8 : n ≤ 8) : ∀ (d : Nat) (quoins : List Int), n.toNat - quoins.length = d → (∀ y ∈ quoins, 0 ≤ y ∧ y < most) → (quoins.length : Int) ≤ n →
    OkA Try.prog 174 [.isl 1 (rows cInt grid), .int .i64 width, .int .i64 height, .int .i64 most, .int .i64 all, .isl 1 (rows cInt quoins), .int .i64 n, .bool right] (· = lbI 1 cInt (fewF (fewP width height G all right) most.toNat (n.toNat - quoins.length) quoins)) := by
  intro d
  induction d with
  | zero => intro q hd hq hl; exact lkFewest_body grid width height most all q n right G fo hR hC right rfl hm hq ⟨hl, hn8⟩ fun h => absurd h (by omega)
  | succ d ih => intro q hd hq hl; exact lkFewest_body grid width height most all q n right G fo hR hC right rfl hm hq ⟨hl, hn8⟩ fun h qs h1 h2 => ih qs (by omega) h1 (by omega)
theorem lkFewest0_ok (grid : List Int) (width height most all n : Int) (right : Bool) (G : Grid) (fo : FlatOk grid width height G) (hR : right = true → most = height) (hC : right = false → most = width) (hm : 1 ≤ most ∧ most ≤ 8) (hn : 0 ≤ n ∧ n ≤ 8) : OkA Try.prog 174 [.isl 1 (rows cInt grid), .int .i64 width, .int .i64 height, .int .i64 most, .int .i64 all, .nil, .int .i64 n, .bool right] (· = lbI 1 cInt (fewF (fewP width height G all right) most.toNat n.toNat [])) := by
  have h := lkFewest_go (all := all) fo hR hC hm hn.2 n.toNat [] rfl (fun y hy => by cases hy) (by simpa using hn.1)
  refine ⟨h.1, fun w I vs hI ha => h.2 w I vs hI ?_⟩
  rw [rows_nil]
  cases ha with
  | cons a1 ha => cases ha with
    | cons a2 ha => cases ha with
      | cons a3 ha => cases ha with
        | cons a4 ha => cases ha with
          | cons a5 ha => cases ha with
            | cons a6 ha => exact .cons a1 (.cons a2 (.cons a3 (.cons a4 (.cons a5 (.cons (a6.nil_isl 1) ha)))))
theorem lkFewest1_ok (grid : List Int) (width height most all n : Int) (right : Bool) (G : Grid) (fo : FlatOk grid width height G) (hM : (if right = true then height else width) = most) (hn : 0 ≤ n ∧ n ≤ 8) : OkA Try.prog 174 [.isl 1 (rows cInt grid), .int .i64 width, .int .i64 height, .int .i64 most, .int .i64 all, .nil, .int .i64 n, .bool right] (· = lbI 1 cInt (fewF (fewP width height G all right) most.toNat n.toNat [])) := by
  obtain ⟨-, hw, hh, -⟩ := id fo
  refine lkFewest0_ok grid width height most all n right G fo (fun e => ?_) (fun e => ?_) ?_ hn
  · rw [← hM, if_pos e]
  · rw [← hM, e]; rfl
  · rw [← hM]; split <;> omega
/-- The fewest quoins, by their number. -/
def leastF (P : List Int → Bool) (m : Nat) : List Int × Bool := firstG (fun n => fewF P m n []) (List.range' 0 (m + 1))
noncomputable def leastA (w h : Int) (ps : List Piece) (pl : List Plc) (right : Bool) : List Int × Bool := match chaseF w h ps pl with
  | some G => leastF (fewP w h G pl.length right) (if right = true then h.toNat else w.toNat)
  | none => ([], false)
def lstK (P : List Int → Bool) (m : Int) (k : Nat) : List Int × Bool := firstG (fun n => fewF P m.toNat n []) (List.range' k (m.toNat + 1 - k))
theorem lst_start (P : List Int → Bool) (m : Int) : leastF P m.toNat = lstK P m 0 := rfl
theorem lst_one {P : List Int → Bool} {m k : Int} {out : List Int} {ok : Bool} (h0 : 0 ≤ k) (hk : k ≤ m) (e : (out, ok) = fewF P m.toNat k.toNat []) : lstK P m k.toNat = if ok = true then (out, ok) else lstK P m (k.toNat + 1) := by
  unfold lstK
  rw [range_one (by omega), firstG, ← e]
theorem lst_next {P : List Int → Bool} {m k k2 : Int} {out : List Int} (q : leastF P m.toNat = lstK P m k.toNat) (h0 : 0 ≤ k) (hk : k ≤ m) (hk2 : k2 = k + 1) (e : (out, false) = fewF P m.toNat k.toNat []) : leastF P m.toNat = lstK P m k2.toNat := by
  rw [q, lst_one h0 hk e, if_neg (by decide), show k2.toNat = k.toNat + 1 by omega]
theorem lst_found {P : List Int → Bool} {m k : Int} {out : List Int} (q : leastF P m.toNat = lstK P m k.toNat) (h0 : 0 ≤ k) (hk : k ≤ m) (e : (out, true) = fewF P m.toNat k.toNat []) : (out, true) = leastF P m.toNat := by
  rw [q, lst_one h0 hk e, if_pos rfl]
theorem lst_none {P : List Int → Bool} {m k : Int} (q : leastF P m.toNat = lstK P m k.toNat) (h0 : 0 ≤ m) (hk : m < k) : ([], false) = leastF P m.toNat := by
  rw [q, lstK, show m.toNat + 1 - k.toNat = 0 by omega]; rfl
theorem lkLeast_ok (width : Int) (height : Int) (pieces : List Piece) (placed : List Plc) (right : Bool) (rt : Bool) (hrt : right = rt) : OkA Try.prog 165 [.int .i64 width, .int .i64 height, .isl 2 (rows cPiece pieces), .isl 4 (rows cPlaced placed), .bool right] (· = (lbI 1 cInt) (leastA width height pieces placed rt)) :=
  OkA.iceI 1 (fn_intro envOk fieldsOk mixed Try.func165 rfl fun κ X Y L Q m hQ => by
    conv => cbv
    refine r_callB m.sX (fuAsked_ok width height pieces placed) (fun h1 => ?_) (fun h1 => ?_) <;> conv => cbv
    · obtain ⟨G, eG, oc, sg, bw⟩ := asked_some h1
      refine r_callF (lbI 1 cInt) m.sX (fuGridI_ok width height pieces placed G eG) fun v hgrid => ?_
      obtain ⟨grid, v1⟩ := v
      conv => cbv
      have eg : grid = flaG width.toNat height.toNat G := by rw [gridL_get eG] at hgrid; exact (Prod.mk.inj hgrid).1
      have fo := flat_ok eG eg
      rcases Bool.eq_false_or_eq_true right with rfl | rfl <;> conv => cbv
      · refine r_loopF (α := Int) m 54 [0, 1, 3, 4, 12, 14, 15] [] (fun σ => [(0, .int .i64 width), (1, .int .i64 height), (3, .isl 4 (rows cPlaced placed)), (4, .bool true), (12, .isl 1 (rows cInt grid)), (14, .int .i64 height), (15, .int .i64 σ)]) (fun σ => [])
          (fun σ => (0 ≤ σ ∧ σ ≤ height + 1) ∧ (leastF (fewP width height G placed.length true) (height).toNat = lstK (fewP width height G placed.length true) height σ.toNat)) (fun σ => (height + 1 - σ).toNat) 0 ?_ ?_ ?_ ?_
        · cbv
        · cbv
        · exact ⟨(by (try dsimp only) <;> first | omega | rfl | (simp [*]; done)), (by (try dsimp only) <;> (exact lst_start _ _))⟩
        rintro n ⟨nb, q⟩ E hE F hF
        conv => cbv
        refine r_leq m.sX (fun h2 => ?_) (fun h2 => ?_) <;> conv => cbv
        · refine r_lenR m.sX fun n1 hn1 mn1 => ?_
          conv => cbv
          refine r_callF (lbI 1 cInt) m.sX (lkFewest1_ok grid width height height n1 n true G fo rfl ⟨by omega, by omega⟩) fun v hout => ?_
          obtain ⟨out, ok⟩ := v
          conv => cbv
          rcases Bool.eq_false_or_eq_true ok with rfl | rfl <;> conv => cbv
          · refine hF _ _ ?_
            conv => cbv
            exact hQ (.tup [.isl 1 (rows cInt out), .bool true]) (Eq.trans (by first | rfl | (simp only [lb, lbI, rows_cons, rows_nil, unnilT, unnil, unnilTI, unnilI]; done) | (simp only [lb, lbI, rows_cons, rows_nil, unnilT, unnil, unnilTI, unnilI]; rfl)) (congrArg ((lbI 1 cInt)) (show (out, true) = leastA width height pieces placed rt from by rw [leastA, eG, ← hrt]; exact lst_found q (by omega) (by omega) (by rw [hout, hn1]))))   -- leaf 1
          · refine r_addf m.sX (by omega) (by omega) fun n_2 hn_2 => ?_
            conv => cbv
            refine hE _ n_2 ?_ ?_ ⟨(by (try dsimp only) <;> first | omega | rfl | (simp [*]; done) | (rw [nb]; simp [*]; done)), (by (try dsimp only) <;> (exact lst_next q (by omega) (by omega) (by omega) (by rw [hout, hn1])))⟩ (by first | omega | (dsimp only; omega))
            · cbv
            · cbv
        · refine hF _ _ ?_
          conv => cbv
          exact hQ (.tup [.nil, .bool false]) (Eq.trans (by first | rfl | (simp only [lb, lbI, rows_cons, rows_nil, unnilT, unnil, unnilTI, unnilI]; done) | (simp only [lb, lbI, rows_cons, rows_nil, unnilT, unnil, unnilTI, unnilI]; rfl)) (congrArg ((lbI 1 cInt)) (show ([], false) = leastA width height pieces placed rt from by rw [leastA, eG, ← hrt]; exact lst_none q (by omega) (by omega))))   -- leaf 2
      · refine r_loopF (α := Int) m 54 [0, 1, 3, 4, 12, 14, 15] [] (fun σ => [(0, .int .i64 width), (1, .int .i64 height), (3, .isl 4 (rows cPlaced placed)), (4, .bool false), (12, .isl 1 (rows cInt grid)), (14, .int .i64 width), (15, .int .i64 σ)]) (fun σ => [])
          (fun σ => (0 ≤ σ ∧ σ ≤ width + 1) ∧ (leastF (fewP width height G placed.length false) (width).toNat = lstK (fewP width height G placed.length false) width σ.toNat)) (fun σ => (width + 1 - σ).toNat) 0 ?_ ?_ ?_ ?_
        · cbv
        · cbv
        · exact ⟨(by (try dsimp only) <;> first | omega | rfl | (simp [*]; done)), (by (try dsimp only) <;> (exact lst_start _ _))⟩
        rintro n_3 ⟨nb, q⟩ E hE F hF
        conv => cbv
        refine r_leq m.sX (fun h3 => ?_) (fun h3 => ?_) <;> conv => cbv
        · refine r_lenR m.sX fun n2 hn2 mn2 => ?_
          conv => cbv
          refine r_callF (lbI 1 cInt) m.sX (lkFewest1_ok grid width height width n2 n_3 false G fo rfl ⟨by omega, by omega⟩) fun v hout_2 => ?_
          obtain ⟨out_2, ok_2⟩ := v
          conv => cbv
          rcases Bool.eq_false_or_eq_true ok_2 with rfl | rfl <;> conv => cbv
          · refine hF _ _ ?_
            conv => cbv
            exact hQ (.tup [.isl 1 (rows cInt out_2), .bool true]) (Eq.trans (by first | rfl | (simp only [lb, lbI, rows_cons, rows_nil, unnilT, unnil, unnilTI, unnilI]; done) | (simp only [lb, lbI, rows_cons, rows_nil, unnilT, unnil, unnilTI, unnilI]; rfl)) (congrArg ((lbI 1 cInt)) (show (out_2, true) = leastA width height pieces placed rt from by rw [leastA, eG, ← hrt]; exact lst_found q (by omega) (by omega) (by rw [hout_2, hn2]))))   -- leaf 3
          · refine r_addf m.sX (by omega) (by omega) fun n_4 hn_4 => ?_
            conv => cbv
            refine hE _ n_4 ?_ ?_ ⟨(by (try dsimp only) <;> first | omega | rfl | (simp [*]; done) | (rw [nb]; simp [*]; done)), (by (try dsimp only) <;> (exact lst_next q (by omega) (by omega) (by omega) (by rw [hout_2, hn2])))⟩ (by first | omega | (dsimp only; omega))
            · cbv
            · cbv
        · refine hF _ _ ?_
          conv => cbv
          exact hQ (.tup [.nil, .bool false]) (Eq.trans (by first | rfl | (simp only [lb, lbI, rows_cons, rows_nil, unnilT, unnil, unnilTI, unnilI]; done) | (simp only [lb, lbI, rows_cons, rows_nil, unnilT, unnil, unnilTI, unnilI]; rfl)) (congrArg ((lbI 1 cInt)) (show ([], false) = leastA width height pieces placed rt from by rw [leastA, eG, ← hrt]; exact lst_none q (by omega) (by omega))))   -- leaf 4
    · have eN := asked_none h1
      exact hQ (.tup [.nil, .bool false]) (Eq.trans (by first | rfl | (simp only [lb, lbI, rows_cons, rows_nil, unnilT, unnil, unnilTI, unnilI]; done) | (simp only [lb, lbI, rows_cons, rows_nil, unnilT, unnil, unnilTI, unnilI]; rfl)) (congrArg ((lbI 1 cInt)) (show ([], false) = leastA width height pieces placed rt from by rw [leastA, eN]))))   -- leaf 5

theorem specFewestRows_ok (width : Int) (height : Int) (pieces : List Piece) (placed : List Plc)  : OkA Try.prog 134 [.int .i64 width, .int .i64 height, .isl 2 (rows cPiece pieces), .isl 4 (rows cPlaced placed)] (· = (lbI 1 cInt) (leastA width height pieces placed true)) :=
  OkA.iceI 1 (fn_intro envOk fieldsOk mixed Try.func134 rfl fun κ X Y L Q m hQ => by
    conv => cbv
    refine r_callF (lbI 1 cInt) m.sX (lkLeast_ok width height pieces placed true true rfl) fun v hv1 => ?_
    obtain ⟨v1, v2⟩ := v
    conv => cbv
    exact hQ (.tup [.isl 1 (rows cInt v1), .bool v2]) (Eq.trans (by first | rfl | (simp only [lb, lbI, rows_cons, rows_nil, unnilT, unnil, unnilTI, unnilI]; done) | (simp only [lb, lbI, rows_cons, rows_nil, unnilT, unnil, unnilTI, unnilI]; rfl)) (congrArg ((lbI 1 cInt)) (show (v1, v2) = leastA width height pieces placed true from by first | rfl | omega | (simp [*]; done) | (subst_vars; simp [*]; done)))))   -- leaf 1

theorem specFewestColumnQuoins_ok (width : Int) (height : Int) (pieces : List Piece) (placed : List Plc)  : OkA Try.prog 135 [.int .i64 width, .int .i64 height, .isl 2 (rows cPiece pieces), .isl 4 (rows cPlaced placed)] (· = (lbI 1 cInt) (leastA width height pieces placed false)) :=
  OkA.iceI 1 (fn_intro envOk fieldsOk mixed Try.func135 rfl fun κ X Y L Q m hQ => by
    conv => cbv
    refine r_callF (lbI 1 cInt) m.sX (lkLeast_ok width height pieces placed false false rfl) fun v hv1 => ?_
    obtain ⟨v1, v2⟩ := v
    conv => cbv
    exact hQ (.tup [.isl 1 (rows cInt v1), .bool v2]) (Eq.trans (by first | rfl | (simp only [lb, lbI, rows_cons, rows_nil, unnilT, unnil, unnilTI, unnilI]; done) | (simp only [lb, lbI, rows_cons, rows_nil, unnilT, unnil, unnilTI, unnilI]; rfl)) (congrArg ((lbI 1 cInt)) (show (v1, v2) = leastA width height pieces placed false from by first | rfl | omega | (simp [*]; done) | (subst_vars; simp [*]; done)))))   -- leaf 1


/- What FnLocks draws. -/
theorem dIsFilledB_ok (code : List Int) (h : CurIn code) : OkA Try.prog 63 [.isl 1 (rows cU8 code)] (fun r => ∃ (q1 : Int) (q2 : Int) (q3 : List Piece) (q4 : List Plc), r = .tup [.int .i64 q1, .int .i64 q2, .isl 2 (rows cPiece q3), .isl 4 (rows cPlaced q4)] ∧ ((0 ≤ q1 ∧ q1 ≤ 9) ∧ (0 ≤ q2 ∧ q2 ≤ 9) ∧ ∀ p ∈ q4, p.2.1 ≤ 1000000 ∧ p.2.2.1 ≤ 1000000)) :=
  OkA.iceZ (fn_intro envOk fieldsOk mixed Try.func63 rfl fun κ X Y L Q m hQ => by
    conv => cbv
    refine r_mcall m.sX (cSide_ok code 0 0 h (by omega) (by omega)) ?_
    rintro _ _ ⟨w, rfl, ⟨a1, s1, rfl, ea1, fa1⟩, bw_1⟩
    conv => cbv
    refine r_mcall m.sX (cSide_ok code a1 s1 h (by omega) (by omega)) ?_
    rintro _ _ ⟨h_, rfl, ⟨a2, s2, rfl, ea2, fa2⟩, bh__1⟩
    conv => cbv
    refine r_mcall m.sX (cPieces_ok code a2 s2 w h_ h (by omega) (by omega)) ?_
    rintro _ _ ⟨pieces, rfl, ⟨a3, s3, rfl, ea3, fa3⟩, bpieces_1⟩
    conv => cbv
    refine r_callB m.sX (fuChase_ok w h_ pieces) (fun h1 => ?_) (fun h1 => ?_) <;> conv => cbv
    · refine r_callF (lb 60 4 cPlaced) m.sX (fuFirst_ok w h_ pieces (by first | rfl | assumption | omega | (simp only [List.length_append, List.length_cons, List.length_nil] at *; omega))) fun v hplaced => ?_
      obtain ⟨placed, v1⟩ := v
      conv => cbv
      have fm : ∀ p ∈ placed, p.2.1 ≤ 1000000 ∧ p.2.2.1 ≤ 1000000 := fun p hp => by have := firstA_mem h1 p (by rw [← hplaced]; exact hp); omega
      have fl : placed.length ≤ 72 := by have := firstA_len h1; rw [← hplaced] at this; exact this
      refine r_lenR m.sX fun n hn mn => ?_
      conv => cbv
      refine r_gtr m.sX (fun h2 => ?_) (fun h2 => ?_) <;> conv => cbv
      · refine r_mcall m.sX (cPick_ok code a3 s3 n h (by omega) (by omega)) ?_
        rintro _ _ ⟨k, rfl, ⟨a4, s4, rfl, ea4, fa4⟩, bk, ck, dk⟩
        conv => cbv
        refine r_mcall m.sX (cPick_ok code a4 s4 8 h (by omega) (by omega)) ?_
        rintro _ _ ⟨q1, rfl, ⟨a5, s5, rfl, ea5, fa5⟩, bq1, cq1, dq1⟩
        conv => cbv
        refine r_eql m.sX (fun h3 => ?_) (fun h3 => ?_) <;> conv => cbv
        · refine r_drawT 10 m rfl rfl (by kernel_rfl) ?_
          conv => cbv
          refine r_islice (i := 0) (j := k) m.sY (by omega) (by omega) (by omega) fun zs1 hzs1 => ?_
          have lzs1 : (zs1.length : Int) = k - 0 := by rw [hzs1]; first | done | (simp; done) | (simp; omega)
          conv => cbv
          refine r_append0R m.sY (by first | omega | (dsimp only; omega)) (by first | omega | (dsimp only; omega)) fun zs2 hzs2 => ?_
          conv => cbv
          have lzs2 : (zs2.length : Int) = zs1.length := by rw [hzs2]; first | done | (simp; done) | (simp; omega)
          refine r_addf m.sY (by omega) (by omega) fun r1 hr1 => ?_
          conv => cbv
          refine r_islice' (i := r1) m.sY (by omega) (by omega) fun zs3 hzs3 => ?_
          have lzs3 : (zs3.length : Int) = placed.length - r1 := by rw [hzs3]; first | done | (simp; done) | (simp; omega)
          conv => cbv
          refine r_append m.sY (by first | omega | (dsimp only; omega)) (by first | omega | (dsimp only; omega)) fun placed_2 hplaced_2 => ?_
          conv => cbv
          have lplaced_2 : (placed_2.length : Int) = zs2.length + zs3.length := by rw [hplaced_2]; first | done | (simp; done) | (simp; omega)
          have fm : ∀ p ∈ placed, p.2.1 ≤ 1000000 ∧ p.2.2.1 ≤ 1000000 := fun p hp => by have := firstA_mem h1 p (by rw [← hplaced]; exact hp); omega
          have fl : placed.length ≤ 72 := by have := firstA_len h1; rw [← hplaced] at this; exact this
          exact hQ (.tup [.int .i64 w, .int .i64 h_, .isl 2 (rows cPiece pieces), .fr 60 4 (rows cPlaced placed_2)]) ⟨w, h_, pieces, placed_2, rfl, (by (refine ⟨⟨by omega, by omega⟩, ⟨by omega, by omega⟩, ?_⟩; intro p hp; refine fm p ?_; rw [hplaced_2, hzs2, hzs1, hzs3] at hp; rcases List.mem_append.1 hp with hp | hp <;> first | exact List.mem_of_mem_take (List.mem_of_mem_drop hp) | exact List.mem_of_mem_drop (List.mem_of_mem_take hp) | exact List.mem_of_mem_take hp | exact List.mem_of_mem_drop hp))⟩   -- leaf 1
        · refine r_eql m.sX (fun h4 => ?_) (fun h4 => ?_) <;> conv => cbv
          · refine r_mcall m.sX (cAmong_ok code a5 s5 ([0, 1, w, -1]) (by simp) h (by omega) (by omega)) ?_
            rintro _ _ ⟨q2, rfl, ⟨a6, s6, rfl, ea6, fa6⟩, bq2⟩
            simp only [List.mem_cons, List.not_mem_nil, or_false] at bq2
            conv => cbv
            refine r_oindex m.sX (by omega) (by omega) ?_
            conv => cbv
            obtain ⟨⟨y1A, y1B, y1C, y1D⟩, hy1⟩ := get_ex (xs := placed) (i := Int.toNat k) (by omega)
            refine r_ostore (l := Int.toNat k) (y1A, q2, y1C, y1D) m.sX hy1 (Nat.le_of_ble_eq_true rfl) rfl fun zs4 hzs4 => ?_
            have lzs4 : (zs4.length : Int) = placed.length := by rw [hzs4]; first | done | (simp; done) | (simp; omega)
            conv => cbv
            exact hQ (.tup [.int .i64 w, .int .i64 h_, .isl 2 (rows cPiece pieces), .fr 60 4 (rows cPlaced zs4)]) ⟨w, h_, pieces, zs4, rfl, (by exact ⟨⟨by omega, by omega⟩, ⟨by omega, by omega⟩, set_bnd fm hzs4 (by have := fm _ (get_mem hy1); dsimp only at this ⊢; omega)⟩)⟩   -- leaf 2
          · refine r_eql m.sX (fun h5 => ?_) (fun h5 => ?_) <;> conv => cbv
            · refine r_oindex m.sX (by omega) (by omega) ?_
              conv => cbv
              obtain ⟨⟨x1A, x1B, x1C, x1D⟩, hx1⟩ := get_ex (xs := placed) (i := Int.toNat k) (by omega)
              have mx1 := get_mem hx1
              refine r_oload m.sX hx1 (Nat.le_of_ble_eq_true rfl) ?_
              conv => cbv
              rcases Bool.eq_false_or_eq_true x1D with rfl | rfl <;> conv => cbv
              · refine r_oindex m.sX (by omega) (by omega) ?_
                conv => cbv
                obtain ⟨⟨y2A, y2B, y2C, y2D⟩, hy2⟩ := get_ex (xs := placed) (i := Int.toNat k) (by omega)
                refine r_ostore (l := Int.toNat k) (y2A, y2B, y2C, false) m.sX hy2 (Nat.le_of_ble_eq_true rfl) rfl fun zs5 hzs5 => ?_
                have lzs5 : (zs5.length : Int) = placed.length := by rw [hzs5]; first | done | (simp; done) | (simp; omega)
                conv => cbv
                exact hQ (.tup [.int .i64 w, .int .i64 h_, .isl 2 (rows cPiece pieces), .fr 60 4 (rows cPlaced zs5)]) ⟨w, h_, pieces, zs5, rfl, (by exact ⟨⟨by omega, by omega⟩, ⟨by omega, by omega⟩, set_bnd fm hzs5 (by have := fm _ (get_mem hy2); dsimp only at this ⊢; omega)⟩)⟩   -- leaf 3
              · refine r_oindex m.sX (by omega) (by omega) ?_
                conv => cbv
                obtain ⟨⟨y3A, y3B, y3C, y3D⟩, hy3⟩ := get_ex (xs := placed) (i := Int.toNat k) (by omega)
                refine r_ostore (l := Int.toNat k) (y3A, y3B, y3C, true) m.sX hy3 (Nat.le_of_ble_eq_true rfl) rfl fun zs6 hzs6 => ?_
                have lzs6 : (zs6.length : Int) = placed.length := by rw [hzs6]; first | done | (simp; done) | (simp; omega)
                conv => cbv
                exact hQ (.tup [.int .i64 w, .int .i64 h_, .isl 2 (rows cPiece pieces), .fr 60 4 (rows cPlaced zs6)]) ⟨w, h_, pieces, zs6, rfl, (by exact ⟨⟨by omega, by omega⟩, ⟨by omega, by omega⟩, set_bnd fm hzs6 (by have := fm _ (get_mem hy3); dsimp only at this ⊢; omega)⟩)⟩   -- leaf 4
            · refine r_eql m.sX (fun h6 => ?_) (fun h6 => ?_) <;> conv => cbv
              · refine r_mcall m.sX (cAmong_ok code a5 s5 ([0, n, -1]) (by simp) h (by omega) (by omega)) ?_
                rintro _ _ ⟨q3, rfl, ⟨a7, s7, rfl, ea7, fa7⟩, bq3⟩
                simp only [List.mem_cons, List.not_mem_nil, or_false] at bq3
                conv => cbv
                refine r_oindex m.sX (by omega) (by omega) ?_
                conv => cbv
                obtain ⟨⟨y4A, y4B, y4C, y4D⟩, hy4⟩ := get_ex (xs := placed) (i := Int.toNat k) (by omega)
                refine r_ostore (l := Int.toNat k) (q3, y4B, y4C, y4D) m.sX hy4 (Nat.le_of_ble_eq_true rfl) rfl fun zs7 hzs7 => ?_
                have lzs7 : (zs7.length : Int) = placed.length := by rw [hzs7]; first | done | (simp; done) | (simp; omega)
                conv => cbv
                exact hQ (.tup [.int .i64 w, .int .i64 h_, .isl 2 (rows cPiece pieces), .fr 60 4 (rows cPlaced zs7)]) ⟨w, h_, pieces, zs7, rfl, (by exact ⟨⟨by omega, by omega⟩, ⟨by omega, by omega⟩, set_bnd fm hzs7 (by have := fm _ (get_mem hy4); dsimp only at this ⊢; omega)⟩)⟩   -- leaf 5
              · exact hQ (.tup [.int .i64 w, .int .i64 h_, .isl 2 (rows cPiece pieces), .fr 60 4 (rows cPlaced placed)]) ⟨w, h_, pieces, placed, rfl, (by exact ⟨⟨by omega, by omega⟩, ⟨by omega, by omega⟩, fm⟩)⟩   -- leaf 6
      · exact hQ (.tup [.int .i64 w, .int .i64 h_, .isl 2 (rows cPiece pieces), .fr 60 4 (rows cPlaced placed)]) ⟨w, h_, pieces, placed, rfl, (by exact ⟨⟨by omega, by omega⟩, ⟨by omega, by omega⟩, fm⟩)⟩   -- leaf 7
    · refine r_gtr m.sX (fun h7 => ?_) (fun h7 => ?_) <;> conv => cbv
      · exfalso; omega
      · exact hQ (.tup [.int .i64 w, .int .i64 h_, .isl 2 (rows cPiece pieces), .nil]) ⟨w, h_, pieces, [], (by first | rfl | (simp only [rows_nil]; rfl) | (simp only [rows_cons, rows_nil]; rfl)), (by (refine ⟨⟨by omega, by omega⟩, ⟨by omega, by omega⟩, ?_⟩; intro p hp; cases hp))⟩)   -- leaf 8


/- What FnLocks draws: quoins. -/
theorem firstG_len {f : Nat → List Int × Bool} {b : Nat} : ∀ {l : List Nat}, (∀ k ∈ l, (f k).1.length ≤ b) → (firstG f l).1.length ≤ b
  | [], _ => Nat.zero_le _
  | k :: r, h => by
    rw [firstG]
    split
    · exact h k (by simp)
    · exact firstG_len fun j hj => h j (by simp [hj])
theorem fewF_len {P : List Int → Bool} {m : Nat} : ∀ (d : Nat) (q : List Int), (fewF P m d q).1.length ≤ q.length + d
  | 0, q => Nat.le_refl _
  | d + 1, q => by
    rw [fewF]
    refine firstG_len fun k _ => ?_
    have := fewF_len (P := P) (m := m) d (q ++ [(k : Int)])
    rw [List.length_append, List.length_singleton] at this
    omega
theorem least_len {w h : Int} {ps : List Piece} {pl : List Plc} {right b : Bool} {l : List Int} (e : (l, b) = leastA w h ps pl right) : l.length ≤ 8 := by
  have e1 : l = (leastA w h ps pl right).1 := by rw [← e]
  rw [e1]
  unfold leastA
  cases hc : chaseF w h ps pl with
  | none => exact Nat.zero_le _
  | some G =>
    obtain ⟨bw, bh, -⟩ := okCh_spec (chaseF_some hc).1
    dsimp only
    unfold leastF
    refine firstG_len fun k hk => ?_
    have h1 := fewF_len (P := fewP w h G pl.length right) (m := if right = true then h.toNat else w.toNat) k []
    have h2 := (List.mem_range'_1.1 hk).2
    have h3 : (if right = true then h.toNat else w.toNat) ≤ 8 := by split <;> omega
    rw [List.length_nil] at h1
    omega
theorem cQuoins_ok (code : List Int) (b0 t0 : Int) (n : Int) (h : CurIn code) (h0 : 0 ≤ b0) (hk : b0 ≤ 899999999999960000) (hn : 0 ≤ n ∧ n ≤ 9) : OkM Try.prog 136 (cCur code b0 t0) [.int .i64 n] (fun r cs => ∃ (q : List Int), r = .isl 1 (rows cInt q) ∧ CurTo code b0 40 cs ∧ ((q.length : Int) ≤ 20)) :=
  OkM.iceR (fnM_intro envOk fieldsOk mixed Try.func136 rfl fun κ X Y L Q m hQ => by
    conv => cbv
    refine r_loopF (α := Int × Int × List Int × Int) m 34 [1, 6] [⟨0, 1, 0, 0, 0⟩, ⟨5, 41, 3, 1, 0⟩] (fun σ => [(0, .optr 1 0 0 0 0), (1, .int .i64 n), (5, .osl 41 0), (6, .int .i64 σ.2.2.2)]) (fun σ => [(1, 0, .box (cCur code σ.1 σ.2.1)), (41, 0, .row 3 1 (rows cInt σ.2.2.1))])
      (fun σ => (0 ≤ σ.2.2.2) ∧ (σ.2.2.2 ≤ n) ∧ (b0 ≤ σ.1 ∧ σ.1 ≤ b0 + 2 * σ.2.2.2) ∧ (0 ≤ σ.2.2.2 ∧ σ.2.2.2 ≤ n) ∧ ((σ.2.2.1.length : Int) ≤ σ.2.2.2)) (fun σ => (n - σ.2.2.2).toNat) (b0, t0, [], 0) ?_ ?_ ?_ ?_
    · cbv
    · (try dsimp only); (try simp only [rows_cons, rows_nil]); cbv
    · exact ⟨(by (try dsimp only); first | omega | (simp only [List.length_nil]; omega) | (simp only [List.length_cons, List.length_nil]; omega)), (by (try dsimp only); first | omega | (simp only [List.length_nil]; omega) | (simp only [List.length_cons, List.length_nil]; omega)), (by (try dsimp only); first | omega | (simp only [List.length_nil]; omega) | (simp only [List.length_cons, List.length_nil]; omega)), (by (try dsimp only) <;> first | omega | rfl | (simp [*]; done)), (by (try dsimp only) <;> first | omega | rfl | (simp [*]; done))⟩
    rintro ⟨a1, s1, l, k⟩ ⟨lo1, hi1, cl1, kb, ln⟩ E hE F hF
    dsimp only at lo1 hi1 cl1 kb ln
    conv => cbv
    refine r_lss m.sX (fun h1 => ?_) (fun h1 => ?_) <;> conv => cbv
    · refine r_lss m.sX (fun h2 => ?_) (fun h2 => ?_) <;> conv => cbv
      · refine r_mcall m.sX (cOne_ok code a1 s1 2 h (by omega) (by omega)) ?_
        rintro _ _ ⟨q1, rfl, ⟨a2, s2, rfl, ea2, fa2⟩⟩
        conv => cbv
        rcases Bool.eq_false_or_eq_true q1 with rfl | rfl <;> conv => cbv
        · refine r_append1 (k) m.sX rfl (by first | omega | (dsimp only; omega)) (by first | omega | (dsimp only; omega)) fun l_2 hl_2 => ?_
          conv => cbv
          have ll_2 : (l_2.length : Int) = l.length + 1 := by rw [hl_2]; first | done | (simp; done) | (simp; omega)
          refine r_addf m.sX (by omega) (by omega) fun k_2 hk_2 => ?_
          conv => cbv
          try have tk_2 : Int.toNat k_2 = Int.toNat k + 1 := by omega
          refine hE _ (a2, s2, l_2, k_2) ?_ ?_ ⟨(by (try dsimp only); first | omega | (simp only [List.length_nil]; omega) | (simp only [List.length_cons, List.length_nil]; omega)), (by (try dsimp only); first | omega | (simp only [List.length_nil]; omega) | (simp only [List.length_cons, List.length_nil]; omega)), (by (try dsimp only); first | omega | (simp only [List.length_nil]; omega) | (simp only [List.length_cons, List.length_nil]; omega)), (by (try dsimp only) <;> first | omega | rfl | (simp [*]; done) | (rw [kb]; simp [*]; done)), (by (try dsimp only) <;> first | omega | rfl | (simp [*]; done) | (rw [ln]; simp [*]; done))⟩ (by first | omega | (dsimp only; omega))
          · cbv
          · cbv
        · refine r_addf m.sX (by omega) (by omega) fun k_3 hk_3 => ?_
          conv => cbv
          try have tk_3 : Int.toNat k_3 = Int.toNat k + 1 := by omega
          refine hE _ (a2, s2, l, k_3) ?_ ?_ ⟨(by (try dsimp only); first | omega | (simp only [List.length_nil]; omega) | (simp only [List.length_cons, List.length_nil]; omega)), (by (try dsimp only); first | omega | (simp only [List.length_nil]; omega) | (simp only [List.length_cons, List.length_nil]; omega)), (by (try dsimp only); first | omega | (simp only [List.length_nil]; omega) | (simp only [List.length_cons, List.length_nil]; omega)), (by (try dsimp only) <;> first | omega | rfl | (simp [*]; done) | (rw [kb]; simp [*]; done)), (by (try dsimp only) <;> first | omega | rfl | (simp [*]; done) | (rw [ln]; simp [*]; done))⟩ (by first | omega | (dsimp only; omega))
          · cbv
          · cbv
      · refine hF _ _ ?_
        conv => cbv
        refine r_mcall m.sX (cOne_ok code a1 s1 16 h (by omega) (by omega)) ?_
        rintro _ _ ⟨q2, rfl, ⟨a3, s3, rfl, ea3, fa3⟩⟩
        conv => cbv
        rcases Bool.eq_false_or_eq_true q2 with rfl | rfl <;> conv => cbv
        · refine r_subf m.sX (by omega) (by omega) fun r1 hr1 => ?_
          conv => cbv
          refine r_mcall m.sX (cAmong_ok code a3 s3 ([n, r1, -1]) (by simp) h (by omega) (by omega)) ?_
          rintro _ _ ⟨q3, rfl, ⟨a4, s4, rfl, ea4, fa4⟩, bq3⟩
          simp only [List.mem_cons, List.not_mem_nil, or_false] at bq3
          conv => cbv
          refine r_append1 (q3) m.sX rfl (by first | omega | (dsimp only; omega)) (by first | omega | (dsimp only; omega)) fun l_3 hl_3 => ?_
          conv => cbv
          have ll_3 : (l_3.length : Int) = l.length + 1 := by rw [hl_3]; first | done | (simp; done) | (simp; omega)
          exact hQ (.fr 3 1 (rows cInt l_3)) (cCur code a4 s4) ⟨l_3, rfl, ⟨a4, s4, rfl, by omega, by omega⟩, (by first | omega | assumption | (simp; done) | (simp [*]; done) | (simp at *; omega))⟩   -- leaf 1
        · exact hQ (.fr 3 1 (rows cInt l)) (cCur code a3 s3) ⟨l, rfl, ⟨a3, s3, rfl, by omega, by omega⟩, (by first | omega | assumption | (simp; done) | (simp [*]; done) | (simp at *; omega))⟩   -- leaf 2
    · refine hF _ _ ?_
      conv => cbv
      refine r_mcall m.sX (cOne_ok code a1 s1 16 h (by omega) (by omega)) ?_
      rintro _ _ ⟨q4, rfl, ⟨a5, s5, rfl, ea5, fa5⟩⟩
      conv => cbv
      rcases Bool.eq_false_or_eq_true q4 with rfl | rfl <;> conv => cbv
      · refine r_subf m.sX (by omega) (by omega) fun r2 hr2 => ?_
        conv => cbv
        refine r_mcall m.sX (cAmong_ok code a5 s5 ([n, r2, -1]) (by simp) h (by omega) (by omega)) ?_
        rintro _ _ ⟨q5, rfl, ⟨a6, s6, rfl, ea6, fa6⟩, bq5⟩
        simp only [List.mem_cons, List.not_mem_nil, or_false] at bq5
        conv => cbv
        refine r_append1 (q5) m.sX rfl (by first | omega | (dsimp only; omega)) (by first | omega | (dsimp only; omega)) fun l_4 hl_4 => ?_
        conv => cbv
        have ll_4 : (l_4.length : Int) = l.length + 1 := by rw [hl_4]; first | done | (simp; done) | (simp; omega)
        exact hQ (.fr 3 1 (rows cInt l_4)) (cCur code a6 s6) ⟨l_4, rfl, ⟨a6, s6, rfl, by omega, by omega⟩, (by first | omega | assumption | (simp; done) | (simp [*]; done) | (simp at *; omega))⟩   -- leaf 3
      · exact hQ (.fr 3 1 (rows cInt l)) (cCur code a5 s5) ⟨l, rfl, ⟨a5, s5, rfl, by omega, by omega⟩, (by first | omega | assumption | (simp; done) | (simp [*]; done) | (simp at *; omega))⟩)   -- leaf 4

theorem drawLoosePieces_ok (code : List Int) (h : CurIn code) : OkA Try.prog 91 [.isl 1 (rows cU8 code)] (fun r => ∃ (q1 : Int) (q2 : Int) (q3 : List Piece) (q4 : List Plc) (q5 : List Int) (q6 : List Int), r = .tup [.int .i64 q1, .int .i64 q2, .isl 2 (rows cPiece q3), .isl 4 (rows cPlaced q4), .isl 1 (rows cInt q5), .isl 1 (rows cInt q6)] ∧ (∀ p ∈ q4, p.2.1 ≤ 1000000 ∧ p.2.2.1 ≤ 1000000) ∧ ((q5.length : Int) ≤ 20) ∧ ((q6.length : Int) ≤ 20)) :=
  OkA.iceR (fn_intro envOk fieldsOk mixed Try.func91 rfl fun κ X Y L Q m hQ => by
    conv => cbv
    refine r_callE m.sX (dIsFilledB_ok code h) ?_
    rintro _ ⟨w, h_, pieces, placed, rfl, bw_1⟩
    conv => cbv
    refine r_callF (lbI 1 cInt) m.sX (specFewestRows_ok w h_ pieces placed) fun v hrows_ => ?_
    obtain ⟨rows_, ok⟩ := v
    conv => cbv
    have lr := least_len hrows_
    rcases Bool.eq_false_or_eq_true ok with rfl | rfl <;> conv => cbv
    · refine r_mcall m.sX (cOne_ok code 9 0 2 h (by omega) (by omega)) ?_
      rintro _ _ ⟨q1, rfl, ⟨a1, s1, rfl, ea1, fa1⟩⟩
      conv => cbv
      rcases Bool.eq_false_or_eq_true q1 with rfl | rfl <;> conv => cbv
      · refine r_callF (lbI 1 cInt) m.sX (specFewestColumnQuoins_ok w h_ pieces placed) fun v hcolumns => ?_
        obtain ⟨columns, fine⟩ := v
        conv => cbv
        have lc := least_len hcolumns
        rcases Bool.eq_false_or_eq_true fine with rfl | rfl <;> conv => cbv
        · exact hQ (.tup [.int .i64 w, .int .i64 h_, .isl 2 (rows cPiece pieces), .isl 4 (rows cPlaced placed), .isl 1 (rows cInt rows_), .isl 1 (rows cInt columns)]) ⟨w, h_, pieces, placed, rows_, columns, rfl, (by first | exact bw_1.2.2 | omega), (by first | exact bw_1.2.2 | omega), (by first | exact bw_1.2.2 | omega)⟩   -- leaf 1
        · refine r_mcall m.sX (cQuoins_ok code a1 s1 h_ h (by omega) (by omega) (by first | rfl | assumption | omega | (simp only [List.length_append, List.length_cons, List.length_nil] at *; omega))) ?_
          rintro _ _ ⟨q2, rfl, ⟨a2, s2, rfl, ea2, fa2⟩, bq2_1⟩
          conv => cbv
          refine r_mcall m.sX (cQuoins_ok code a2 s2 w h (by omega) (by omega) (by first | rfl | assumption | omega | (simp only [List.length_append, List.length_cons, List.length_nil] at *; omega))) ?_
          rintro _ _ ⟨q3, rfl, ⟨a3, s3, rfl, ea3, fa3⟩, bq3_1⟩
          conv => cbv
          exact hQ (.tup [.int .i64 w, .int .i64 h_, .isl 2 (rows cPiece pieces), .isl 4 (rows cPlaced placed), .isl 1 (rows cInt q2), .isl 1 (rows cInt q3)]) ⟨w, h_, pieces, placed, q2, q3, rfl, (by first | exact bw_1.2.2 | omega), (by first | exact bw_1.2.2 | omega), (by first | exact bw_1.2.2 | omega)⟩   -- leaf 2
      · refine r_mcall m.sX (cQuoins_ok code a1 s1 h_ h (by omega) (by omega) (by first | rfl | assumption | omega | (simp only [List.length_append, List.length_cons, List.length_nil] at *; omega))) ?_
        rintro _ _ ⟨q4, rfl, ⟨a4, s4, rfl, ea4, fa4⟩, bq4_1⟩
        conv => cbv
        refine r_mcall m.sX (cQuoins_ok code a4 s4 w h (by omega) (by omega) (by first | rfl | assumption | omega | (simp only [List.length_append, List.length_cons, List.length_nil] at *; omega))) ?_
        rintro _ _ ⟨q5, rfl, ⟨a5, s5, rfl, ea5, fa5⟩, bq5_1⟩
        conv => cbv
        exact hQ (.tup [.int .i64 w, .int .i64 h_, .isl 2 (rows cPiece pieces), .isl 4 (rows cPlaced placed), .isl 1 (rows cInt q4), .isl 1 (rows cInt q5)]) ⟨w, h_, pieces, placed, q4, q5, rfl, (by first | exact bw_1.2.2 | omega), (by first | exact bw_1.2.2 | omega), (by first | exact bw_1.2.2 | omega)⟩   -- leaf 3
    · refine r_mcall m.sX (cQuoins_ok code 9 0 h_ h (by omega) (by omega) (by first | rfl | assumption | omega | (simp only [List.length_append, List.length_cons, List.length_nil] at *; omega))) ?_
      rintro _ _ ⟨q6, rfl, ⟨a6, s6, rfl, ea6, fa6⟩, bq6_1⟩
      conv => cbv
      refine r_mcall m.sX (cQuoins_ok code a6 s6 w h (by omega) (by omega) (by first | rfl | assumption | omega | (simp only [List.length_append, List.length_cons, List.length_nil] at *; omega))) ?_
      rintro _ _ ⟨q7, rfl, ⟨a7, s7, rfl, ea7, fa7⟩, bq7_1⟩
      conv => cbv
      exact hQ (.tup [.int .i64 w, .int .i64 h_, .isl 2 (rows cPiece pieces), .isl 4 (rows cPlaced placed), .isl 1 (rows cInt q6), .isl 1 (rows cInt q7)]) ⟨w, h_, pieces, placed, q6, q7, rfl, (by first | exact bw_1.2.2 | omega), (by first | exact bw_1.2.2 | omega), (by first | exact bw_1.2.2 | omega)⟩)   -- leaf 4


/- What FnLocks draws: quoins (2). -/
theorem drawIsLocked_ok (code : List Int) (h : CurIn code) : OkA Try.prog 33 [.isl 1 (rows cU8 code)] (fun r => ∃ (q1 : Int) (q2 : Int) (q3 : List Piece) (q4 : List Plc) (q5 : List Int) (q6 : List Int), r = .tup [.int .i64 q1, .int .i64 q2, .isl 2 (rows cPiece q3), .isl 4 (rows cPlaced q4), .isl 1 (rows cInt q5), .isl 1 (rows cInt q6)] ∧ (∀ p ∈ q4, p.2.1 ≤ 1000000 ∧ p.2.2.1 ≤ 1000000) ∧ ((q5.length : Int) ≤ 20) ∧ ((q6.length : Int) ≤ 20)) :=
  OkA.iceR (fn_intro envOk fieldsOk mixed Try.func33 rfl fun κ X Y L Q m hQ => by
    conv => cbv
    refine r_callE m.sX (drawLoosePieces_ok code h) ?_
    intro r hr
    obtain ⟨q1, hr⟩ := hr
    obtain ⟨q2, hr⟩ := hr
    obtain ⟨q3, hr⟩ := hr
    obtain ⟨q4, hr⟩ := hr
    obtain ⟨q5, hr⟩ := hr
    obtain ⟨q6, hr⟩ := hr
    obtain ⟨hr, bq1_1⟩ := hr
    obtain ⟨bq1_1, bq1_2⟩ := bq1_1
    obtain ⟨bq1_2, bq1_3⟩ := bq1_2
    subst hr
    conv => cbv
    exact hQ (.tup [.int .i64 q1, .int .i64 q2, .isl 2 (rows cPiece q3), .isl 4 (rows cPlaced q4), .isl 1 (rows cInt q5), .isl 1 (rows cInt q6)]) ⟨q1, q2, q3, q4, q5, q6, rfl, (by first | omega | assumption | (simp; done) | (simp [*]; done) | (simp at *; omega)), (by first | omega | assumption | (simp; done) | (simp [*]; done) | (simp at *; omega)), (by first | omega | assumption | (simp; done) | (simp [*]; done) | (simp at *; omega))⟩)   -- leaf 1

theorem drawFallsWithout_ok (code : List Int) (h : CurIn code) : OkA Try.prog 37 [.isl 1 (rows cU8 code)] (fun r => ∃ (q1 : Int) (q2 : Int) (q3 : List Piece) (q4 : List Plc) (q5 : List Int) (q6 : List Int) (q7 : Int), r = .tup [.int .i64 q1, .int .i64 q2, .isl 2 (rows cPiece q3), .isl 4 (rows cPlaced q4), .isl 1 (rows cInt q5), .isl 1 (rows cInt q6), .int .i64 q7] ∧ (∀ p ∈ q4, p.2.1 ≤ 1000000 ∧ p.2.2.1 ≤ 1000000) ∧ ((q5.length : Int) ≤ 20) ∧ ((q6.length : Int) ≤ 20)) :=
  OkA.iceR (fn_intro envOk fieldsOk mixed Try.func37 rfl fun κ X Y L Q m hQ => by
    conv => cbv
    refine r_callE m.sX (drawLoosePieces_ok code h) ?_
    intro r hr
    obtain ⟨w, hr⟩ := hr
    obtain ⟨h_, hr⟩ := hr
    obtain ⟨pieces, hr⟩ := hr
    obtain ⟨placed, hr⟩ := hr
    obtain ⟨rows_, hr⟩ := hr
    obtain ⟨columns, hr⟩ := hr
    obtain ⟨hr, bw_1⟩ := hr
    obtain ⟨bw_1, bw_2⟩ := bw_1
    obtain ⟨bw_2, bw_3⟩ := bw_2
    subst hr
    conv => cbv
    refine r_lenR m.sX fun n1 hn1 mn1 => ?_
    conv => cbv
    refine r_gtr m.sX (fun h1 => ?_) (fun h1 => ?_) <;> conv => cbv
    · refine r_mcall m.sX (cOne_ok code 11 0 8 h (by omega) (by omega)) ?_
      rintro _ _ ⟨q1, rfl, ⟨a1, s1, rfl, ea1, fa1⟩⟩
      conv => cbv
      rcases Bool.eq_false_or_eq_true q1 with rfl | rfl <;> conv => cbv
      · refine r_mcall m.sX (cAmong_ok code a1 s1 ([0, -1, h_, 3]) (by simp) h (by omega) (by omega)) ?_
        rintro _ _ ⟨q2, rfl, ⟨a2, s2, rfl, ea2, fa2⟩, bq2⟩
        simp only [List.mem_cons, List.not_mem_nil, or_false] at bq2
        conv => cbv
        exact hQ (.tup [.int .i64 w, .int .i64 h_, .isl 2 (rows cPiece pieces), .isl 4 (rows cPlaced placed), .isl 1 (rows cInt rows_), .isl 1 (rows cInt columns), .int .i64 q2]) ⟨w, h_, pieces, placed, rows_, columns, q2, rfl, (by first | omega | assumption | (simp; done) | (simp [*]; done) | (simp at *; omega)), (by first | omega | assumption | (simp; done) | (simp [*]; done) | (simp at *; omega)), (by first | omega | assumption | (simp; done) | (simp [*]; done) | (simp at *; omega))⟩   -- leaf 1
      · refine r_draw m (by kernel_rfl) ?_
        conv => cbv
        refine r_lenRS m.sY (by omega) fun n2 hn2 => ?_
        conv => cbv
        refine r_mcallS m.sY (cPick_ok code a1 s1 n2 h (by omega) (by omega)) (cPick_ex code a1 s1 n2) (by rintro _ _ ⟨_, rfl, _⟩; first | trivial | (intro x hx; simp at hx; rcases hx with rfl | rfl | rfl <;> trivial)) ?_
        rintro _ _ ⟨q3, rfl, ⟨a3, s3, rfl, ea3, fa3⟩, bq3, cq3, dq3⟩
        conv => cbv
        refine r_index m.sY (by omega) (by omega) fun x1 hx1 => ?_
        conv => cbv
        have mx1 := get_mem hx1
        have vx1 := nth_some hx1
        exact hQ (.tup [.int .i64 w, .int .i64 h_, .isl 2 (rows cPiece pieces), .isl 4 (rows cPlaced placed), .isl 1 (rows cInt rows_), .isl 1 (rows cInt columns), .int .i64 x1]) ⟨w, h_, pieces, placed, rows_, columns, x1, rfl, (by first | omega | assumption | (simp; done) | (simp [*]; done) | (simp at *; omega)), (by first | omega | assumption | (simp; done) | (simp [*]; done) | (simp at *; omega)), (by first | omega | assumption | (simp; done) | (simp [*]; done) | (simp at *; omega))⟩   -- leaf 2
    · refine r_mcall m.sX (cAmong_ok code 11 0 ([0, -1, h_, 3]) (by simp) h (by omega) (by omega)) ?_
      intro r c hr
      obtain ⟨q4, hr⟩ := hr
      obtain ⟨e4, hr⟩ := hr
      obtain ⟨ha, bq4⟩ := hr
      obtain ⟨a4, ha⟩ := ha
      obtain ⟨s4, ha⟩ := ha
      obtain ⟨e5, ha⟩ := ha
      obtain ⟨ea4, fa4⟩ := ha
      subst e4 e5
      simp only [List.mem_cons, List.not_mem_nil, or_false] at bq4
      conv => cbv
      exact hQ (.tup [.int .i64 w, .int .i64 h_, .isl 2 (rows cPiece pieces), .isl 4 (rows cPlaced placed), .isl 1 (rows cInt rows_), .isl 1 (rows cInt columns), .int .i64 q4]) ⟨w, h_, pieces, placed, rows_, columns, q4, rfl, (by first | omega | assumption | (simp; done) | (simp [*]; done) | (simp at *; omega)), (by first | omega | assumption | (simp; done) | (simp [*]; done) | (simp at *; omega)), (by first | omega | assumption | (simp; done) | (simp [*]; done) | (simp at *; omega))⟩)   -- leaf 3


/- What the law of locked formes asks: plain law. -/
theorem lock_ok {w h : Int} {ps : List Piece} {pl : List Plc} {rows cols : List Int} {k : Bool} (e : (k, true) = lockA w h ps pl rows cols) : ∃ G, chaseF w h ps pl = some G ∧ quB w h rows cols = true := by
  unfold lockA at e
  cases hc : chaseF w h ps pl with
  | none => rw [hc] at e; cases (Prod.mk.inj e).2
  | some G =>
    rw [hc] at e
    dsimp only at e
    split at e
    · rename_i hq; exact ⟨G, rfl, hq⟩
    · cases (Prod.mk.inj e).2
theorem fil_is {w h : Int} {ps : List Piece} {pl : List Plc} {a b : Bool} (e : (a, b) = fillA w h ps pl) : (chaseF w h ps pl).isSome = b := by
  unfold fillA at e; split at e <;> rename_i hc <;> rw [hc, (Prod.mk.inj e).2] <;> rfl
theorem up_is {w h : Int} {ps : List Piece} {pl : List Plc} {a : List Int} {b : Bool} (e : (a, b) = upA w h ps pl) : (chaseF w h ps pl).isSome = b := by
  unfold upA at e; split at e <;> rename_i hc <;> rw [hc, (Prod.mk.inj e).2] <;> rfl
theorem lev_is {w h : Int} {ps : List Piece} {pl : List Plc} {a : List Int} {b : Bool} (e : (a, b) = levA w h ps pl) : (chaseF w h ps pl).isSome = b := by
  unfold levA at e; split at e <;> rename_i hc <;> rw [hc, (Prod.mk.inj e).2] <;> rfl
/-- Locked formes are filled, and nothing is loose. -/
theorem lock_law {w h : Int} {ps : List Piece} {pl : List Plc} {rows cols l : List Int} {k f one three : Bool} (e : (k, true) = lockA w h ps pl rows cols) (ef : (f, one) = fillA w h ps pl) (el : (l, three) = looseA w h ps pl rows cols) : (one = true ∧ three = true) ∧ k = (f && decide (l = [])) ∧ l.length ≤ 8 := by
  obtain ⟨G, eG, hq⟩ := lock_ok e
  unfold lockA at e
  unfold looseA at el
  unfold fillA at ef
  rw [eG] at e el ef
  dsimp only at e el ef
  rw [if_pos hq] at e el
  obtain ⟨e1, e2⟩ := Prod.mk.inj e
  obtain ⟨l1, l2⟩ := Prod.mk.inj el
  obtain ⟨f1, f2⟩ := Prod.mk.inj ef
  have ll := loose_len w.toNat h.toNat G pl rows cols
  have l8 := (chaseF_some eG).2.2
  exact ⟨⟨f2, l2⟩, by rw [e1, f1, l1], by rw [l1]; omega⟩
theorem rising_some {lo hi : Int} {p : Int → Bool} : ∀ {x : Int} {r : List Int}, rising lo hi (some x) r = true → ∀ y, y ≤ x → rising lo hi (some y) (r.filter p) = true
  | x, [], _, y, _ => rfl
  | x, z :: r, h, y, hy => by
    rw [rising_cons, Bool.and_eq_true, Bool.and_eq_true] at h
    have hlt := of_decide_eq_true h.1.2
    rw [List.filter_cons]
    split
    · rw [rising_cons, Bool.and_eq_true, Bool.and_eq_true]
      exact ⟨⟨h.1.1, decide_eq_true (by omega)⟩, rising_some h.2 z (Int.le_refl _)⟩
    · exact rising_some h.2 y (by omega)
theorem rising_filter {lo hi : Int} {p : Int → Bool} : ∀ {r : List Int}, rising lo hi none r = true → rising lo hi none (r.filter p) = true
  | [], _ => rfl
  | z :: r, h => by
    rw [rising_cons, Bool.and_eq_true, Bool.and_eq_true] at h
    rw [List.filter_cons]
    split
    · rw [rising_cons, Bool.and_eq_true, Bool.and_eq_true]
      exact ⟨⟨h.1.1, h.1.2⟩, rising_some h.2 z (Int.le_refl _)⟩
    · cases hr : r.filter p with
      | nil => rfl
      | cons u t =>
        have h2 := rising_some (p := p) h.2 z (Int.le_refl _)
        rw [hr, rising_cons, Bool.and_eq_true, Bool.and_eq_true] at h2
        rw [rising_cons, Bool.and_eq_true, Bool.and_eq_true]
        exact ⟨⟨h2.1.1, rfl⟩, h2.2⟩
/-- What falls without a quoin was held by it. -/
theorem falls_end {w h : Int} {ps : List Piece} {pl : List Plc} {rows cols falls before after left : List Int} {row : Int} {five six : Bool} (e : (falls, true) = fallsA w h ps pl rows cols row) (el : left = rows.filter fun y => decide (y ≠ row)) (eb : (before, five) = looseA w h ps pl rows cols) (ea : (after, six) = looseA w h ps pl left cols) :
    (five = true ∧ six = true) ∧ (after.length = before.length + falls.length ∧ after.length ≤ 8) ∧ ∀ n ∈ falls, n ∉ before ∧ n ∈ after := by
  subst el
  unfold fallsA at e
  cases hc : chaseF w h ps pl with
  | none => rw [hc] at e; cases (Prod.mk.inj e).2
  | some G =>
    rw [hc] at e
    dsimp only at e
    split at e
    · rename_i hq
      obtain ⟨e1, -⟩ := Prod.mk.inj e
      unfold looseA at eb ea
      rw [hc] at eb ea
      dsimp only at eb ea
      have hq2 : quB w h (rows.filter fun y => decide (y ≠ row)) cols = true := by
        have := hq.1
        unfold quB at this ⊢
        rw [Bool.and_eq_true] at this ⊢
        exact ⟨rising_filter this.1, this.2⟩
      rw [if_pos hq.1] at eb
      rw [if_pos hq2] at ea
      obtain ⟨b1, b2⟩ := Prod.mk.inj eb
      obtain ⟨a1, a2⟩ := Prod.mk.inj ea
      obtain ⟨k1, k2⟩ := falls_law (W := w.toNat) (H := h.toNat) (G := G) (pl := pl) (rows := rows) (cols := cols) (row := row)
      have ll := loose_len w.toNat h.toNat G pl (rows.filter fun y => decide (y ≠ row)) cols
      have l8 := (chaseF_some hc).2.2
      rw [e1, b1, a1]
      exact ⟨⟨b2, a2⟩, ⟨k1, by omega⟩, k2⟩
    · cases (Prod.mk.inj e).2
/-- What stands in the chase stays there. -/
theorem chaseG_keep {ps : List Piece} {w h : Nat} : ∀ {pl : List Plc} {l : Int} {G G2 : Grid}, -1 ≤ l → chaseG ps w h l pl G = some G2 → ∀ y x, y < h → x < w → G y x ≠ -1 → G2 y x = G y x
  | [], _, G, G2, _, e, y, x, _, _, _ => by cases e; rfl
  | p :: r, l, G, G2, hl, e, y, x, hy, hx, hn => by
    rw [chaseG] at e
    split at e
    · rename_i hc
      have hf := freeP_iff.1 (Bool.and_eq_true _ _ |>.mp hc.2).2 y x hy hx
      have e1 : putP ps G p p.1 y x = G y x := by
        unfold putP
        split
        · rename_i hi; exact absurd (hf hi) hn
        · rfl
      have := chaseG_keep (by omega) e y x hy hx (by rw [e1]; exact hn)
      rw [this, e1]
    · cases e
/-- Each piece has all its places. -/
theorem chaseG_has {ps : List Piece} {w h : Nat} : ∀ {pl : List Plc} {l : Int} {G G2 : Grid}, -1 ≤ l → chaseG ps w h l pl G = some G2 → ∀ p ∈ pl, fitP ps w h p = true ∧ ∀ y x, y < h → x < w → inP ps p y x = true → G2 y x = p.1
  | [], _, _, _, _, _, p, hp => by cases hp
  | q :: r, l, G, G2, hl, e, p, hp => by
    rw [chaseG] at e
    split at e
    · rename_i hc
      rcases List.mem_cons.1 hp with rfl | hp
      · refine ⟨(Bool.and_eq_true _ _ |>.mp hc.2).1, fun y x hy hx hi => ?_⟩
        have e1 : putP ps G p p.1 y x = p.1 := if_pos hi
        rw [chaseG_keep (by omega) e y x hy hx (by rw [e1]; omega), e1]
      · exact chaseG_has (by omega) e p hp
    · cases e
theorem cutsF_mem {W H : Nat} {G : Grid} {n : Int} (h : n ∈ cutsF W H G) : (1 ≤ n ∧ n < W) ∧ ∀ y, y < H → G y n.toNat = -1 ∨ G y n.toNat ≠ G y (n.toNat - 1) := by
  unfold cutsF at h
  obtain ⟨x, hx, rfl⟩ := List.mem_map.1 h
  rw [List.mem_filter, Bool.and_eq_true] at hx
  have h1 := List.mem_range.1 hx.1
  have h2 := of_decide_eq_true hx.2.1
  refine ⟨by omega, fun y hy => ?_⟩
  have h3 := List.all_eq_true.1 hx.2.2 y (List.mem_range.2 hy)
  simp only [Bool.or_eq_true, decide_eq_true_iff] at h3
  rw [Int.toNat_natCast]; exact h3
/-- Cuts go through no piece. -/
theorem cuts_law {w h : Int} {ps : List Piece} {pl : List Plc} {up lev : List Int} {six eight : Bool} {G : Grid} (eG : chaseF w h ps pl = some G) (eu : (up, six) = upA w h ps pl) (el : (lev, eight) = levA w h ps pl) :
    (up.length ≤ 8 ∧ lev.length ≤ 8) ∧ ∀ p ∈ pl, (0 ≤ p.1 ∧ p.1 < ps.length) ∧ (∀ a b, (a, b) = sideP ps p → ((0 ≤ p.2.1 ∧ p.2.1 ≤ 8) ∧ (0 ≤ p.2.2.1 ∧ p.2.2.1 ≤ 8)) ∧ ((1 ≤ a ∧ a ≤ 8) ∧ 1 ≤ b ∧ b ≤ 8) ∧ (∀ n ∈ up, ¬ (p.2.1 < n ∧ n < p.2.1 + a)) ∧ ∀ n ∈ lev, ¬ (p.2.2.1 < n ∧ n < p.2.2.1 + b)) := by
  obtain ⟨hc, hs, hl⟩ := chaseF_some eG
  obtain ⟨bw, bh, hok⟩ := okCh_spec hc
  unfold upA at eu
  unfold levA at el
  rw [eG] at eu el
  have eu := (Prod.mk.inj eu).1
  have el := (Prod.mk.inj el).1
  have e := eG
  unfold chaseF at e
  rw [if_pos hc] at e
  have cl : ∀ (W H : Nat) (G : Grid), (cutsF W H G).length ≤ W := fun W H G => by
    unfold cutsF
    rw [List.length_map]
    exact Nat.le_trans (List.length_filter_le _ _) (by rw [List.length_range]; exact Nat.le_refl _)
  refine ⟨⟨by rw [eu]; have := cl w.toNat h.toNat G; omega, by rw [el]; have := cl h.toNat w.toNat (turnG G); omega⟩, fun p hp => ?_⟩
  have hn := chaseG_nums e p hp
  obtain ⟨hf, hi⟩ := chaseG_has (Int.le_refl _) e p hp
  refine ⟨by omega, fun a b hab => ?_⟩
  have sb := side_bound hok (p := p) (by omega) hn.2
  have hf := fitP_iff.1 hf
  rw [← hab] at sb hf
  dsimp only at sb hf
  have hin : ∀ y x : Nat, (p.2.2.1 ≤ y ∧ (y : Int) < p.2.2.1 + b) → (p.2.1 ≤ x ∧ (x : Int) < p.2.1 + a) → G y x = p.1 := fun y x h1 h2 =>
    hi y x (by omega) (by omega) (by unfold inP; rw [← hab, inQ_iff]; exact ⟨h1, h2⟩)
  refine ⟨by omega, sb, fun n hn2 hx => ?_, fun n hn2 hx => ?_⟩
  · rw [eu] at hn2
    obtain ⟨h1, h2⟩ := cutsF_mem hn2
    have h3 := h2 p.2.2.1.toNat (by omega)
    rw [hin _ _ ⟨by omega, by omega⟩ ⟨by omega, by omega⟩, hin _ _ ⟨by omega, by omega⟩ ⟨by omega, by omega⟩] at h3
    rcases h3 with h3 | h3
    · omega
    · exact h3 rfl
  · rw [el] at hn2
    obtain ⟨h1, h2⟩ := cutsF_mem hn2
    have h3 := h2 p.2.1.toNat (by omega)
    unfold turnG at h3
    rw [hin _ _ ⟨by omega, by omega⟩ ⟨by omega, by omega⟩, hin _ _ ⟨by omega, by omega⟩ ⟨by omega, by omega⟩] at h3
    rcases h3 with h3 | h3
    · omega
    · exact h3 rfl

/- Contracts of the reference's cuts. -/
theorem cell_test {a b : Int} (ha : -1 ≤ a) (hb : -1 ≤ b) : (decide (b = -1) || decide (b ≠ a)) = (decide (a < 0) || decide (a ≠ b)) := by
  rw [Bool.eq_iff_iff]
  simp only [Bool.or_eq_true, decide_eq_true_iff]
  omega
theorem cut_yes {k : Nat} {G : Grid} {x : Nat} {a b : Int} (ea : a = G k (x - 1)) (eb : b = G k x) (ha : -1 ≤ a) (hb : -1 ≤ b) (c : Bool) (h : c = cutU k G x) (ht : a < 0 ∨ a ≠ b) : c = cutU (k + 1) G x := by
  rw [cutU_next, ← h, ← ea, ← eb, cell_test ha hb]
  rcases ht with ht | ht
  · rw [decide_eq_true ht]; simp
  · rw [decide_eq_true ht]; simp
theorem cut_no {k : Nat} {G : Grid} {x : Nat} {a b : Int} (ea : a = G k (x - 1)) (eb : b = G k x) (ha : -1 ≤ a) (hb : -1 ≤ b) (ht : ¬ (a < 0 ∨ a ≠ b)) : false = cutU (k + 1) G x := by
  rw [cutU_next, ← ea, ← eb, cell_test ha hb, decide_eq_false (fun h => ht (.inl h)), decide_eq_false (fun h => ht (.inr h))]; simp
theorem cut_was {k : Nat} {G : Grid} {x : Nat} (h : false = cutU k G x) : false = cutU (k + 1) G x := by
  rw [cutU_next, ← h]; rfl
theorem specUprightCuts_ok (width : Int) (height : Int) (pieces : List Piece) (placed : List Plc)  : OkA Try.prog 43 [.int .i64 width, .int .i64 height, .isl 2 (rows cPiece pieces), .isl 4 (rows cPlaced placed)] (· = (lb 3 1 cInt) (upA width height pieces placed)) :=
  OkA.unnil 3 1 (fn_intro envOk fieldsOk mixed Try.func43 rfl fun κ X Y L Q m hQ => by
    conv => cbv
    refine r_callB m.sX (fuAsked_ok width height pieces placed) (fun h1 => ?_) (fun h1 => ?_) <;> conv => cbv
    · obtain ⟨G, eG, oc, sg, bw⟩ := asked_some h1
      refine r_callF (lbI 1 cInt) m.sX (fuGridI_ok width height pieces placed G eG) fun v hgrid => ?_
      obtain ⟨grid, v1⟩ := v
      conv => cbv
      have eg : grid = flaG width.toNat height.toNat G := by rw [gridL_get eG] at hgrid; exact (Prod.mk.inj hgrid).1
      have fo := flat_ok eG eg
      have ml := nat_mul (a := width) (b := height) (by omega) (by omega)
      have gl : grid.length = width.toNat * height.toNat := by rw [eg, flaG_length]
      have mb8 := mul_bound (a := width) (A := 8) (b := height) (B := 8) (by omega) (by omega) (by omega) (by omega)
      refine r_loopF (α := List Int × Int) m 75 [0, 1, 10, 13] [⟨12, 97, 3, 1, 0⟩] (fun σ => [(0, .int .i64 width), (1, .int .i64 height), (10, .isl 1 (rows cInt grid)), (12, .osl 97 0), (13, .int .i64 σ.2)]) (fun σ => [(97, 0, .row 3 1 (rows cInt σ.1))])
        (fun σ => (1 ≤ σ.2 ∧ σ.2 ≤ width) ∧ (σ.1 = cutsN σ.2.toNat height.toNat G) ∧ ((σ.1.length : Int) ≤ σ.2)) (fun σ => (width - σ.2).toNat) ([], 1) ?_ ?_ ?_ ?_
      · cbv
      · (try dsimp only); (try simp only [rows_cons, rows_nil]); cbv
      · exact ⟨(by (try dsimp only) <;> first | omega | rfl | (simp [*]; done)), (by (try dsimp only) <;> (exact (cutsN_one height.toNat G).symm)), (by (try dsimp only) <;> first | omega | rfl | (simp [*]; done))⟩
      rintro ⟨out, x⟩ ⟨xb, q, ln⟩ E hE F hF
      dsimp only at xb q ln
      conv => cbv
      refine r_lss m.sX (fun h2 => ?_) (fun h2 => ?_) <;> conv => cbv
      · refine r_loopF (α := Bool × Int) m 75 [0, 1, 10, 13, 14, 15] [⟨12, 97, 3, 1, 0⟩] (fun σ => [(0, .int .i64 width), (1, .int .i64 height), (10, .isl 1 (rows cInt grid)), (12, .osl 97 0), (13, .int .i64 x), (14, .bool σ.1), (15, .int .i64 σ.2)]) (fun σ => [(97, 0, .row 3 1 (rows cInt out))])
          (fun σ => (0 ≤ σ.2) ∧ (σ.2 ≤ height) ∧ (0 ≤ σ.2 ∧ σ.2 ≤ height) ∧ (σ.1 = cutU σ.2.toNat G x.toNat)) (fun σ => (height - σ.2).toNat) (true, 0) ?_ ?_ ?_ ?_
        · cbv
        · cbv
        · exact ⟨(by (try dsimp only); first | omega | (simp only [List.length_nil]; omega) | (simp only [List.length_cons, List.length_nil]; omega)), (by (try dsimp only); first | omega | (simp only [List.length_nil]; omega) | (simp only [List.length_cons, List.length_nil]; omega)), (by (try dsimp only) <;> first | omega | rfl | (simp [*]; done)), (by (try dsimp only) <;> (rfl))⟩
        rintro ⟨cut, y⟩ ⟨lo2, hi2, yb, q2⟩ E2 hE2 F2 hF2
        dsimp only at lo2 hi2 yb q2
        have m4 := mul_bound (a := y) (A := 8) (b := width) (B := 8) (by omega) (by omega) (by omega) (by omega)
        conv => cbv
        refine r_lss m.sX (fun h3 => ?_) (fun h3 => ?_) <;> conv => cbv
        · refine r_draw m (by kernel_rfl) ?_
          conv => cbv
          refine r_mulf m.sY (by first | omega | (subst_vars; omega)) (by first | omega | (subst_vars; omega)) fun r1 hr1 => ?_
          conv => cbv
          refine r_addf m.sY (by omega) (by omega) fun r2 hr2 => ?_
          conv => cbv
          refine r_subf m.sY (by omega) (by omega) fun r3 hr3 => ?_
          conv => cbv
          have ix3 := flat_ix (a := y) (w := width) (b := x - 1) (by omega) (by omega) (by omega) (show r3 = y * width + (x - 1) by omega)
          have il3 := flat_lt (show y.toNat < height.toNat by omega) (show (x - 1).toNat < width.toNat by omega)
          refine r_index m.sY (by omega) (by omega) fun a ha => ?_
          conv => cbv
          have ma := get_mem ha
          have va := nth_some ha
          have ea : a = G y.toNat (x - 1).toNat := fo.at ⟨by omega, by omega⟩ ⟨by omega, by omega⟩ (show r3 = y * width + (x - 1) by omega) ha
          rw [show (x - 1).toNat = x.toNat - 1 by omega] at ea
          have na : -1 ≤ a := (by rw [ea]; exact (sg _ _).1)
          refine r_mulf m.sY (by first | omega | (subst_vars; omega)) (by first | omega | (subst_vars; omega)) fun r4 hr4 => ?_
          conv => cbv
          refine r_addf m.sY (by omega) (by omega) fun r5 hr5 => ?_
          conv => cbv
          have ix5 := flat_ix (a := y) (w := width) (b := x) (by omega) (by omega) (by omega) (show r5 = y * width + x by omega)
          have il5 := flat_lt (show y.toNat < height.toNat by omega) (show x.toNat < width.toNat by omega)
          refine r_index m.sY (by omega) (by omega) fun b hb => ?_
          conv => cbv
          have mb := get_mem hb
          have vb := nth_some hb
          have eb : b = G y.toNat x.toNat := fo.at ⟨by omega, by omega⟩ ⟨by omega, by omega⟩ (show r5 = y * width + x by omega) hb
          have nb : -1 ≤ b := (by rw [eb]; exact (sg _ _).1)
          rcases Bool.eq_false_or_eq_true cut with rfl | rfl <;> conv => cbv
          · refine r_lss m.sX (fun h4 => ?_) (fun h4 => ?_) <;> conv => cbv
            · refine r_addf m.sX (by omega) (by omega) fun y_2 hy_2 => ?_
              conv => cbv
              try have ty_2 : Int.toNat y_2 = Int.toNat y + 1 := by omega
              refine hE2 _ (true, y_2) ?_ ?_ ⟨(by (try dsimp only); first | omega | (simp only [List.length_nil]; omega) | (simp only [List.length_cons, List.length_nil]; omega)), (by (try dsimp only); first | omega | (simp only [List.length_nil]; omega) | (simp only [List.length_cons, List.length_nil]; omega)), (by (try dsimp only) <;> first | omega | rfl | (simp [*]; done) | (rw [yb]; simp [*]; done)), (by (try dsimp only) <;> (rw [show Int.toNat y_2 = y.toNat + 1 by omega]; first | exact cut_was q2 | exact cut_yes ea eb na nb _ q2 (by omega) | exact cut_no ea eb na nb (by omega)))⟩ (by first | omega | (dsimp only; omega))
              · cbv
              · cbv
            · refine r_neq m.sX (fun h5 => ?_) (fun h5 => ?_) <;> conv => cbv
              · refine r_addf m.sX (by omega) (by omega) fun y_3 hy_3 => ?_
                conv => cbv
                try have ty_3 : Int.toNat y_3 = Int.toNat y + 1 := by omega
                refine hE2 _ (true, y_3) ?_ ?_ ⟨(by (try dsimp only); first | omega | (simp only [List.length_nil]; omega) | (simp only [List.length_cons, List.length_nil]; omega)), (by (try dsimp only); first | omega | (simp only [List.length_nil]; omega) | (simp only [List.length_cons, List.length_nil]; omega)), (by (try dsimp only) <;> first | omega | rfl | (simp [*]; done) | (rw [yb]; simp [*]; done)), (by (try dsimp only) <;> (rw [show Int.toNat y_3 = y.toNat + 1 by omega]; first | exact cut_was q2 | exact cut_yes ea eb na nb _ q2 (by omega) | exact cut_no ea eb na nb (by omega)))⟩ (by first | omega | (dsimp only; omega))
                · cbv
                · cbv
              · refine r_addf m.sX (by omega) (by omega) fun y_4 hy_4 => ?_
                conv => cbv
                try have ty_4 : Int.toNat y_4 = Int.toNat y + 1 := by omega
                refine hE2 _ (false, y_4) ?_ ?_ ⟨(by (try dsimp only); first | omega | (simp only [List.length_nil]; omega) | (simp only [List.length_cons, List.length_nil]; omega)), (by (try dsimp only); first | omega | (simp only [List.length_nil]; omega) | (simp only [List.length_cons, List.length_nil]; omega)), (by (try dsimp only) <;> first | omega | rfl | (simp [*]; done) | (rw [yb]; simp [*]; done)), (by (try dsimp only) <;> (rw [show Int.toNat y_4 = y.toNat + 1 by omega]; first | exact cut_was q2 | exact cut_yes ea eb na nb _ q2 (by omega) | exact cut_no ea eb na nb (by omega)))⟩ (by first | omega | (dsimp only; omega))
                · cbv
                · cbv
          · refine r_addf m.sX (by omega) (by omega) fun y_5 hy_5 => ?_
            conv => cbv
            try have ty_5 : Int.toNat y_5 = Int.toNat y + 1 := by omega
            refine hE2 _ (false, y_5) ?_ ?_ ⟨(by (try dsimp only); first | omega | (simp only [List.length_nil]; omega) | (simp only [List.length_cons, List.length_nil]; omega)), (by (try dsimp only); first | omega | (simp only [List.length_nil]; omega) | (simp only [List.length_cons, List.length_nil]; omega)), (by (try dsimp only) <;> first | omega | rfl | (simp [*]; done) | (rw [yb]; simp [*]; done)), (by (try dsimp only) <;> (rw [show Int.toNat y_5 = y.toNat + 1 by omega]; first | exact cut_was q2 | exact cut_yes ea eb na nb _ q2 (by omega) | exact cut_no ea eb na nb (by omega)))⟩ (by first | omega | (dsimp only; omega))
            · cbv
            · cbv
        · refine hF2 _ _ ?_
          conv => cbv
          rcases Bool.eq_false_or_eq_true cut with rfl | rfl <;> conv => cbv
          · refine r_append1 (x) m.sX rfl (by first | omega | (dsimp only; omega)) (by first | omega | (dsimp only; omega)) fun out_2 hout_2 => ?_
            conv => cbv
            have lout_2 : (out_2.length : Int) = out.length + 1 := by rw [hout_2]; first | done | (simp; done) | (simp; omega)
            refine r_addf m.sX (by omega) (by omega) fun x_2 hx_2 => ?_
            conv => cbv
            refine hE _ (out_2, x_2) ?_ ?_ ⟨(by (try dsimp only) <;> first | omega | rfl | (simp [*]; done) | (rw [xb]; simp [*]; done)), (by (try dsimp only) <;> (rw [show Int.toNat x_2 = x.toNat + 1 by omega]; first | (rw [cutsN_yes (by omega) (show cutB height.toNat G x.toNat = true from by rw [show cutB height.toNat G x.toNat = cutU height.toNat G x.toNat from rfl, show height.toNat = y.toNat by omega, ← q2]), ← q, show ((x.toNat : Nat) : Int) = x by omega]; exact hout_2) | (rw [cutsN_no (show cutB height.toNat G x.toNat = false from by rw [show cutB height.toNat G x.toNat = cutU height.toNat G x.toNat from rfl, show height.toNat = y.toNat by omega, ← q2])]; exact q))), (by (try dsimp only) <;> first | omega | rfl | (simp [*]; done) | (rw [ln]; simp [*]; done))⟩ (by first | omega | (dsimp only; omega))
            · cbv
            · cbv
          · refine r_addf m.sX (by omega) (by omega) fun x_3 hx_3 => ?_
            conv => cbv
            refine hE _ (out, x_3) ?_ ?_ ⟨(by (try dsimp only) <;> first | omega | rfl | (simp [*]; done) | (rw [xb]; simp [*]; done)), (by (try dsimp only) <;> (rw [show Int.toNat x_3 = x.toNat + 1 by omega]; first | (rw [cutsN_yes (by omega) (show cutB height.toNat G x.toNat = true from by rw [show cutB height.toNat G x.toNat = cutU height.toNat G x.toNat from rfl, show height.toNat = y.toNat by omega, ← q2]), ← q, show ((x.toNat : Nat) : Int) = x by omega]; exact hout_2) | (rw [cutsN_no (show cutB height.toNat G x.toNat = false from by rw [show cutB height.toNat G x.toNat = cutU height.toNat G x.toNat from rfl, show height.toNat = y.toNat by omega, ← q2])]; exact q))), (by (try dsimp only) <;> first | omega | rfl | (simp [*]; done) | (rw [ln]; simp [*]; done))⟩ (by first | omega | (dsimp only; omega))
            · cbv
            · cbv
      · refine hF _ _ ?_
        conv => cbv
        exact hQ (.tup [.fr 3 1 (rows cInt out), .bool true]) (Eq.trans (by first | rfl | (simp only [lb, lbI, rows_cons, rows_nil, unnilT, unnil, unnilTI, unnilI]; done) | (simp only [lb, lbI, rows_cons, rows_nil, unnilT, unnil, unnilTI, unnilI]; rfl)) (congrArg ((lb 3 1 cInt)) (show (out, true) = upA width height pieces placed from by rw [upA, eG, q, show x.toNat = width.toNat by omega]; rfl)))   -- leaf 1
    · have eN := asked_none h1
      exact hQ (.tup [.nil, .bool false]) (Eq.trans (by first | rfl | (simp only [lb, lbI, rows_cons, rows_nil, unnilT, unnil, unnilTI, unnilI]; done) | (simp only [lb, lbI, rows_cons, rows_nil, unnilT, unnil, unnilTI, unnilI]; rfl)) (congrArg ((lb 3 1 cInt)) (show ([], false) = upA width height pieces placed from by rw [upA, eN]))))   -- leaf 2

theorem specLevelCuts_ok (width : Int) (height : Int) (pieces : List Piece) (placed : List Plc)  : OkA Try.prog 45 [.int .i64 width, .int .i64 height, .isl 2 (rows cPiece pieces), .isl 4 (rows cPlaced placed)] (· = (lb 3 1 cInt) (levA width height pieces placed)) :=
  OkA.unnil 3 1 (fn_intro envOk fieldsOk mixed Try.func45 rfl fun κ X Y L Q m hQ => by
    conv => cbv
    refine r_callB m.sX (fuAsked_ok width height pieces placed) (fun h1 => ?_) (fun h1 => ?_) <;> conv => cbv
    · obtain ⟨G, eG, oc, sg, bw⟩ := asked_some h1
      refine r_callF (lbI 1 cInt) m.sX (fuGridI_ok width height pieces placed G eG) fun v hgrid => ?_
      obtain ⟨grid, v1⟩ := v
      conv => cbv
      have eg : grid = flaG width.toNat height.toNat G := by rw [gridL_get eG] at hgrid; exact (Prod.mk.inj hgrid).1
      have fo := flat_ok eG eg
      have ml := nat_mul (a := width) (b := height) (by omega) (by omega)
      have gl : grid.length = width.toNat * height.toNat := by rw [eg, flaG_length]
      have mb8 := mul_bound (a := width) (A := 8) (b := height) (B := 8) (by omega) (by omega) (by omega) (by omega)
      refine r_loopF (α := List Int × Int) m 75 [0, 1, 10, 13] [⟨12, 97, 3, 1, 0⟩] (fun σ => [(0, .int .i64 width), (1, .int .i64 height), (10, .isl 1 (rows cInt grid)), (12, .osl 97 0), (13, .int .i64 σ.2)]) (fun σ => [(97, 0, .row 3 1 (rows cInt σ.1))])
        (fun σ => (1 ≤ σ.2 ∧ σ.2 ≤ height) ∧ (σ.1 = cutsN σ.2.toNat width.toNat (turnG G)) ∧ ((σ.1.length : Int) ≤ σ.2)) (fun σ => (height - σ.2).toNat) ([], 1) ?_ ?_ ?_ ?_
      · cbv
      · (try dsimp only); (try simp only [rows_cons, rows_nil]); cbv
      · exact ⟨(by (try dsimp only) <;> first | omega | rfl | (simp [*]; done)), (by (try dsimp only) <;> (exact (cutsN_one width.toNat (turnG G)).symm)), (by (try dsimp only) <;> first | omega | rfl | (simp [*]; done))⟩
      rintro ⟨out, y⟩ ⟨yb, q, ln⟩ E hE F hF
      dsimp only at yb q ln
      conv => cbv
      refine r_lss m.sX (fun h2 => ?_) (fun h2 => ?_) <;> conv => cbv
      · refine r_loopF (α := Bool × Int) m 75 [0, 1, 10, 13, 14, 15] [⟨12, 97, 3, 1, 0⟩] (fun σ => [(0, .int .i64 width), (1, .int .i64 height), (10, .isl 1 (rows cInt grid)), (12, .osl 97 0), (13, .int .i64 y), (14, .bool σ.1), (15, .int .i64 σ.2)]) (fun σ => [(97, 0, .row 3 1 (rows cInt out))])
          (fun σ => (0 ≤ σ.2) ∧ (σ.2 ≤ width) ∧ (0 ≤ σ.2 ∧ σ.2 ≤ width) ∧ (σ.1 = cutU σ.2.toNat (turnG G) y.toNat)) (fun σ => (width - σ.2).toNat) (true, 0) ?_ ?_ ?_ ?_
        · cbv
        · cbv
        · exact ⟨(by (try dsimp only); first | omega | (simp only [List.length_nil]; omega) | (simp only [List.length_cons, List.length_nil]; omega)), (by (try dsimp only); first | omega | (simp only [List.length_nil]; omega) | (simp only [List.length_cons, List.length_nil]; omega)), (by (try dsimp only) <;> first | omega | rfl | (simp [*]; done)), (by (try dsimp only) <;> (rfl))⟩
        rintro ⟨cut, x⟩ ⟨lo2, hi2, xb, q2⟩ E2 hE2 F2 hF2
        dsimp only at lo2 hi2 xb q2
        have m4 := mul_bound (a := y) (A := 8) (b := width) (B := 8) (by omega) (by omega) (by omega) (by omega)
        conv => cbv
        refine r_lss m.sX (fun h3 => ?_) (fun h3 => ?_) <;> conv => cbv
        · refine r_draw m (by kernel_rfl) ?_
          conv => cbv
          refine r_subf m.sY (by omega) (by omega) fun r1 hr1 => ?_
          conv => cbv
          have m5 := mul_bound (a := r1) (A := 8) (b := width) (B := 8) (by omega) (by omega) (by omega) (by omega)
          refine r_mulf m.sY (by first | omega | (subst_vars; omega)) (by first | omega | (subst_vars; omega)) fun r2 hr2 => ?_
          conv => cbv
          refine r_addf m.sY (by omega) (by omega) fun r3 hr3 => ?_
          conv => cbv
          have ix3 := flat_ix (a := r1) (w := width) (b := x) (by omega) (by omega) (by omega) (show r3 = r1 * width + x by omega)
          have il3 := flat_lt (show r1.toNat < height.toNat by omega) (show x.toNat < width.toNat by omega)
          refine r_index m.sY (by omega) (by omega) fun a ha => ?_
          conv => cbv
          have ma := get_mem ha
          have va := nth_some ha
          have ea : a = turnG G x.toNat r1.toNat := fo.at (y := r1) (x := x) ⟨by omega, by omega⟩ ⟨by omega, by omega⟩ (show r3 = r1 * width + x by omega) ha
          rw [show r1.toNat = y.toNat - 1 by omega] at ea
          have na : -1 ≤ a := (by rw [ea]; exact (sg _ _).1)
          refine r_mulf m.sY (by first | omega | (subst_vars; omega)) (by first | omega | (subst_vars; omega)) fun r4 hr4 => ?_
          conv => cbv
          refine r_addf m.sY (by omega) (by omega) fun r5 hr5 => ?_
          conv => cbv
          have ix5 := flat_ix (a := y) (w := width) (b := x) (by omega) (by omega) (by omega) (show r5 = y * width + x by omega)
          have il5 := flat_lt (show y.toNat < height.toNat by omega) (show x.toNat < width.toNat by omega)
          refine r_index m.sY (by omega) (by omega) fun b hb => ?_
          conv => cbv
          have mb := get_mem hb
          have vb := nth_some hb
          have eb : b = turnG G x.toNat y.toNat := fo.at (y := y) (x := x) ⟨by omega, by omega⟩ ⟨by omega, by omega⟩ (show r5 = y * width + x by omega) hb
          have nb : -1 ≤ b := (by rw [eb]; exact (sg _ _).1)
          rcases Bool.eq_false_or_eq_true cut with rfl | rfl <;> conv => cbv
          · refine r_lss m.sX (fun h4 => ?_) (fun h4 => ?_) <;> conv => cbv
            · refine r_addf m.sX (by omega) (by omega) fun x_2 hx_2 => ?_
              conv => cbv
              try have tx_2 : Int.toNat x_2 = Int.toNat x + 1 := by omega
              refine hE2 _ (true, x_2) ?_ ?_ ⟨(by (try dsimp only); first | omega | (simp only [List.length_nil]; omega) | (simp only [List.length_cons, List.length_nil]; omega)), (by (try dsimp only); first | omega | (simp only [List.length_nil]; omega) | (simp only [List.length_cons, List.length_nil]; omega)), (by (try dsimp only) <;> first | omega | rfl | (simp [*]; done) | (rw [xb]; simp [*]; done)), (by (try dsimp only) <;> (rw [show Int.toNat x_2 = x.toNat + 1 by omega]; first | exact cut_was q2 | exact cut_yes ea eb na nb _ q2 (by omega) | exact cut_no ea eb na nb (by omega)))⟩ (by first | omega | (dsimp only; omega))
              · cbv
              · cbv
            · refine r_neq m.sX (fun h5 => ?_) (fun h5 => ?_) <;> conv => cbv
              · refine r_addf m.sX (by omega) (by omega) fun x_3 hx_3 => ?_
                conv => cbv
                try have tx_3 : Int.toNat x_3 = Int.toNat x + 1 := by omega
                refine hE2 _ (true, x_3) ?_ ?_ ⟨(by (try dsimp only); first | omega | (simp only [List.length_nil]; omega) | (simp only [List.length_cons, List.length_nil]; omega)), (by (try dsimp only); first | omega | (simp only [List.length_nil]; omega) | (simp only [List.length_cons, List.length_nil]; omega)), (by (try dsimp only) <;> first | omega | rfl | (simp [*]; done) | (rw [xb]; simp [*]; done)), (by (try dsimp only) <;> (rw [show Int.toNat x_3 = x.toNat + 1 by omega]; first | exact cut_was q2 | exact cut_yes ea eb na nb _ q2 (by omega) | exact cut_no ea eb na nb (by omega)))⟩ (by first | omega | (dsimp only; omega))
                · cbv
                · cbv
              · refine r_addf m.sX (by omega) (by omega) fun x_4 hx_4 => ?_
                conv => cbv
                try have tx_4 : Int.toNat x_4 = Int.toNat x + 1 := by omega
                refine hE2 _ (false, x_4) ?_ ?_ ⟨(by (try dsimp only); first | omega | (simp only [List.length_nil]; omega) | (simp only [List.length_cons, List.length_nil]; omega)), (by (try dsimp only); first | omega | (simp only [List.length_nil]; omega) | (simp only [List.length_cons, List.length_nil]; omega)), (by (try dsimp only) <;> first | omega | rfl | (simp [*]; done) | (rw [xb]; simp [*]; done)), (by (try dsimp only) <;> (rw [show Int.toNat x_4 = x.toNat + 1 by omega]; first | exact cut_was q2 | exact cut_yes ea eb na nb _ q2 (by omega) | exact cut_no ea eb na nb (by omega)))⟩ (by first | omega | (dsimp only; omega))
                · cbv
                · cbv
          · refine r_addf m.sX (by omega) (by omega) fun x_5 hx_5 => ?_
            conv => cbv
            try have tx_5 : Int.toNat x_5 = Int.toNat x + 1 := by omega
            refine hE2 _ (false, x_5) ?_ ?_ ⟨(by (try dsimp only); first | omega | (simp only [List.length_nil]; omega) | (simp only [List.length_cons, List.length_nil]; omega)), (by (try dsimp only); first | omega | (simp only [List.length_nil]; omega) | (simp only [List.length_cons, List.length_nil]; omega)), (by (try dsimp only) <;> first | omega | rfl | (simp [*]; done) | (rw [xb]; simp [*]; done)), (by (try dsimp only) <;> (rw [show Int.toNat x_5 = x.toNat + 1 by omega]; first | exact cut_was q2 | exact cut_yes ea eb na nb _ q2 (by omega) | exact cut_no ea eb na nb (by omega)))⟩ (by first | omega | (dsimp only; omega))
            · cbv
            · cbv
        · refine hF2 _ _ ?_
          conv => cbv
          rcases Bool.eq_false_or_eq_true cut with rfl | rfl <;> conv => cbv
          · refine r_append1 (y) m.sX rfl (by first | omega | (dsimp only; omega)) (by first | omega | (dsimp only; omega)) fun out_2 hout_2 => ?_
            conv => cbv
            have lout_2 : (out_2.length : Int) = out.length + 1 := by rw [hout_2]; first | done | (simp; done) | (simp; omega)
            refine r_addf m.sX (by omega) (by omega) fun y_2 hy_2 => ?_
            conv => cbv
            refine hE _ (out_2, y_2) ?_ ?_ ⟨(by (try dsimp only) <;> first | omega | rfl | (simp [*]; done) | (rw [yb]; simp [*]; done)), (by (try dsimp only) <;> (rw [show Int.toNat y_2 = y.toNat + 1 by omega]; first | (rw [cutsN_yes (by omega) (show cutB width.toNat (turnG G) y.toNat = true from by rw [show cutB width.toNat (turnG G) y.toNat = cutU width.toNat (turnG G) y.toNat from rfl, show width.toNat = x.toNat by omega, ← q2]), ← q, show ((y.toNat : Nat) : Int) = y by omega]; exact hout_2) | (rw [cutsN_no (show cutB width.toNat (turnG G) y.toNat = false from by rw [show cutB width.toNat (turnG G) y.toNat = cutU width.toNat (turnG G) y.toNat from rfl, show width.toNat = x.toNat by omega, ← q2])]; exact q))), (by (try dsimp only) <;> first | omega | rfl | (simp [*]; done) | (rw [ln]; simp [*]; done))⟩ (by first | omega | (dsimp only; omega))
            · cbv
            · cbv
          · refine r_addf m.sX (by omega) (by omega) fun y_3 hy_3 => ?_
            conv => cbv
            refine hE _ (out, y_3) ?_ ?_ ⟨(by (try dsimp only) <;> first | omega | rfl | (simp [*]; done) | (rw [yb]; simp [*]; done)), (by (try dsimp only) <;> (rw [show Int.toNat y_3 = y.toNat + 1 by omega]; first | (rw [cutsN_yes (by omega) (show cutB width.toNat (turnG G) y.toNat = true from by rw [show cutB width.toNat (turnG G) y.toNat = cutU width.toNat (turnG G) y.toNat from rfl, show width.toNat = x.toNat by omega, ← q2]), ← q, show ((y.toNat : Nat) : Int) = y by omega]; exact hout_2) | (rw [cutsN_no (show cutB width.toNat (turnG G) y.toNat = false from by rw [show cutB width.toNat (turnG G) y.toNat = cutU width.toNat (turnG G) y.toNat from rfl, show width.toNat = x.toNat by omega, ← q2])]; exact q))), (by (try dsimp only) <;> first | omega | rfl | (simp [*]; done) | (rw [ln]; simp [*]; done))⟩ (by first | omega | (dsimp only; omega))
            · cbv
            · cbv
      · refine hF _ _ ?_
        conv => cbv
        exact hQ (.tup [.fr 3 1 (rows cInt out), .bool true]) (Eq.trans (by first | rfl | (simp only [lb, lbI, rows_cons, rows_nil, unnilT, unnil, unnilTI, unnilI]; done) | (simp only [lb, lbI, rows_cons, rows_nil, unnilT, unnil, unnilTI, unnilI]; rfl)) (congrArg ((lb 3 1 cInt)) (show (out, true) = levA width height pieces placed from by rw [levA, eG, q, show y.toNat = height.toNat by omega]; rfl)))   -- leaf 1
    · have eN := asked_none h1
      exact hQ (.tup [.nil, .bool false]) (Eq.trans (by first | rfl | (simp only [lb, lbI, rows_cons, rows_nil, unnilT, unnil, unnilTI, unnilI]; done) | (simp only [lb, lbI, rows_cons, rows_nil, unnilT, unnil, unnilTI, unnilI]; rfl)) (congrArg ((lb 3 1 cInt)) (show ([], false) = levA width height pieces placed from by rw [levA, eN]))))   -- leaf 2


end Go.Proofs.Ytiaodmfipeoegaa.Ai
