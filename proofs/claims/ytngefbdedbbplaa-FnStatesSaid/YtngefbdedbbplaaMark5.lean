/- impl.live by the kit's walk. -/
import Derived.Test.YtngefbdedbbplaaSortM
import Derived.Test.YtngefbdedbbplaaMark4
namespace Go.Proofs.Ytngefbdedbbplaa.Ai
open Go Go.Proofs Go.RowKit
set_option linter.unusedVariables false
set_option linter.unusedSimpArgs false
set_option maxRecDepth 10000
set_option maxHeartbeats 1000000
theorem cell_keep {w w' : World} (h : Below w.heap.size w w') {a : Addr} {v : Value} (hc : w.cell? a = some v) : w'.cell? a = some v := by
  by_cases hb : a.block < w.heap.size
  · have := h.block a.block hb
    unfold World.cell? at hc ⊢
    rw [this]; exact hc
  · unfold World.cell? at hc
    rw [Array.getElem?_eq_none (by omega)] at hc
    cases hc
theorem mk_cells {w : World} {I : Nat → Prop} : ∀ {ps : List Mark} {vs : List Value}, RepIs w I (ps.map cMark).flatten vs → ∀ (i : Nat) p, ps[i]? = some p → (vs[i * 4]? = some (.int .i64 p.1) ∧ vs[i * 4 + 1]? = some (.int .i64 p.2.1)) ∧ vs[i * 4 + 2]? = some (.int .i64 p.2.2.1) ∧ vs[i * 4 + 3]? = some (.string ⟨p.2.2.2.toArray⟩)
  | [], _, _, i, p, h => by simp at h
  | q :: r, vs, h, i, p, hi => by
    simp only [List.map_cons, List.flatten_cons, cMark, List.cons_append, List.nil_append] at h
    cases h with
    | cons h1 h => cases h with
      | cons h2 h => cases h with
        | cons h3 h => cases h with
          | cons h4 h =>
            cases h1
            cases h2
            cases h3
            cases h4
            cases i with
            | zero => simp at hi; subst hi; exact ⟨⟨rfl, rfl⟩, rfl, rfl⟩
            | succ i =>
              have := mk_cells h i p (by simpa using hi)
              rw [show (i + 1) * 4 = i * 4 + 4 by omega]
              exact this
theorem marks_rep {w : World} {I : Nat → Prop} {v : Value} {ps : List Mark} (h : RepI w I (.isl 4 (rows cMark ps)) v) : ∃ A c, v = .slice A ps.length c ∧ (0 < ps.length → ∃ g o, A = some ⟨g, o, none⟩ ∧ ∀ (i : Nat) p, ps[i]? = some p → (w.cell? ⟨g, o + i * 4, none⟩ = some (.int .i64 p.1) ∧ w.cell? ⟨g, o + i * 4 + 1, none⟩ = some (.int .i64 p.2.1)) ∧ w.cell? ⟨g, o + i * 4 + 2, none⟩ = some (.int .i64 p.2.2.1) ∧ w.cell? ⟨g, o + i * 4 + 3, none⟩ = some (.string ⟨p.2.2.2.toArray⟩)) := by
  rw [rows_eq] at h
  generalize hes : ps.map cMark = es at h
  cases h with
  | isl0 sz A c hm =>
    rw [List.map_eq_nil_iff.1 hes]
    exact ⟨A, c, rfl, fun h => absurd h (Nat.lt_irrefl _)⟩
  | isl sz es g o c vs hl hr hI hcell hc hm =>
    subst hes
    refine ⟨_, c, by rw [List.length_map], fun _ => ⟨g, o, rfl, fun i p hi => ?_⟩⟩
    obtain ⟨⟨a, b⟩, d, e⟩ := mk_cells hr i p hi
    exact ⟨⟨hcell _ _ a, by rw [Nat.add_assoc]; exact hcell _ _ b⟩, by rw [Nat.add_assoc]; exact hcell _ _ d, by rw [Nat.add_assoc]; exact hcell _ _ e⟩
/-- The box of the list. -/
def BoxL (w : World) (b : Nat) (v : Value) : Prop := w.heap[b]? = some (.cells #[v] 25 (0, 0))
theorem BoxL.cell {w : World} {b : Nat} {v : Value} (h : BoxL w b v) : w.cell? ⟨b, 0, none⟩ = some v := by
  unfold BoxL at h
  simp [World.cell?, h]
theorem BoxL.free {w : World} {b : Nat} {v : Value} (h : BoxL w b v) : w.frozen? ⟨b, 0, none⟩ = false := by
  unfold BoxL at h
  simp [World.frozen?, h]
theorem BoxL.lt {w : World} {b : Nat} {v : Value} (h : BoxL w b v) : b < w.heap.size := (Array.getElem?_eq_some_iff.1 h).1
theorem BoxL.keep {w w' : World} {b : Nat} {v : Value} (h : BoxL w b v) (e : w'.heap[b]? = w.heap[b]?) : BoxL w' b v := by unfold BoxL; rw [e]; exact h
theorem BoxL.set {w : World} {b : Nat} {v : Value} (h : BoxL w b v) (u : Value) : BoxL (w.setCell ⟨b, 0, none⟩ u) b u := by
  unfold BoxL at *
  simp [World.setCell, Array.getElem?_modify, h]
theorem OwnM.upd {S : Nat → Prop} {w w' : World} {B : Nat} {v : Value} {o : List Mark} (h : OwnM w B v o) (hu : Upd S w w') (hS : ∀ k, S k → v.ownBlock ≠ some k) : OwnM w' B v o := by
  obtain ⟨h1, h2⟩ := h
  refine ⟨h1, ?_⟩
  rcases h2 with h2 | ⟨g, cap, cur, rfl, hg, hh, r⟩
  · exact .inl h2
  · exact .inr ⟨g, cap, cur, rfl, hg, by rw [hu.block g (Array.getElem?_eq_some_iff.1 hh).1 fun hs => hS g hs rfl]; exact hh, r⟩
theorem OwnM.below {w w' : World} {B : Nat} {v : Value} {o : List Mark} (h : OwnM w B v o) (hu : Below w.heap.size w w') : OwnM w' B v o := h.upd (Upd.of (S := fun _ => False) hu) fun _ x => x.elim
theorem OwnM.ne {w : World} {B b : Nat} {v u : Value} {o : List Mark} (h : OwnM w B v o) (hb : BoxL w b u) : v.ownBlock ≠ some b := fun e => by
  obtain ⟨-, ⟨rfl, -⟩ | ⟨g, cap, cur, rfl, -, hh, -⟩⟩ := h
  · cases e
  · obtain rfl : g = b := Option.some.inj e
    unfold BoxL at hb
    rw [hb] at hh
    exact absurd (Obj.cells.inj (Option.some.inj hh)).2.1 (by decide)
theorem OwnM.next {w : World} {B : Nat} {v : Value} {l : List Mark} {m : Mark} (h : w.ownsRow B 44 4 v (l.length + 1) (l.flatMap encM ++ encM m)) : OwnM w B v (l ++ [m]) := by
  unfold OwnM
  rw [List.length_append, List.length_singleton, List.flatMap_append, List.flatMap_singleton]
  exact h
theorem new_cellM (w : World) (m : Mark) (k : Nat) (hk : k = w.heap.size) : ∀ j u, (encM m)[j]? = some u → (w.alloc (.cells #[.int .i64 m.1, .int .i64 m.2.1, .int .i64 m.2.2.1, .string ⟨m.2.2.2.toArray⟩] 44)).cell? ((⟨k, 0, none⟩ : Addr).add j) = some u := by
  subst hk
  intro j u hj
  match j, hj with
  | 0, hj => cases hj; simp [Addr.add]
  | 1, hj => cases hj; simp [Addr.add]
  | 2, hj => cases hj; simp [Addr.add]
  | 3, hj => cases hj; simp [Addr.add]
  | n + 4, hj => cases hj
theorem new_oneM (m : Mark) : ∀ u ∈ encM m, u.oneCell' = true := by
  intro u hu
  simp [encM] at hu
  rcases hu with rfl | rfl | rfl | rfl <;> rfl
theorem row_shape {w : World} {B e sz n : Nat} {v : Value} {xs : List Value} (h : w.ownsRow B e sz v n xs) : ∃ k c, v = .slice k n c := by
  obtain ⟨-, ⟨rfl, rfl⟩ | ⟨g, cap, cur, rfl, r⟩⟩ := h
  · exact ⟨none, 0, rfl⟩
  · exact ⟨_, _, rfl⟩
set_option maxHeartbeats 4000000 in
set_option maxRecDepth 1000000 in
theorem live_walk (marks : List Mark) (hm : marks.length ≤ 20) (w : World) (I : Nat → Prop) (v0 : Value) (hI : InR w I) (hr : RepI w I (.isl 4 (rows cMark marks)) v0) :
    Calls Try.prog 51 #[v0] w fun e w' => ∃ v, e = .returned v ∧ OwnM w' w.heap.size v (sortF (liveL marks)) ∧ Below w.heap.size w w' := by
  have AL : ∀ (i : Nat) (W : World), Below w.heap.size w W → i < marks.length → Calls Try.prog 72 #[v0, .int .i64 (i : Int)] W fun e w' => e = .returned (.bool (isLiveF (marks.drop i))) ∧ Below W.heap.size W w' := fun i W hW hi => by
    have h := isLive_ok marks (i : Int) ⟨by omega, by omega⟩ (by omega)
    rw [Int.toNat_natCast] at h
    exact calls_bool h (inr_all W) (vs := [v0, .int .i64 (i : Int)]) (.cons (.one (hr.mono fun g hg => ⟨Nat.lt_of_lt_of_le (hI.1 g hg) hW.size, hW.block g (hI.1 g hg)⟩)) (.cons (.one (.int _ _ (wrap64 (by omega) (by omega)))) .nil))
  obtain ⟨A, c, rfl, hA⟩ := marks_rep hr
  have HA := Lib.hid hA
  clear hA hr hI
  obtain ⟨i0, z0, hi0, hz0, -, hz1, hz2, hz3, -⟩ := run_zeroValue (envOk 44 _ rfl)
  replace hz1 : i0.size = 4 := hz1
  replace hz2 : i0.bytes = 40 := hz2
  replace hz3 : z0.cells.size = 4 := hz3
  have r0 : OwnM (w.alloc (.cells #[] 44)) w.heap.size (.slice (some ⟨w.heap.size, 0, none⟩) 0 0) [] := World.ownsRow_made w #[] 0 (Nat.le_refl _) (Nat.zero_le _) rfl
  have q1 := alloc_below w (.cells #[] 44)
  have q2 := alloc_below (w.alloc (.cells #[] 44)) (.cells #[.slice (some ⟨w.heap.size, 0, none⟩) 0 0] 25)
  have r1 := r0.below q2
  have b1 : BoxL ((w.alloc (.cells #[] 44)).alloc (.cells #[.slice (some ⟨w.heap.size, 0, none⟩) 0 0] 25)) (w.heap.size + 1) (.slice (some ⟨w.heap.size, 0, none⟩) 0 0) := by
    have := heap_alloc_new (w.alloc (.cells #[] 44)) (.cells #[.slice (some ⟨w.heap.size, 0, none⟩) 0 0] 25)
    rw [World.size_alloc] at this
    exact this
  have B1 := q1.trans (q2.mono q1.size)
  clear r0 q1 q2
  go_enter Try.func51, Try.ntmps51
  go_wp2
  generalize (w.alloc (.cells #[] 44)).alloc (.cells #[.slice (some ⟨w.heap.size, 0, none⟩) 0 0] 25) = w1 at r1 b1 B1
  go_loopw [9] (fun u wr => ∃ (i : Nat) (v : Value) (l : List Mark), u = .int .i64 (i : Int) ∧ i ≤ marks.length ∧ BoxL wr (w.heap.size + 1) v ∧ OwnM wr w.heap.size v l ∧ liveL marks = l ++ liveL (marks.drop i) ∧ l.length ≤ i ∧ Below w.heap.size w wr) (fun u _ => marks.length - (intOf u).toNat)
  case atStart => exact ⟨0, _, [], rfl, Nat.zero_le _, b1, r1, rfl, Nat.le_refl _, B1⟩
  case round =>
    obtain ⟨i, v, l, rfl, hi, hbx, hO, hL, hll, hB⟩ := hrel
    clear b1 r1 B1
    obtain ⟨kv, cv, rfl⟩ := row_shape hO
    by_cases hin : i < marks.length
    · obtain ⟨p, hp⟩ : ∃ p, marks[i]? = some p := ⟨_, List.getElem?_eq_getElem hin⟩
      obtain ⟨gp, op, rfl, hcells⟩ := HA.out (by omega)
      have HN := live_drop hp
      obtain ⟨⟨c0, c1⟩, c2, c3⟩ := hcells i p hp
      have d0 := cell_keep hB c0
      have d1 := cell_keep hB c1
      have d2 := cell_keep hB c2
      have d3 := cell_keep hB c3
      clear c0 c1 c2 c3 hcells
      obtain ⟨pA, pB, pC, pD⟩ := p
      dsimp only at d0 d1 d2 d3
      obtain ⟨w5, hw5⟩ : ∃ w5, w5 = wr.alloc (.cells #[.int .i64 pA, .int .i64 pB, .int .i64 pC, .string ⟨pD.toArray⟩] 44) := ⟨_, rfl⟩
      have q5 : Below wr.heap.size wr w5 := by rw [hw5]; exact alloc_below _ _
      have n0 : w5.cell? ⟨wr.heap.size, 0, none⟩ = some (.int .i64 pA) := by rw [hw5]; simp
      have n1 : w5.cell? ⟨wr.heap.size, 1, none⟩ = some (.int .i64 pB) := by rw [hw5]; simp
      have n2 : w5.cell? ⟨wr.heap.size, 2, none⟩ = some (.int .i64 pC) := by rw [hw5]; simp
      have n3 : w5.cell? ⟨wr.heap.size, 3, none⟩ = some (.string ⟨pD.toArray⟩) := by rw [hw5]; simp
      have B5 := hB.trans (q5.mono hB.size)
      have X5 := hbx.keep (q5.block _ hbx.lt)
      have O5 := hO.below q5
      have AL1 := AL i w5 B5 hin
      cases hlv : isLiveF (marks.drop i) with
      | false =>
        rw [hlv] at AL1
        rw [hlv, if_neg Bool.false_ne_true] at HN
        rw [HN] at hL
        have HL := Lib.hid hL
        clear hL HN AL n0 n1 n2 n3
        rw [hw5] at AL1
        go_wp2_with (go_at_call 72; refine AL1.mono ?_; rintro e w6 ⟨rfl, b6⟩; refine Hid.out ?_)
        refine Lib.hid ?_
        go_wp2
        go_roundw
        case rel =>
          rw [← hw5] at b6
          have X6 := X5.keep (b6.block _ X5.lt)
          exact ⟨i + 1, _, l, by simp, by omega, X6, O5.below b6, HL.out, by omega, B5.trans (b6.mono B5.size)⟩
        case measure => simp only [intOf]; omega
      | true =>
        rw [hlv] at AL1
        rw [hlv, if_pos rfl] at HN
        rw [HN] at hL
        have HL := Lib.hid hL
        clear hL HN AL
        rw [hw5] at AL1
        have HW := Lib.hid hw5
        have k3 : l.length + 1 ≤ maxLen := by unfold maxLen; omega
        have k4 : (l.length + 1) * 40 ≤ 140737488355328 := by omega
        clear hw5
        go_wp2_with (first | (go_at_call 72; refine AL1.mono ?_; rintro e w6 ⟨rfl, b6⟩; rw [← HW.out] at b6; have X6 := X5.keep (b6.block _ X5.lt); have x6 := X6.cell; have m0 := cell_keep b6 n0; have m1 := cell_keep b6 n1; have m2 := cell_keep b6 n2; have m3 := cell_keep b6 n3; have O6 := O5.below b6; have B6 := B5.trans (b6.mono B5.size); have q7 := alloc_below w6 (.cells #[.int .i64 pA, .int .i64 pB, .int .i64 pC, .string ⟨pD.toArray⟩] 44); have X7 := X6.keep (q7.block _ X6.lt); have hs2 := Nat.le_trans B6.size q7.size; have ne := O6.ne X6) | (at_builtin; refine wpList_append_own _ rfl _ _ 25 rfl w.heap.size 44 i0 z0 4 40 Try.underlying25 hi0 hz0 hz1 hz2 hz3 (by decide) _ _ _ rfl (World.ownsRow.alloc O6 _) ⟨_, 0, none⟩ 1 1 (encM (pA, pB, pC, pD)) rfl rfl (new_cellM _ (pA, pB, pC, pD) _ rfl) (new_oneM _) k3 k4 hs2 ?_; intro v8 w8 h8 g8 _; obtain ⟨k8, c8, rfl⟩ := row_shape h8; have X8 := X7.keep (g8.block _ X7.lt (fun e => ne e.symm)); have x8 := X8.cell; have f8 := X8.free; refine Hid.out ?_))
        refine Lib.hid ?_
        go_wp2
        go_roundw
        case rel =>
          have o8 : OwnM w8 w.heap.size (.slice k8 (l.length + 1) c8) (l ++ [(pA, pB, pC, pD)]) := OwnM.next h8
          have b8 : Below w.heap.size w w8 := (B6.trans (q7.mono B6.size)).grown g8 hs2 (fun k hk => (World.ownsRow.lt O6 k hk).1)
          refine ⟨i + 1, _, l ++ [(pA, pB, pC, pD)], by simp, by omega, X8.set _, o8.upd (upd_setCell _ _ _) (fun k hk => by rw [hk]; exact o8.ne X8), by rw [HL.out, List.append_assoc]; rfl, by simp; omega, b8.setCell (by show w.heap.size ≤ w.heap.size + 1; omega) _⟩
        case measure => simp only [intOf]; omega
    · obtain rfl : i = marks.length := by omega
      rw [List.drop_length] at hL
      have hL : liveL marks = l := by rw [hL]; exact List.append_nil _
      have SC := sort_calls l (by omega) wr w.heap.size (w.heap.size + 1) _ hO hbx
      have x0 := hbx.cell
      have ne := hO.ne hbx
      go_wp2_with (go_at_call 74; refine SC.mono ?_; rintro e w9 ⟨rfl, o9, u9⟩; have X9 := hbx.keep (u9.block _ hbx.lt ne); have x9 := X9.cell; refine Hid.out ?_)
      refine Lib.hid ?_
      go_wp2
      go_ret
      exact ⟨_, rfl, by rw [hL]; exact o9, hB.trans (u9.below hB.size (fun k hk => (World.ownsRow.lt hO k hk).1))⟩
structure MkOk (m : Mark) : Prop where
  a : IntKind.i64.wrap m.1 = m.1
  b : IntKind.i64.wrap m.2.1 = m.2.1
  c : IntKind.i64.wrap m.2.2.1 = m.2.2.1
  t : m.2.2.2.length ≤ maxLen
theorem mk_okS {w : World} {I : Nat → Prop} : ∀ {ps : List Mark} {vs : List Value}, RepIs w I (ps.map cMark).flatten vs → ∀ p ∈ ps, MkOk p
  | [], _, _, p, h => by cases h
  | q :: r, vs, h, p, hp => by
    simp only [List.map_cons, List.flatten_cons, cMark, List.cons_append, List.nil_append] at h
    cases h with
    | cons h1 h => cases h with
      | cons h2 h => cases h with
        | cons h3 h => cases h with
          | cons h4 h =>
            rcases List.mem_cons.1 hp with rfl | hp
            · cases h1 with
              | int _ _ e1 => cases h2 with
                | int _ _ e2 => cases h3 with
                  | int _ _ e3 => cases h4 with
                    | str _ e4 => exact ⟨e1, e2, e3, e4⟩
            · exact mk_okS h p hp
theorem mk_ok {w : World} {I : Nat → Prop} {v : Value} {ps : List Mark} (h : RepI w I (.isl 4 (rows cMark ps)) v) : ∀ p ∈ ps, MkOk p := by
  rw [rows_eq] at h
  generalize hes : ps.map cMark = es at h
  cases h with
  | isl0 sz A c hm => rw [List.map_eq_nil_iff.1 hes]; intro p hp; cases hp
  | isl sz es g o c vs hl hr hI hcell hc hm => subst hes; exact mk_okS hr
theorem mk_reps {w : World} {I : Nat → Prop} : ∀ {ps : List Mark}, (∀ p ∈ ps, MkOk p) → RepIs w I (ps.map cMark).flatten (ps.flatMap encM)
  | [], _ => .nil
  | q :: r, h => by
    have hq := h q (by simp)
    simp only [List.map_cons, List.flatten_cons, cMark, List.cons_append, List.nil_append, List.flatMap_cons, encM]
    exact .cons (.int _ _ hq.a) (.cons (.int _ _ hq.b) (.cons (.int _ _ hq.c) (.cons (.str _ hq.t) (mk_reps fun p hp => h p (by simp [hp])))))
theorem live_ok (marks : List Mark) (hm : marks.length ≤ 20) : OkA Try.prog 51 [.isl 4 (rows cMark marks)] (· = .fr 44 4 (rows cMark (sortF (liveL marks)))) := by
  refine ⟨⟨_, Try.func51, rfl, rfl⟩, fun w I vs hI hargs => ?_⟩
  obtain ⟨v0, rfl, h1⟩ : ∃ v0, vs = [v0] ∧ RepI w I (.isl 4 (rows cMark marks)) v0 := by
    cases hargs with
    | cons h1 t =>
      cases t
      cases h1 with
      | one h1 => exact ⟨_, rfl, h1⟩
  have ok := mk_ok h1
  refine (live_walk marks hm w I v0 hI h1).mono ?_
  rintro e w' ⟨v, rfl, hO, hbl⟩
  have okL : ∀ p ∈ sortF (liveL marks), MkOk p := fun p hp => ok p (live_sub marks p ((sort_spec _).2.mem_iff.1 hp)).1
  refine ⟨v, _, (headOf v).toList, rfl, rfl, hbl, ?_, ?_, .one (.fr _ _ _ _ _ (by rw [rows_eq, List.length_map]; exact hO) (by rw [rows_eq]; exact mk_reps okL) (fun x hx => by rw [rows_eq] at hx; obtain ⟨y, -, rfl⟩ := List.mem_map.1 hx; rfl))⟩
  · cases headOf v <;> simp
  · obtain ⟨-, ⟨rfl, hn⟩ | ⟨g, cap, cur, rfl, hb, hg, r⟩⟩ := hO
    · intro g hg; cases hg
    · intro k hk
      obtain rfl : k = g := by simpa [headOf] using hk
      exact ⟨hb, (Array.getElem?_eq_some_iff.1 hg).1⟩

/- Contracts: lines set right, live marks, marked lines. -/
theorem pf_line {lines : List Tx} {s : Tx} (h : proofB lines = true) (hs : s ∈ lines) : lineB s = true := by
  unfold proofB at h
  rw [Bool.and_eq_true] at h
  exact List.all_eq_true.1 h.1 s hs
theorem pf_len {lines : List Tx} (h : proofB lines = true) : 1 ≤ lines.length ∧ lines.length ≤ 12 := by
  unfold proofB at h
  rw [Bool.and_eq_true] at h
  have := inB_spec h.2
  omega
theorem flat_str {s : List UInt8} : ∀ r, r = PV.str s → flatR r := fun r h => by subst h; trivial
theorem txt_len {lines : List Tx} {marks : List Mark} (h : marksB lines marks = true) : ∀ m ∈ marks, m.2.2.2.length ≤ 10 := fun m hm => by
  unfold marksB at h
  rw [Bool.and_eq_true] at h
  have h1 := List.all_eq_true.1 h.1 m hm
  unfold markB aloneB at h1
  rw [Bool.and_eq_true, Bool.and_eq_true] at h1
  have h2 := h1.1.2
  split at h2
  · rw [of_decide_eq_true h2]; exact Nat.zero_le _
  · split at h2
    · rw [Bool.and_eq_true] at h2
      have := inB_spec h2.2
      omega
    · cases h2
theorem live_in {marks : List Mark} {m : Mark} (h : m ∈ sortF (liveL marks)) : m ∈ marks := (live_sub marks m ((sort_spec _).2.mem_iff.1 h)).1
theorem LiveMarks_ok (lines : List (List UInt8)) (marks : List Mark)  : OkA Try.prog 11 [.isl 1 (rows cStr lines), .isl 4 (rows cMark marks)] (· = (lb 44 4 cMark) (liveA lines marks)) :=
  OkA.unnil 44 4 (fn_intro envOk fieldsOk mixed Try.func11 rfl fun κ X Y L Q m hQ => by
    conv => cbv
    refine r_callB m.sX (AreMarks_ok lines marks) (fun h1 => ?_) (fun h1 => ?_) <;> conv => cbv
    · have ml := marks_len h1
      have pl := pf_len (marks_proof h1)
      refine r_callF (fun l => PV.fr _ _ (rows _ l)) m.sX (live_ok marks (by omega)) fun v1 hv1 => ?_
      conv => cbv
      exact hQ (.tup [.fr 44 4 (rows cMark v1), .bool true]) (Eq.trans (by first | rfl | (simp only [lb, lbI, rows_cons, rows_nil, unnilT, unnil, unnilTI, unnilI]; done) | (simp only [lb, lbI, rows_cons, rows_nil, unnilT, unnil, unnilTI, unnilI]; rfl)) (congrArg ((lb 44 4 cMark)) (show (v1, true) = liveA lines marks from by rw [liveA, if_pos h1, ← hv1])))   -- leaf 1
    · exact hQ (.tup [.fr 44 4 [], .bool false]) (Eq.trans (by first | rfl | (simp only [lb, lbI, rows_cons, rows_nil, unnilT, unnil, unnilTI, unnilI]; done) | (simp only [lb, lbI, rows_cons, rows_nil, unnilT, unnil, unnilTI, unnilI]; rfl)) (congrArg ((lb 44 4 cMark)) (show ([], false) = liveA lines marks from by rw [liveA, if_neg (by rw [h1]; exact Bool.false_ne_true)]))))   -- leaf 2

theorem MarkedLines_ok (lines : List (List UInt8)) (marks : List Mark)  : OkA Try.prog 13 [.isl 1 (rows cStr lines), .isl 4 (rows cMark marks)] (· = (lb 3 1 cInt) (cntA lines marks)) :=
  OkA.unnil 3 1 (fn_intro envOk fieldsOk mixed Try.func13 rfl fun κ X Y L Q m hQ => by
    conv => cbv
    refine r_callB m.sX (AreMarks_ok lines marks) (fun h1 => ?_) (fun h1 => ?_) <;> conv => cbv
    · have ml := marks_len h1
      have pl := pf_len (marks_proof h1)
      refine r_lenR m.sX fun n1 hn1 mn1 => ?_
      conv => cbv
      refine r_make cInt 0 m.sX rfl (by omega) (by omega) (by dsimp only; omega) (by omega) fun counts hcounts => ?_   -- counts = replicate n1
      have lcounts : (counts.length : Int) = n1 := by rw [hcounts]; first | done | (simp; done) | (simp; omega)
      conv => cbv
      refine r_callF (fun l => PV.fr _ _ (rows _ l)) m.sX (live_ok marks (by omega)) fun v1 hv1 => ?_
      conv => cbv
      have vl : v1.length ≤ 20 := by rw [hv1, sort_len]; have := live_len marks; omega
      refine r_lenR m.sX fun n2 hn2 mn2 => ?_
      conv => cbv
      refine r_loopF (α := List Int × Int) m 33 [19, 20] [⟨6, 49, 3, 1, 0⟩, ⟨18, 145, 44, 4, 0⟩] (fun σ => [(6, .osl 49 0), (18, .osl 145 0), (19, .int .i64 n2), (20, .int .i64 σ.2)]) (fun σ => [(49, 0, .row 3 1 (rows cInt σ.1)), (145, 0, .row 44 4 (rows cMark v1))])
        (fun σ => (0 ≤ σ.2) ∧ (σ.2 ≤ n2) ∧ (σ.1 = cntF (v1.take σ.2.toNat) lines.length) ∧ ((σ.1.length : Int) = lines.length)) (fun σ => (n2 - σ.2).toNat) (counts, 0) ?_ ?_ ?_ ?_
      · cbv
      · cbv
      · exact ⟨(by (try dsimp only); first | omega | (simp only [List.length_nil]; omega) | (simp only [List.length_cons, List.length_nil]; omega)), (by (try dsimp only); first | omega | (simp only [List.length_nil]; omega) | (simp only [List.length_cons, List.length_nil]; omega)), (by (try dsimp only) <;> (rw [hcounts, show Int.toNat n1 = lines.length by omega]; exact (cnt_nil _).symm)), (by (try dsimp only) <;> (omega))⟩
      rintro ⟨counts_2, i1⟩ ⟨lo1, hi1, q, ol⟩ E hE F hF
      dsimp only at lo1 hi1 q ol
      conv => cbv
      refine r_lss m.sX (fun h2 => ?_) (fun h2 => ?_) <;> conv => cbv
      · refine r_oindex m.sX (by omega) (by omega) ?_
        conv => cbv
        obtain ⟨⟨m_A, m_B, m_C, m_D⟩, hm_⟩ := get_ex (xs := v1) (i := Int.toNat i1) (by omega)
        have mm_ := get_mem hm_
        have dm_ := drop_cons hm_
        have km_ := take_snoc hm_
        have jm_ : (i1 + 1).toNat = Int.toNat i1 + 1 := by omega
        have xa := (marks_at h1 _ (live_in (by rw [← hv1]; exact mm_))).1
        try dsimp only at xa
        try dsimp only at xa
        refine r_oload m.sX hm_ (Nat.le_of_ble_eq_true rfl) ?_
        conv => cbv
        refine r_oindex m.sX (by omega) (by omega) ?_
        conv => cbv
        obtain ⟨x1, hx1⟩ := get_ex (xs := counts_2) (i := Int.toNat m_A) (by omega)
        have mx1 := get_mem hx1
        have vx1 := nth_some hx1
        have xb := cnt_bd (by rw [← q]; exact mx1)
        try dsimp only at xb
        have xl : (v1.take i1.toNat).length ≤ v1.length := by rw [List.length_take]; omega
        refine r_oload m.sX hx1 (Nat.le_of_ble_eq_true rfl) ?_
        conv => cbv
        refine r_addf m.sX (by omega) (by omega) fun r1 hr1 => ?_
        conv => cbv
        refine r_oindex m.sX (by omega) (by omega) ?_
        conv => cbv
        obtain ⟨y1, hy1⟩ := get_ex (xs := counts_2) (i := Int.toNat m_A) (by omega)
        refine r_ostore (l := Int.toNat m_A) r1 m.sX hy1 (Nat.le_of_ble_eq_true rfl) rfl fun counts_3 hcounts_3 => ?_   -- counts_3 = counts_2.set m_A r1
        have lcounts_3 : (counts_3.length : Int) = counts_2.length := by rw [hcounts_3]; first | done | (simp; done) | (simp; omega)
        conv => cbv
        refine r_addf m.sX (by omega) (by omega) fun r2 hr2 => ?_
        conv => cbv
        try have tr2 : Int.toNat r2 = Int.toNat i1 + 1 := by omega
        refine hE _ (counts_3, r2) ?_ ?_ ⟨(by (try dsimp only); first | omega | (simp only [List.length_nil]; omega) | (simp only [List.length_cons, List.length_nil]; omega)), (by (try dsimp only); first | omega | (simp only [List.length_nil]; omega) | (simp only [List.length_cons, List.length_nil]; omega)), (by (try dsimp only) <;> (rw [tr2, km_, cnt_snoc (m := (m_A, m_B, m_C, m_D)) xa.1 (v := x1) (by rw [← q]; exact hx1), ← q, hcounts_3, hr1])), (by (try dsimp only) <;> (omega))⟩ (by first | omega | (dsimp only; omega))
        · cbv
        · cbv
      · have dz_i1 := drop_end (xs := v1) (i := Int.toNat i1) (by omega)
        have tz_i1 := take_end (xs := v1) (i := Int.toNat i1) (by omega)
        refine hF _ _ ?_
        conv => cbv
        exact hQ (.tup [.fr 3 1 (rows cInt counts_2), .bool true]) (Eq.trans (by first | rfl | (simp only [lb, lbI, rows_cons, rows_nil, unnilT, unnil, unnilTI, unnilI]; done) | (simp only [lb, lbI, rows_cons, rows_nil, unnilT, unnil, unnilTI, unnilI]; rfl)) (congrArg ((lb 3 1 cInt)) (show (counts_2, true) = cntA lines marks from by rw [cntA, if_pos h1, q, tz_i1, hv1, cnt_perm (sort_spec _).2])))   -- leaf 1
    · exact hQ (.tup [.fr 3 1 [], .bool false]) (Eq.trans (by first | rfl | (simp only [lb, lbI, rows_cons, rows_nil, unnilT, unnil, unnilTI, unnilI]; done) | (simp only [lb, lbI, rows_cons, rows_nil, unnilT, unnil, unnilTI, unnilI]; rfl)) (congrArg ((lb 3 1 cInt)) (show ([], false) = cntA lines marks from by rw [cntA, if_neg (by rw [h1]; exact Bool.false_ne_true)]))))   -- leaf 2

theorem CorrectLines_ok (lines : List (List UInt8)) (marks : List Mark)  : OkA Try.prog 9 [.isl 1 (rows cStr lines), .isl 4 (rows cMark marks)] (· = (lb 9 1 cStr) (corA lines marks)) :=
  OkA.unnil 9 1 (fn_intro envOk fieldsOk mixed Try.func9 rfl fun κ X Y L Q m hQ => by
    conv => cbv
    refine r_callB m.sX (AreMarks_ok lines marks) (fun h1 => ?_) (fun h1 => ?_) <;> conv => cbv
    · have ml := marks_len h1
      have pl := pf_len (marks_proof h1)
      refine r_callF (fun l => PV.isl _ (rows _ l)) m.sX (conflicts_ok marks (by first | rfl | assumption | omega | (simp only [List.length_append, List.length_cons, List.length_nil] at *; omega))) fun v1 hv1 => ?_
      conv => cbv
      refine r_lenR m.sX fun n1 hn1 mn1 => ?_
      conv => cbv
      refine r_gtr m.sX (fun h2 => ?_) (fun h2 => ?_) <;> conv => cbv
      · exact hQ (.tup [.fr 9 1 [], .bool false]) (Eq.trans (by first | rfl | (simp only [lb, lbI, rows_cons, rows_nil, unnilT, unnil, unnilTI, unnilI]; done) | (simp only [lb, lbI, rows_cons, rows_nil, unnilT, unnil, unnilTI, unnilI]; rfl)) (congrArg ((lb 9 1 cStr)) (show ([], false) = corA lines marks from by rw [corA, if_neg (fun h => by rw [h.2] at hv1; rw [hv1] at hn1; simp at hn1; omega)])))   -- leaf 1
      · have cf : confF marks marks.length = [] := by rw [← hv1]; exact List.eq_nil_of_length_eq_zero (by omega)
        refine r_lenR m.sX fun n2 hn2 mn2 => ?_
        conv => cbv
        refine r_loopF (α := List (List UInt8) × Int) m 42 [1, 21, 22, 23] [⟨6, 49, 9, 1, 0⟩] (fun σ => [(1, .isl 4 (rows cMark marks)), (6, .osl 49 0), (21, .isl 1 (rows cStr lines)), (22, .int .i64 n2), (23, .int .i64 σ.2)]) (fun σ => [(49, 0, .row 9 1 (rows cStr σ.1))])
          (fun σ => (0 ≤ σ.2) ∧ (σ.2 ≤ n2) ∧ (σ.1 = nextF lines (sortF (liveL marks)) σ.2.toNat) ∧ ((σ.1.length : Int) ≤ σ.2)) (fun σ => (n2 - σ.2).toNat) ([], 0) ?_ ?_ ?_ ?_
        · cbv
        · (try dsimp only); (try simp only [rows_cons, rows_nil]); cbv
        · exact ⟨(by (try dsimp only); first | omega | (simp only [List.length_nil]; omega) | (simp only [List.length_cons, List.length_nil]; omega)), (by (try dsimp only); first | omega | (simp only [List.length_nil]; omega) | (simp only [List.length_cons, List.length_nil]; omega)), (by (try dsimp only) <;> (rfl)), (by (try dsimp only) <;> first | omega | rfl | (simp [*]; done))⟩
        rintro ⟨next, i1⟩ ⟨lo1, hi1, q, nl⟩ E hE F hF
        dsimp only at lo1 hi1 q nl
        conv => cbv
        refine r_lss m.sX (fun h3 => ?_) (fun h3 => ?_) <;> conv => cbv
        · refine r_index m.sX (by omega) (by omega) fun s_ hs_ => ?_
          conv => cbv
          have ms_ := get_mem hs_
          have ds_ := drop_cons hs_
          have ks_ := take_snoc hs_
          have js_ : (i1 + 1).toNat = Int.toNat i1 + 1 := by omega
          have sl := line_len (pf_line (marks_proof h1) ms_)
          refine r_callF (fun l => PV.fr _ _ (rows _ l)) m.sX (live_ok marks (by omega)) fun v2 hv2 => ?_
          conv => cbv
          have tx : ∀ m ∈ v2, m.2.2.2.length ≤ 10 := fun m hm => txt_len h1 m (live_in (by rw [← hv2]; exact hm))
          refine .inl (r_callFO .str m.sX ((correct_ok s_ i1 v2 (by first | rfl | assumption | omega | (simp only [List.length_append, List.length_cons, List.length_nil] at *; omega)) (by first | rfl | assumption | omega | (simp only [List.length_append, List.length_cons, List.length_nil] at *; omega))).ok flat_str) fun v3 hv3 => ?_)
          conv => cbv
          refine r_append1 (v3) m.sX rfl (by first | omega | (dsimp only; omega)) (by first | omega | (dsimp only; omega)) fun next_2 hnext_2 => ?_
          conv => cbv
          have lnext_2 : (next_2.length : Int) = next.length + 1 := by rw [hnext_2]; first | done | (simp; done) | (simp; omega)
          refine r_addf m.sX (by omega) (by omega) fun r1 hr1 => ?_
          conv => cbv
          try have tr1 : Int.toNat r1 = Int.toNat i1 + 1 := by omega
          refine hE _ (next_2, r1) ?_ ?_ ⟨(by (try dsimp only); first | omega | (simp only [List.length_nil]; omega) | (simp only [List.length_cons, List.length_nil]; omega)), (by (try dsimp only); first | omega | (simp only [List.length_nil]; omega) | (simp only [List.length_cons, List.length_nil]; omega)), (by (try dsimp only) <;> (rw [hnext_2, q, tr1, nextF_step hs_, hv3, hv2, show ((i1.toNat : Nat) : Int) = i1 by omega])), (by (try dsimp only) <;> (omega))⟩ (by first | omega | (dsimp only; omega))
          · cbv
          · cbv
        · have dz_i1 := drop_end (xs := lines) (i := Int.toNat i1) (by omega)
          have tz_i1 := take_end (xs := lines) (i := Int.toNat i1) (by omega)
          refine hF _ _ ?_
          conv => cbv
          refine .inl (r_callBO m.sX ((IsProof_ok next).ok flat_bool) (fun h4 => ?_) (fun h4 => ?_)) <;> conv => cbv
          · exact hQ (.tup [.fr 9 1 (rows cStr next), .bool true]) (Eq.trans (by first | rfl | (simp only [lb, lbI, rows_cons, rows_nil, unnilT, unnil, unnilTI, unnilI]; done) | (simp only [lb, lbI, rows_cons, rows_nil, unnilT, unnil, unnilTI, unnilI]; rfl)) (congrArg ((lb 9 1 cStr)) (show (next, true) = corA lines marks from by rw [corA, if_pos ⟨h1, cf⟩, show lines.length = i1.toNat by omega, ← q, if_pos h4])))   -- leaf 2
          · exact hQ (.tup [.fr 9 1 [], .bool false]) (Eq.trans (by first | rfl | (simp only [lb, lbI, rows_cons, rows_nil, unnilT, unnil, unnilTI, unnilI]; done) | (simp only [lb, lbI, rows_cons, rows_nil, unnilT, unnil, unnilTI, unnilI]; rfl)) (congrArg ((lb 9 1 cStr)) (show ([], false) = corA lines marks from by rw [corA, if_pos ⟨h1, cf⟩, show lines.length = i1.toNat by omega, ← q, if_neg (by rw [h4]; exact Bool.false_ne_true)])))   -- leaf 3
    · exact hQ (.tup [.fr 9 1 [], .bool false]) (Eq.trans (by first | rfl | (simp only [lb, lbI, rows_cons, rows_nil, unnilT, unnil, unnilTI, unnilI]; done) | (simp only [lb, lbI, rows_cons, rows_nil, unnilT, unnil, unnilTI, unnilI]; rfl)) (congrArg ((lb 9 1 cStr)) (show ([], false) = corA lines marks from by rw [corA, if_neg (fun h => by rw [h1] at h; cases h.1)]))))   -- leaf 4


end Go.Proofs.Ytngefbdedbbplaa.Ai
