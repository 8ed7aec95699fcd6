/- Long bodies, part by part. -/
import Derived.Test.YtiaodmfipeoegaaAiRules
import Derived.Test.YtiaodmfipeoegaaCutS
namespace Go.Proofs.Ytiaodmfipeoegaa.Ai
open Go Go.RowKit Go.Proofs
set_option linter.unusedSectionVars false
set_option linter.unusedVariables false
set_option linter.unusedSimpArgs false
set_option maxRecDepth 10000
set_option maxHeartbeats 1000000

/-- The first k statements of a body, and those behind. -/
def front : Nat → Code → Code
  | k + 1, .seq a b => .seq a (front k b)
  | _, _ => .skip
def rest : Nat → Code → Code
  | k + 1, .seq a b => rest k b
  | _, c => c

section
variable {P : Program} {G : Env} {κ : Ctx} {X Y : Req → (PV → Prop) → Prop} {L : Code → (Ex → St → Prop) → St → Prop}

/-- What stands at a cut, as at a loop's head. -/
def Cut {α : Type} (nt : Nat) (keep : List Nat) (own : List Hold) (tb : α → List (Nat × PV)) (hp : α → Heap) (I : α → Prop) (s' : St) : Prop :=
  headOk s' own = true ∧ ∃ a, Ai.norm keep own s' = St.at nt (tb a) (hp a) ∧ I a

theorem W_front (m : Mach P G κ X Y L) {E : St → Prop} {Q : Ex → St → Prop} : ∀ (k : Nat) (c : Code) (s : St),
    (∀ (η : Own) (s : St) (a : Act) (w : World), Sim κ η s a w → E s → (rest k c).wp P (Post κ Q) a w) →
    code X L G (front k c) (fun e s' => match e with | .normal => E s' | .exit i => Q (.exit i) s' | .ret => Q .ret s') s → W P κ c Q s := by
  have := m.z
  have hX := m.X
  have hL := m.L
  subst hX hL
  intro k
  induction k with
  | zero =>
    intro c s hE hc η a w hs
    cases c <;> exact hE η s a w hs hc
  | succ k ih =>
    intro c s hE hc η a w hs
    cases c
    case seq x y =>
      have hx : code (std false P) (W P κ) G x (fun e s' => match e with
        | .normal => code (std false P) (W P κ) G (front k y) (fun e s' => match e with | .normal => E s' | .exit i => Q (.exit i) s' | .ret => Q .ret s') s'
        | .exit j => Q (.exit j) s'
        | .ret => Q .ret s') s := hc
      refine wp_seq (Go.wp_mono (code_sound m.hG m.hF x _ _ hx η a w hs) fun e a' w' hq => ?_)
      cases e with
      | normal =>
        obtain ⟨η', s', hs', hq⟩ := hq
        exact ih y s' hE hq η' a' w' hs'
      | exit i => exact hq
      | ret => exact hq
      | goto l => exact hq.elim
      | panic ch => exact hq.elim
      | outgrown => exact hq.elim
    all_goals exact hE η s a w hs hc

/-- **A cut**: the first k statements, then those behind, from what is kept. -/
theorem W_cut {α : Type} (m : Mach P G κ X Y L) {Q : Ex → St → Prop} {c : Code} {s : St} (k nt : Nat) (keep : List Nat) (own : List Hold) (tb : α → List (Nat × PV)) (hp : α → Heap) (I : α → Prop)
    (first : ∀ E : St → Prop, (∀ s' a, headOk s' own = true → Ai.norm keep own s' = St.at nt (tb a) (hp a) → I a → E s') →
      code X L G (front k c) (fun e s' => match e with | .normal => E s' | .exit i => Q (.exit i) s' | .ret => Q .ret s') s)
    (second : ∀ a, I a → W P κ (rest k c) Q (St.at nt (tb a) (hp a))) : W P κ c Q s := by
  have := m.z
  refine W_front m (E := Cut nt keep own tb hp I) k c s ?_ (first _ fun s' a h1 h2 h3 => ⟨h1, a, h2, h3⟩)
  rintro η s a w hs ⟨hk, a0, e1, h3⟩
  simp only [headOk, Bool.and_eq_true] at hk
  have hs' := hs.norm keep hk.1 (recvOk_spec hk.2)
  rw [e1] at hs'
  exact second a0 h3 _ a w hs'

/-- The last part. -/
theorem W_last (m : Mach P G κ X Y L) {Q : Ex → St → Prop} {c : Code} {s : St} (h : code X L G c Q s) : W P κ c Q s := by
  have := m.z
  rw [m.X, m.L] at h
  exact code_sound m.hG m.hF c Q s h

theorem fn_introW (hG : EnvOk P G) (hF : FieldsOk P G) (hm : P.follows .mixedOrders = true) {f : FuncId} {fn : Func} (hf : P.funcs[f]? = some fn) (hn : (fn.name == "runtime.NumGoroutine") = false) {args : List PV} {R : PV → Prop} {c : Code} (hc : fn.body = some c)
    (h : ∀ κ X Y L Q, Mach P G κ X Y L → (∀ r, R r → Q r) → W P κ c (EndsIn (post G fn.results.toList Q)) (start fn.ntmps args [])) : OkA P f args R :=
  OkA_introW hG hF hf hn hc fun κ hz => h κ _ _ _ R ⟨hG, hF, hm, hz, rfl, rfl, rfl⟩ fun _ x => x
end

/- The law FnLocks: its body returns true. -/
theorem lock_yes {w h : Int} {ps : List Piece} {pl : List Plc} {rows cols : List Int} {f one : Bool} (e : (true, true) = lockA w h ps pl rows cols) (ef : (f, one) = fillA w h ps pl) : f = true := by
  have h := (lock_law (l := (looseA w h ps pl rows cols).1) (three := (looseA w h ps pl rows cols).2) e ef rfl).2.1
  cases f
  · rw [Bool.false_and] at h; cases h
  · rfl
theorem lock_one {w h : Int} {ps : List Piece} {pl : List Plc} {rows cols : List Int} {k f one : Bool} (e : (k, true) = lockA w h ps pl rows cols) (ef : (f, one) = fillA w h ps pl) : one = true :=
  (lock_law (l := (looseA w h ps pl rows cols).1) (three := (looseA w h ps pl rows cols).2) e ef rfl).1.1
theorem lock_nil {w h : Int} {ps : List Piece} {pl : List Plc} {rows cols l : List Int} {three : Bool} (e : (true, true) = lockA w h ps pl rows cols) (ef : (true, true) = fillA w h ps pl) (el : (l, three) = looseA w h ps pl rows cols) : l.length = 0 := by
  have h := (lock_law e ef el).2.1
  rw [Bool.true_and] at h
  rw [of_decide_eq_true h.symm]; rfl
theorem lock_more {w h : Int} {ps : List Piece} {pl : List Plc} {rows cols l : List Int} {three : Bool} (e : (false, true) = lockA w h ps pl rows cols) (ef : (true, true) = fillA w h ps pl) (el : (l, three) = looseA w h ps pl rows cols) : ¬ l.length = 0 ∧ l.length ≤ 8 := by
  have h := (lock_law e ef el).2
  have h1 := h.1
  rw [Bool.true_and] at h1
  exact ⟨fun c => of_decide_eq_false h1.symm (List.length_eq_zero_iff.1 c), h.2⟩
theorem own_resL {w : World} {B : Nat} {v : Value} {o : List Int} (h : OwnI w B v o) (hx : ∀ x ∈ o, IntKind.i64.wrap x = x) :
    (∀ I, Res1 w I B (.fr 3 1 (rows cInt o)) v (headOf v).toList) ∧ (headOf v).toList.Nodup ∧ ∀ g ∈ (headOf v).toList, B ≤ g ∧ g < w.heap.size := by
  refine ⟨fun I => .fr _ _ _ _ (o.map (.int .i64)) (by rw [rows_eq, List.length_map]; exact h) (by rw [rows_eq]; exact repIs_ints1 hx) (fun x hx => by rw [rows_eq] at hx; obtain ⟨y, -, rfl⟩ := List.mem_map.1 hx; rfl), ?_, ?_⟩
  · cases headOf v <;> simp
  · obtain ⟨-, ⟨rfl, hn⟩ | ⟨g, cap, cur, rfl, hb, hg, r⟩⟩ := h
    · intro g hg; cases hg
    · intro k hk
      obtain rfl : k = g := by simpa [headOf] using hk
      exact ⟨hb, (Array.getElem?_eq_some_iff.1 hg).1⟩
theorem looseR_ok (grid : List (List Int)) (placed : List Plc) (rows_ columns : List Int) (W H : Nat) (G : Grid) (hgr : grid = tabG W H G) (hW : 1 ≤ W ∧ W ≤ 8) (hH : 1 ≤ H ∧ H ≤ 8) (sg : smallG W H G) (hpl : ∀ p ∈ placed, 0 ≤ p.1 ∧ p.1 ≤ 7) (hpn : placed.length ≤ 100)
    (hr : ∀ y ∈ rows_, 0 ≤ y ∧ y < H) (hrl : rows_.length ≤ 100) (hc : ∀ x ∈ columns, 0 ≤ x ∧ x < W) (hcl : columns.length ≤ 100) :
    OkA Try.prog 93 [.isl 1 (rows (cSl 1 cInt) grid), .isl 4 (rows cPlaced placed), .isl 1 (rows cInt rows_), .isl 1 (rows cInt columns)] (· = .fr 3 1 (rows cInt (looseF W H G placed rows_ columns))) := by
  subst hgr
  refine ⟨⟨_, Try.func93, rfl, rfl⟩, fun w I vs hI hargs => ?_⟩
  obtain ⟨vg, vp, vr, vc, rfl, h1, h2, h3, h4⟩ : ∃ vg vp vr vc, vs = [vg, vp, vr, vc] ∧ RepI w I (.isl 1 (rows (cSl 1 cInt) (tabG W H G))) vg ∧ RepI w I (.isl 4 (rows cPlaced placed)) vp ∧ RepI w I (.isl 1 (rows cInt rows_)) vr ∧ RepI w I (.isl 1 (rows cInt columns)) vc := by
    cases hargs with
    | cons h1 t => cases t with
      | cons h2 t => cases t with
        | cons h3 t => cases t with
          | cons h4 t =>
            cases t
            cases h1 with
            | one h1 => cases h2 with
              | one h2 => cases h3 with
                | one h3 => cases h4 with
                  | one h4 => exact ⟨_, _, _, _, rfl, h1, h2, h3, h4⟩
  refine (loose_walk W H hW hH G sg placed hpl hpn rows_ columns hr hrl hc hcl vg vp vr vc w (grid_of h1 (tab_ne hH.1) (tab_rows hW.1)) (placed_at h2) (ints_at h3) (ints_at h4)).mono ?_
  rintro e w' ⟨v, rfl, hO, hbl⟩
  have hx : ∀ x ∈ looseF W H G placed rows_ columns, IntKind.i64.wrap x = x := fun x hx => by
    unfold looseF at hx
    obtain ⟨p, hp, rfl⟩ := List.mem_map.1 hx
    have := hpl p (List.mem_filter.1 hp).1
    exact wrap64 (by omega) (by omega)
  obtain ⟨r1, r2, r3⟩ := own_resL hO hx
  exact ⟨v, _, _, rfl, rfl, hbl, r2, r3, .one (r1 _)⟩
theorem LoosePiecesR_ok (width : Int) (height : Int) (pieces : List Piece) (placed : List Plc) (rows_ : List Int) (columns : List Int) (hb : ∀ p ∈ placed, p.2.1 ≤ 1000000 ∧ p.2.2.1 ≤ 1000000) : OkA Try.prog 36 [.int .i64 width, .int .i64 height, .isl 2 (rows cPiece pieces), .isl 4 (rows cPlaced placed), .isl 1 (rows cInt rows_), .isl 1 (rows cInt columns)] (· = (lb 3 1 cInt) (looseA width height pieces placed rows_ columns)) :=
  OkA.unnil 3 1 (fn_intro envOk fieldsOk mixed Try.func36 rfl fun κ X Y L Q m hQ => by
    conv => cbv
    refine r_callF (lbI 1 (cSl 1 cInt)) m.sX (quoined_ok width height pieces placed rows_ columns (by assumption)) fun v hgrid => ?_
    obtain ⟨grid, ok⟩ := v
    conv => cbv
    rcases Bool.eq_false_or_eq_true ok with rfl | rfl <;> conv => cbv
    · obtain ⟨G, eG, eg, sg, ⟨bw, bh⟩, eq_, ⟨⟨q1, q2⟩, q3, q4⟩, pl8, pn⟩ := quo_yes hgrid
      refine r_callF (fun l => PV.fr _ _ (rows _ l)) m.sX (looseR_ok grid placed rows_ columns width.toNat height.toNat G eg ⟨by omega, by omega⟩ ⟨by omega, by omega⟩ sg pn (by omega) (by assumption) (by assumption) (by assumption) (by assumption)) fun v1 hv1 => ?_
      conv => cbv
      exact hQ (.tup [.fr 3 1 (rows cInt v1), .bool true]) (Eq.trans (by first | rfl | (simp only [lb, lbI, rows_cons, rows_nil, unnilT, unnil, unnilTI, unnilI]; done) | (simp only [lb, lbI, rows_cons, rows_nil, unnilT, unnil, unnilTI, unnilI]; rfl)) (congrArg ((lb 3 1 cInt)) (show (v1, true) = looseA width height pieces placed rows_ columns from by rw [looseA, eG]; dsimp only; rw [if_pos eq_, hv1])))   -- leaf 1
    · exact hQ (.tup [.fr 3 1 [], .bool false]) (Eq.trans (by first | rfl | (simp only [lb, lbI, rows_cons, rows_nil, unnilT, unnil, unnilTI, unnilI]; done) | (simp only [lb, lbI, rows_cons, rows_nil, unnilT, unnil, unnilTI, unnilI]; rfl)) (congrArg ((lb 3 1 cInt)) (show ([], false) = looseA width height pieces placed rows_ columns from by exact (quo_no hgrid).1.symm))))   -- leaf 2

theorem pIn_ok (l : List Int) (n : Int)  : OkA Try.prog 41 [.isl 1 (rows cInt l), .int .i64 n] (· = .bool (decide (n ∈ l))) :=
  fn_intro envOk fieldsOk mixed Try.func41 rfl fun κ X Y L Q m hQ => by
    conv => cbv
    refine r_lenR m.sX fun n1 hn1 mn1 => ?_
    conv => cbv
    refine r_loopF (α := Int) m 17 [1, 7, 8, 9] [] (fun σ => [(1, .int .i64 n), (7, .isl 1 (rows cInt l)), (8, .int .i64 n1), (9, .int .i64 σ)]) (fun σ => [])
      (fun σ => (0 ≤ σ) ∧ (σ ≤ n1) ∧ (decide (n ∈ l) = decide (n ∈ l.drop σ.toNat))) (fun σ => (n1 - σ).toNat) 0 ?_ ?_ ?_ ?_
    · cbv
    · cbv
    · exact ⟨(by (try dsimp only); first | omega | (simp only [List.length_nil]; omega) | (simp only [List.length_cons, List.length_nil]; omega)), (by (try dsimp only); first | omega | (simp only [List.length_nil]; omega) | (simp only [List.length_cons, List.length_nil]; omega)), (by (try dsimp only) <;> first | omega | rfl | (simp [*]; done))⟩
    rintro i1 ⟨lo1, hi1, q⟩ E hE F hF
    conv => cbv
    refine r_lss m.sX (fun h1 => ?_) (fun h1 => ?_) <;> conv => cbv
    · refine r_index m.sX (by omega) (by omega) fun x hx => ?_
      conv => cbv
      have mx := get_mem hx
      have dx := drop_cons hx
      have kx := take_snoc hx
      have jx : (i1 + 1).toNat = Int.toNat i1 + 1 := by omega
      have vx := nth_some hx
      refine r_eql m.sX (fun h2 => ?_) (fun h2 => ?_) <;> conv => cbv
      · refine hF _ _ ?_
        conv => cbv
        exact hQ _ (congrArg PV.bool (by rw [q]; simp [*]))   -- leaf 1
      · refine r_addf m.sX (by omega) (by omega) fun r1 hr1 => ?_
        conv => cbv
        try have tr1 : Int.toNat r1 = Int.toNat i1 + 1 := by omega
        refine hE _ r1 ?_ ?_ ⟨(by (try dsimp only); first | omega | (simp only [List.length_nil]; omega) | (simp only [List.length_cons, List.length_nil]; omega)), (by (try dsimp only); first | omega | (simp only [List.length_nil]; omega) | (simp only [List.length_cons, List.length_nil]; omega)), (by (try dsimp only) <;> (rw [q, dx, tr1]; simp [Ne.symm h2]))⟩ (by first | omega | (dsimp only; omega))
        · cbv
        · cbv
    · have dz_i1 := drop_end (xs := l) (i := Int.toNat i1) (by omega)
      have tz_i1 := take_end (xs := l) (i := Int.toNat i1) (by omega)
      refine hF _ _ ?_
      conv => cbv
      exact hQ _ (congrArg PV.bool (by rw [q]; simp [*]))   -- leaf 2

noncomputable abbrev midLocks (more : List Int) : List (Nat × PV) := [(1, .isl 1 (rows cU8 more))]

section
variable {κ : Ctx} {X Y : Req → (PV → Prop) → Prop} {L : Code → (Ex → St → Prop) → St → Prop} {Q : PV → Prop}

theorem locks_part1 (m : Mach Try.prog G κ X Y L) (hQ : ∀ r, r = PV.bool true → Q r) (code more : List Int) (hf : ∀ x ∈ code, 0 ≤ x ∧ x ≤ 255) (E0 : St → Prop)
    (hE0 : ∀ (s' : St) (σ : Int × Int × List Piece × List Plc × Bool), headOk s' [] = true → Ai.norm [1, 5, 6, 7, 8, 16] [] s' = St.at 395 [(1, .isl 1 (rows cU8 more)), (5, .int .i64 σ.1), (6, .int .i64 σ.2.1), (7, .isl 2 (rows cPiece σ.2.2.1)), (8, .isl 4 (rows cPlaced σ.2.2.2.1)), (16, .bool σ.2.2.2.2)] [] → ((more.length : Int) ≤ 9223372036854775807 ∧ ((∀ p ∈ σ.2.2.2.1, p.2.1 ≤ 1000000 ∧ p.2.2.1 ≤ 1000000) ∧ ((chaseF σ.1 σ.2.1 σ.2.2.1 σ.2.2.2.1).isSome = σ.2.2.2.2))) → E0 s') :
    Ai.code X L G (front 9 (Try.f5.body.getD .skip)) (fun e s' => match e with | .normal => E0 s' | .exit i => EndsIn (post G Try.f5.results.toList Q) (.exit i) s' | .ret => EndsIn (post G Try.f5.results.toList Q) .ret s') (start 395 [.isl 1 (rows cU8 code), .isl 1 (rows cU8 more)] []) := by
  conv => cbv
  refine r_callB m.sX (big_ok code more) (fun h1 => ?_) (fun h1 => ?_) <;> conv => cbv
  · exact hQ _ (congrArg PV.bool (by first | rfl | omega | (simp [*]; done) | (subst_vars; simp [*]; done)))   -- leaf 1
  · rw [Bool.or_eq_false_iff, decide_eq_false_iff_not, decide_eq_false_iff_not] at h1
    have h : CurIn code := ⟨by omega, hf⟩
    have hmr : (more.length : Int) ≤ 9223372036854775807 := by omega
    refine r_callE m.sX ((drawIsLocked_ok code h).iceE) ?_
    rintro _ ⟨_, ⟨w, h_, pieces, placed, rows_, columns, rfl, bw_1, bw_2, bw_3⟩, rfl⟩
    conv => cbv
    refine r_callF bb m.sX (IsLocked_ok w h_ pieces placed rows_ columns (by first | rfl | assumption | omega | (simp only [List.length_append, List.length_cons, List.length_nil] at *; omega))) fun v hk => ?_
    obtain ⟨k, ok⟩ := v
    conv => cbv
    refine r_callF bb m.sX (specIsLocked_ok w h_ pieces placed rows_ columns) fun y1 hy1 => ?_
    obtain rfl := hk.trans hy1.symm
    clear hy1
    conv => cbv
    refine r_callF bb m.sX (IsFilled_ok w h_ pieces placed (by first | rfl | assumption | omega | (simp only [List.length_append, List.length_cons, List.length_nil] at *; omega))) fun v hf => ?_
    obtain ⟨f, one⟩ := v
    conv => cbv
    refine r_callF bb m.sX (specIsFilled_ok w h_ pieces placed) fun y2 hy2 => ?_
    obtain rfl := hf.trans hy2.symm
    clear hy2
    conv => cbv
    rcases Bool.eq_false_or_eq_true ok with rfl | rfl <;> conv => cbv
    · rcases Bool.eq_false_or_eq_true k with rfl | rfl <;> conv => cbv
      · obtain rfl : one = true := by exact lock_one hk hf
        conv => cbv
        obtain rfl : f = true := by exact lock_yes hk hf
        conv => cbv
        refine r_callF (lbI 1 cInt) m.sX ((LoosePiecesR_ok w h_ pieces placed rows_ columns (by assumption)).ice) fun v hloose => ?_
        obtain ⟨loose, three⟩ := v
        conv => cbv
        have l0 := lock_nil hk hf hloose
        obtain rfl : three = true := by exact (lock_law hk hf hloose).1.2
        conv => cbv
        refine r_lenR m.sX fun n1 hn1 mn1 => ?_
        conv => cbv
        refine r_eqlT m.sX (by first | omega | rfl) ?_
        conv => cbv
        exact hE0 _ (w, h_, pieces, placed, true) (by cbv) (by cbv) ⟨hmr, ⟨(by (try dsimp only) <;> (first | assumption | omega | (simp [*]; done))), (by (try dsimp only) <;> (exact fil_is hf))⟩⟩
      · obtain rfl : one = true := by exact lock_one hk hf
        conv => cbv
        rcases Bool.eq_false_or_eq_true f with rfl | rfl <;> conv => cbv
        · refine r_callF (lbI 1 cInt) m.sX ((LoosePiecesR_ok w h_ pieces placed rows_ columns (by assumption)).ice) fun v hloose_2 => ?_
          obtain ⟨loose_2, three_2⟩ := v
          conv => cbv
          have l0 := lock_more hk hf hloose_2
          obtain rfl : three_2 = true := by exact (lock_law hk hf hloose_2).1.2
          conv => cbv
          refine r_lenR m.sX fun n2 hn2 mn2 => ?_
          conv => cbv
          refine r_eqlF m.sX (by first | omega | rfl) ?_
          conv => cbv
          exact hE0 _ (w, h_, pieces, placed, true) (by cbv) (by cbv) ⟨hmr, ⟨(by (try dsimp only) <;> (first | assumption | omega | (simp [*]; done))), (by (try dsimp only) <;> (exact fil_is hf))⟩⟩
        · refine r_callF (lbI 1 cInt) m.sX ((LoosePiecesR_ok w h_ pieces placed rows_ columns (by assumption)).ice) fun v hloose_3 => ?_
          obtain ⟨loose_3, three_3⟩ := v
          conv => cbv
          obtain rfl : three_3 = true := by exact (lock_law hk hf hloose_3).1.2
          conv => cbv
          exact hE0 _ (w, h_, pieces, placed, true) (by cbv) (by cbv) ⟨hmr, ⟨(by (try dsimp only) <;> (first | assumption | omega | (simp [*]; done))), (by (try dsimp only) <;> (exact fil_is hf))⟩⟩
    · rcases Bool.eq_false_or_eq_true k with rfl | rfl <;> conv => cbv
      · rcases Bool.eq_false_or_eq_true one with rfl | rfl <;> conv => cbv
        · rcases Bool.eq_false_or_eq_true f with rfl | rfl <;> conv => cbv
          · exact hE0 _ (w, h_, pieces, placed, true) (by cbv) (by cbv) ⟨hmr, ⟨(by (try dsimp only) <;> (first | assumption | omega | (simp [*]; done))), (by (try dsimp only) <;> (exact fil_is hf))⟩⟩
          · exact hE0 _ (w, h_, pieces, placed, true) (by cbv) (by cbv) ⟨hmr, ⟨(by (try dsimp only) <;> (first | assumption | omega | (simp [*]; done))), (by (try dsimp only) <;> (exact fil_is hf))⟩⟩
        · rcases Bool.eq_false_or_eq_true f with rfl | rfl <;> conv => cbv
          · exact hE0 _ (w, h_, pieces, placed, false) (by cbv) (by cbv) ⟨hmr, ⟨(by (try dsimp only) <;> (first | assumption | omega | (simp [*]; done))), (by (try dsimp only) <;> (exact fil_is hf))⟩⟩
          · exact hE0 _ (w, h_, pieces, placed, false) (by cbv) (by cbv) ⟨hmr, ⟨(by (try dsimp only) <;> (first | assumption | omega | (simp [*]; done))), (by (try dsimp only) <;> (exact fil_is hf))⟩⟩
      · rcases Bool.eq_false_or_eq_true one with rfl | rfl <;> conv => cbv
        · rcases Bool.eq_false_or_eq_true f with rfl | rfl <;> conv => cbv
          · exact hE0 _ (w, h_, pieces, placed, true) (by cbv) (by cbv) ⟨hmr, ⟨(by (try dsimp only) <;> (first | assumption | omega | (simp [*]; done))), (by (try dsimp only) <;> (exact fil_is hf))⟩⟩
          · exact hE0 _ (w, h_, pieces, placed, true) (by cbv) (by cbv) ⟨hmr, ⟨(by (try dsimp only) <;> (first | assumption | omega | (simp [*]; done))), (by (try dsimp only) <;> (exact fil_is hf))⟩⟩
        · rcases Bool.eq_false_or_eq_true f with rfl | rfl <;> conv => cbv
          · exact hE0 _ (w, h_, pieces, placed, false) (by cbv) (by cbv) ⟨hmr, ⟨(by (try dsimp only) <;> (first | assumption | omega | (simp [*]; done))), (by (try dsimp only) <;> (exact fil_is hf))⟩⟩
          · exact hE0 _ (w, h_, pieces, placed, false) (by cbv) (by cbv) ⟨hmr, ⟨(by (try dsimp only) <;> (first | assumption | omega | (simp [*]; done))), (by (try dsimp only) <;> (exact fil_is hf))⟩⟩

theorem locks_part2 (m : Mach Try.prog G κ X Y L) (hQ : ∀ r, r = PV.bool true → Q r) (more : List Int) (h : CurIn more) (w : Int) (h_ : Int) (pieces : List Piece) (placed : List Plc) (one : Bool) (bp : ∀ p ∈ placed, p.2.1 ≤ 1000000 ∧ p.2.2.1 ≤ 1000000) (io : (chaseF w h_ pieces placed).isSome = one) (E0 : St → Prop)
    (hE0 : ∀ (s' : St) (σ : Int × Int × List Piece × List Plc × Bool), headOk s' [] = true → Ai.norm [5, 6, 7, 8, 16] [] s' = St.at 395 [(5, .int .i64 σ.1), (6, .int .i64 σ.2.1), (7, .isl 2 (rows cPiece σ.2.2.1)), (8, .isl 4 (rows cPlaced σ.2.2.2.1)), (16, .bool σ.2.2.2.2)] [] → (True ∧ ((∀ p ∈ σ.2.2.2.1, p.2.1 ≤ 1000000 ∧ p.2.2.1 ≤ 1000000) ∧ ((chaseF σ.1 σ.2.1 σ.2.2.1 σ.2.2.2.1).isSome = σ.2.2.2.2))) → E0 s') :
    Ai.code X L G (front 5 (rest 9 (Try.f5.body.getD .skip))) (fun e s' => match e with | .normal => E0 s' | .exit i => EndsIn (post G Try.f5.results.toList Q) (.exit i) s' | .ret => EndsIn (post G Try.f5.results.toList Q) .ret s') (St.at 395 [(1, .isl 1 (rows cU8 more)), (5, .int .i64 w), (6, .int .i64 h_), (7, .isl 2 (rows cPiece pieces)), (8, .isl 4 (rows cPlaced placed)), (16, .bool one)] []) := by
  conv => cbv
  refine r_callE m.sX ((drawFallsWithout_ok more h).iceE) ?_
  rintro _ ⟨_, ⟨u, v, p, q, y, x, row, rfl, bu_1, bu_2, bu_3⟩, rfl⟩
  conv => cbv
  refine r_callF (lbI 1 cInt) m.sX ((FallsWithout_ok u v p q y x row (by first | rfl | assumption | omega | (simp only [List.length_append, List.length_cons, List.length_nil] at *; omega))).ice) fun v ha => ?_
  obtain ⟨a, three⟩ := v
  conv => cbv
  refine r_callF (lbI 1 cInt) m.sX ((specFallsWithout_ok u v p q y x row).ice) fun y1 hy1 => ?_
  obtain rfl := ha.trans hy1.symm
  clear hy1
  conv => cbv
  rcases Bool.eq_false_or_eq_true three with rfl | rfl <;> conv => cbv
  · refine r_callBT m.sX (sameInts_ok a a) (by first | assumption | exact decide_eq_true rfl | (simp [*]; done) | omega) ?_   -- h1
    conv => cbv
    refine r_callF (lbI 1 cInt) m.sX ((LoosePiecesR_ok u v p q y x (by assumption)).ice) fun v hbefore => ?_
    obtain ⟨before, five⟩ := v
    conv => cbv
    refine r_lenR m.sX fun n1 hn1 mn1 => ?_
    conv => cbv
    refine r_loopF (α := List Int × Int) m 395 [5, 6, 7, 8, 16, 21, 22, 23, 24, 26, 27, 30, 32, 33, 205, 206, 207] [⟨34, 273, 3, 1, 0⟩] (fun σ => [(5, .int .i64 w), (6, .int .i64 h_), (7, .isl 2 (rows cPiece pieces)), (8, .isl 4 (rows cPlaced placed)), (16, .bool one), (21, .int .i64 u), (22, .int .i64 v), (23, .isl 2 (rows cPiece p)), (24, .isl 4 (rows cPlaced q)), (26, .isl 1 (rows cInt x)), (27, .int .i64 row), (30, .isl 1 (rows cInt a)), (32, .isl 1 (rows cInt before)), (33, .bool five), (34, .osl 273 0), (205, .isl 1 (rows cInt y)), (206, .int .i64 n1), (207, .int .i64 σ.2)]) (fun σ => [(273, 0, .row 3 1 (rows cInt σ.1))])
      (fun σ => (0 ≤ σ.2) ∧ (σ.2 ≤ n1) ∧ (σ.1 = (y.take σ.2.toNat).filter fun z => decide (z ≠ row)) ∧ ((σ.1.length : Int) ≤ σ.2)) (fun σ => (n1 - σ.2).toNat) ([], 0) ?_ ?_ ?_ ?_
    · cbv
    · (try dsimp only); (try simp only [rows_cons, rows_nil]); cbv
    · exact ⟨(by (try dsimp only); first | omega | (simp only [List.length_nil]; omega) | (simp only [List.length_cons, List.length_nil]; omega)), (by (try dsimp only); first | omega | (simp only [List.length_nil]; omega) | (simp only [List.length_cons, List.length_nil]; omega)), (by (try dsimp only) <;> (rfl)), (by (try dsimp only) <;> first | omega | rfl | (simp [*]; done))⟩
    rintro ⟨left, i1⟩ ⟨lo1, hi1, iv, ln⟩ E hE F hF
    dsimp only at lo1 hi1 iv ln
    conv => cbv
    refine r_lss m.sX (fun h2 => ?_) (fun h2 => ?_) <;> conv => cbv
    · refine r_index m.sX (by omega) (by omega) fun n hn => ?_
      conv => cbv
      have mn := get_mem hn
      have dn := drop_cons hn
      have kn := take_snoc hn
      have jn : (i1 + 1).toNat = Int.toNat i1 + 1 := by omega
      have vn := nth_some hn
      refine r_neq m.sX (fun h3 => ?_) (fun h3 => ?_) <;> conv => cbv
      · refine r_append1 (n) m.sX rfl (by first | omega | (dsimp only; omega)) (by first | omega | (dsimp only; omega)) fun left_2 hleft_2 => ?_
        conv => cbv
        have lleft_2 : (left_2.length : Int) = left.length + 1 := by rw [hleft_2]; first | done | (simp; done) | (simp; omega)
        refine r_addf m.sX (by omega) (by omega) fun r1 hr1 => ?_
        conv => cbv
        try have tr1 : Int.toNat r1 = Int.toNat i1 + 1 := by omega
        refine hE _ (left_2, r1) ?_ ?_ ⟨(by (try dsimp only); first | omega | (simp only [List.length_nil]; omega) | (simp only [List.length_cons, List.length_nil]; omega)), (by (try dsimp only); first | omega | (simp only [List.length_nil]; omega) | (simp only [List.length_cons, List.length_nil]; omega)), (by (try dsimp only) <;> (rw [tr1]; first | (rw [hleft_2]; exact keep_next hn iv (decide_eq_true h3)) | exact drop_next hn iv (decide_eq_false (by simp [h3])))), (by (try dsimp only) <;> (omega))⟩ (by first | omega | (dsimp only; omega))
        · cbv
        · cbv
      · refine r_addf m.sX (by omega) (by omega) fun r2 hr2 => ?_
        conv => cbv
        try have tr2 : Int.toNat r2 = Int.toNat i1 + 1 := by omega
        refine hE _ (left, r2) ?_ ?_ ⟨(by (try dsimp only); first | omega | (simp only [List.length_nil]; omega) | (simp only [List.length_cons, List.length_nil]; omega)), (by (try dsimp only); first | omega | (simp only [List.length_nil]; omega) | (simp only [List.length_cons, List.length_nil]; omega)), (by (try dsimp only) <;> (rw [tr2]; first | (rw [hleft_2]; exact keep_next hn iv (decide_eq_true h3)) | exact drop_next hn iv (decide_eq_false (by simp [h3])))), (by (try dsimp only) <;> (omega))⟩ (by first | omega | (dsimp only; omega))
        · cbv
        · cbv
    · have dz_i1 := drop_end (xs := y) (i := Int.toNat i1) (by omega)
      have tz_i1 := take_end (xs := y) (i := Int.toNat i1) (by omega)
      refine hF _ _ ?_
      conv => cbv
      refine .inl (r_callFO (lbI 1 cInt) m.sX ((((LoosePiecesR_ok u v p q left x (by assumption))).ok (flat_lb flat_cInt)).ice) fun v hafter => ?_)
      obtain ⟨after, six⟩ := v
      conv => cbv
      obtain ⟨⟨e5, e6⟩, ⟨e7, e8⟩, e9⟩ := falls_end ha (by rw [iv, tz_i1]) hbefore hafter
      obtain rfl : five = true := by exact e5
      conv => cbv
      obtain rfl : six = true := by exact e6
      conv => cbv
      refine r_lenR m.sX fun n2 hn2 mn2 => ?_
      conv => cbv
      refine r_lenR m.sX fun n3 hn3 mn3 => ?_
      conv => cbv
      refine r_lenR m.sX fun n4 hn4 mn4 => ?_
      conv => cbv
      refine r_addf m.sX (by omega) (by omega) fun r3 hr3 => ?_
      conv => cbv
      refine r_neqF m.sX (by first | omega | rfl) ?_
      conv => cbv
      refine r_lenR m.sX fun n5 hn5 mn5 => ?_
      conv => cbv
      refine r_loopF (α := Int) m 395 [5, 6, 7, 8, 16, 32, 37, 245, 246, 247] [] (fun σ => [(5, .int .i64 w), (6, .int .i64 h_), (7, .isl 2 (rows cPiece pieces)), (8, .isl 4 (rows cPlaced placed)), (16, .bool one), (32, .isl 1 (rows cInt before)), (37, .isl 1 (rows cInt after)), (245, .isl 1 (rows cInt a)), (246, .int .i64 n5), (247, .int .i64 σ)]) (fun σ => [])
        (fun σ => (0 ≤ σ) ∧ (σ ≤ n5)) (fun σ => (n5 - σ).toNat) 0 ?_ ?_ ?_ ?_
      · cbv
      · cbv
      · exact ⟨(by (try dsimp only); first | omega | (simp only [List.length_nil]; omega) | (simp only [List.length_cons, List.length_nil]; omega)), (by (try dsimp only); first | omega | (simp only [List.length_nil]; omega) | (simp only [List.length_cons, List.length_nil]; omega))⟩
      rintro i2 ⟨lo2, hi2⟩ E hE F hF
      conv => cbv
      refine r_lss m.sX (fun h5 => ?_) (fun h5 => ?_) <;> conv => cbv
      · refine r_index m.sX (by omega) (by omega) fun n_2 hn_2 => ?_
        conv => cbv
        have mn_2 := get_mem hn_2
        have dn_2 := drop_cons hn_2
        have kn_2 := take_snoc hn_2
        have jn_2 : (i2 + 1).toNat = Int.toNat i2 + 1 := by omega
        have vn_2 := nth_some hn_2
        refine r_callBF m.sX (pIn_ok before n_2) (by exact decide_eq_false (e9 _ mn_2).1) ?_   -- h6
        conv => cbv
        refine r_callBT m.sX (pIn_ok after n_2) (by exact decide_eq_true (e9 _ mn_2).2) ?_   -- h7
        conv => cbv
        refine r_addf m.sX (by omega) (by omega) fun r4 hr4 => ?_
        conv => cbv
        try have tr4 : Int.toNat r4 = Int.toNat i2 + 1 := by omega
        refine hE _ r4 ?_ ?_ ⟨(by (try dsimp only); first | omega | (simp only [List.length_nil]; omega) | (simp only [List.length_cons, List.length_nil]; omega)), (by (try dsimp only); first | omega | (simp only [List.length_nil]; omega) | (simp only [List.length_cons, List.length_nil]; omega))⟩ (by first | omega | (dsimp only; omega))
        · cbv
        · cbv
      · have dz_i2 := drop_end (xs := a) (i := Int.toNat i2) (by omega)
        have tz_i2 := take_end (xs := a) (i := Int.toNat i2) (by omega)
        refine hF _ _ ?_
        conv => cbv
        exact hE0 _ (w, h_, pieces, placed, one) (by cbv) (by cbv) ⟨trivial, ⟨(by (try dsimp only) <;> (first | assumption | omega | (simp [*]; done))), (by (try dsimp only) <;> (first | assumption | omega | (simp [*]; done)))⟩⟩
  · refine r_callBT m.sX (sameInts_ok a a) (by first | assumption | exact decide_eq_true rfl | (simp [*]; done) | omega) ?_   -- h8
    conv => cbv
    exact hE0 _ (w, h_, pieces, placed, one) (by cbv) (by cbv) ⟨trivial, ⟨(by (try dsimp only) <;> (first | assumption | omega | (simp [*]; done))), (by (try dsimp only) <;> (first | assumption | omega | (simp [*]; done)))⟩⟩

theorem locks_part3 (m : Mach Try.prog G κ X Y L) (hQ : ∀ r, r = PV.bool true → Q r) (more : List Int) (h : CurIn more) (w : Int) (h_ : Int) (pieces : List Piece) (placed : List Plc) (one : Bool) (bp : ∀ p ∈ placed, p.2.1 ≤ 1000000 ∧ p.2.2.1 ≤ 1000000) (io : (chaseF w h_ pieces placed).isSome = one) :
    Ai.code X L G (rest 5 (rest 9 (Try.f5.body.getD .skip))) (EndsIn (post G Try.f5.results.toList Q)) (St.at 395 [(5, .int .i64 w), (6, .int .i64 h_), (7, .isl 2 (rows cPiece pieces)), (8, .isl 4 (rows cPlaced placed)), (16, .bool one)] []) := by
  conv => cbv
  refine r_callF (lbI 1 cInt) m.sX ((UprightCuts_ok w h_ pieces placed (by assumption)).ice) fun v hc => ?_
  obtain ⟨c, five⟩ := v
  conv => cbv
  have o5 := up_is hc
  refine r_callF (lbI 1 cInt) m.sX ((specUprightCuts_ok w h_ pieces placed).ice) fun y1 hy1 => ?_
  obtain rfl := hc.trans hy1.symm
  clear hy1
  conv => cbv
  refine r_callF (lbI 1 cInt) m.sX ((LevelCuts_ok w h_ pieces placed (by assumption)).ice) fun v hd => ?_
  obtain ⟨d, seven⟩ := v
  conv => cbv
  have o7 := lev_is hd
  refine r_callF (lbI 1 cInt) m.sX ((specLevelCuts_ok w h_ pieces placed).ice) fun y2 hy2 => ?_
  obtain rfl := hd.trans hy2.symm
  clear hy2
  conv => cbv
  rcases Bool.eq_false_or_eq_true five with rfl | rfl <;> conv => cbv
  · obtain ⟨G0, eG⟩ := Option.isSome_iff_exists.1 o5
    obtain ⟨⟨cl, dl⟩, K⟩ := cuts_law eG hc hd
    refine r_callBT m.sX (sameInts_ok c c) (by first | assumption | exact decide_eq_true rfl | (simp [*]; done) | omega) ?_   -- h1
    conv => cbv
    obtain rfl : seven = true := by exact o7.symm.trans o5
    conv => cbv
    refine r_callBT m.sX (sameInts_ok d d) (by first | assumption | exact decide_eq_true rfl | (simp [*]; done) | omega) ?_   -- h2
    conv => cbv
    obtain rfl : one = true := by exact io.symm.trans o5
    conv => cbv
    refine r_lenR m.sX fun n1 hn1 mn1 => ?_
    conv => cbv
    refine r_loopF (α := Int) m 395 [7, 43, 47, 324, 325, 326] [] (fun σ => [(7, .isl 2 (rows cPiece pieces)), (43, .isl 1 (rows cInt c)), (47, .isl 1 (rows cInt d)), (324, .isl 4 (rows cPlaced placed)), (325, .int .i64 n1), (326, .int .i64 σ)]) (fun σ => [])
      (fun σ => (0 ≤ σ) ∧ (σ ≤ n1)) (fun σ => (n1 - σ).toNat) 0 ?_ ?_ ?_ ?_
    · cbv
    · cbv
    · exact ⟨(by (try dsimp only); first | omega | (simp only [List.length_nil]; omega) | (simp only [List.length_cons, List.length_nil]; omega)), (by (try dsimp only); first | omega | (simp only [List.length_nil]; omega) | (simp only [List.length_cons, List.length_nil]; omega))⟩
    rintro i1 ⟨lo3, hi3⟩ E hE F hF
    conv => cbv
    refine r_lss m.sX (fun h3 => ?_) (fun h3 => ?_) <;> conv => cbv
    · refine r_index m.sX (by omega) (by omega) fun v htA => ?_
      obtain ⟨tA, tB, tC, tD⟩ := v
      conv => cbv
      have ht := htA
      have mt := get_mem ht
      have dt := drop_cons ht
      have kt := take_snoc ht
      have jt : (i1 + 1).toNat = Int.toNat i1 + 1 := by omega
      obtain ⟨tb, K2⟩ := K _ mt
      have tb : 0 ≤ tA ∧ tA < pieces.length := tb
      refine r_draw m (by kernel_rfl) ?_
      conv => cbv
      refine r_index m.sY (by omega) (by omega) fun v hx1A => ?_
      obtain ⟨x1A, x1B⟩ := v
      conv => cbv
      have hx1 := hx1A
      have mx1 := get_mem hx1
      refine r_index m.sY (by omega) (by omega) fun v hx2A => ?_
      obtain ⟨x2A, x2B⟩ := v
      conv => cbv
      have hx2 := hx2A
      have mx2 := get_mem hx2
      obtain ⟨rfl, rfl⟩ : x1A = x2A ∧ x1B = x2B := by have := Option.some.inj (hx1.symm.trans hx2); simpa using this
      rcases Bool.eq_false_or_eq_true tD with rfl | rfl <;> conv => cbv
      · have K3 := K2 x1B x1A (by rw [sideP, nthP_some hx1]; rfl)
        try dsimp only at K3
        obtain ⟨kb, kc, ku, kl⟩ := K3
        have kb : (0 ≤ tB ∧ tB ≤ 8) ∧ 0 ≤ tC ∧ tC ≤ 8 := kb
        refine r_index m.sX (by omega) (by omega) fun v hx3A => ?_
        obtain ⟨x3A, x3B⟩ := v
        conv => cbv
        have hx3 := hx3A
        have mx3 := get_mem hx3
        obtain ⟨rfl, rfl⟩ : x1A = x3A ∧ x1B = x3B := by have := Option.some.inj (hx1.symm.trans hx3); simpa using this
        refine r_index m.sX (by omega) (by omega) fun v hx4A => ?_
        obtain ⟨x4A, x4B⟩ := v
        conv => cbv
        have hx4 := hx4A
        have mx4 := get_mem hx4
        obtain ⟨rfl, rfl⟩ : x1A = x4A ∧ x1B = x4B := by have := Option.some.inj (hx1.symm.trans hx4); simpa using this
        refine r_lenR m.sX fun n2 hn2 mn2 => ?_
        conv => cbv
        refine r_loopF (α := Int) m 395 [7, 43, 47, 51, 52, 324, 325, 326, 356, 357, 358] [⟨50, 401, 0, 0, 0⟩] (fun σ => [(7, .isl 2 (rows cPiece pieces)), (43, .isl 1 (rows cInt c)), (47, .isl 1 (rows cInt d)), (50, .optr 401 0 4 0 0), (51, .int .i64 x1B), (52, .int .i64 x1A), (324, .isl 4 (rows cPlaced placed)), (325, .int .i64 n1), (326, .int .i64 i1), (356, .isl 1 (rows cInt c)), (357, .int .i64 n2), (358, .int .i64 σ)]) (fun σ => [(401, 0, .box [.int .i64 tA, .int .i64 tB, .int .i64 tC, .bool true])])
          (fun σ => (0 ≤ σ) ∧ (σ ≤ n2)) (fun σ => (n2 - σ).toNat) 0 ?_ ?_ ?_ ?_
        · cbv
        · cbv
        · exact ⟨(by (try dsimp only); first | omega | (simp only [List.length_nil]; omega) | (simp only [List.length_cons, List.length_nil]; omega)), (by (try dsimp only); first | omega | (simp only [List.length_nil]; omega) | (simp only [List.length_cons, List.length_nil]; omega))⟩
        rintro i2 ⟨lo4, hi4⟩ E2 hE2 F2 hF2
        conv => cbv
        refine r_lss m.sX (fun h4 => ?_) (fun h4 => ?_) <;> conv => cbv
        · refine r_index m.sX (by omega) (by omega) fun n hn => ?_
          conv => cbv
          have mn := get_mem hn
          have dn := drop_cons hn
          have kn := take_snoc hn
          have jn : (i2 + 1).toNat = Int.toNat i2 + 1 := by omega
          have vn := nth_some hn
          have ku3 := ku _ mn
          try dsimp only at ku3
          have ku3 : ¬ (tB < n ∧ n < tB + x1B) := ku3
          refine r_lss m.sX (fun h5 => ?_) (fun h5 => ?_) <;> conv => cbv
          · refine r_addf m.sX (by omega) (by omega) fun r1 hr1 => ?_
            conv => cbv
            refine r_lssF m.sX (by first | omega | rfl) ?_
            conv => cbv
            refine r_addf m.sX (by omega) (by omega) fun r2 hr2 => ?_
            conv => cbv
            try have tr2 : Int.toNat r2 = Int.toNat i2 + 1 := by omega
            refine hE2 _ r2 ?_ ?_ ⟨(by (try dsimp only); first | omega | (simp only [List.length_nil]; omega) | (simp only [List.length_cons, List.length_nil]; omega)), (by (try dsimp only); first | omega | (simp only [List.length_nil]; omega) | (simp only [List.length_cons, List.length_nil]; omega))⟩ (by first | omega | (dsimp only; omega))
            · cbv
            · cbv
          · refine r_addf m.sX (by omega) (by omega) fun r3 hr3 => ?_
            conv => cbv
            try have tr3 : Int.toNat r3 = Int.toNat i2 + 1 := by omega
            refine hE2 _ r3 ?_ ?_ ⟨(by (try dsimp only); first | omega | (simp only [List.length_nil]; omega) | (simp only [List.length_cons, List.length_nil]; omega)), (by (try dsimp only); first | omega | (simp only [List.length_nil]; omega) | (simp only [List.length_cons, List.length_nil]; omega))⟩ (by first | omega | (dsimp only; omega))
            · cbv
            · cbv
        · have dz_i2 := drop_end (xs := c) (i := Int.toNat i2) (by omega)
          have tz_i2 := take_end (xs := c) (i := Int.toNat i2) (by omega)
          refine hF2 _ _ ?_
          conv => cbv
          refine r_lenR m.sX fun n3 hn3 mn3 => ?_
          conv => cbv
          refine r_loopF (α := Int) m 395 [7, 43, 47, 52, 324, 325, 326, 375, 376, 377] [⟨50, 401, 0, 0, 0⟩] (fun σ => [(7, .isl 2 (rows cPiece pieces)), (43, .isl 1 (rows cInt c)), (47, .isl 1 (rows cInt d)), (50, .optr 401 0 4 0 0), (52, .int .i64 x1A), (324, .isl 4 (rows cPlaced placed)), (325, .int .i64 n1), (326, .int .i64 i1), (375, .isl 1 (rows cInt d)), (376, .int .i64 n3), (377, .int .i64 σ)]) (fun σ => [(401, 0, .box [.int .i64 tA, .int .i64 tB, .int .i64 tC, .bool true])])
            (fun σ => (0 ≤ σ) ∧ (σ ≤ n3)) (fun σ => (n3 - σ).toNat) 0 ?_ ?_ ?_ ?_
          · cbv
          · cbv
          · exact ⟨(by (try dsimp only); first | omega | (simp only [List.length_nil]; omega) | (simp only [List.length_cons, List.length_nil]; omega)), (by (try dsimp only); first | omega | (simp only [List.length_nil]; omega) | (simp only [List.length_cons, List.length_nil]; omega))⟩
          rintro i3 ⟨lo5, hi5⟩ E2 hE2 F2 hF2
          conv => cbv
          refine r_lss m.sX (fun h7 => ?_) (fun h7 => ?_) <;> conv => cbv
          · refine r_index m.sX (by omega) (by omega) fun n_2 hn_2 => ?_
            conv => cbv
            have mn_2 := get_mem hn_2
            have dn_2 := drop_cons hn_2
            have kn_2 := take_snoc hn_2
            have jn_2 : (i3 + 1).toNat = Int.toNat i3 + 1 := by omega
            have vn_2 := nth_some hn_2
            have kl3 := kl _ mn_2
            try dsimp only at kl3
            have kl3 : ¬ (tC < n_2 ∧ n_2 < tC + x1A) := kl3
            refine r_lss m.sX (fun h8 => ?_) (fun h8 => ?_) <;> conv => cbv
            · refine r_addf m.sX (by omega) (by omega) fun r4 hr4 => ?_
              conv => cbv
              refine r_lssF m.sX (by first | omega | rfl) ?_
              conv => cbv
              refine r_addf m.sX (by omega) (by omega) fun r5 hr5 => ?_
              conv => cbv
              try have tr5 : Int.toNat r5 = Int.toNat i3 + 1 := by omega
              refine hE2 _ r5 ?_ ?_ ⟨(by (try dsimp only); first | omega | (simp only [List.length_nil]; omega) | (simp only [List.length_cons, List.length_nil]; omega)), (by (try dsimp only); first | omega | (simp only [List.length_nil]; omega) | (simp only [List.length_cons, List.length_nil]; omega))⟩ (by first | omega | (dsimp only; omega))
              · cbv
              · cbv
            · refine r_addf m.sX (by omega) (by omega) fun r6 hr6 => ?_
              conv => cbv
              try have tr6 : Int.toNat r6 = Int.toNat i3 + 1 := by omega
              refine hE2 _ r6 ?_ ?_ ⟨(by (try dsimp only); first | omega | (simp only [List.length_nil]; omega) | (simp only [List.length_cons, List.length_nil]; omega)), (by (try dsimp only); first | omega | (simp only [List.length_nil]; omega) | (simp only [List.length_cons, List.length_nil]; omega))⟩ (by first | omega | (dsimp only; omega))
              · cbv
              · cbv
          · have dz_i3 := drop_end (xs := d) (i := Int.toNat i3) (by omega)
            have tz_i3 := take_end (xs := d) (i := Int.toNat i3) (by omega)
            refine hF2 _ _ ?_
            conv => cbv
            refine r_addf m.sX (by omega) (by omega) fun r7 hr7 => ?_
            conv => cbv
            try have tr7 : Int.toNat r7 = Int.toNat i1 + 1 := by omega
            refine hE _ r7 ?_ ?_ ⟨(by (try dsimp only); first | omega | (simp only [List.length_nil]; omega) | (simp only [List.length_cons, List.length_nil]; omega)), (by (try dsimp only); first | omega | (simp only [List.length_nil]; omega) | (simp only [List.length_cons, List.length_nil]; omega))⟩ (by first | omega | (dsimp only; omega))
            · cbv
            · cbv
      · have K3 := K2 x1A x1B (by rw [sideP, nthP_some hx1]; rfl)
        try dsimp only at K3
        obtain ⟨kb, kc, ku, kl⟩ := K3
        have kb : (0 ≤ tB ∧ tB ≤ 8) ∧ 0 ≤ tC ∧ tC ≤ 8 := kb
        refine r_lenR m.sX fun n4 hn4 mn4 => ?_
        conv => cbv
        refine r_loopF (α := Int) m 395 [7, 43, 47, 51, 52, 324, 325, 326, 356, 357, 358] [⟨50, 401, 0, 0, 0⟩] (fun σ => [(7, .isl 2 (rows cPiece pieces)), (43, .isl 1 (rows cInt c)), (47, .isl 1 (rows cInt d)), (50, .optr 401 0 4 0 0), (51, .int .i64 x1A), (52, .int .i64 x1B), (324, .isl 4 (rows cPlaced placed)), (325, .int .i64 n1), (326, .int .i64 i1), (356, .isl 1 (rows cInt c)), (357, .int .i64 n4), (358, .int .i64 σ)]) (fun σ => [(401, 0, .box [.int .i64 tA, .int .i64 tB, .int .i64 tC, .bool false])])
          (fun σ => (0 ≤ σ) ∧ (σ ≤ n4)) (fun σ => (n4 - σ).toNat) 0 ?_ ?_ ?_ ?_
        · cbv
        · cbv
        · exact ⟨(by (try dsimp only); first | omega | (simp only [List.length_nil]; omega) | (simp only [List.length_cons, List.length_nil]; omega)), (by (try dsimp only); first | omega | (simp only [List.length_nil]; omega) | (simp only [List.length_cons, List.length_nil]; omega))⟩
        rintro i4 ⟨lo6, hi6⟩ E2 hE2 F2 hF2
        conv => cbv
        refine r_lss m.sX (fun h10 => ?_) (fun h10 => ?_) <;> conv => cbv
        · refine r_index m.sX (by omega) (by omega) fun n_3 hn_3 => ?_
          conv => cbv
          have mn_3 := get_mem hn_3
          have dn_3 := drop_cons hn_3
          have kn_3 := take_snoc hn_3
          have jn_3 : (i4 + 1).toNat = Int.toNat i4 + 1 := by omega
          have vn_3 := nth_some hn_3
          have ku3 := ku _ mn_3
          try dsimp only at ku3
          have ku3 : ¬ (tB < n_3 ∧ n_3 < tB + x1A) := ku3
          refine r_lss m.sX (fun h11 => ?_) (fun h11 => ?_) <;> conv => cbv
          · refine r_addf m.sX (by omega) (by omega) fun r8 hr8 => ?_
            conv => cbv
            refine r_lssF m.sX (by first | omega | rfl) ?_
            conv => cbv
            refine r_addf m.sX (by omega) (by omega) fun r9 hr9 => ?_
            conv => cbv
            try have tr9 : Int.toNat r9 = Int.toNat i4 + 1 := by omega
            refine hE2 _ r9 ?_ ?_ ⟨(by (try dsimp only); first | omega | (simp only [List.length_nil]; omega) | (simp only [List.length_cons, List.length_nil]; omega)), (by (try dsimp only); first | omega | (simp only [List.length_nil]; omega) | (simp only [List.length_cons, List.length_nil]; omega))⟩ (by first | omega | (dsimp only; omega))
            · cbv
            · cbv
          · refine r_addf m.sX (by omega) (by omega) fun r10 hr10 => ?_
            conv => cbv
            try have tr10 : Int.toNat r10 = Int.toNat i4 + 1 := by omega
            refine hE2 _ r10 ?_ ?_ ⟨(by (try dsimp only); first | omega | (simp only [List.length_nil]; omega) | (simp only [List.length_cons, List.length_nil]; omega)), (by (try dsimp only); first | omega | (simp only [List.length_nil]; omega) | (simp only [List.length_cons, List.length_nil]; omega))⟩ (by first | omega | (dsimp only; omega))
            · cbv
            · cbv
        · have dz_i4 := drop_end (xs := c) (i := Int.toNat i4) (by omega)
          have tz_i4 := take_end (xs := c) (i := Int.toNat i4) (by omega)
          refine hF2 _ _ ?_
          conv => cbv
          refine r_lenR m.sX fun n5 hn5 mn5 => ?_
          conv => cbv
          refine r_loopF (α := Int) m 395 [7, 43, 47, 52, 324, 325, 326, 375, 376, 377] [⟨50, 401, 0, 0, 0⟩] (fun σ => [(7, .isl 2 (rows cPiece pieces)), (43, .isl 1 (rows cInt c)), (47, .isl 1 (rows cInt d)), (50, .optr 401 0 4 0 0), (52, .int .i64 x1B), (324, .isl 4 (rows cPlaced placed)), (325, .int .i64 n1), (326, .int .i64 i1), (375, .isl 1 (rows cInt d)), (376, .int .i64 n5), (377, .int .i64 σ)]) (fun σ => [(401, 0, .box [.int .i64 tA, .int .i64 tB, .int .i64 tC, .bool false])])
            (fun σ => (0 ≤ σ) ∧ (σ ≤ n5)) (fun σ => (n5 - σ).toNat) 0 ?_ ?_ ?_ ?_
          · cbv
          · cbv
          · exact ⟨(by (try dsimp only); first | omega | (simp only [List.length_nil]; omega) | (simp only [List.length_cons, List.length_nil]; omega)), (by (try dsimp only); first | omega | (simp only [List.length_nil]; omega) | (simp only [List.length_cons, List.length_nil]; omega))⟩
          rintro i5 ⟨lo7, hi7⟩ E2 hE2 F2 hF2
          conv => cbv
          refine r_lss m.sX (fun h13 => ?_) (fun h13 => ?_) <;> conv => cbv
          · refine r_index m.sX (by omega) (by omega) fun n_4 hn_4 => ?_
            conv => cbv
            have mn_4 := get_mem hn_4
            have dn_4 := drop_cons hn_4
            have kn_4 := take_snoc hn_4
            have jn_4 : (i5 + 1).toNat = Int.toNat i5 + 1 := by omega
            have vn_4 := nth_some hn_4
            have kl3 := kl _ mn_4
            try dsimp only at kl3
            have kl3 : ¬ (tC < n_4 ∧ n_4 < tC + x1B) := kl3
            refine r_lss m.sX (fun h14 => ?_) (fun h14 => ?_) <;> conv => cbv
            · refine r_addf m.sX (by omega) (by omega) fun r11 hr11 => ?_
              conv => cbv
              refine r_lssF m.sX (by first | omega | rfl) ?_
              conv => cbv
              refine r_addf m.sX (by omega) (by omega) fun r12 hr12 => ?_
              conv => cbv
              try have tr12 : Int.toNat r12 = Int.toNat i5 + 1 := by omega
              refine hE2 _ r12 ?_ ?_ ⟨(by (try dsimp only); first | omega | (simp only [List.length_nil]; omega) | (simp only [List.length_cons, List.length_nil]; omega)), (by (try dsimp only); first | omega | (simp only [List.length_nil]; omega) | (simp only [List.length_cons, List.length_nil]; omega))⟩ (by first | omega | (dsimp only; omega))
              · cbv
              · cbv
            · refine r_addf m.sX (by omega) (by omega) fun r13 hr13 => ?_
              conv => cbv
              try have tr13 : Int.toNat r13 = Int.toNat i5 + 1 := by omega
              refine hE2 _ r13 ?_ ?_ ⟨(by (try dsimp only); first | omega | (simp only [List.length_nil]; omega) | (simp only [List.length_cons, List.length_nil]; omega)), (by (try dsimp only); first | omega | (simp only [List.length_nil]; omega) | (simp only [List.length_cons, List.length_nil]; omega))⟩ (by first | omega | (dsimp only; omega))
              · cbv
              · cbv
          · have dz_i5 := drop_end (xs := d) (i := Int.toNat i5) (by omega)
            have tz_i5 := take_end (xs := d) (i := Int.toNat i5) (by omega)
            refine hF2 _ _ ?_
            conv => cbv
            refine r_addf m.sX (by omega) (by omega) fun r14 hr14 => ?_
            conv => cbv
            try have tr14 : Int.toNat r14 = Int.toNat i1 + 1 := by omega
            refine hE _ r14 ?_ ?_ ⟨(by (try dsimp only); first | omega | (simp only [List.length_nil]; omega) | (simp only [List.length_cons, List.length_nil]; omega)), (by (try dsimp only); first | omega | (simp only [List.length_nil]; omega) | (simp only [List.length_cons, List.length_nil]; omega))⟩ (by first | omega | (dsimp only; omega))
            · cbv
            · cbv
    · have dz_i1 := drop_end (xs := placed) (i := Int.toNat i1) (by omega)
      have tz_i1 := take_end (xs := placed) (i := Int.toNat i1) (by omega)
      refine hF _ _ ?_
      conv => cbv
      exact hQ _ (congrArg PV.bool (by first | rfl | omega | (simp [*]; done) | (subst_vars; simp [*]; done)))   -- leaf 2
  · refine r_callBT m.sX (sameInts_ok c c) (by first | assumption | exact decide_eq_true rfl | (simp [*]; done) | omega) ?_   -- h16
    conv => cbv
    obtain rfl : seven = false := by exact o7.symm.trans o5
    conv => cbv
    refine r_callBT m.sX (sameInts_ok d d) (by first | assumption | exact decide_eq_true rfl | (simp [*]; done) | omega) ?_   -- h17
    conv => cbv
    obtain rfl : one = false := by exact io.symm.trans o5
    conv => cbv
    exact hQ _ (congrArg PV.bool (by first | rfl | omega | (simp [*]; done) | (subst_vars; simp [*]; done)))   -- leaf 3

end

theorem lawLocks_ok (code more : List Int) (hf : ∀ x ∈ code, 0 ≤ x ∧ x ≤ 255) (hg : ∀ x ∈ more, 0 ≤ x ∧ x ≤ 255) : OkA Try.prog 5 [.isl 1 (rows cU8 code), .isl 1 (rows cU8 more)] (· = .bool true) :=
  fn_introW envOk fieldsOk mixed Try.func5 rfl (c := Try.f5.body.getD .skip) rfl fun κ X Y L Q m hQ =>
    W_cut m 9 395 [1, 5, 6, 7, 8, 16] [] (fun σ : Int × Int × List Piece × List Plc × Bool => [(1, .isl 1 (rows cU8 more)), (5, .int .i64 σ.1), (6, .int .i64 σ.2.1), (7, .isl 2 (rows cPiece σ.2.2.1)), (8, .isl 4 (rows cPlaced σ.2.2.2.1)), (16, .bool σ.2.2.2.2)]) (fun σ => []) (fun σ => (more.length : Int) ≤ 9223372036854775807 ∧ ((∀ p ∈ σ.2.2.2.1, p.2.1 ≤ 1000000 ∧ p.2.2.1 ≤ 1000000) ∧ ((chaseF σ.1 σ.2.1 σ.2.2.1 σ.2.2.2.1).isSome = σ.2.2.2.2))) (locks_part1 m hQ code more hf) fun ⟨w, h_, pieces, placed, one⟩ ⟨hl, ⟨bp, io⟩⟩ =>
    W_cut m 5 395 [5, 6, 7, 8, 16] [] (fun σ : Int × Int × List Piece × List Plc × Bool => [(5, .int .i64 σ.1), (6, .int .i64 σ.2.1), (7, .isl 2 (rows cPiece σ.2.2.1)), (8, .isl 4 (rows cPlaced σ.2.2.2.1)), (16, .bool σ.2.2.2.2)]) (fun σ => []) (fun σ => True ∧ ((∀ p ∈ σ.2.2.2.1, p.2.1 ≤ 1000000 ∧ p.2.2.1 ≤ 1000000) ∧ ((chaseF σ.1 σ.2.1 σ.2.2.1 σ.2.2.2.1).isSome = σ.2.2.2.2))) (locks_part2 m hQ more ⟨hl, hg⟩ w h_ pieces placed one bp io) fun ⟨w, h_, pieces, placed, one⟩ ⟨_, ⟨bp, io⟩⟩ =>
    W_last m (locks_part3 m hQ more ⟨hl, hg⟩ w h_ pieces placed one bp io)


end Go.Proofs.Ytiaodmfipeoegaa.Ai
