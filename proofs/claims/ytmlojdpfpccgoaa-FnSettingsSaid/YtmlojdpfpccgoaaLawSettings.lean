/- Long bodies, part by part. -/
import Derived.Test.YtmlojdpfpccgoaaAiRules
import Derived.Test.YtmlojdpfpccgoaaSet
import Derived.Test.YtmlojdpfpccgoaaSetDraw
namespace Go.Proofs.Ytmlojdpfpccgoaa.Ai
open Go Go.RowKit Go.Proofs
set_option linter.unusedSectionVars false
set_option linter.unusedVariables false
set_option linter.unusedSimpArgs false
set_option maxRecDepth 10000
set_option maxHeartbeats 4000000
set_option maxHeartbeats 16000000

/-- The first k statements of a body, and those behind. -/
def front : Nat → Code → Code
  | k + 1, .seq a b => .seq a (front k b)
  | _, _ => .skip
def rest : Nat → Code → Code
  | k + 1, .seq a b => rest k b
  | _, c => c

section
variable {P : Program} {G : Env} {κ : Ctx} {X Y : Req → (PV → Prop) → Prop} {L : Code → (Ex → St → Prop) → St → Prop}

/-- What stands at a cut, as at a loop's head. -/
def Cut {α : Type} (nt : Nat) (keep : List Nat) (own : List Hold) (tb : α → List (Nat × PV)) (hp : α → Heap) (I : α → Prop) (s' : St) : Prop :=
  headOk s' own = true ∧ ∃ a, Ai.norm keep own s' = St.at nt (tb a) (hp a) ∧ I a

theorem W_front (m : Mach P G κ X Y L) {E : St → Prop} {Q : Ex → St → Prop} : ∀ (k : Nat) (c : Code) (s : St),
    (∀ (η : Own) (s : St) (a : Act) (w : World), Sim κ η s a w → E s → (rest k c).wp P (Post κ Q) a w) →
    code X L G (front k c) (fun e s' => match e with | .normal => E s' | .exit i => Q (.exit i) s' | .ret => Q .ret s') s → W P κ c Q s := by
  have := m.z
  have hX := m.X
  have hL := m.L
  subst hX hL
  intro k
  induction k with
  | zero =>
    intro c s hE hc η a w hs
    cases c <;> exact hE η s a w hs hc
  | succ k ih =>
    intro c s hE hc η a w hs
    cases c
    case seq x y =>
      have hx : code (std false P) (W P κ) G x (fun e s' => match e with
        | .normal => code (std false P) (W P κ) G (front k y) (fun e s' => match e with | .normal => E s' | .exit i => Q (.exit i) s' | .ret => Q .ret s') s'
        | .exit j => Q (.exit j) s'
        | .ret => Q .ret s') s := hc
      refine wp_seq (Go.wp_mono (code_sound m.hG m.hF x _ _ hx η a w hs) fun e a' w' hq => ?_)
      cases e with
      | normal =>
        obtain ⟨η', s', hs', hq⟩ := hq
        exact ih y s' hE hq η' a' w' hs'
      | exit i => exact hq
      | ret => exact hq
      | goto l => exact hq.elim
      | panic ch => exact hq.elim
      | outgrown => exact hq.elim
    all_goals exact hE η s a w hs hc

/-- **A cut**: the first k statements, then those behind, from what is kept. -/
theorem W_cut {α : Type} (m : Mach P G κ X Y L) {Q : Ex → St → Prop} {c : Code} {s : St} (k nt : Nat) (keep : List Nat) (own : List Hold) (tb : α → List (Nat × PV)) (hp : α → Heap) (I : α → Prop)
    (first : ∀ E : St → Prop, (∀ s' a, headOk s' own = true → Ai.norm keep own s' = St.at nt (tb a) (hp a) → I a → E s') →
      code X L G (front k c) (fun e s' => match e with | .normal => E s' | .exit i => Q (.exit i) s' | .ret => Q .ret s') s)
    (second : ∀ a, I a → W P κ (rest k c) Q (St.at nt (tb a) (hp a))) : W P κ c Q s := by
  have := m.z
  refine W_front m (E := Cut nt keep own tb hp I) k c s ?_ (first _ fun s' a h1 h2 h3 => ⟨h1, a, h2, h3⟩)
  rintro η s a w hs ⟨hk, a0, e1, h3⟩
  simp only [headOk, Bool.and_eq_true] at hk
  have hs' := hs.norm keep hk.1 (recvOk_spec hk.2)
  rw [e1] at hs'
  exact second a0 h3 _ a w hs'

/-- The last part. -/
theorem W_last (m : Mach P G κ X Y L) {Q : Ex → St → Prop} {c : Code} {s : St} (h : code X L G c Q s) : W P κ c Q s := by
  have := m.z
  rw [m.X, m.L] at h
  exact code_sound m.hG m.hF c Q s h

theorem fn_introW (hG : EnvOk P G) (hF : FieldsOk P G) (hm : P.follows .mixedOrders = true) {f : FuncId} {fn : Func} (hf : P.funcs[f]? = some fn) (hn : (fn.name == "runtime.NumGoroutine") = false) {args : List PV} {R : PV → Prop} {c : Code} (hc : fn.body = some c)
    (h : ∀ κ X Y L Q, Mach P G κ X Y L → (∀ r, R r → Q r) → W P κ c (EndsIn (post G fn.results.toList Q)) (start fn.ntmps args [])) : OkA P f args R :=
  OkA_introW hG hF hf hn hc fun κ hz => h κ _ _ _ R ⟨hG, hF, hm, hz, rfl, rfl, rfl⟩ fun _ x => x
end

/- Contracts of the functions on settings that are asked for: words that are set, types that are distributed. -/
theorem ask_len {l : List Box} {c : List (List UInt8)} (h : askedC l c = true) : c.length ≤ 1000 := by
  have := (askedC_spec h).2.2; omega
theorem PutTypes1_ok (l : List Box) (w : List UInt8) : OkA Try.prog 118 [.isl 4 (rows cBox l), .isl 1 [[.str w]]] (· = lb 83 4 cBox (changedA l [w] 1)) := by
  have := PutTypes_ok l [w]
  rw [rows_cons, rows_nil] at this
  exact this
theorem caMove1_ok (l : List Box) (w : List UInt8) (ha : askedC l [w] = true) : OkA Try.prog 119 [.isl 4 (rows cBox l), .isl 1 [[.str w]], .int .i64 1] (· = lb 83 4 cBox (changedA l [w] 1)) := by
  have := caMove_ok l [w] 1 (by omega) ha
  rw [rows_cons, rows_nil] at this
  exact this
theorem SetWord_ok (f : List FSort) (s_ : Sett) (word : List UInt8)  : OkA Try.prog 40 [.isl 2 (rows cSort f), .agg (cSetting s_), .str word] (· = sbI (setWA f s_ word)) := by
  obtain ⟨s_A, s_B⟩ := s_
  try dsimp only at *
  exact OkA.unnilSI [4, 1] (fn_intro envOk fieldsOk mixed Try.func40 rfl fun κ X Y L Q m hQ => by
    conv => cbv
    refine r_callB m.sX (IsFont_ok f) (fun h1 => ?_) (fun h1 => ?_) <;> conv => cbv
    · have hc := okFont_codes h1
      try dsimp only at hc
      refine r_callB m.sX (IsSetting_ok (s_A, s_B)) (fun h2 => ?_) (fun h2 => ?_) <;> conv => cbv
      · have al := ask_len h2
        try dsimp only at al
        refine r_callB m.sX (isWord_ok word) (fun h3 => ?_) (fun h3 => ?_) <;> conv => cbv
        · have wl := okWord_len h3
          try dsimp only at wl
          refine r_callF sbI m.sX (setWordI_ok f (s_A, s_B) word (by assumption) (by omega) (by omega)) fun v hv1A => ?_
          obtain ⟨⟨v1A, v1B⟩, v2⟩ := v
          conv => cbv
          try dsimp only at hv1
          have hv1 := hv1A
          exact hQ (.tup [.agg [.isl 4 (rows cBox v1A), .isl 1 (rows cStr v1B)], .bool v2]) (Eq.trans (by first | rfl | (simp only [sbI, cSetting, Ai.ice, ice1, ice0, List.map_cons, List.map_nil, Ai.unnilSI, unnilCI, unnilI, rows_nil]; done) | (simp only [lb, lbI, rows_cons, rows_nil, unnilT, unnil, unnilTI, unnilI]; done) | (simp only [lb, lbI, rows_cons, rows_nil, unnilT, unnil, unnilTI, unnilI]; rfl)) (congrArg (sbI) (show ((v1A, v1B), v2) = setWA f (s_A, s_B) word from by rw [setWA, if_pos (by simp [h1, h2, h3])]; exact hv1)))   -- leaf 1
        · exact hQ (.tup [.agg [.nil, .nil], .bool false]) (Eq.trans (by first | rfl | (simp only [sbI, cSetting, Ai.ice, ice1, ice0, List.map_cons, List.map_nil, Ai.unnilSI, unnilCI, unnilI, rows_nil]; done) | (simp only [lb, lbI, rows_cons, rows_nil, unnilT, unnil, unnilTI, unnilI]; done) | (simp only [lb, lbI, rows_cons, rows_nil, unnilT, unnil, unnilTI, unnilI]; rfl)) (congrArg (sbI) (show (([], []), false) = setWA f (s_A, s_B) word from by rw [setWA, if_neg (by simp [h3])])))   -- leaf 2
      · exact hQ (.tup [.agg [.nil, .nil], .bool false]) (Eq.trans (by first | rfl | (simp only [sbI, cSetting, Ai.ice, ice1, ice0, List.map_cons, List.map_nil, Ai.unnilSI, unnilCI, unnilI, rows_nil]; done) | (simp only [lb, lbI, rows_cons, rows_nil, unnilT, unnil, unnilTI, unnilI]; done) | (simp only [lb, lbI, rows_cons, rows_nil, unnilT, unnil, unnilTI, unnilI]; rfl)) (congrArg (sbI) (show (([], []), false) = setWA f (s_A, s_B) word from by rw [setWA, if_neg (by simp only [h2]; simp)])))   -- leaf 3
    · exact hQ (.tup [.agg [.nil, .nil], .bool false]) (Eq.trans (by first | rfl | (simp only [sbI, cSetting, Ai.ice, ice1, ice0, List.map_cons, List.map_nil, Ai.unnilSI, unnilCI, unnilI, rows_nil]; done) | (simp only [lb, lbI, rows_cons, rows_nil, unnilT, unnil, unnilTI, unnilI]; done) | (simp only [lb, lbI, rows_cons, rows_nil, unnilT, unnil, unnilTI, unnilI]; rfl)) (congrArg (sbI) (show (([], []), false) = setWA f (s_A, s_B) word from by rw [setWA, if_neg (by simp [h1])]))))   -- leaf 4

theorem specSetWord_ok (f : List FSort) (s_ : Sett) (word : List UInt8)  : OkA Try.prog 41 [.isl 2 (rows cSort f), .agg (cSetting s_), .str word] (· = sbI (setWA f s_ word)) := by
  obtain ⟨s_A, s_B⟩ := s_
  try dsimp only at *
  exact OkA.unnilSI [4, 1] (fn_intro envOk fieldsOk mixed Try.func41 rfl fun κ X Y L Q m hQ => by
    conv => cbv
    refine r_callB m.sX (tyFont_ok f) (fun h1 => ?_) (fun h1 => ?_) <;> conv => cbv
    · have hc := okFont_codes h1
      try dsimp only at hc
      refine r_callB m.sX (diGood_ok (s_A, s_B)) (fun h2 => ?_) (fun h2 => ?_) <;> conv => cbv
      · have al := ask_len h2
        try dsimp only at al
        refine r_callB m.sX (tyWord_ok word) (fun h3 => ?_) (fun h3 => ?_) <;> conv => cbv
        · have wl := okWord_len h3
          try dsimp only at wl
          refine r_callF sbI m.sX (diSetI_ok f (s_A, s_B) word (by assumption) (by omega) (by omega)) fun v hv1A => ?_
          obtain ⟨⟨v1A, v1B⟩, v2⟩ := v
          conv => cbv
          try dsimp only at hv1
          have hv1 := hv1A
          exact hQ (.tup [.agg [.isl 4 (rows cBox v1A), .isl 1 (rows cStr v1B)], .bool v2]) (Eq.trans (by first | rfl | (simp only [sbI, cSetting, Ai.ice, ice1, ice0, List.map_cons, List.map_nil, Ai.unnilSI, unnilCI, unnilI, rows_nil]; done) | (simp only [lb, lbI, rows_cons, rows_nil, unnilT, unnil, unnilTI, unnilI]; done) | (simp only [lb, lbI, rows_cons, rows_nil, unnilT, unnil, unnilTI, unnilI]; rfl)) (congrArg (sbI) (show ((v1A, v1B), v2) = setWA f (s_A, s_B) word from by rw [setWA, if_pos (by simp [h1, h2, h3])]; exact hv1)))   -- leaf 1
        · exact hQ (.tup [.agg [.nil, .nil], .bool false]) (Eq.trans (by first | rfl | (simp only [sbI, cSetting, Ai.ice, ice1, ice0, List.map_cons, List.map_nil, Ai.unnilSI, unnilCI, unnilI, rows_nil]; done) | (simp only [lb, lbI, rows_cons, rows_nil, unnilT, unnil, unnilTI, unnilI]; done) | (simp only [lb, lbI, rows_cons, rows_nil, unnilT, unnil, unnilTI, unnilI]; rfl)) (congrArg (sbI) (show (([], []), false) = setWA f (s_A, s_B) word from by rw [setWA, if_neg (by simp [h3])])))   -- leaf 2
      · exact hQ (.tup [.agg [.nil, .nil], .bool false]) (Eq.trans (by first | rfl | (simp only [sbI, cSetting, Ai.ice, ice1, ice0, List.map_cons, List.map_nil, Ai.unnilSI, unnilCI, unnilI, rows_nil]; done) | (simp only [lb, lbI, rows_cons, rows_nil, unnilT, unnil, unnilTI, unnilI]; done) | (simp only [lb, lbI, rows_cons, rows_nil, unnilT, unnil, unnilTI, unnilI]; rfl)) (congrArg (sbI) (show (([], []), false) = setWA f (s_A, s_B) word from by rw [setWA, if_neg (by simp only [h2]; simp)])))   -- leaf 3
    · exact hQ (.tup [.agg [.nil, .nil], .bool false]) (Eq.trans (by first | rfl | (simp only [sbI, cSetting, Ai.ice, ice1, ice0, List.map_cons, List.map_nil, Ai.unnilSI, unnilCI, unnilI, rows_nil]; done) | (simp only [lb, lbI, rows_cons, rows_nil, unnilT, unnil, unnilTI, unnilI]; done) | (simp only [lb, lbI, rows_cons, rows_nil, unnilT, unnil, unnilTI, unnilI]; rfl)) (congrArg (sbI) (show (([], []), false) = setWA f (s_A, s_B) word from by rw [setWA, if_neg (by simp [h1])]))))   -- leaf 4

theorem TypesOfSetting_ok (s_ : Sett)  : OkA Try.prog 42 [.agg (cSetting s_)] (· = ib (typesSA s_)) := by
  obtain ⟨s_A, s_B⟩ := s_
  try dsimp only at *
  exact fn_intro envOk fieldsOk mixed Try.func42 rfl fun κ X Y L Q m hQ => by
    conv => cbv
    refine r_callB m.sX (IsSetting_ok (s_A, s_B)) (fun h1 => ?_) (fun h1 => ?_) <;> conv => cbv
    · obtain ⟨ca1, ca2, ca3⟩ := askedC_spec h1
      dsimp only at ca2 ca3
      have cb := cntS_bound ca2 s_A.length
      try dsimp only at cb
      rw [List.take_length] at cb
      have cn := case_len ca2
      try dsimp only at cn
      refine r_callF ib m.sX (TypesIn_ok s_A) fun v hn => ?_
      obtain ⟨n, v1⟩ := v
      conv => cbv
      try dsimp only at hn
      rw [typesA, if_pos ca2] at hn
      have en : n = cntS s_A := (Prod.mk.inj hn).1
      refine r_lenR m.sX fun n1 hn1 mn1 => ?_
      conv => cbv
      refine r_addf m.sX (by omega) (by omega) fun r1 hr1 => ?_
      conv => cbv
      exact hQ (.tup [.int .i64 r1, .bool true]) (Eq.trans (by first | rfl | (simp only [lb, lbI, rows_cons, rows_nil, unnilT, unnil, unnilTI, unnilI]; done) | (simp only [lb, lbI, rows_cons, rows_nil, unnilT, unnil, unnilTI, unnilI]; rfl)) (congrArg (ib) (show (r1, true) = typesSA (s_A, s_B) from by rw [typesSA, if_pos h1]; dsimp only; rw [hr1, en, hn1])))   -- leaf 1
    · exact hQ (.tup [.int .i64 0, .bool false]) (Eq.trans (by first | rfl | (simp only [lb, lbI, rows_cons, rows_nil, unnilT, unnil, unnilTI, unnilI]; done) | (simp only [lb, lbI, rows_cons, rows_nil, unnilT, unnil, unnilTI, unnilI]; rfl)) (congrArg (ib) (show (0, false) = typesSA (s_A, s_B) from by rw [typesSA, if_neg (by simp only [h1]; simp)])))   -- leaf 2

theorem specTypesOfSetting_ok (s_ : Sett)  : OkA Try.prog 43 [.agg (cSetting s_)] (· = ib (typesSA s_)) := by
  obtain ⟨s_A, s_B⟩ := s_
  try dsimp only at *
  exact fn_intro envOk fieldsOk mixed Try.func43 rfl fun κ X Y L Q m hQ => by
    conv => cbv
    refine r_callB m.sX (diGood_ok (s_A, s_B)) (fun h1 => ?_) (fun h1 => ?_) <;> conv => cbv
    · obtain ⟨ca1, ca2, ca3⟩ := askedC_spec h1
      dsimp only at ca2 ca3
      have cb := cntS_bound ca2 s_A.length
      try dsimp only at cb
      rw [List.take_length] at cb
      have cn := case_len ca2
      try dsimp only at cn
      refine r_draw m (by kernel_rfl) ?_
      conv => cbv
      refine r_callFS (PV.int .i64) m.sY (caSum_ok s_A (by first | rfl | assumption | omega | (simp only [List.length_append, List.length_cons, List.length_nil] at *; omega))) trivial fun r1 hr1 => ?_
      conv => cbv
      try dsimp only at hr1
      refine r_lenRS m.sY (by omega) fun n1 hn1 => ?_
      conv => cbv
      refine r_addf m.sY (by omega) (by omega) fun r2 hr2 => ?_
      conv => cbv
      exact hQ (.tup [.int .i64 r2, .bool true]) (Eq.trans (by first | rfl | (simp only [lb, lbI, rows_cons, rows_nil, unnilT, unnil, unnilTI, unnilI]; done) | (simp only [lb, lbI, rows_cons, rows_nil, unnilT, unnil, unnilTI, unnilI]; rfl)) (congrArg (ib) (show (r2, true) = typesSA (s_A, s_B) from by rw [typesSA, if_pos h1]; dsimp only; rw [hr2, hr1, hn1])))   -- leaf 1
    · exact hQ (.tup [.int .i64 0, .bool false]) (Eq.trans (by first | rfl | (simp only [lb, lbI, rows_cons, rows_nil, unnilT, unnil, unnilTI, unnilI]; done) | (simp only [lb, lbI, rows_cons, rows_nil, unnilT, unnil, unnilTI, unnilI]; rfl)) (congrArg (ib) (show (0, false) = typesSA (s_A, s_B) from by rw [typesSA, if_neg (by simp only [h1]; simp)])))   -- leaf 2

theorem WhatCanBeSet_ok (f : List FSort) (s_ : Sett) (words : List (List UInt8))  : OkA Try.prog 46 [.isl 2 (rows cSort f), .agg (cSetting s_), .isl 1 (rows cStr words)] (· = ib (canA f s_ words)) := by
  obtain ⟨s_A, s_B⟩ := s_
  try dsimp only at *
  exact fn_intro envOk fieldsOk mixed Try.func46 rfl fun κ X Y L Q m hQ => by
    conv => cbv
    refine r_callB m.sX (IsFont_ok f) (fun h1 => ?_) (fun h1 => ?_) <;> conv => cbv
    · have hc := okFont_codes h1
      try dsimp only at hc
      refine r_callB m.sX (IsSetting_ok (s_A, s_B)) (fun h2 => ?_) (fun h2 => ?_) <;> conv => cbv
      · refine r_callB m.sX (areWords_ok words) (fun h3 => ?_) (fun h3 => ?_) <;> conv => cbv
        · refine r_lenR m.sX fun n1 hn1 mn1 => ?_
          conv => cbv
          refine r_loopF (α := List Box × List (List UInt8) × Int) m 46 [0, 2, 25, 26, 27] [⟨4, 33, 0, 0, 0⟩] (fun σ => [(0, .isl 2 (rows cSort f)), (2, .isl 1 (rows cStr words)), (4, .optr 33 0 2 0 0), (25, .isl 1 (rows cStr words)), (26, .int .i64 n1), (27, .int .i64 σ.2.2)]) (fun σ => [(33, 0, .box [.isl 4 (rows cBox σ.1), .isl 1 (rows cStr σ.2.1)])])
            (fun σ => (0 ≤ σ.2.2) ∧ (σ.2.2 ≤ n1) ∧ (canA f (s_A, s_B) words = (canG f (σ.1, σ.2.1) (words.drop σ.2.2.toNat) σ.2.2, true)) ∧ (σ.2.1.length ≤ 1000)) (fun σ => (n1 - σ.2.2).toNat) (s_A, s_B, 0) ?_ ?_ ?_ ?_
          · cbv
          · cbv
          · exact ⟨(by (try dsimp only); first | omega | (simp only [List.length_nil]; omega) | (simp only [List.length_cons, List.length_nil]; omega)), (by (try dsimp only); first | omega | (simp only [List.length_nil]; omega) | (simp only [List.length_cons, List.length_nil]; omega)), (by (try dsimp only) <;> (rw [canA, if_pos (by simp [h1, h2, h3])]; rfl)), (by (try dsimp only) <;> (exact ask_len h2))⟩
          rintro ⟨sA, sB, i1⟩ ⟨lo1, hi1, q, ls⟩ E hE F hF
          dsimp only at lo1 hi1 q ls
          conv => cbv
          refine r_lss m.sX (fun h4 => ?_) (fun h4 => ?_) <;> conv => cbv
          · refine r_index m.sX (by omega) (by omega) fun w hw => ?_
            conv => cbv
            have mw := get_mem hw
            have dw := drop_cons hw
            have kw := take_snoc hw
            have jw : (i1 + 1).toNat = Int.toNat i1 + 1 := by omega
            have wl := okWord_len ((okWords_spec h3).1 _ mw)
            try dsimp only at wl
            refine r_callF sbI m.sX (setWordI_ok f (sA, sB) w (by assumption) (by omega) (by omega)) fun v hnextA => ?_
            obtain ⟨⟨nextA, nextB⟩, ok⟩ := v
            conv => cbv
            try dsimp only at hnext
            have hnext := hnextA
            rcases Bool.eq_false_or_eq_true ok with rfl | rfl <;> conv => cbv
            · have sl := setSA_len hnext
              try dsimp only at sl
              refine r_addf m.sX (by omega) (by omega) fun r1 hr1 => ?_
              conv => cbv
              try have tr1 : Int.toNat r1 = Int.toNat i1 + 1 := by omega
              refine hE _ (nextA, nextB, r1) ?_ ?_ ⟨(by (try dsimp only); first | omega | (simp only [List.length_nil]; omega) | (simp only [List.length_cons, List.length_nil]; omega)), (by (try dsimp only); first | omega | (simp only [List.length_nil]; omega) | (simp only [List.length_cons, List.length_nil]; omega)), (by (try dsimp only) <;> (rw [q, canG_drop _ hw, if_pos (by rw [← hnext]), ← hnext, tr1, show r1 = i1 + 1 by omega])), (by (try dsimp only) <;> (exact Nat.le_trans sl (by omega)))⟩ (by first | omega | (dsimp only; omega))
              · cbv
              · cbv
            · refine hF _ _ ?_
              conv => cbv
              exact hQ (.tup [.int .i64 i1, .bool true]) (Eq.trans (by first | rfl | (simp only [lb, lbI, rows_cons, rows_nil, unnilT, unnil, unnilTI, unnilI]; done) | (simp only [lb, lbI, rows_cons, rows_nil, unnilT, unnil, unnilTI, unnilI]; rfl)) (congrArg (ib) (show (i1, true) = canA f (s_A, s_B) words from by rw [q, canG_drop _ hw, if_neg (by rw [← hnext]; simp)])))   -- leaf 1
          · have dz_i1 := drop_end (xs := words) (i := Int.toNat i1) (by omega)
            have tz_i1 := take_end (xs := words) (i := Int.toNat i1) (by omega)
            refine hF _ _ ?_
            conv => cbv
            refine r_lenR m.sX fun n2 hn2 mn2 => ?_
            conv => cbv
            exact hQ (.tup [.int .i64 n2, .bool true]) (Eq.trans (by first | rfl | (simp only [lb, lbI, rows_cons, rows_nil, unnilT, unnil, unnilTI, unnilI]; done) | (simp only [lb, lbI, rows_cons, rows_nil, unnilT, unnil, unnilTI, unnilI]; rfl)) (congrArg (ib) (show (n2, true) = canA f (s_A, s_B) words from by rw [q, dz_i1, canG, show i1 = n2 by omega])))   -- leaf 2
        · exact hQ (.tup [.int .i64 0, .bool false]) (Eq.trans (by first | rfl | (simp only [lb, lbI, rows_cons, rows_nil, unnilT, unnil, unnilTI, unnilI]; done) | (simp only [lb, lbI, rows_cons, rows_nil, unnilT, unnil, unnilTI, unnilI]; rfl)) (congrArg (ib) (show (0, false) = canA f (s_A, s_B) words from by rw [canA, if_neg (by simp [h3])])))   -- leaf 3
      · exact hQ (.tup [.int .i64 0, .bool false]) (Eq.trans (by first | rfl | (simp only [lb, lbI, rows_cons, rows_nil, unnilT, unnil, unnilTI, unnilI]; done) | (simp only [lb, lbI, rows_cons, rows_nil, unnilT, unnil, unnilTI, unnilI]; rfl)) (congrArg (ib) (show (0, false) = canA f (s_A, s_B) words from by rw [canA, if_neg (by simp only [h2]; simp)])))   -- leaf 4
    · exact hQ (.tup [.int .i64 0, .bool false]) (Eq.trans (by first | rfl | (simp only [lb, lbI, rows_cons, rows_nil, unnilT, unnil, unnilTI, unnilI]; done) | (simp only [lb, lbI, rows_cons, rows_nil, unnilT, unnil, unnilTI, unnilI]; rfl)) (congrArg (ib) (show (0, false) = canA f (s_A, s_B) words from by rw [canA, if_neg (by simp [h1])])))   -- leaf 5

theorem specWhatCanBeSet_ok (f : List FSort) (s_ : Sett) (words : List (List UInt8))  : OkA Try.prog 56 [.isl 2 (rows cSort f), .agg (cSetting s_), .isl 1 (rows cStr words)] (· = ib (canA f s_ words)) := by
  obtain ⟨s_A, s_B⟩ := s_
  try dsimp only at *
  exact fn_intro envOk fieldsOk mixed Try.func56 rfl fun κ X Y L Q m hQ => by
    conv => cbv
    refine r_callB m.sX (tyFont_ok f) (fun h1 => ?_) (fun h1 => ?_) <;> conv => cbv
    · have hc := okFont_codes h1
      try dsimp only at hc
      refine r_callB m.sX (diGood_ok (s_A, s_B)) (fun h2 => ?_) (fun h2 => ?_) <;> conv => cbv
      · refine r_callB m.sX (tyWords_ok words) (fun h3 => ?_) (fun h3 => ?_) <;> conv => cbv
        · refine r_lenR m.sX fun n1 hn1 mn1 => ?_
          conv => cbv
          refine r_loopF (α := List Box × List (List UInt8) × Int) m 46 [0, 2, 25, 26, 27] [⟨4, 33, 0, 0, 0⟩] (fun σ => [(0, .isl 2 (rows cSort f)), (2, .isl 1 (rows cStr words)), (4, .optr 33 0 2 0 0), (25, .isl 1 (rows cStr words)), (26, .int .i64 n1), (27, .int .i64 σ.2.2)]) (fun σ => [(33, 0, .box [.isl 4 (rows cBox σ.1), .isl 1 (rows cStr σ.2.1)])])
            (fun σ => (0 ≤ σ.2.2) ∧ (σ.2.2 ≤ n1) ∧ (canA f (s_A, s_B) words = (canG f (σ.1, σ.2.1) (words.drop σ.2.2.toNat) σ.2.2, true)) ∧ (σ.2.1.length ≤ 1000)) (fun σ => (n1 - σ.2.2).toNat) (s_A, s_B, 0) ?_ ?_ ?_ ?_
          · cbv
          · cbv
          · exact ⟨(by (try dsimp only); first | omega | (simp only [List.length_nil]; omega) | (simp only [List.length_cons, List.length_nil]; omega)), (by (try dsimp only); first | omega | (simp only [List.length_nil]; omega) | (simp only [List.length_cons, List.length_nil]; omega)), (by (try dsimp only) <;> (rw [canA, if_pos (by simp [h1, h2, h3])]; rfl)), (by (try dsimp only) <;> (exact ask_len h2))⟩
          rintro ⟨sA, sB, i1⟩ ⟨lo1, hi1, q, ls⟩ E hE F hF
          dsimp only at lo1 hi1 q ls
          conv => cbv
          refine r_lss m.sX (fun h4 => ?_) (fun h4 => ?_) <;> conv => cbv
          · refine r_index m.sX (by omega) (by omega) fun w hw => ?_
            conv => cbv
            have mw := get_mem hw
            have dw := drop_cons hw
            have kw := take_snoc hw
            have jw : (i1 + 1).toNat = Int.toNat i1 + 1 := by omega
            have wl := okWord_len ((okWords_spec h3).1 _ mw)
            try dsimp only at wl
            refine r_callF sbI m.sX (diSetI_ok f (sA, sB) w (by assumption) (by omega) (by omega)) fun v hnextA => ?_
            obtain ⟨⟨nextA, nextB⟩, ok⟩ := v
            conv => cbv
            try dsimp only at hnext
            have hnext := hnextA
            rcases Bool.eq_false_or_eq_true ok with rfl | rfl <;> conv => cbv
            · have sl := setSA_len hnext
              try dsimp only at sl
              refine r_addf m.sX (by omega) (by omega) fun r1 hr1 => ?_
              conv => cbv
              try have tr1 : Int.toNat r1 = Int.toNat i1 + 1 := by omega
              refine hE _ (nextA, nextB, r1) ?_ ?_ ⟨(by (try dsimp only); first | omega | (simp only [List.length_nil]; omega) | (simp only [List.length_cons, List.length_nil]; omega)), (by (try dsimp only); first | omega | (simp only [List.length_nil]; omega) | (simp only [List.length_cons, List.length_nil]; omega)), (by (try dsimp only) <;> (rw [q, canG_drop _ hw, if_pos (by rw [← hnext]), ← hnext, tr1, show r1 = i1 + 1 by omega])), (by (try dsimp only) <;> (exact Nat.le_trans sl (by omega)))⟩ (by first | omega | (dsimp only; omega))
              · cbv
              · cbv
            · refine hF _ _ ?_
              conv => cbv
              exact hQ (.tup [.int .i64 i1, .bool true]) (Eq.trans (by first | rfl | (simp only [lb, lbI, rows_cons, rows_nil, unnilT, unnil, unnilTI, unnilI]; done) | (simp only [lb, lbI, rows_cons, rows_nil, unnilT, unnil, unnilTI, unnilI]; rfl)) (congrArg (ib) (show (i1, true) = canA f (s_A, s_B) words from by rw [q, canG_drop _ hw, if_neg (by rw [← hnext]; simp)])))   -- leaf 1
          · have dz_i1 := drop_end (xs := words) (i := Int.toNat i1) (by omega)
            have tz_i1 := take_end (xs := words) (i := Int.toNat i1) (by omega)
            refine hF _ _ ?_
            conv => cbv
            refine r_lenR m.sX fun n2 hn2 mn2 => ?_
            conv => cbv
            exact hQ (.tup [.int .i64 n2, .bool true]) (Eq.trans (by first | rfl | (simp only [lb, lbI, rows_cons, rows_nil, unnilT, unnil, unnilTI, unnilI]; done) | (simp only [lb, lbI, rows_cons, rows_nil, unnilT, unnil, unnilTI, unnilI]; rfl)) (congrArg (ib) (show (n2, true) = canA f (s_A, s_B) words from by rw [q, dz_i1, canG, show i1 = n2 by omega])))   -- leaf 2
        · exact hQ (.tup [.int .i64 0, .bool false]) (Eq.trans (by first | rfl | (simp only [lb, lbI, rows_cons, rows_nil, unnilT, unnil, unnilTI, unnilI]; done) | (simp only [lb, lbI, rows_cons, rows_nil, unnilT, unnil, unnilTI, unnilI]; rfl)) (congrArg (ib) (show (0, false) = canA f (s_A, s_B) words from by rw [canA, if_neg (by simp [h3])])))   -- leaf 3
      · exact hQ (.tup [.int .i64 0, .bool false]) (Eq.trans (by first | rfl | (simp only [lb, lbI, rows_cons, rows_nil, unnilT, unnil, unnilTI, unnilI]; done) | (simp only [lb, lbI, rows_cons, rows_nil, unnilT, unnil, unnilTI, unnilI]; rfl)) (congrArg (ib) (show (0, false) = canA f (s_A, s_B) words from by rw [canA, if_neg (by simp only [h2]; simp)])))   -- leaf 4
    · exact hQ (.tup [.int .i64 0, .bool false]) (Eq.trans (by first | rfl | (simp only [lb, lbI, rows_cons, rows_nil, unnilT, unnil, unnilTI, unnilI]; done) | (simp only [lb, lbI, rows_cons, rows_nil, unnilT, unnil, unnilTI, unnilI]; rfl)) (congrArg (ib) (show (0, false) = canA f (s_A, s_B) words from by rw [canA, if_neg (by simp [h1])])))   -- leaf 5

theorem DistributeAll_ok (s_ : Sett)  : OkA Try.prog 49 [.agg (cSetting s_)] (· = sbI (distA s_)) := by
  obtain ⟨s_A, s_B⟩ := s_
  try dsimp only at *
  exact OkA.unnilSI [4, 1] (fn_intro envOk fieldsOk mixed Try.func49 rfl fun κ X Y L Q m hQ => by
    conv => cbv
    refine r_callF (lb 83 4 cBox) m.sX (PutTypes_ok s_A s_B) fun v hboxes => ?_
    obtain ⟨boxes, ok⟩ := v
    conv => cbv
    try dsimp only at hboxes
    rcases Bool.eq_false_or_eq_true ok with rfl | rfl <;> conv => cbv
    · exact hQ (.tup [.agg [.isl 4 (rows cBox boxes), .isl 1 []], .bool true]) (Eq.trans (by first | rfl | (simp only [sbI, cSetting, Ai.ice, ice1, ice0, List.map_cons, List.map_nil, Ai.unnilSI, unnilCI, unnilI, rows_nil]; done) | (simp only [lb, lbI, rows_cons, rows_nil, unnilT, unnil, unnilTI, unnilI]; done) | (simp only [lb, lbI, rows_cons, rows_nil, unnilT, unnil, unnilTI, unnilI]; rfl)) (congrArg (sbI) (show ((boxes, []), true) = distA (s_A, s_B) from by exact distA_yes hboxes)))   -- leaf 1
    · exact hQ (.tup [.agg [.nil, .nil], .bool false]) (Eq.trans (by first | rfl | (simp only [sbI, cSetting, Ai.ice, ice1, ice0, List.map_cons, List.map_nil, Ai.unnilSI, unnilCI, unnilI, rows_nil]; done) | (simp only [lb, lbI, rows_cons, rows_nil, unnilT, unnil, unnilTI, unnilI]; done) | (simp only [lb, lbI, rows_cons, rows_nil, unnilT, unnil, unnilTI, unnilI]; rfl)) (congrArg (sbI) (show (([], []), false) = distA (s_A, s_B) from by exact distA_no hboxes))))   -- leaf 2

theorem specDistributeAll_ok (s_ : Sett)  : OkA Try.prog 50 [.agg (cSetting s_)] (· = sbI (distA s_)) := by
  obtain ⟨s_A, s_B⟩ := s_
  try dsimp only at *
  exact OkA.unnilSI [4, 1] (fn_intro envOk fieldsOk mixed Try.func50 rfl fun κ X Y L Q m hQ => by
    conv => cbv
    refine r_callB m.sX (diGood_ok (s_A, s_B)) (fun h1 => ?_) (fun h1 => ?_) <;> conv => cbv
    · refine r_callF (lb 83 4 cBox) m.sX (caMove_ok s_A s_B 1 (by first | rfl | assumption | omega | (simp only [List.length_append, List.length_cons, List.length_nil] at *; omega)) (by first | rfl | assumption | omega | (simp only [List.length_append, List.length_cons, List.length_nil] at *; omega))) fun v hboxes => ?_
      obtain ⟨boxes, ok⟩ := v
      conv => cbv
      try dsimp only at hboxes
      rcases Bool.eq_false_or_eq_true ok with rfl | rfl <;> conv => cbv
      · exact hQ (.tup [.agg [.isl 4 (rows cBox boxes), .nil], .bool true]) (Eq.trans (by first | rfl | (simp only [sbI, cSetting, Ai.ice, ice1, ice0, List.map_cons, List.map_nil, Ai.unnilSI, unnilCI, unnilI, rows_nil]; done) | (simp only [lb, lbI, rows_cons, rows_nil, unnilT, unnil, unnilTI, unnilI]; done) | (simp only [lb, lbI, rows_cons, rows_nil, unnilT, unnil, unnilTI, unnilI]; rfl)) (congrArg (sbI) (show ((boxes, []), true) = distA (s_A, s_B) from by exact distA_yes hboxes)))   -- leaf 1
      · exact hQ (.tup [.agg [.nil, .nil], .bool false]) (Eq.trans (by first | rfl | (simp only [sbI, cSetting, Ai.ice, ice1, ice0, List.map_cons, List.map_nil, Ai.unnilSI, unnilCI, unnilI, rows_nil]; done) | (simp only [lb, lbI, rows_cons, rows_nil, unnilT, unnil, unnilTI, unnilI]; done) | (simp only [lb, lbI, rows_cons, rows_nil, unnilT, unnil, unnilTI, unnilI]; rfl)) (congrArg (sbI) (show (([], []), false) = distA (s_A, s_B) from by exact distA_no hboxes)))   -- leaf 2
    · exact hQ (.tup [.agg [.nil, .nil], .bool false]) (Eq.trans (by first | rfl | (simp only [sbI, cSetting, Ai.ice, ice1, ice0, List.map_cons, List.map_nil, Ai.unnilSI, unnilCI, unnilI, rows_nil]; done) | (simp only [lb, lbI, rows_cons, rows_nil, unnilT, unnil, unnilTI, unnilI]; done) | (simp only [lb, lbI, rows_cons, rows_nil, unnilT, unnil, unnilTI, unnilI]; rfl)) (congrArg (sbI) (show (([], []), false) = distA (s_A, s_B) from by exact distA_no2 h1))))   -- leaf 3

theorem DistributeType_ok (s_ : Sett) (at_ : Int) (into : List UInt8)  : OkA Try.prog 53 [.agg (cSetting s_), .int .i64 at_, .str into] (· = sbI (distT s_ at_ into)) := by
  obtain ⟨s_A, s_B⟩ := s_
  try dsimp only at *
  exact OkA.unnilSI [4, 1] (fn_intro envOk fieldsOk mixed Try.func53 rfl fun κ X Y L Q m hQ => by
    conv => cbv
    refine r_callB m.sX (IsSetting_ok (s_A, s_B)) (fun h1 => ?_) (fun h1 => ?_) <;> conv => cbv
    · have al := ask_len h1
      try dsimp only at al
      refine r_lenR m.sX fun n1 hn1 mn1 => ?_
      conv => cbv
      refine r_subf m.sX (by omega) (by omega) fun r1 hr1 => ?_
      conv => cbv
      refine r_callB m.sX (within_ok at_ 0 r1) (fun h2 => ?_) (fun h2 => ?_) <;> conv => cbv
      · have ib2 := inB_spec h2
        try dsimp only at ib2
        refine .inl (r_callFO (lb 83 4 cBox) m.sX ((PutTypes1_ok s_A into).ok (flat_lb flat_cBox)) fun v hboxes => ?_)
        obtain ⟨boxes, ok⟩ := v
        conv => cbv
        try dsimp only at hboxes
        rcases Bool.eq_false_or_eq_true ok with rfl | rfl <;> conv => cbv
        · refine r_draw m (by kernel_rfl) ?_
          conv => cbv
          refine r_islice (i := 0) (j := at_) m.sY (by omega) (by omega) (by omega) fun zs1 hzs1 => ?_   -- zs1 = s_B[None:at_]
          have lzs1 : (zs1.length : Int) = at_ - 0 := by rw [hzs1]; first | done | (simp; done) | (simp; omega)
          conv => cbv
          refine r_append0R m.sY (by first | omega | (dsimp only; omega)) (by first | omega | (dsimp only; omega)) fun zs2 hzs2 => ?_
          conv => cbv
          have lzs2 : (zs2.length : Int) = zs1.length := by rw [hzs2]; first | done | (simp; done) | (simp; omega)
          refine r_addf m.sY (by omega) (by omega) fun r2 hr2 => ?_
          conv => cbv
          refine r_islice' (i := r2) m.sY (by omega) (by omega) fun zs3 hzs3 => ?_   -- zs3 = s_B[r2:None]
          have lzs3 : (zs3.length : Int) = s_B.length - r2 := by rw [hzs3]; first | done | (simp; done) | (simp; omega)
          conv => cbv
          refine r_append m.sY (by first | omega | (dsimp only; omega)) (by first | omega | (dsimp only; omega)) fun zs4 hzs4 => ?_
          conv => cbv
          have lzs4 : (zs4.length : Int) = zs2.length + zs3.length := by rw [hzs4]; first | done | (simp; done) | (simp; omega)
          exact hQ (.tup [.agg [.isl 4 (rows cBox boxes), .isl 1 (rows cStr zs4)], .bool true]) (Eq.trans (by first | rfl | (simp only [sbI, cSetting, Ai.ice, ice1, ice0, List.map_cons, List.map_nil, Ai.unnilSI, unnilCI, unnilI, rows_nil]; done) | (simp only [lb, lbI, rows_cons, rows_nil, unnilT, unnil, unnilTI, unnilI]; done) | (simp only [lb, lbI, rows_cons, rows_nil, unnilT, unnil, unnilTI, unnilI]; rfl)) (congrArg (sbI) (show ((boxes, zs4), true) = distT (s_A, s_B) at_ into from by exact distT_yes h1 (by rw [← hn1, ← hr1]; exact h2) hboxes (by rw [hzs4, hzs2, hzs1, hzs3, show r2 = at_ + 1 by omega]; simp))))   -- leaf 1
        · exact hQ (.tup [.agg [.nil, .nil], .bool false]) (Eq.trans (by first | rfl | (simp only [sbI, cSetting, Ai.ice, ice1, ice0, List.map_cons, List.map_nil, Ai.unnilSI, unnilCI, unnilI, rows_nil]; done) | (simp only [lb, lbI, rows_cons, rows_nil, unnilT, unnil, unnilTI, unnilI]; done) | (simp only [lb, lbI, rows_cons, rows_nil, unnilT, unnil, unnilTI, unnilI]; rfl)) (congrArg (sbI) (show (([], []), false) = distT (s_A, s_B) at_ into from by exact distT_no hboxes)))   -- leaf 2
      · exact hQ (.tup [.agg [.nil, .nil], .bool false]) (Eq.trans (by first | rfl | (simp only [sbI, cSetting, Ai.ice, ice1, ice0, List.map_cons, List.map_nil, Ai.unnilSI, unnilCI, unnilI, rows_nil]; done) | (simp only [lb, lbI, rows_cons, rows_nil, unnilT, unnil, unnilTI, unnilI]; done) | (simp only [lb, lbI, rows_cons, rows_nil, unnilT, unnil, unnilTI, unnilI]; rfl)) (congrArg (sbI) (show (([], []), false) = distT (s_A, s_B) at_ into from by exact distT_no2 (by rw [← hn1, ← hr1]; exact h2))))   -- leaf 3
    · exact hQ (.tup [.agg [.nil, .nil], .bool false]) (Eq.trans (by first | rfl | (simp only [sbI, cSetting, Ai.ice, ice1, ice0, List.map_cons, List.map_nil, Ai.unnilSI, unnilCI, unnilI, rows_nil]; done) | (simp only [lb, lbI, rows_cons, rows_nil, unnilT, unnil, unnilTI, unnilI]; done) | (simp only [lb, lbI, rows_cons, rows_nil, unnilT, unnil, unnilTI, unnilI]; rfl)) (congrArg (sbI) (show (([], []), false) = distT (s_A, s_B) at_ into from by exact distT_no1 h1))))   -- leaf 4

theorem specDistributeType_ok (s_ : Sett) (at_ : Int) (into : List UInt8)  : OkA Try.prog 54 [.agg (cSetting s_), .int .i64 at_, .str into] (· = sbI (distT s_ at_ into)) := by
  obtain ⟨s_A, s_B⟩ := s_
  try dsimp only at *
  exact OkA.unnilSI [4, 1] (fn_intro envOk fieldsOk mixed Try.func54 rfl fun κ X Y L Q m hQ => by
    conv => cbv
    refine r_callB m.sX (diGood_ok (s_A, s_B)) (fun h1 => ?_) (fun h1 => ?_) <;> conv => cbv
    · have al := ask_len h1
      try dsimp only at al
      refine r_lenR m.sX fun n1 hn1 mn1 => ?_
      conv => cbv
      refine r_subf m.sX (by omega) (by omega) fun r1 hr1 => ?_
      conv => cbv
      refine r_callB m.sX (l1In_ok at_ 0 r1) (fun h2 => ?_) (fun h2 => ?_) <;> conv => cbv
      · have ib2 := inB_spec h2
        try dsimp only at ib2
        refine r_callF (PV.int .i64) m.sX (caFind_ok s_A into) fun r2 hr2 => ?_
        conv => cbv
        try dsimp only at hr2
        refine r_lss m.sX (fun h3 => ?_) (fun h3 => ?_) <;> conv => cbv
        · exact hQ (.tup [.agg [.nil, .nil], .bool false]) (Eq.trans (by first | rfl | (simp only [sbI, cSetting, Ai.ice, ice1, ice0, List.map_cons, List.map_nil, Ai.unnilSI, unnilCI, unnilI, rows_nil]; done) | (simp only [lb, lbI, rows_cons, rows_nil, unnilT, unnil, unnilTI, unnilI]; done) | (simp only [lb, lbI, rows_cons, rows_nil, unnilT, unnil, unnilTI, unnilI]; rfl)) (congrArg (sbI) (show (([], []), false) = distT (s_A, s_B) at_ into from by exact distT_no3 (by omega))))   -- leaf 1
        · have a1 := asked_one h1 (w := into) (by dsimp only; omega)
          try dsimp only at a1
          refine .inl (r_callFO (lb 83 4 cBox) m.sX ((caMove1_ok s_A into a1).ok (flat_lb flat_cBox)) fun v hboxes => ?_)
          obtain ⟨boxes, ok⟩ := v
          conv => cbv
          try dsimp only at hboxes
          rcases Bool.eq_false_or_eq_true ok with rfl | rfl <;> conv => cbv
          · refine r_draw m (by kernel_rfl) ?_
            conv => cbv
            refine r_islice (i := 0) (j := at_) m.sY (by omega) (by omega) (by omega) fun zs1 hzs1 => ?_   -- zs1 = s_B[None:at_]
            have lzs1 : (zs1.length : Int) = at_ - 0 := by rw [hzs1]; first | done | (simp; done) | (simp; omega)
            conv => cbv
            refine r_callFS (fun l => PV.fr _ _ (rows _ l)) m.sY (l1OwnS_ok zs1 (by first | rfl | assumption | omega | (simp only [List.length_append, List.length_cons, List.length_nil] at *; omega))) trivial fun v1 hv1 => ?_
            conv => cbv
            try dsimp only at hv1
            have lv1 : v1.length = zs1.length := by rw [hv1]
            refine r_addf m.sY (by omega) (by omega) fun r3 hr3 => ?_
            conv => cbv
            refine r_islice' (i := r3) m.sY (by omega) (by omega) fun zs2 hzs2 => ?_   -- zs2 = s_B[r3:None]
            have lzs2 : (zs2.length : Int) = s_B.length - r3 := by rw [hzs2]; first | done | (simp; done) | (simp; omega)
            conv => cbv
            refine r_append m.sY (by first | omega | (dsimp only; omega)) (by first | omega | (dsimp only; omega)) fun zs3 hzs3 => ?_
            conv => cbv
            have lzs3 : (zs3.length : Int) = v1.length + zs2.length := by rw [hzs3]; first | done | (simp; done) | (simp; omega)
            exact hQ (.tup [.agg [.isl 4 (rows cBox boxes), .isl 1 (rows cStr zs3)], .bool true]) (Eq.trans (by first | rfl | (simp only [sbI, cSetting, Ai.ice, ice1, ice0, List.map_cons, List.map_nil, Ai.unnilSI, unnilCI, unnilI, rows_nil]; done) | (simp only [lb, lbI, rows_cons, rows_nil, unnilT, unnil, unnilTI, unnilI]; done) | (simp only [lb, lbI, rows_cons, rows_nil, unnilT, unnil, unnilTI, unnilI]; rfl)) (congrArg (sbI) (show ((boxes, zs3), true) = distT (s_A, s_B) at_ into from by exact distT_yes h1 (by rw [← hn1, ← hr1]; exact h2) hboxes (by rw [hzs3, hv1, hzs1, hzs2, show r3 = at_ + 1 by omega]; simp))))   -- leaf 2
          · exact hQ (.tup [.agg [.nil, .nil], .bool false]) (Eq.trans (by first | rfl | (simp only [sbI, cSetting, Ai.ice, ice1, ice0, List.map_cons, List.map_nil, Ai.unnilSI, unnilCI, unnilI, rows_nil]; done) | (simp only [lb, lbI, rows_cons, rows_nil, unnilT, unnil, unnilTI, unnilI]; done) | (simp only [lb, lbI, rows_cons, rows_nil, unnilT, unnil, unnilTI, unnilI]; rfl)) (congrArg (sbI) (show (([], []), false) = distT (s_A, s_B) at_ into from by exact distT_no hboxes)))   -- leaf 3
      · exact hQ (.tup [.agg [.nil, .nil], .bool false]) (Eq.trans (by first | rfl | (simp only [sbI, cSetting, Ai.ice, ice1, ice0, List.map_cons, List.map_nil, Ai.unnilSI, unnilCI, unnilI, rows_nil]; done) | (simp only [lb, lbI, rows_cons, rows_nil, unnilT, unnil, unnilTI, unnilI]; done) | (simp only [lb, lbI, rows_cons, rows_nil, unnilT, unnil, unnilTI, unnilI]; rfl)) (congrArg (sbI) (show (([], []), false) = distT (s_A, s_B) at_ into from by exact distT_no2 (by rw [← hn1, ← hr1]; exact h2))))   -- leaf 4
    · exact hQ (.tup [.agg [.nil, .nil], .bool false]) (Eq.trans (by first | rfl | (simp only [sbI, cSetting, Ai.ice, ice1, ice0, List.map_cons, List.map_nil, Ai.unnilSI, unnilCI, unnilI, rows_nil]; done) | (simp only [lb, lbI, rows_cons, rows_nil, unnilT, unnil, unnilTI, unnilI]; done) | (simp only [lb, lbI, rows_cons, rows_nil, unnilT, unnil, unnilTI, unnilI]; rfl)) (congrArg (sbI) (show (([], []), false) = distT (s_A, s_B) at_ into from by exact distT_no1 h1))))   -- leaf 5


/- Contracts of what the law on settings draws. -/
theorem sets_set {f : List FSort} (h : ∀ x ∈ f, -100 ≤ x.2 ∧ x.2 ≤ 100) {y : FSort} (k : Nat) (hy : -100 ≤ y.2 ∧ y.2 ≤ 100) : ∀ x ∈ f.set k y, -100 ≤ x.2 ∧ x.2 ≤ 100 := fun x hx => by
  rcases List.mem_or_eq_of_mem_set hx with hx | rfl
  · exact h x hx
  · exact hy
theorem lens_app {l : List (List UInt8)} (h : ∀ w ∈ l, w.length ≤ 20) {y : List UInt8} (hy : y.length ≤ 20) : ∀ w ∈ l ++ [y], w.length ≤ 20 := fun x hx => by
  rcases List.mem_append.1 hx with hx | hx
  · exact h x hx
  · rw [List.mem_singleton.1 hx]; exact hy
theorem lens_set {l : List (List UInt8)} (h : ∀ w ∈ l, w.length ≤ 20) {y : List UInt8} (k : Nat) (hy : y.length ≤ 20) : ∀ w ∈ l.set k y, w.length ≤ 20 := fun x hx => by
  rcases List.mem_or_eq_of_mem_set hx with hx | rfl
  · exact h x hx
  · exact hy
theorem cAnyFont_ok (code : List Int) (b0 t0 : Int)  (h : CurIn code) (h0 : 0 ≤ b0) (hk : b0 ≤ 899999999999870000)  : OkM Try.prog 105 (cCur code b0 t0) [] (fun r cs => ∃ (q : List FSort), r = .fr 140 2 (rows cSort q) ∧ CurTo code b0 130 cs ∧ ((q.length : Int) ≤ 40) ∧ (∀ x ∈ q, -100 ≤ x.2 ∧ x.2 ≤ 100)) :=
  OkM.unnil 140 2 (fnM_intro envOk fieldsOk mixed Try.func105 rfl fun κ X Y L Q m hQ => by
    conv => cbv
    refine r_mcall m.sX (cFontC_ok code b0 t0 h (by omega) (by omega)) ?_
    rintro _ _ ⟨f, rfl, ⟨a1, s1, rfl, ea1, fa1⟩, bf_1, bf_2, bf_3, bf_4⟩
    conv => cbv
    refine r_lenR m.sX fun n1 hn1 mn1 => ?_
    conv => cbv
    refine r_mcall m.sX (cPick_ok code a1 s1 n1 h (by omega) (by omega)) ?_
    rintro _ _ ⟨k, rfl, ⟨a2, s2, rfl, ea2, fa2⟩, bk, ck, dk⟩
    conv => cbv
    refine r_mcall m.sX (cPick_ok code a2 s2 30 h (by omega) (by omega)) ?_
    rintro _ _ ⟨q1, rfl, ⟨a3, s3, rfl, ea3, fa3⟩, bq1, cq1, dq1⟩
    conv => cbv
    refine r_eql m.sX (fun h1 => ?_) (fun h1 => ?_) <;> conv => cbv
    · refine r_mcall m.sX (cOfL_ok code a3 s3 ([([] : List UInt8), ([65] : List UInt8), ([97, 98, 99, 100] : List UInt8), ([97] : List UInt8), ([122, 122, 122] : List UInt8)]) h (by omega) (by omega) (by first | rfl | assumption | omega | (simp only [List.length_append, List.length_cons, List.length_nil] at *; omega)) (by first | rfl | assumption | omega | (simp only [List.length_append, List.length_cons, List.length_nil] at *; omega))) ?_
      rintro _ _ ⟨q2, rfl, ⟨a4, s4, rfl, ea4, fa4⟩, bq2_1⟩
      conv => cbv
      refine r_oindex m.sX (by omega) (by omega) ?_
      conv => cbv
      obtain ⟨⟨y1A, y1B⟩, hy1⟩ := get_ex (xs := f) (i := Int.toNat k) (by omega)
      refine r_ostore (l := Int.toNat k) (q2, y1B) m.sX hy1 (Nat.le_of_ble_eq_true rfl) rfl fun zs1 hzs1 => ?_   -- zs1 = f.set k (q2, y1B)
      have lzs1 : (zs1.length : Int) = f.length := by rw [hzs1]; first | done | (simp; done) | (simp; omega)
      conv => cbv
      exact hQ (.fr 140 2 (rows cSort zs1)) (cCur code a4 s4) ⟨zs1, rfl, ⟨a4, s4, rfl, by omega, by omega⟩, (by first | omega | assumption | (simp; done) | (rw [hzs1]; exact sets_set bf_3 _ (by have z := bf_3 _ (List.mem_of_getElem? hy1); exact z)) | (rw [hzs2]; exact sets_set bf_3 _ (by dsimp only; omega)) | (simp [*]; done) | (simp at *; omega)), (by first | omega | assumption | (simp; done) | (rw [hzs1]; exact sets_set bf_3 _ (by have z := bf_3 _ (List.mem_of_getElem? hy1); exact z)) | (rw [hzs2]; exact sets_set bf_3 _ (by dsimp only; omega)) | (simp [*]; done) | (simp at *; omega))⟩   -- leaf 1
    · refine r_eql m.sX (fun h2 => ?_) (fun h2 => ?_) <;> conv => cbv
      · refine r_mcall m.sX (cAmong_ok code a3 s3 ([0, 1, 54, 55, -1]) (by simp) h (by omega) (by omega)) ?_
        rintro _ _ ⟨q3, rfl, ⟨a5, s5, rfl, ea5, fa5⟩, bq3⟩
        simp only [List.mem_cons, List.not_mem_nil, or_false] at bq3
        conv => cbv
        refine r_oindex m.sX (by omega) (by omega) ?_
        conv => cbv
        obtain ⟨⟨y2A, y2B⟩, hy2⟩ := get_ex (xs := f) (i := Int.toNat k) (by omega)
        refine r_ostore (l := Int.toNat k) (y2A, q3) m.sX hy2 (Nat.le_of_ble_eq_true rfl) rfl fun zs2 hzs2 => ?_   -- zs2 = f.set k (y2A, q3)
        have lzs2 : (zs2.length : Int) = f.length := by rw [hzs2]; first | done | (simp; done) | (simp; omega)
        conv => cbv
        exact hQ (.fr 140 2 (rows cSort zs2)) (cCur code a5 s5) ⟨zs2, rfl, ⟨a5, s5, rfl, by omega, by omega⟩, (by first | omega | assumption | (simp; done) | (rw [hzs1]; exact sets_set bf_3 _ (by have z := bf_3 _ (List.mem_of_getElem? hy1); exact z)) | (rw [hzs2]; exact sets_set bf_3 _ (by dsimp only; omega)) | (simp [*]; done) | (simp at *; omega)), (by first | omega | assumption | (simp; done) | (rw [hzs1]; exact sets_set bf_3 _ (by have z := bf_3 _ (List.mem_of_getElem? hy1); exact z)) | (rw [hzs2]; exact sets_set bf_3 _ (by dsimp only; omega)) | (simp [*]; done) | (simp at *; omega))⟩   -- leaf 2
      · refine r_eql m.sX (fun h3 => ?_) (fun h3 => ?_) <;> conv => cbv
        · exact hQ (.nil) (cCur code a3 s3) ⟨[], (by first | rfl | (simp only [rows_nil]; rfl) | (simp only [rows_cons, rows_nil]; rfl)), ⟨a3, s3, rfl, by omega, by omega⟩, (by first | omega | assumption | (simp; done) | (rw [hzs1]; exact sets_set bf_3 _ (by have z := bf_3 _ (List.mem_of_getElem? hy1); exact z)) | (rw [hzs2]; exact sets_set bf_3 _ (by dsimp only; omega)) | (simp [*]; done) | (simp at *; omega)), (by first | omega | assumption | (simp; done) | (rw [hzs1]; exact sets_set bf_3 _ (by have z := bf_3 _ (List.mem_of_getElem? hy1); exact z)) | (rw [hzs2]; exact sets_set bf_3 _ (by dsimp only; omega)) | (simp [*]; done) | (simp at *; omega))⟩   -- leaf 3
        · refine r_eql m.sX (fun h4 => ?_) (fun h4 => ?_) <;> conv => cbv
          · refine r_mcall m.sX (cPick_ok code a3 s3 2 h (by omega) (by omega)) ?_
            rintro _ _ ⟨q4, rfl, ⟨a6, s6, rfl, ea6, fa6⟩, bq4, cq4, dq4⟩
            conv => cbv
            refine r_addf m.sX (by omega) (by omega) fun n hn => ?_
            conv => cbv
            refine r_loopF (α := List FSort) m 60 [5] [⟨0, 1, 0, 0, 0⟩, ⟨3, 25, 140, 2, 0⟩] (fun σ => [(0, .optr 1 0 0 0 0), (3, .osl 25 0), (5, .int .i64 n)]) (fun σ => [(1, 0, .box (cCur code a6 s6)), (25, 0, .row 140 2 (rows cSort σ))])
              (fun σ => ((σ.length : Int) ≤ n) ∧ (∀ x ∈ σ, -100 ≤ x.2 ∧ x.2 ≤ 100)) (fun σ => (n - (σ.length : Int)).toNat) ([]) ?_ ?_ ?_ ?_
            · cbv
            · (try dsimp only); (try simp only [rows_cons, rows_nil]); cbv
            · exact ⟨(by (try dsimp only); first | omega | (simp only [List.length_nil]; omega) | (simp only [List.length_cons, List.length_nil]; omega)), (by (try dsimp only) <;> (intro x hx; cases hx))⟩
            rintro f_2 ⟨ll1, fs⟩ E hE F hF
            conv => cbv
            refine r_lenR m.sX fun n2 hn2 mn2 => ?_
            conv => cbv
            refine r_lss m.sX (fun h5 => ?_) (fun h5 => ?_) <;> conv => cbv
            · refine r_lenR m.sX fun n3 hn3 mn3 => ?_
              conv => cbv
              first | refine r_divf m.sX (by omega) (by omega) fun r1 hr1 br1 => ?_ | refine r_tdivf m.sX (by omega) (by omega) fun r1 hr1 br1 => ?_
              conv => cbv
              refine r_addf m.sX (by omega) (by omega) fun r2 hr2 => ?_
              conv => cbv
              refine r_conv m.sX fun r3 hr3 => ?_   -- r3 = uint8 of r2
              conv => cbv
              refine r_lenR m.sX fun n4 hn4 mn4 => ?_
              conv => cbv
              refine r_modf m.sX (by omega) (by omega) fun r4 hr4 br4 => ?_
              conv => cbv
              refine r_addf m.sX (by omega) (by omega) fun r5 hr5 => ?_
              conv => cbv
              refine r_conv m.sX fun r6 hr6 => ?_   -- r6 = uint8 of r5
              conv => cbv
              refine r_tostr ([r3, r6] : List Int) m.sX rfl fun s7 hs7 => ?_   -- s7 = string of bytes
              have ls7 : (s7.length : Int) = 2 := by rw [hs7]; rfl
              conv => cbv
              refine r_append1 ((s7, 9)) m.sX rfl (by first | omega | (dsimp only; omega)) (by first | omega | (dsimp only; omega)) fun f_3 hf_3 => ?_
              conv => cbv
              have lf_3 : (f_3.length : Int) = f_2.length + 1 := by rw [hf_3]; first | done | (simp; done) | (simp; omega)
              refine hE _ f_3 ?_ ?_ ⟨(by (try dsimp only); first | omega | (simp only [List.length_nil]; omega) | (simp only [List.length_cons, List.length_nil]; omega)), (by (try dsimp only) <;> (rw [hf_3]; exact sets_app fs (by dsimp only; omega)))⟩ (by first | omega | (dsimp only; omega))
              · cbv
              · cbv
            · refine hF _ _ ?_
              conv => cbv
              exact hQ (.fr 140 2 (rows cSort f_2)) (cCur code a6 s6) ⟨f_2, rfl, ⟨a6, s6, rfl, by omega, by omega⟩, (by first | omega | assumption | (simp; done) | (rw [hzs1]; exact sets_set bf_3 _ (by have z := bf_3 _ (List.mem_of_getElem? hy1); exact z)) | (rw [hzs2]; exact sets_set bf_3 _ (by dsimp only; omega)) | (simp [*]; done) | (simp at *; omega)), (by first | omega | assumption | (simp; done) | (rw [hzs1]; exact sets_set bf_3 _ (by have z := bf_3 _ (List.mem_of_getElem? hy1); exact z)) | (rw [hzs2]; exact sets_set bf_3 _ (by dsimp only; omega)) | (simp [*]; done) | (simp at *; omega))⟩   -- leaf 4
          · exact hQ (.fr 140 2 (rows cSort f)) (cCur code a3 s3) ⟨f, rfl, ⟨a3, s3, rfl, by omega, by omega⟩, (by first | omega | assumption | (simp; done) | (rw [hzs1]; exact sets_set bf_3 _ (by have z := bf_3 _ (List.mem_of_getElem? hy1); exact z)) | (rw [hzs2]; exact sets_set bf_3 _ (by dsimp only; omega)) | (simp [*]; done) | (simp at *; omega)), (by first | omega | assumption | (simp; done) | (rw [hzs1]; exact sets_set bf_3 _ (by have z := bf_3 _ (List.mem_of_getElem? hy1); exact z)) | (rw [hzs2]; exact sets_set bf_3 _ (by dsimp only; omega)) | (simp [*]; done) | (simp at *; omega))⟩)   -- leaf 5

theorem cAnyFont_ex (code : List Int) (b0 t0 : Int) : ∃ r cs, (∃ (q : List FSort), r = PV.fr 140 2 (rows cSort q) ∧ CurTo code b0 130 cs ∧ ((q.length : Int) ≤ 40) ∧ (∀ x ∈ q, -100 ≤ x.2 ∧ x.2 ≤ 100)) :=
  ⟨_, _, [], rfl, ⟨b0, t0, rfl, by omega, by omega⟩, (by first | omega | simp), (by first | omega | simp)⟩

theorem cWords_ok (code : List Int) (b0 t0 : Int)  (h : CurIn code) (h0 : 0 ≤ b0) (hk : b0 ≤ 899999999980000000)  : OkM Try.prog 124 (cCur code b0 t0) [] (fun r cs => ∃ (q : List (List UInt8)), r = .fr 9 1 (rows cStr q) ∧ CurTo code b0 20000 cs ∧ ((q.length : Int) ≤ 41)) :=
  fnM_intro envOk fieldsOk mixed Try.func124 rfl fun κ X Y L Q m hQ => by
    conv => cbv
    refine r_mcall m.sX (cPick_ok code b0 t0 6 h (by omega) (by omega)) ?_
    rintro _ _ ⟨n, rfl, ⟨a1, s1, rfl, ea1, fa1⟩, bn, cn, dn⟩
    conv => cbv
    refine r_mcall m.sX (cOne_ok code a1 s1 16 h (by omega) (by omega)) ?_
    rintro _ _ ⟨q1, rfl, ⟨a2, s2, rfl, ea2, fa2⟩⟩
    conv => cbv
    rcases Bool.eq_false_or_eq_true q1 with rfl | rfl <;> conv => cbv
    · refine r_mcall m.sX (cPick_ok code a2 s2 2 h (by omega) (by omega)) ?_
      rintro _ _ ⟨q2, rfl, ⟨a3, s3, rfl, ea3, fa3⟩, bq2, cq2, dq2⟩
      conv => cbv
      refine r_addf m.sX (by omega) (by omega) fun n_2 hn_2 => ?_
      conv => cbv
      refine r_loopF (α := Int × Int × List (List UInt8)) m 35 [4] [⟨0, 1, 0, 0, 0⟩, ⟨3, 25, 9, 1, 0⟩] (fun σ => [(0, .optr 1 0 0 0 0), (3, .osl 25 0), (4, .int .i64 n_2)]) (fun σ => [(1, 0, .box (cCur code σ.1 σ.2.1)), (25, 0, .row 9 1 (rows cStr σ.2.2))])
        (fun σ => ((σ.2.2.length : Int) ≤ n_2) ∧ (b0 ≤ σ.1 ∧ σ.1 ≤ b0 + 10 + 60 * (σ.2.2.length : Int)) ∧ (∀ w ∈ σ.2.2, w.length ≤ 20)) (fun σ => (n_2 - (σ.2.2.length : Int)).toNat) (a3, s3, []) ?_ ?_ ?_ ?_
      · cbv
      · (try dsimp only); (try simp only [rows_cons, rows_nil]); cbv
      · exact ⟨(by (try dsimp only); first | omega | (simp only [List.length_nil]; omega) | (simp only [List.length_cons, List.length_nil]; omega)), (by (try dsimp only) <;> first | omega | rfl | (simp [*]; done)), (by (try dsimp only) <;> (intro w hw; cases hw))⟩
      rintro ⟨a4, s4, l⟩ ⟨ll1, cu, wl⟩ E hE F hF
      dsimp only at ll1 cu wl
      conv => cbv
      refine r_lenR m.sX fun n1 hn1 mn1 => ?_
      conv => cbv
      refine r_lss m.sX (fun h1 => ?_) (fun h1 => ?_) <;> conv => cbv
      · refine r_mcall m.sX (cWord_ok code a4 s4 h (by omega) (by omega)) ?_
        rintro _ _ ⟨q3, rfl, ⟨a5, s5, rfl, ea5, fa5⟩, bq3_1⟩
        conv => cbv
        refine r_append1 (q3) m.sX rfl (by first | omega | (dsimp only; omega)) (by first | omega | (dsimp only; omega)) fun l_2 hl_2 => ?_
        conv => cbv
        have ll_2 : (l_2.length : Int) = l.length + 1 := by rw [hl_2]; first | done | (simp; done) | (simp; omega)
        refine hE _ (a5, s5, l_2) ?_ ?_ ⟨(by (try dsimp only); first | omega | (simp only [List.length_nil]; omega) | (simp only [List.length_cons, List.length_nil]; omega)), (by (try dsimp only) <;> first | omega | rfl | (simp [*]; done) | (rw [cu]; simp [*]; done)), (by (try dsimp only) <;> (rw [hl_2]; exact lens_app wl (by omega)))⟩ (by first | omega | (dsimp only; omega))
        · cbv
        · cbv
      · refine hF _ _ ?_
        conv => cbv
        refine r_gtr m.sX (fun h2 => ?_) (fun h2 => ?_) <;> conv => cbv
        · refine r_mcall m.sX (cOne_ok code a4 s4 16 h (by omega) (by omega)) ?_
          rintro _ _ ⟨q4, rfl, ⟨a6, s6, rfl, ea6, fa6⟩⟩
          conv => cbv
          rcases Bool.eq_false_or_eq_true q4 with rfl | rfl <;> conv => cbv
          · refine r_mcall m.sX (cPick_ok code a6 s6 n_2 h (by omega) (by omega)) ?_
            rintro _ _ ⟨q5, rfl, ⟨a7, s7, rfl, ea7, fa7⟩, bq5, cq5, dq5⟩
            conv => cbv
            refine r_mcall m.sX (cAnyWord_ok code a7 s7 h (by omega) (by omega)) ?_
            rintro _ _ ⟨q6, rfl, ⟨a8, s8, rfl, ea8, fa8⟩, bq6_1⟩
            conv => cbv
            refine r_oindex m.sX (by omega) (by omega) ?_
            conv => cbv
            obtain ⟨y1, hy1⟩ := get_ex (xs := l) (i := Int.toNat q5) (by omega)
            refine r_ostore (l := Int.toNat q5) q6 m.sX hy1 (Nat.le_of_ble_eq_true rfl) rfl fun l_3 hl_3 => ?_   -- l_3 = l.set q5 q6
            have ll_3 : (l_3.length : Int) = l.length := by rw [hl_3]; first | done | (simp; done) | (simp; omega)
            conv => cbv
            exact hQ (.fr 9 1 (rows cStr l_3)) (cCur code a8 s8) ⟨l_3, rfl, ⟨a8, s8, rfl, by omega, by omega⟩, (by first | omega | assumption | (rw [hl_3]; exact lens_set wl _ (by omega)) | (rw [hl_6]; exact lens_set wl _ (by omega)))⟩   -- leaf 1
          · exact hQ (.fr 9 1 (rows cStr l)) (cCur code a6 s6) ⟨l, rfl, ⟨a6, s6, rfl, by omega, by omega⟩, (by first | omega | assumption | (rw [hl_3]; exact lens_set wl _ (by omega)) | (rw [hl_6]; exact lens_set wl _ (by omega)))⟩   -- leaf 2
        · exact hQ (.fr 9 1 (rows cStr l)) (cCur code a4 s4) ⟨l, rfl, ⟨a4, s4, rfl, by omega, by omega⟩, (by first | omega | assumption | (rw [hl_3]; exact lens_set wl _ (by omega)) | (rw [hl_6]; exact lens_set wl _ (by omega)))⟩   -- leaf 3
    · refine r_loopF (α := Int × Int × List (List UInt8)) m 35 [4] [⟨0, 1, 0, 0, 0⟩, ⟨3, 25, 9, 1, 0⟩] (fun σ => [(0, .optr 1 0 0 0 0), (3, .osl 25 0), (4, .int .i64 n)]) (fun σ => [(1, 0, .box (cCur code σ.1 σ.2.1)), (25, 0, .row 9 1 (rows cStr σ.2.2))])
        (fun σ => ((σ.2.2.length : Int) ≤ n) ∧ (b0 ≤ σ.1 ∧ σ.1 ≤ b0 + 10 + 60 * (σ.2.2.length : Int)) ∧ (∀ w ∈ σ.2.2, w.length ≤ 20)) (fun σ => (n - (σ.2.2.length : Int)).toNat) (a2, s2, []) ?_ ?_ ?_ ?_
      · cbv
      · (try dsimp only); (try simp only [rows_cons, rows_nil]); cbv
      · exact ⟨(by (try dsimp only); first | omega | (simp only [List.length_nil]; omega) | (simp only [List.length_cons, List.length_nil]; omega)), (by (try dsimp only) <;> first | omega | rfl | (simp [*]; done)), (by (try dsimp only) <;> (intro w hw; cases hw))⟩
      rintro ⟨a9, s9, l_4⟩ ⟨ll2, cu, wl⟩ E hE F hF
      dsimp only at ll2 cu wl
      conv => cbv
      refine r_lenR m.sX fun n2 hn2 mn2 => ?_
      conv => cbv
      refine r_lss m.sX (fun h3 => ?_) (fun h3 => ?_) <;> conv => cbv
      · refine r_mcall m.sX (cWord_ok code a9 s9 h (by omega) (by omega)) ?_
        rintro _ _ ⟨q7, rfl, ⟨a10, s10, rfl, ea10, fa10⟩, bq7_1⟩
        conv => cbv
        refine r_append1 (q7) m.sX rfl (by first | omega | (dsimp only; omega)) (by first | omega | (dsimp only; omega)) fun l_5 hl_5 => ?_
        conv => cbv
        have ll_5 : (l_5.length : Int) = l_4.length + 1 := by rw [hl_5]; first | done | (simp; done) | (simp; omega)
        refine hE _ (a10, s10, l_5) ?_ ?_ ⟨(by (try dsimp only); first | omega | (simp only [List.length_nil]; omega) | (simp only [List.length_cons, List.length_nil]; omega)), (by (try dsimp only) <;> first | omega | rfl | (simp [*]; done) | (rw [cu]; simp [*]; done)), (by (try dsimp only) <;> (rw [hl_5]; exact lens_app wl (by omega)))⟩ (by first | omega | (dsimp only; omega))
        · cbv
        · cbv
      · refine hF _ _ ?_
        conv => cbv
        refine r_gtr m.sX (fun h4 => ?_) (fun h4 => ?_) <;> conv => cbv
        · refine r_mcall m.sX (cOne_ok code a9 s9 16 h (by omega) (by omega)) ?_
          rintro _ _ ⟨q8, rfl, ⟨a11, s11, rfl, ea11, fa11⟩⟩
          conv => cbv
          rcases Bool.eq_false_or_eq_true q8 with rfl | rfl <;> conv => cbv
          · refine r_mcall m.sX (cPick_ok code a11 s11 n h (by omega) (by omega)) ?_
            rintro _ _ ⟨q9, rfl, ⟨a12, s12, rfl, ea12, fa12⟩, bq9, cq9, dq9⟩
            conv => cbv
            refine r_mcall m.sX (cAnyWord_ok code a12 s12 h (by omega) (by omega)) ?_
            rintro _ _ ⟨q10, rfl, ⟨a13, s13, rfl, ea13, fa13⟩, bq10_1⟩
            conv => cbv
            refine r_oindex m.sX (by omega) (by omega) ?_
            conv => cbv
            obtain ⟨y2, hy2⟩ := get_ex (xs := l_4) (i := Int.toNat q9) (by omega)
            refine r_ostore (l := Int.toNat q9) q10 m.sX hy2 (Nat.le_of_ble_eq_true rfl) rfl fun l_6 hl_6 => ?_   -- l_6 = l_4.set q9 q10
            have ll_6 : (l_6.length : Int) = l_4.length := by rw [hl_6]; first | done | (simp; done) | (simp; omega)
            conv => cbv
            exact hQ (.fr 9 1 (rows cStr l_6)) (cCur code a13 s13) ⟨l_6, rfl, ⟨a13, s13, rfl, by omega, by omega⟩, (by first | omega | assumption | (rw [hl_3]; exact lens_set wl _ (by omega)) | (rw [hl_6]; exact lens_set wl _ (by omega)))⟩   -- leaf 4
          · exact hQ (.fr 9 1 (rows cStr l_4)) (cCur code a11 s11) ⟨l_4, rfl, ⟨a11, s11, rfl, by omega, by omega⟩, (by first | omega | assumption | (rw [hl_3]; exact lens_set wl _ (by omega)) | (rw [hl_6]; exact lens_set wl _ (by omega)))⟩   -- leaf 5
        · exact hQ (.fr 9 1 (rows cStr l_4)) (cCur code a9 s9) ⟨l_4, rfl, ⟨a9, s9, rfl, by omega, by omega⟩, (by first | omega | assumption | (rw [hl_3]; exact lens_set wl _ (by omega)) | (rw [hl_6]; exact lens_set wl _ (by omega)))⟩   -- leaf 6

theorem cWords_ex (code : List Int) (b0 t0 : Int) : ∃ r cs, (∃ (q : List (List UInt8)), r = PV.fr 9 1 (rows cStr q) ∧ CurTo code b0 20000 cs ∧ ((q.length : Int) ≤ 41)) :=
  ⟨_, _, [], rfl, ⟨b0, t0, rfl, by omega, by omega⟩, (by first | omega | simp)⟩

theorem drawSetWord_ok (code : List Int) (h : CurIn code) : OkA Try.prog 39 [.isl 1 (rows cU8 code)] (fun r => ∃ (q1 : List FSort) (q2 : Sett) (q3 : List UInt8), r = .tup [.isl 2 (rows cSort q1), .agg (cSetting q2), .str q3]) :=
  OkA.iceR (fn_intro envOk fieldsOk mixed Try.func39 rfl fun κ X Y L Q m hQ => by
    conv => cbv
    refine r_mcall m.sX (cSetting_ok code 0 0 h (by omega) (by omega)) ?_
    rintro _ _ ⟨f, ⟨s_A, s_B⟩, rfl, ⟨a1, s1, rfl, ea1, fa1⟩, bf_1, bf_2, bf_3, bf_4, bf_5, bf_6⟩
    try dsimp only at bf_1 bf_2 bf_3 bf_4 bf_5 bf_6
    conv => cbv
    refine r_mcall m.sX (cOne_ok code a1 s1 12 h (by omega) (by omega)) ?_
    rintro _ _ ⟨q1, rfl, ⟨a2, s2, rfl, ea2, fa2⟩⟩
    conv => cbv
    rcases Bool.eq_false_or_eq_true q1 with rfl | rfl <;> conv => cbv
    · refine r_mcall m.sX (cAnyFont_ok code a2 s2 h (by omega) (by omega)) ?_
      rintro _ _ ⟨f_2, rfl, ⟨a3, s3, rfl, ea3, fa3⟩, bf_2_1, bf_2_2⟩
      conv => cbv
      refine r_draw m (by kernel_rfl) ?_
      conv => cbv
      refine r_mcallS m.sY (cAnyWord_ok code a3 s3 h (by omega) (by omega)) (cAnyWord_ex code a3 s3) (by rintro _ _ ⟨_, rfl, _⟩; first | trivial | (intro x hx; simp at hx; rcases hx with rfl | rfl | rfl <;> trivial)) ?_
      rintro _ _ ⟨q2, rfl, ⟨a4, s4, rfl, ea4, fa4⟩, bq2_1⟩
      conv => cbv
      exact hQ (.tup [.fr 140 2 (rows cSort f_2), .agg [.isl 4 (rows cBox s_A), .isl 1 (rows cStr s_B)], .str q2]) ⟨f_2, (s_A, s_B), q2, rfl⟩   -- leaf 1
    · refine r_draw m (by kernel_rfl) ?_
      conv => cbv
      refine r_mcallS m.sY (cAnyWord_ok code a2 s2 h (by omega) (by omega)) (cAnyWord_ex code a2 s2) (by rintro _ _ ⟨_, rfl, _⟩; first | trivial | (intro x hx; simp at hx; rcases hx with rfl | rfl | rfl <;> trivial)) ?_
      rintro _ _ ⟨q3, rfl, ⟨a5, s5, rfl, ea5, fa5⟩, bq3_1⟩
      conv => cbv
      exact hQ (.tup [.isl 2 (rows cSort f), .agg [.isl 4 (rows cBox s_A), .isl 1 (rows cStr s_B)], .str q3]) ⟨f, (s_A, s_B), q3, rfl⟩)   -- leaf 2

theorem drawIsSetting_ok (code : List Int) (h : CurIn code) : OkA Try.prog 117 [.isl 1 (rows cU8 code)] (fun r => ∃ (q : Sett), r = .agg (cSetting q)) :=
  fn_intro envOk fieldsOk mixed Try.func117 rfl fun κ X Y L Q m hQ => by
    conv => cbv
    refine r_mcall m.sX (cSetting_ok code 0 0 h (by omega) (by omega)) ?_
    rintro _ _ ⟨q1, ⟨s_A, s_B⟩, rfl, ⟨a1, s1, rfl, ea1, fa1⟩, bq1_1, bq1_2, bq1_3, bq1_4, bq1_5, bq1_6⟩
    try dsimp only at bq1_1 bq1_2 bq1_3 bq1_4 bq1_5 bq1_6
    conv => cbv
    exact hQ (.agg [.isl 4 (rows cBox s_A), .isl 1 (rows cStr s_B)]) ⟨(s_A, s_B), rfl⟩   -- leaf 1

theorem drawDistributeAll_ok (code : List Int) (h : CurIn code) : OkA Try.prog 48 [.isl 1 (rows cU8 code)] (fun r => ∃ (q : Sett), r = .agg (cSetting q)) :=
  fn_intro envOk fieldsOk mixed Try.func48 rfl fun κ X Y L Q m hQ => by
    conv => cbv
    refine r_callE m.sX (drawIsSetting_ok code h) ?_
    rintro _ ⟨⟨q1A, q1B⟩, rfl⟩
    conv => cbv
    exact hQ (.agg [.isl 4 (rows cBox q1A), .isl 1 (rows cStr q1B)]) ⟨(q1A, q1B), rfl⟩   -- leaf 1

theorem drawDistributeType_ok (code : List Int) (h : CurIn code) : OkA Try.prog 52 [.isl 1 (rows cU8 code)] (fun r => ∃ (q1 : Sett) (q2 : Int) (q3 : List UInt8), r = .tup [.agg (cSetting q1), .int .i64 q2, .str q3]) :=
  fn_intro envOk fieldsOk mixed Try.func52 rfl fun κ X Y L Q m hQ => by
    conv => cbv
    refine r_mcall m.sX (cSetting_ok code 0 0 h (by omega) (by omega)) ?_
    rintro _ _ ⟨q1, ⟨s_A, s_B⟩, rfl, ⟨a1, s1, rfl, ea1, fa1⟩, bq1_1, bq1_2, bq1_3, bq1_4, bq1_5, bq1_6⟩
    try dsimp only at bq1_1 bq1_2 bq1_3 bq1_4 bq1_5 bq1_6
    conv => cbv
    refine r_draw m (by kernel_rfl) ?_
    conv => cbv
    refine r_lenRS m.sY (by omega) fun n1 hn1 => ?_
    conv => cbv
    refine r_subf m.sY (by omega) (by omega) fun r1 hr1 => ?_
    conv => cbv
    refine r_lenRS m.sY (by omega) fun n2 hn2 => ?_
    conv => cbv
    refine r_mcallS m.sY (cAmong_ok code a1 s1 ([2, n2, -1]) (by simp) h (by omega) (by omega)) (cAmong_ex code a1 s1 ([2, n2, -1]) (by simp)) (by rintro _ _ ⟨_, rfl, _⟩; first | trivial | (intro x hx; simp at hx; rcases hx with rfl | rfl | rfl <;> trivial)) ?_
    rintro _ _ ⟨q2, rfl, ⟨a2, s2, rfl, ea2, fa2⟩, bq2⟩
    simp only [List.mem_cons, List.not_mem_nil, or_false] at bq2
    conv => cbv
    refine r_mcallS m.sY (cAmong_ok code a2 s2 ([0, 0, 1, r1, q2]) (by simp) h (by omega) (by omega)) (cAmong_ex code a2 s2 ([0, 0, 1, r1, q2]) (by simp)) (by rintro _ _ ⟨_, rfl, _⟩; first | trivial | (intro x hx; simp at hx; rcases hx with rfl | rfl | rfl <;> trivial)) ?_
    rintro _ _ ⟨at_, rfl, ⟨a3, s3, rfl, ea3, fa3⟩, bat_⟩
    simp only [List.mem_cons, List.not_mem_nil, or_false] at bat_
    conv => cbv
    refine r_mcall m.sX (cOfL_ok code a3 s3 ([([97] : List UInt8), ([98] : List UInt8), ([101] : List UInt8), ([122, 122] : List UInt8)]) h (by omega) (by omega) (by first | rfl | assumption | omega | (simp only [List.length_append, List.length_cons, List.length_nil] at *; omega)) (by first | rfl | assumption | omega | (simp only [List.length_append, List.length_cons, List.length_nil] at *; omega))) ?_
    rintro _ _ ⟨into, rfl, ⟨a4, s4, rfl, ea4, fa4⟩, binto_1⟩
    conv => cbv
    refine r_lenR m.sX fun n3 hn3 mn3 => ?_
    conv => cbv
    refine r_subf m.sX (by omega) (by omega) fun r2 hr2 => ?_
    conv => cbv
    refine r_callB m.sX (l1In_ok at_ 0 r2) (fun h1 => ?_) (fun h1 => ?_) <;> conv => cbv
    · have ib1 := inB_spec h1
      try dsimp only at ib1
      refine r_mcall m.sX (cOne_ok code a4 s4 2 h (by omega) (by omega)) ?_
      rintro _ _ ⟨q3, rfl, ⟨a5, s5, rfl, ea5, fa5⟩⟩
      conv => cbv
      rcases Bool.eq_false_or_eq_true q3 with rfl | rfl <;> conv => cbv
      · refine r_index m.sX (by omega) (by omega) fun into_2 hinto_2 => ?_
        conv => cbv
        have minto_2 := get_mem hinto_2
        exact hQ (.tup [.agg [.isl 4 (rows cBox s_A), .isl 1 (rows cStr s_B)], .int .i64 at_, .str into_2]) ⟨(s_A, s_B), at_, into_2, rfl⟩   -- leaf 1
      · exact hQ (.tup [.agg [.isl 4 (rows cBox s_A), .isl 1 (rows cStr s_B)], .int .i64 at_, .str into]) ⟨(s_A, s_B), at_, into, rfl⟩   -- leaf 2
    · exact hQ (.tup [.agg [.isl 4 (rows cBox s_A), .isl 1 (rows cStr s_B)], .int .i64 at_, .str into]) ⟨(s_A, s_B), at_, into, rfl⟩   -- leaf 3

theorem drawWhatCanBeSet_ok (code : List Int) (h : CurIn code) : OkA Try.prog 55 [.isl 1 (rows cU8 code)] (fun r => ∃ (q1 : List FSort) (q2 : Sett) (q3 : List (List UInt8)), r = .tup [.isl 2 (rows cSort q1), .agg (cSetting q2), .isl 1 (rows cStr q3)]) :=
  OkA.iceR (fn_intro envOk fieldsOk mixed Try.func55 rfl fun κ X Y L Q m hQ => by
    conv => cbv
    refine r_mcall m.sX (cSetting_ok code 0 0 h (by omega) (by omega)) ?_
    rintro _ _ ⟨f, ⟨s_A, s_B⟩, rfl, ⟨a1, s1, rfl, ea1, fa1⟩, bf_1, bf_2, bf_3, bf_4, bf_5, bf_6⟩
    try dsimp only at bf_1 bf_2 bf_3 bf_4 bf_5 bf_6
    conv => cbv
    refine r_draw m (by kernel_rfl) ?_
    conv => cbv
    refine r_mcallS m.sY (cWords_ok code a1 s1 h (by omega) (by omega)) (cWords_ex code a1 s1) (by rintro _ _ ⟨_, rfl, _⟩; first | trivial | (intro x hx; simp at hx; rcases hx with rfl | rfl | rfl <;> trivial)) ?_
    rintro _ _ ⟨q1, rfl, ⟨a2, s2, rfl, ea2, fa2⟩, bq1_1⟩
    conv => cbv
    exact hQ (.tup [.isl 2 (rows cSort f), .agg [.isl 4 (rows cBox s_A), .isl 1 (rows cStr s_B)], .fr 9 1 (rows cStr q1)]) ⟨f, (s_A, s_B), q1, rfl⟩)   -- leaf 1


/- The law FnSettings: its body returns true. -/
theorem types_one {s : Sett} {n : Int} {o : Bool} (h : (n, o) = typesSA s) : o = askedC s.1 s.2 := by
  unfold typesSA at h
  split at h
  · rename_i hc; rw [hc]; exact (Prod.mk.inj h).2
  · rename_i hc; rw [(Prod.mk.inj h).2]; simpa using hc
theorem setWA_spec {f : List FSort} {s r : Sett} {w : List UInt8} (h : (r, true) = setWA f s w) : (r, true) = setSA f s w ∧ askedC s.1 s.2 = true ∧ CodesOk f ∧ okWord w = true := by
  unfold setWA at h
  split at h
  · rename_i hc
    simp only [Bool.and_eq_true] at hc
    exact ⟨h, hc.2.1, okFont_codes hc.1, hc.2.2⟩
  · cases (Prod.mk.inj h).2
theorem found_code {c : List UInt8} {l : List Box} (hl : caseB l = true) (h : 0 ≤ findB c l 0) : c.length ≤ 3 := by
  rcases findB_in (c := c) l 0 (by omega) with e | ⟨_, _, x, hx, rfl⟩
  · omega
  · have := case_box hl (List.mem_of_getElem? hx)
    simp only [okBox, Bool.and_eq_true] at this
    have := inB_spec this.1.2
    omega
theorem flat_len {k : Nat} : ∀ {cs : List (List UInt8)}, (∀ c ∈ cs, c.length ≤ k) → cs.flatten.length ≤ k * cs.length
  | [], _ => by simp
  | c :: r, h => by
    have h1 := h c (by simp)
    have h2 := flat_len (k := k) (cs := r) fun x hx => h x (by simp [hx])
    rw [List.flatten_cons, List.length_append, List.length_cons, Nat.mul_add]
    omega
theorem asked_flat {l : List Box} {cs : List (List UInt8)} (h : askedC l cs = true) : cs.flatten.length ≤ 1000 := by
  obtain ⟨h1, h2, h3⟩ := askedC_spec h
  have := flat_len (k := 3) fun c hc => found_code h2 (h1 c hc)
  omega
theorem flatten_take {cs : List (List UInt8)} {i : Nat} {c : List UInt8} (h : cs[i]? = some c) : (cs.take (i + 1)).flatten = (cs.take i).flatten ++ c := by
  rw [List.take_add_one, h, List.flatten_append]; simp
theorem flatten_take_le (cs : List (List UInt8)) (i : Nat) : (cs.take i).flatten.length ≤ cs.flatten.length := by
  conv => rhs; rw [← List.take_append_drop i cs, List.flatten_append, List.length_append]
  omega
structure SetF (f : List FSort) (s r : Sett) (w : List UInt8) : Prop where
  asked : askedC s.1 s.2 = true
  asked' : askedC r.1 r.2 = true
  types : typesSA r = typesSA s
  can : canA f s [w] = (1, true)
  flat : r.2.flatten = s.2.flatten ++ w
  l1 : s.2.flatten.length ≤ 1000
  l2 : r.2.flatten.length ≤ 1000
  lw : w.length ≤ 16
theorem set_facts {f : List FSort} {s r : Sett} {w : List UInt8} (h : (r, true) = setWA f s w) : SetF f s r w := by
  obtain ⟨h1, h2, h3, h4⟩ := setWA_spec h
  obtain ⟨a1, a2, a3, a4⟩ := setSA_spec h1
  have hw := okWord_len h4
  refine ⟨h2, a4, set_types h2 h1, can_one h, ?_, asked_flat h2, asked_flat a4, by omega⟩
  rw [a3]
  dsimp only
  rw [List.flatten_append, setWC_flat h3 a1]
theorem types_of {s r : Sett} {n m : Int} {o p : Bool} (h : typesSA r = typesSA s) (ha : askedC s.1 s.2 = true) (hn : (n, o) = typesSA s) (hm : (m, p) = typesSA r) : o = true ∧ p = true ∧ m = n := by
  have e := types_one hn
  rw [h, ← hn] at hm
  exact ⟨e.trans ha, (Prod.mk.inj hm).2.trans (e.trans ha), (Prod.mk.inj hm).1⟩
theorem WhatCanBeSet1_ok (f : List FSort) (s_ : Sett) (w : List UInt8) : OkA Try.prog 46 [.isl 2 (rows cSort f), .agg (cSetting s_), .isl 1 [[.str w]]] (· = ib (canA f s_ [w])) := by
  have := WhatCanBeSet_ok f s_ [w]
  rw [rows_cons, rows_nil] at this
  exact this
theorem qTexts_ok (l : List (List UInt8))  : OkA Try.prog 72 [.isl 1 (rows cStr l), .isl 1 (rows cStr l)] (· = .bool (true)) :=
  fn_intro envOk fieldsOk mixed Try.func72 rfl fun κ X Y L Q m hQ => by
    conv => cbv
    refine r_lenR m.sX fun n1 hn1 mn1 => ?_
    conv => cbv
    refine r_lenR m.sX fun n2 hn2 mn2 => ?_
    conv => cbv
    refine r_neqF m.sX (by first | omega | rfl) ?_
    conv => cbv
    refine r_lenR m.sX fun n3 hn3 mn3 => ?_
    conv => cbv
    refine r_loopF (α := Int) m 26 [0, 1, 12, 13] [] (fun σ => [(0, .isl 1 (rows cStr l)), (1, .isl 1 (rows cStr l)), (12, .int .i64 n3), (13, .int .i64 σ)]) (fun σ => [])
      (fun σ => (0 ≤ σ) ∧ (σ ≤ n3)) (fun σ => (n3 - σ).toNat) 0 ?_ ?_ ?_ ?_
    · cbv
    · cbv
    · exact ⟨(by (try dsimp only); first | omega | (simp only [List.length_nil]; omega) | (simp only [List.length_cons, List.length_nil]; omega)), (by (try dsimp only); first | omega | (simp only [List.length_nil]; omega) | (simp only [List.length_cons, List.length_nil]; omega))⟩
    rintro i1 ⟨lo1, hi1⟩ E hE F hF
    conv => cbv
    refine r_lss m.sX (fun h2 => ?_) (fun h2 => ?_) <;> conv => cbv
    · refine r_draw m (by kernel_rfl) ?_
      conv => cbv
      refine r_index m.sY (by omega) (by omega) fun x1 hx1 => ?_
      conv => cbv
      have mx1 := get_mem hx1
      have dx1 := drop_cons hx1
      have kx1 := take_snoc hx1
      have jx1 : (i1 + 1).toNat = Int.toNat i1 + 1 := by omega
      refine r_index m.sY (by omega) (by omega) fun x2 hx2 => ?_
      conv => cbv
      have mx2 := get_mem hx2
      have dx2 := drop_cons hx2
      have kx2 := take_snoc hx2
      have jx2 : (i1 + 1).toNat = Int.toNat i1 + 1 := by omega
      obtain rfl : x1 = x2 := Option.some.inj (hx1.symm.trans hx2)
      refine r_sneqF m.sY (by first | omega | rfl) ?_
      conv => cbv
      refine r_addf m.sX (by omega) (by omega) fun r1 hr1 => ?_
      conv => cbv
      try have tr1 : Int.toNat r1 = Int.toNat i1 + 1 := by omega
      refine hE _ r1 ?_ ?_ ⟨(by (try dsimp only); first | omega | (simp only [List.length_nil]; omega) | (simp only [List.length_cons, List.length_nil]; omega)), (by (try dsimp only); first | omega | (simp only [List.length_nil]; omega) | (simp only [List.length_cons, List.length_nil]; omega))⟩ (by first | omega | (dsimp only; omega))
      · cbv
      · cbv
    · have dz_i1 := drop_end (xs := l) (i := Int.toNat i1) (by omega)
      have tz_i1 := take_end (xs := l) (i := Int.toNat i1) (by omega)
      refine hF _ _ ?_
      conv => cbv
      exact hQ _ (congrArg PV.bool (by first | rfl | omega | (simp [*]; done) | (subst_vars; simp [*]; done)))   -- leaf 1

theorem qBoxes_ok (l : List Box)  : OkA Try.prog 67 [.isl 4 (rows cBox l), .isl 4 (rows cBox l)] (· = .bool (true)) :=
  fn_intro envOk fieldsOk mixed Try.func67 rfl fun κ X Y L Q m hQ => by
    conv => cbv
    refine r_lenR m.sX fun n1 hn1 mn1 => ?_
    conv => cbv
    refine r_lenR m.sX fun n2 hn2 mn2 => ?_
    conv => cbv
    refine r_neqF m.sX (by first | omega | rfl) ?_
    conv => cbv
    refine r_lenR m.sX fun n3 hn3 mn3 => ?_
    conv => cbv
    refine r_loopF (α := Int) m 26 [0, 1, 12, 13] [] (fun σ => [(0, .isl 4 (rows cBox l)), (1, .isl 4 (rows cBox l)), (12, .int .i64 n3), (13, .int .i64 σ)]) (fun σ => [])
      (fun σ => (0 ≤ σ) ∧ (σ ≤ n3)) (fun σ => (n3 - σ).toNat) 0 ?_ ?_ ?_ ?_
    · cbv
    · cbv
    · exact ⟨(by (try dsimp only); first | omega | (simp only [List.length_nil]; omega) | (simp only [List.length_cons, List.length_nil]; omega)), (by (try dsimp only); first | omega | (simp only [List.length_nil]; omega) | (simp only [List.length_cons, List.length_nil]; omega))⟩
    rintro i1 ⟨lo1, hi1⟩ E hE F hF
    conv => cbv
    refine r_lss m.sX (fun h2 => ?_) (fun h2 => ?_) <;> conv => cbv
    · refine r_draw m (by kernel_rfl) ?_
      conv => cbv
      refine r_index m.sY (by omega) (by omega) fun v hx1A => ?_
      obtain ⟨x1A, x1B, x1C, x1D⟩ := v
      conv => cbv
      have hx1 := hx1A
      have mx1 := get_mem hx1
      have dx1 := drop_cons hx1
      have kx1 := take_snoc hx1
      have jx1 : (i1 + 1).toNat = Int.toNat i1 + 1 := by omega
      refine r_index m.sY (by omega) (by omega) fun v hx2A => ?_
      obtain ⟨x2A, x2B, x2C, x2D⟩ := v
      conv => cbv
      have hx2 := hx2A
      have mx2 := get_mem hx2
      have dx2 := drop_cons hx2
      have kx2 := take_snoc hx2
      have jx2 : (i1 + 1).toNat = Int.toNat i1 + 1 := by omega
      obtain ⟨rfl, rfl, rfl, rfl⟩ : x1A = x2A ∧ x1B = x2B ∧ x1C = x2C ∧ x1D = x2D := by have := Option.some.inj (hx1.symm.trans hx2); simpa using this
      refine r_aeq_same [.str [], .int .i64 0, .int .i64 0, .int .i64 0] m.sY (by kernel_rfl) rfl ?_
      conv => cbv
      refine r_addf m.sX (by omega) (by omega) fun r1 hr1 => ?_
      conv => cbv
      try have tr1 : Int.toNat r1 = Int.toNat i1 + 1 := by omega
      refine hE _ r1 ?_ ?_ ⟨(by (try dsimp only); first | omega | (simp only [List.length_nil]; omega) | (simp only [List.length_cons, List.length_nil]; omega)), (by (try dsimp only); first | omega | (simp only [List.length_nil]; omega) | (simp only [List.length_cons, List.length_nil]; omega))⟩ (by first | omega | (dsimp only; omega))
      · cbv
      · cbv
    · have dz_i1 := drop_end (xs := l) (i := Int.toNat i1) (by omega)
      have tz_i1 := take_end (xs := l) (i := Int.toNat i1) (by omega)
      refine hF _ _ ?_
      conv => cbv
      exact hQ _ (congrArg PV.bool (by first | rfl | omega | (simp [*]; done) | (subst_vars; simp [*]; done)))   -- leaf 1

theorem qSetting_ok (l : Sett)  : OkA Try.prog 44 [.agg (cSetting l), .agg (cSetting l)] (· = .bool (true)) :=
  fn_intro envOk fieldsOk mixed Try.func44 rfl fun κ X Y L Q m hQ => by
    conv => cbv
    refine r_callBT m.sX (qBoxes_ok l.1) (by first | assumption | exact decide_eq_true rfl | (simp [*]; done) | omega) ?_   -- h1
    conv => cbv
    refine r_callBT m.sX (qTexts_ok l.2) (by first | assumption | exact decide_eq_true rfl | (simp [*]; done) | omega) ?_   -- h2
    conv => cbv
    exact hQ _ (congrArg PV.bool (by first | rfl | omega | (simp [*]; done) | (subst_vars; simp [*]; done)))   -- leaf 1

theorem qJoin_ok (l : List (List UInt8)) (with_ : List UInt8) (hz : with_ = []) (hl : l.flatten.length ≤ 100000) : OkA Try.prog 47 [.isl 1 (rows cStr l), .str with_] (· = PV.str (l.flatten)) :=
  fn_intro envOk fieldsOk mixed Try.func47 rfl fun κ X Y L Q m hQ => by
    conv => cbv
    refine r_lenR m.sX fun n1 hn1 mn1 => ?_
    conv => cbv
    refine r_loopF (α := List UInt8 × Int) m 25 [1, 5, 8, 9, 10] [] (fun σ => [(1, .str with_), (5, .str σ.1), (8, .isl 1 (rows cStr l)), (9, .int .i64 n1), (10, .int .i64 σ.2)]) (fun σ => [])
      (fun σ => (0 ≤ σ.2) ∧ (σ.2 ≤ n1) ∧ (σ.1 = (l.take σ.2.toNat).flatten)) (fun σ => (n1 - σ.2).toNat) (([] : List UInt8), 0) ?_ ?_ ?_ ?_
    · cbv
    · cbv
    · exact ⟨(by (try dsimp only); first | omega | (simp only [List.length_nil]; omega) | (simp only [List.length_cons, List.length_nil]; omega)), (by (try dsimp only); first | omega | (simp only [List.length_nil]; omega) | (simp only [List.length_cons, List.length_nil]; omega)), (by (try dsimp only) <;> (rfl))⟩
    rintro ⟨s_, i1⟩ ⟨lo1, hi1, q⟩ E hE F hF
    dsimp only at lo1 hi1 q
    conv => cbv
    refine r_lss m.sX (fun h1 => ?_) (fun h1 => ?_) <;> conv => cbv
    · refine r_index m.sX (by omega) (by omega) fun x hx => ?_
      conv => cbv
      have mx := get_mem hx
      have dx := drop_cons hx
      have kx := take_snoc hx
      have jx : (i1 + 1).toNat = Int.toNat i1 + 1 := by omega
      have wl : with_.length = 0 := by rw [hz]; rfl
      have ft := flatten_take hx
      have fl := flatten_take_le l i1.toNat
      have fl2 := flatten_take_le l (i1.toNat + 1)
      rw [ft, List.length_append] at fl2
      rw [← q] at fl fl2
      refine r_gtr m.sX (fun h2 => ?_) (fun h2 => ?_) <;> conv => cbv
      · refine r_scat (u := s_) (v := with_) m.sX (by first | omega | (simp only [List.length_cons, List.length_nil]; omega) | (simp; omega)) fun s__2 hs__2 => ?_   -- s__2 = s_ ++ with_
        have ls__2 : (s__2.length : Int) = s_.length + with_.length := by rw [hs__2, List.length_append, Int.natCast_add]
        try simp only [List.length_cons, List.length_nil] at ls__2
        conv => cbv
        refine r_scat (u := s__2) (v := x) m.sX (by first | omega | (simp only [List.length_cons, List.length_nil]; omega) | (simp; omega)) fun s__3 hs__3 => ?_   -- s__3 = s__2 ++ x
        have ls__3 : (s__3.length : Int) = s__2.length + x.length := by rw [hs__3, List.length_append, Int.natCast_add]
        try simp only [List.length_cons, List.length_nil] at ls__3
        conv => cbv
        refine r_addf m.sX (by omega) (by omega) fun r1 hr1 => ?_
        conv => cbv
        try have tr1 : Int.toNat r1 = Int.toNat i1 + 1 := by omega
        refine hE _ (s__3, r1) ?_ ?_ ⟨(by (try dsimp only); first | omega | (simp only [List.length_nil]; omega) | (simp only [List.length_cons, List.length_nil]; omega)), (by (try dsimp only); first | omega | (simp only [List.length_nil]; omega) | (simp only [List.length_cons, List.length_nil]; omega)), (by (try dsimp only) <;> first | omega | rfl | (simp [*]; done) | (rw [q]; simp [*]; done))⟩ (by first | omega | (dsimp only; omega))
        · cbv
        · cbv
      · refine r_scat (u := s_) (v := x) m.sX (by first | omega | (simp only [List.length_cons, List.length_nil]; omega) | (simp; omega)) fun s__4 hs__4 => ?_   -- s__4 = s_ ++ x
        have ls__4 : (s__4.length : Int) = s_.length + x.length := by rw [hs__4, List.length_append, Int.natCast_add]
        try simp only [List.length_cons, List.length_nil] at ls__4
        conv => cbv
        refine r_addf m.sX (by omega) (by omega) fun r2 hr2 => ?_
        conv => cbv
        try have tr2 : Int.toNat r2 = Int.toNat i1 + 1 := by omega
        refine hE _ (s__4, r2) ?_ ?_ ⟨(by (try dsimp only); first | omega | (simp only [List.length_nil]; omega) | (simp only [List.length_cons, List.length_nil]; omega)), (by (try dsimp only); first | omega | (simp only [List.length_nil]; omega) | (simp only [List.length_cons, List.length_nil]; omega)), (by (try dsimp only) <;> first | omega | rfl | (simp [*]; done) | (rw [q]; simp [*]; done))⟩ (by first | omega | (dsimp only; omega))
        · cbv
        · cbv
    · have dz_i1 := drop_end (xs := l) (i := Int.toNat i1) (by omega)
      have tz_i1 := take_end (xs := l) (i := Int.toNat i1) (by omega)
      refine hF _ _ ?_
      conv => cbv
      exact hQ (.str s_) (Eq.trans (by first | rfl | (simp only [lb, lbI, rows_cons, rows_nil, unnilT, unnil, unnilTI, unnilI]; done) | (simp only [lb, lbI, rows_cons, rows_nil, unnilT, unnil, unnilTI, unnilI]; rfl)) (congrArg (PV.str) (show s_ = l.flatten from by rw [q, tz_i1])))   -- leaf 1

noncomputable abbrev midSettings (more : List Int) : List (Nat × PV) := [(1, .isl 1 (rows cU8 more))]

section
variable {κ : Ctx} {X Y : Req → (PV → Prop) → Prop} {L : Code → (Ex → St → Prop) → St → Prop} {Q : PV → Prop}

theorem settings_part1 (m : Mach Try.prog G κ X Y L) (hQ : ∀ r, r = PV.bool true → Q r) (code more : List Int) (hf : ∀ x ∈ code, 0 ≤ x ∧ x ≤ 255) (E0 : St → Prop)
    (hE0 : ∀ (s' : St) (a : Unit), headOk s' [] = true → Ai.norm [1] [] s' = St.at 303 (midSettings more) [] → (more.length : Int) ≤ 9223372036854775807 → E0 s') :
    Ai.code X L G (front 9 (Try.f5.body.getD .skip)) (fun e s' => match e with | .normal => E0 s' | .exit i => EndsIn (post G Try.f5.results.toList Q) (.exit i) s' | .ret => EndsIn (post G Try.f5.results.toList Q) .ret s') (start 303 [.isl 1 (rows cU8 code), .isl 1 (rows cU8 more)] []) := by
  conv => cbv
  refine r_lenR m.sX fun n1 hn1 mn1 => ?_
  conv => cbv
  refine r_lenR m.sX fun n2 hn2 mn2 => ?_
  conv => cbv
  refine r_add m.sX fun r1 hr1 => ?_
  conv => cbv
  refine r_gtr m.sX (fun h1 => ?_) (fun h1 => ?_) <;> conv => cbv
  · exact hQ _ (congrArg PV.bool (by first | rfl | omega | (simp [*]; done) | (subst_vars; simp [*]; done)))   -- leaf 1
  · have h : CurIn code := ⟨by omega, hf⟩
    have hmr : (more.length : Int) ≤ 9223372036854775807 := by omega
    refine r_callE m.sX ((drawSetWord_ok code h).iceE) ?_
    rintro _ ⟨_, ⟨f, ⟨s_A, s_B⟩, word, rfl⟩, rfl⟩
    conv => cbv
    refine r_callF sbI m.sX (SetWord_ok f (s_A, s_B) word) fun v hwA => ?_
    obtain ⟨⟨wA, wB⟩, ok⟩ := v
    conv => cbv
    try dsimp only at hw
    have hw := hwA
    refine r_callF sbI m.sX (specSetWord_ok f (s_A, s_B) word) fun y1 hy1 => ?_
    obtain rfl := hw.trans hy1.symm
    clear hy1
    conv => cbv
    refine r_callF ib m.sX (TypesOfSetting_ok (s_A, s_B)) fun v hn => ?_
    obtain ⟨n, one⟩ := v
    conv => cbv
    try dsimp only at hn
    have T0 := types_one hn
    try dsimp only at T0
    refine r_callF ib m.sX (specTypesOfSetting_ok (s_A, s_B)) fun y2 hy2 => ?_
    obtain rfl := hn.trans hy2.symm
    clear hy2
    conv => cbv
    rcases Bool.eq_false_or_eq_true ok with rfl | rfl <;> conv => cbv
    · have SF := set_facts hw
      try dsimp only at SF
      refine r_callBT m.sX (qSetting_ok (wA, wB)) (by first | rfl | omega | assumption | exact decide_eq_true rfl | (subst_vars; omega)) ?_   -- h2
      conv => cbv
      obtain rfl : one = true := by exact T0.trans SF.asked
      conv => cbv
      refine r_neqF m.sX ((by first | rfl | omega | assumption | exact decide_eq_true rfl | (subst_vars; omega))) ?_
      conv => cbv
      refine r_callBT m.sX (IsSetting_ok (s_A, s_B)) (by exact SF.asked) ?_   -- h4
      conv => cbv
      refine r_callF ib m.sX (TypesOfSetting_ok (wA, wB)) fun v hafter => ?_
      obtain ⟨after, three⟩ := v
      conv => cbv
      try dsimp only at hafter
      obtain ⟨U1, U2, U3⟩ := types_of SF.types SF.asked hn hafter
      refine .inl (r_callFO ib m.sX ((WhatCanBeSet1_ok f (s_A, s_B) word).ok flat_ib) fun v hcan => ?_)
      obtain ⟨can, four⟩ := v
      conv => cbv
      try dsimp only at hcan
      have CC := SF.can
      try dsimp only at CC
      rw [← hcan] at CC
      obtain ⟨C1, C2⟩ := Prod.mk.inj CC
      have L1 := SF.l1
      try dsimp only at L1
      have L2 := SF.l2
      try dsimp only at L2
      have L3 := SF.lw
      try dsimp only at L3
      refine r_draw m (by kernel_rfl) ?_
      conv => cbv
      obtain rfl : three = true := by first | rfl | omega | assumption | exact decide_eq_true rfl | (subst_vars; omega)
      conv => cbv
      refine r_neqF m.sY ((by first | rfl | omega | assumption | exact decide_eq_true rfl | (subst_vars; omega))) ?_
      conv => cbv
      obtain rfl : four = true := by first | rfl | omega | assumption | exact decide_eq_true rfl | (subst_vars; omega)
      conv => cbv
      refine r_neqF m.sY ((by first | rfl | omega | assumption | exact decide_eq_true rfl | (subst_vars; omega))) ?_
      conv => cbv
      refine r_callFS PV.str m.sY (qJoin_ok wB ([] : List UInt8) (by first | rfl | assumption | omega | (simp only [List.length_append, List.length_cons, List.length_nil] at *; omega)) (by first | rfl | assumption | omega | (simp only [List.length_append, List.length_cons, List.length_nil] at *; omega))) trivial fun v1 hv1 => ?_
      conv => cbv
      try dsimp only at hv1
      refine r_callFS PV.str m.sY (qJoin_ok s_B ([] : List UInt8) (by first | rfl | assumption | omega | (simp only [List.length_append, List.length_cons, List.length_nil] at *; omega)) (by first | rfl | assumption | omega | (simp only [List.length_append, List.length_cons, List.length_nil] at *; omega))) trivial fun v2 hv2 => ?_
      conv => cbv
      try dsimp only at hv2
      have lv2 : v2.length = s_B.flatten.length := by rw [hv2]
      refine r_scat (u := v2) (v := word) m.sY (by first | omega | (simp only [List.length_cons, List.length_nil]; omega) | (simp; omega)) fun s1 hs1 => ?_   -- s1 = v2 ++ word
      have ls1 : (s1.length : Int) = v2.length + word.length := by rw [hs1, List.length_append, Int.natCast_add]
      try simp only [List.length_cons, List.length_nil] at ls1
      conv => cbv
      refine r_sneqF m.sY ((by rw [hv1, hs1, hv2]; exact SF.flat)) ?_
      conv => cbv
      exact hE0 _ () (by cbv) (by cbv) hmr
    · refine r_callBT m.sX (qSetting_ok (wA, wB)) (by first | rfl | omega | assumption | exact decide_eq_true rfl | (subst_vars; omega)) ?_   -- h8
      conv => cbv
      rcases Bool.eq_false_or_eq_true one with rfl | rfl <;> conv => cbv
      · refine r_neqF m.sX ((by first | rfl | omega | assumption | exact decide_eq_true rfl | (subst_vars; omega))) ?_
        conv => cbv
        refine r_callBT m.sX (IsSetting_ok (s_A, s_B)) (by exact T0.symm) ?_   -- h10
        conv => cbv
        exact hE0 _ () (by cbv) (by cbv) hmr
      · refine r_neqF m.sX ((by first | rfl | omega | assumption | exact decide_eq_true rfl | (subst_vars; omega))) ?_
        conv => cbv
        refine r_callBF m.sX (IsSetting_ok (s_A, s_B)) (by exact T0.symm) ?_   -- h12
        conv => cbv
        exact hE0 _ () (by cbv) (by cbv) hmr

theorem settings_part2 (m : Mach Try.prog G κ X Y L) (hQ : ∀ r, r = PV.bool true → Q r) (more : List Int) (h : CurIn more) (E0 : St → Prop)
    (hE0 : ∀ (s' : St) (a : Unit), headOk s' [] = true → Ai.norm [1] [] s' = St.at 303 (midSettings more) [] → True → E0 s') :
    Ai.code X L G (front 5 (rest 9 (Try.f5.body.getD .skip))) (fun e s' => match e with | .normal => E0 s' | .exit i => EndsIn (post G Try.f5.results.toList Q) (.exit i) s' | .ret => EndsIn (post G Try.f5.results.toList Q) .ret s') (St.at 303 (midSettings more) []) := by
  conv => cbv
  refine r_callE m.sX (drawDistributeAll_ok more h) ?_
  rintro _ ⟨⟨dA, dB⟩, rfl⟩
  conv => cbv
  refine r_callF sbI m.sX (DistributeAll_ok (dA, dB)) fun v haA => ?_
  obtain ⟨⟨aA, aB⟩, three⟩ := v
  conv => cbv
  try dsimp only at ha
  have ha := haA
  refine r_callF sbI m.sX (specDistributeAll_ok (dA, dB)) fun y1 hy1 => ?_
  obtain rfl := ha.trans hy1.symm
  clear hy1
  conv => cbv
  rcases Bool.eq_false_or_eq_true three with rfl | rfl <;> conv => cbv
  · obtain ⟨D1, D2, D3, D4⟩ := dist_types ha
    have D5 := dist_lost ha
    try dsimp only at D5
    refine r_callBT m.sX (qSetting_ok (aA, aB)) (by first | rfl | omega | assumption | exact decide_eq_true rfl | (subst_vars; omega)) ?_   -- h1
    conv => cbv
    refine r_callF ib m.sX (TypesOfSetting_ok (dA, dB)) fun v hbefore => ?_
    obtain ⟨before, five⟩ := v
    conv => cbv
    try dsimp only at hbefore
    refine r_callF ib m.sX (TypesOfSetting_ok (aA, aB)) fun v hafter => ?_
    obtain ⟨after, six⟩ := v
    conv => cbv
    try dsimp only at hafter
    obtain ⟨U1, U2, U3⟩ := types_of D1 D2 hbefore hafter
    refine r_callF llbI m.sX (LostTypes_ok dA (aA, aB)) fun v hlost => ?_
    obtain ⟨lost, v1, seven⟩ := v
    conv => cbv
    try dsimp only at hlost
    have LL := D5
    try dsimp only at LL
    rw [← hlost] at LL
    obtain ⟨LL1, LL2, LL3⟩ : lost = [] ∧ v1 = [] ∧ seven = true := by simpa using LL
    obtain rfl : five = true := by first | rfl | omega | assumption | exact decide_eq_true rfl | (subst_vars; omega)
    conv => cbv
    obtain rfl : six = true := by first | rfl | omega | assumption | exact decide_eq_true rfl | (subst_vars; omega)
    conv => cbv
    refine r_neqF m.sX ((by first | rfl | omega | assumption | exact decide_eq_true rfl | (subst_vars; omega))) ?_
    conv => cbv
    refine r_lenR m.sX fun n1 hn1 mn1 => ?_
    conv => cbv
    refine r_gtrF m.sX ((by rw [hn1, (Prod.mk.inj D4).2]; simp)) ?_
    conv => cbv
    obtain rfl : seven = true := by first | rfl | omega | assumption | exact decide_eq_true rfl | (subst_vars; omega)
    conv => cbv
    refine r_lenR m.sX fun n2 hn2 mn2 => ?_
    conv => cbv
    refine r_gtrF m.sX ((by rw [hn2, LL1]; simp)) ?_
    conv => cbv
    exact hE0 _ () (by cbv) (by cbv) trivial
  · refine r_callBT m.sX (qSetting_ok (aA, aB)) (by first | rfl | omega | assumption | exact decide_eq_true rfl | (subst_vars; omega)) ?_   -- h5
    conv => cbv
    exact hE0 _ () (by cbv) (by cbv) trivial

theorem settings_part3 (m : Mach Try.prog G κ X Y L) (hQ : ∀ r, r = PV.bool true → Q r) (more : List Int) (h : CurIn more) :
    Ai.code X L G (rest 5 (rest 9 (Try.f5.body.getD .skip))) (EndsIn (post G Try.f5.results.toList Q)) (St.at 303 (midSettings more) []) := by
  conv => cbv
  refine r_callE m.sX (drawDistributeType_ok more h) ?_
  rintro _ ⟨⟨uA, uB⟩, at_, into, rfl⟩
  conv => cbv
  refine r_callF sbI m.sX (DistributeType_ok (uA, uB) at_ into) fun v hxA => ?_
  obtain ⟨⟨xA, xB⟩, five⟩ := v
  conv => cbv
  try dsimp only at hx
  have hx := hxA
  refine r_callF sbI m.sX (specDistributeType_ok (uA, uB) at_ into) fun y1 hy1 => ?_
  obtain rfl := hx.trans hy1.symm
  clear hy1
  conv => cbv
  refine r_callE m.sX ((drawWhatCanBeSet_ok more h).iceE) ?_
  rintro _ ⟨_, ⟨g, ⟨vA, vB⟩, words, rfl⟩, rfl⟩
  conv => cbv
  refine r_callF ib m.sX (WhatCanBeSet_ok g (vA, vB) words) fun v hk => ?_
  obtain ⟨k, seven⟩ := v
  conv => cbv
  try dsimp only at hk
  refine r_callF ib m.sX (specWhatCanBeSet_ok g (vA, vB) words) fun y2 hy2 => ?_
  obtain rfl := hk.trans hy2.symm
  clear hy2
  conv => cbv
  rcases Bool.eq_false_or_eq_true five with rfl | rfl <;> conv => cbv
  · obtain ⟨D1, D2, D3⟩ := distT_types hx
    refine r_callBT m.sX (qSetting_ok (xA, xB)) (by first | rfl | omega | assumption | exact decide_eq_true rfl | (subst_vars; omega)) ?_   -- h1
    conv => cbv
    rcases Bool.eq_false_or_eq_true seven with rfl | rfl <;> conv => cbv
    · refine r_neqF m.sX ((by first | rfl | omega | assumption | exact decide_eq_true rfl | (subst_vars; omega))) ?_
      conv => cbv
      refine r_callF ib m.sX (TypesOfSetting_ok (uA, uB)) fun v hbefore => ?_
      obtain ⟨before, nine⟩ := v
      conv => cbv
      try dsimp only at hbefore
      refine r_callF ib m.sX (TypesOfSetting_ok (xA, xB)) fun v hafter => ?_
      obtain ⟨after, ten⟩ := v
      conv => cbv
      try dsimp only at hafter
      obtain ⟨U1, U2, U3⟩ := types_of D1 D2 hbefore hafter
      obtain rfl : nine = true := by first | rfl | omega | assumption | exact decide_eq_true rfl | (subst_vars; omega)
      conv => cbv
      obtain rfl : ten = true := by first | rfl | omega | assumption | exact decide_eq_true rfl | (subst_vars; omega)
      conv => cbv
      refine r_eqlT m.sX ((by first | rfl | omega | assumption | exact decide_eq_true rfl | (subst_vars; omega))) ?_
      conv => cbv
      exact hQ _ (congrArg PV.bool (by first | rfl | omega | (simp [*]; done) | (subst_vars; simp [*]; done)))   -- leaf 2
    · refine r_neqF m.sX ((by first | rfl | omega | assumption | exact decide_eq_true rfl | (subst_vars; omega))) ?_
      conv => cbv
      refine r_callF ib m.sX (TypesOfSetting_ok (uA, uB)) fun v hbefore_2 => ?_
      obtain ⟨before_2, nine_2⟩ := v
      conv => cbv
      try dsimp only at hbefore_2
      refine r_callF ib m.sX (TypesOfSetting_ok (xA, xB)) fun v hafter_2 => ?_
      obtain ⟨after_2, ten_2⟩ := v
      conv => cbv
      try dsimp only at hafter_2
      obtain ⟨U1, U2, U3⟩ := types_of D1 D2 hbefore_2 hafter_2
      obtain rfl : nine_2 = true := by first | rfl | omega | assumption | exact decide_eq_true rfl | (subst_vars; omega)
      conv => cbv
      obtain rfl : ten_2 = true := by first | rfl | omega | assumption | exact decide_eq_true rfl | (subst_vars; omega)
      conv => cbv
      refine r_eqlT m.sX ((by first | rfl | omega | assumption | exact decide_eq_true rfl | (subst_vars; omega))) ?_
      conv => cbv
      exact hQ _ (congrArg PV.bool (by first | rfl | omega | (simp [*]; done) | (subst_vars; simp [*]; done)))   -- leaf 3
  · refine r_callBT m.sX (qSetting_ok (xA, xB)) (by first | rfl | omega | assumption | exact decide_eq_true rfl | (subst_vars; omega)) ?_   -- h6
    conv => cbv
    rcases Bool.eq_false_or_eq_true seven with rfl | rfl <;> conv => cbv
    · refine r_neqF m.sX ((by first | rfl | omega | assumption | exact decide_eq_true rfl | (subst_vars; omega))) ?_
      conv => cbv
      exact hQ _ (congrArg PV.bool (by first | rfl | omega | (simp [*]; done) | (subst_vars; simp [*]; done)))   -- leaf 4
    · refine r_neqF m.sX ((by first | rfl | omega | assumption | exact decide_eq_true rfl | (subst_vars; omega))) ?_
      conv => cbv
      exact hQ _ (congrArg PV.bool (by first | rfl | omega | (simp [*]; done) | (subst_vars; simp [*]; done)))   -- leaf 5

end

theorem lawSettings_ok (code more : List Int) (hf : ∀ x ∈ code, 0 ≤ x ∧ x ≤ 255) (hg : ∀ x ∈ more, 0 ≤ x ∧ x ≤ 255) : OkA Try.prog 5 [.isl 1 (rows cU8 code), .isl 1 (rows cU8 more)] (· = .bool true) :=
  fn_introW envOk fieldsOk mixed Try.func5 rfl (c := Try.f5.body.getD .skip) rfl fun κ X Y L Q m hQ =>
    W_cut m 9 303 [1] [] (fun _ : Unit => midSettings more) (fun _ => []) (fun _ => (more.length : Int) ≤ 9223372036854775807) (settings_part1 m hQ code more hf) fun _ hl =>
    W_cut m 5 303 [1] [] (fun _ : Unit => midSettings more) (fun _ => []) (fun _ => True) (settings_part2 m hQ more ⟨hl, hg⟩) fun _ _ =>
    W_last m (settings_part3 m hQ more ⟨hl, hg⟩)


end Go.Proofs.Ytmlojdpfpccgoaa.Ai
