/- Soundness of the abstract machine, operation by operation. -/
import Derived.Test.YtngefbdedbbplaaAiStep
import Derived.WalkKit
import Derived.WalkLawsBesides
namespace Go.Proofs.Ytngefbdedbbplaa.Ai
open Go Go.RowKit
set_option linter.unusedVariables false
set_option linter.unusedSimpArgs false

section
variable {w : World} {I : Nat → Prop} {η : Own}
theorem Rep.inv1 {p : PV} {c : Value} (h : Rep w I η p c) (ha : ∀ cs, p ≠ .agg cs) (ht : ∀ vs, p ≠ .tup vs) : Rep1 w I η p c := by
  cases h with
  | one h => cases h with
    | one h => exact h
    | agg cs vs _ => exact absurd rfl (ha cs)
  | tup cs vs _ => exact absurd rfl (ht cs)
theorem Rep.invI {p : PV} {c : Value} (h : Rep w I η p c) (hp : p.pure = true) : RepI w I p c := by
  have h1 := h.inv1 (fun cs e => by subst e; cases hp) (fun cs e => by subst e; cases hp)
  cases h1 with
  | undef => cases hp
  | skip => cases hp
  | imm h => exact h
  | osl => cases hp
  | optr => cases hp
  | bsl => cases hp
  | vsl => cases hp
  | bptr => cases hp
  | isv => cases hp
  | fno => cases hp
theorem Rep.bool {b : Bool} {c : Value} (h : Rep w I η (.bool b) c) : c = .bool b := by
  have := h.invI rfl
  cases this; rfl
theorem Rep.int {k : IntKind} {n : Int} {c : Value} (h : Rep w I η (.int k n) c) : c = .int k n ∧ k.wrap n = n := by
  have := h.invI rfl
  cases this; exact ⟨rfl, by assumption⟩
theorem Rep.str {s : List UInt8} {c : Value} (h : Rep w I η (.str s) c) : c = .string ⟨s.toArray⟩ ∧ s.length ≤ maxLen := by
  have := h.invI rfl
  cases this; exact ⟨rfl, by assumption⟩
theorem Rep.nil {c : Value} (h : Rep w I η .nil c) : c = .slice none 0 0 := by
  have := h.invI rfl
  cases this; rfl
theorem Rep.tup_ {vs : List PV} {c : Value} (h : Rep w I η (.tup vs) c) : ∃ l : List Value, c = .tuple l.toArray ∧ All2 (RepA w I η) vs l := by
  cases h with
  | one h => cases h with
    | one h => cases h with
      | imm h => cases h
  | tup cs l h => exact ⟨l, rfl, h⟩
theorem Rep.agg_ {cs : List PV} {c : Value} (h : Rep w I η (.agg cs) c) : ∃ l : List Value, c = .agg l.toArray ∧ All2 (Rep1 w I η) cs l := by
  cases h with
  | one h => cases h with
    | one h => cases h with
      | imm h => cases h
    | agg cs l h => exact ⟨l, rfl, h⟩

theorem Value.cells_one {c : Value} (h : c.oneCell' = true) : c.cells = #[c] := by cases c <;> first | rfl | cases h
end

section
variable {bb : Bool} {P : Program} {κ : Ctx} {η : Own} {s : St} {a : Act} {w : World} {G : Env} {o : Oper} {Q' : Exit → Act → World → Prop}

/-- What holds behind an operation. -/
def Then (κ : Ctx) (K : St → Prop) (a : Act) (w : World) : Prop := ∃ η s, Sim κ η s a w ∧ K s

theorem done_value {K : St → Prop} {c : Value} {w' : World} {η' : Own} {s' : St} (hr : (execOp a.eval o).run P w = .ok (.value c) w') (hs : Sim κ η' s' (a.put o.dst c) w') (hK : K s') :
    o.wp P a w (Then κ K) Q' := by
  unfold Oper.wp
  rw [hr]
  exact ⟨η', s', hs, hK⟩

theorem done_skip {K : St → Prop} {w' : World} {η' : Own} {s' : St} (hr : (execOp a.eval o).run P w = .ok .skip w') (hs : Sim κ η' s' a w') (hK : K (s'.put o.dst .skip)) :
    o.wp P a w (Then κ K) Q' := by
  unfold Oper.wp
  rw [hr]
  exact ⟨η', _, hs.put o.dst (.of1 .skip), hK⟩

/-- An operation that computes a value and leaves the world alone. -/
theorem done_put (h : Sim κ η s a w) {K : St → Prop} {c : Value} {p : PV} (hr : (execOp a.eval o).run P w = .ok (.value c) w) (hp : Rep w (imm κ η w) η p c) (hK : K (s.put o.dst p)) :
    o.wp P a w (Then κ K) Q' := done_value hr (h.put o.dst hp) hK

theorem sound_move (h : Sim κ η s a w) {K : St → Prop} (x : Operand) (ho : o.op = .move x ∨ o.op = .assign x) (hK : K (s.put o.dst (s.ev x))) : o.wp P a w (Then κ K) Q' := by
  refine done_put h (c := a.eval x) ?_ (h.ev x) hK
  rcases ho with e | e <;> simp [execOp, e]

theorem sound_pick (h : Sim κ η s a w) {K : St → Prop} (c x y : Operand) (ho : o.op = .pick c x y) (t : Bool) (hc : s.ev c = .bool t) (hK : K (s.put o.dst (if t then s.ev x else s.ev y))) :
    o.wp P a w (Then κ K) Q' := by
  have hb := h.ev c
  rw [hc] at hb
  have hb' := hb.bool
  refine done_put h (c := if t then a.eval x else a.eval y) ?_ ?_ hK
  · simp [execOp, ho, hb', asBool]
  · cases t
    · exact h.ev y
    · exact h.ev x

theorem wrap_wrap (k : IntKind) (n : Int) : k.wrap (k.wrap n) = k.wrap n := by
  cases k <;> simp only [IntKind.wrap, IntKind.bits, IntKind.signed] <;> (repeat' split) <;> simp_all <;> omega

theorem repInt {I : Nat → Prop} (k : IntKind) (n : Int) : Rep w I η (.int k (k.wrap n)) (.int k (k.wrap n)) := .of (.int _ _ (wrap_wrap k n))



theorem emod_between (x y : Int) (h0 : 0 ≤ x) : 0 ≤ x % y ∧ x % y ≤ x ∨ y = 0 := by
  by_cases hy : y = 0
  · exact .inr hy
  · refine .inl ⟨Int.emod_nonneg _ hy, ?_⟩
    obtain ⟨p, rfl⟩ := Int.eq_ofNat_of_zero_le h0
    obtain ⟨m, rfl | rfl⟩ := Int.eq_nat_or_neg y
    · have := Nat.mod_le p m
      omega
    · rw [Int.emod_neg]
      have := Nat.mod_le p m
      omega

theorem keep_wrap (k : IntKind) (x z : Int) (h : k.wrap x = x) (h1 : 0 ≤ x → 0 ≤ z ∧ z ≤ x) (h2 : x < 0 → x ≤ z ∧ z ≤ 0) : k.wrap z = z := by
  by_cases hx : 0 ≤ x
  · have := h1 hx
    cases k <;> simp only [IntKind.wrap, IntKind.bits, IntKind.signed] at h ⊢ <;> (repeat' split at h) <;> (repeat' split) <;> simp_all <;> omega
  · have := h2 (by omega)
    cases k <;> simp only [IntKind.wrap, IntKind.bits, IntKind.signed] at h ⊢ <;> (repeat' split at h) <;> (repeat' split) <;> simp_all <;> omega

theorem tmod_wrap (k : IntKind) (x y : Int) (h : k.wrap x = x) : k.wrap (x.tmod y) = x.tmod y := by
  refine keep_wrap k x _ h (fun h0 => ?_) (fun h0 => ?_) <;> rw [tmod_eq_if]
  · rw [if_pos h0]
    rcases emod_between x y h0 with h | h
    · exact h
    · subst h; simp; omega
  · rw [if_neg (by omega)]
    rcases emod_between (-x) y (by omega) with h | h
    · omega
    · subst h; simp; omega

theorem shr_wrap (k : IntKind) (x : Int) (n : Nat) (h : k.wrap x = x) : k.wrap (x / 2 ^ n) = x / 2 ^ n := by
  have hd : (1 : Int) ≤ 2 ^ n := by have : 0 < (2 : Nat) ^ n := Nat.two_pow_pos n; exact_mod_cast this
  generalize (2 : Int) ^ n = d at *
  have h1 := Int.mul_ediv_add_emod x d
  have h2 := Int.emod_nonneg x (show d ≠ 0 by omega)
  have h3 := Int.emod_lt_of_pos x (show 0 < d by omega)
  refine keep_wrap k x _ h (fun h0 => ⟨Int.ediv_nonneg h0 (by omega), Int.ediv_le_self d h0⟩) (fun h0 => ⟨?_, by have := Int.ediv_neg_of_neg_of_pos h0 (show 0 < d by omega); omega⟩)
  exact Int.le_ediv_of_mul_le (by omega) (by
    have : (-x) * 1 ≤ (-x) * d := Int.mul_le_mul_of_nonneg_left hd (by omega)
    simp only [Int.neg_mul, Int.mul_one] at this
    omega)

theorem bits_wrap (op : BinOp) (k : IntKind) (x y : Int) : k.wrap (bits op k x y) = bits op k x y := by
  unfold bits
  split <;> exact wrap_wrap _ _

theorem beq_dec (a b : Int) : (a == b) = decide (a = b) := by by_cases h : a = b <;> simp [h]

theorem repBool {I : Nat → Prop} (b : Bool) : Rep w I η (.bool b) (.bool b) := .of (.bool b)

/-! ### Structs that are compared -/
theorem flat_cell {I : Nat → Prop} {p : PV} {c : Value} {k : PV} (hs : shape p = k) (hk : k ≠ .undef) (h : Rep1 w I η p c) :
    (∃ i n, p = .int i n ∧ c = .int i n) ∨ (∃ b, p = .bool b ∧ c = .bool b) ∨ ∃ s, p = .str s ∧ c = .string ⟨s.toArray⟩ := by
  cases h with
  | undef => exact absurd hs.symm hk
  | skip => exact absurd hs.symm hk
  | osl => exact absurd hs.symm hk
  | optr => exact absurd hs.symm hk
  | bsl => exact absurd hs.symm hk
  | vsl => exact absurd hs.symm hk
  | bptr => exact absurd hs.symm hk
  | isv => exact absurd hs.symm hk
  | fno => exact absurd hs.symm hk
  | imm h =>
    cases h with
    | bool b => exact .inr (.inl ⟨b, rfl, rfl⟩)
    | int i n _ => exact .inl ⟨i, n, rfl, rfl⟩
    | str s _ => exact .inr (.inr ⟨s, rfl, rfl⟩)
    | _ => exact absurd hs.symm hk

theorem run_eqFields_flat (d : Nat) {I : Nat → Prop} : ∀ (fs : List Field) (i : Nat) (ks a b : List PV) (xs ys : Array Value), aeqFields P fs i ks = true → a.map shape = ks → b.map shape = ks →
    All2 (Rep1 w I η) a (xs.toList.drop i) → All2 (Rep1 w I η) b (ys.toList.drop i) → ∃ r : Bool, (Op.eqFields (d + 1) xs ys fs).run P w = .ok r w ∧ (r = true ↔ a = b)
  | [], i, ks, a, b, xs, ys, h, ha, hb, hx, hy => by
    cases ks with
    | cons k ks => cases h
    | nil =>
      obtain rfl := List.map_eq_nil_iff.1 ha
      obtain rfl := List.map_eq_nil_iff.1 hb
      exact ⟨true, rfl, by simp⟩
  | f :: fs, i, ks, a, b, xs, ys, h, ha, hb, hx, hy => by
    cases ks with
    | nil => cases h
    | cons k ks =>
      simp only [aeqFields, Bool.and_eq_true, decide_eq_true_eq] at h
      obtain ⟨⟨⟨h1, h2⟩, h3⟩, h4⟩ := h
      cases a with
      | nil => cases ha
      | cons p a =>
        cases b with
        | nil => cases hb
        | cons q b =>
          obtain ⟨hp, ha⟩ := List.cons.inj ha
          obtain ⟨hq, hb⟩ := List.cons.inj hb
          have cut : ∀ {p : PV} {a : List PV} {xs : Array Value}, All2 (Rep1 w I η) (p :: a) (xs.toList.drop i) → ∃ c, xs[i]? = some c ∧ Rep1 w I η p c ∧ All2 (Rep1 w I η) a (xs.toList.drop (i + 1)) := fun {p a xs} hx => by
            generalize hl : xs.toList.drop i = l at hx
            cases hx with
            | cons r t =>
              rename_i c l
              refine ⟨c, ?_, r, ?_⟩
              · rw [← Array.getElem?_toList]
                have : (xs.toList.drop i)[0]? = some c := by rw [hl]; rfl
                simpa using this
              · have : xs.toList.drop (i + 1) = l := by rw [← List.drop_drop, hl]; rfl
                rw [this]; exact t
          obtain ⟨c, hc, rc, hx'⟩ := cut hx
          obtain ⟨c', hc', rc', hy'⟩ := cut hy
          simp only [fieldOk, Bool.and_eq_true] at h3
          obtain ⟨hpk, hm⟩ := h3
          have hk : k ≠ .undef := fun e => by rw [e] at hm; revert hm; split <;> simp_all
          have hcell : ∃ r : Bool, (Op.equalIn (d + 1) f.type c c').run P w = .ok r w ∧ (r = true ↔ p = q) := by
            rcases flat_cell hp hk rc with ⟨i1, n1, rfl, rfl⟩ | ⟨b1, rfl, rfl⟩ | ⟨s1, rfl, rfl⟩ <;> rcases flat_cell hq hk rc' with ⟨i2, n2, rfl, rfl⟩ | ⟨b2, rfl, rfl⟩ | ⟨s2, rfl, rfl⟩ <;> rw [← hp] at hq <;> simp only [shape, PV.int.injEq, reduceCtorEq, and_true] at hq
            · subst hq
              rw [← hp] at hm
              have hu : ∃ k', P.underlying f.type = some (.int k') := by
                revert hm
                simp only [shape]
                split <;> simp_all
              obtain ⟨k', hu⟩ := hu
              exact ⟨_, run_equalIn_int w d f.type i2 k' n1 n2 hu, by simp⟩
            · rw [← hp] at hm
              have hu : P.underlying f.type = some .bool := by
                revert hm
                simp only [shape]
                split <;> simp_all
              exact ⟨_, run_equalIn_bool' w d f.type b1 b2 hu, by simp⟩
            · rw [← hp] at hm
              have hu : P.underlying f.type = some .string := by
                revert hm
                simp only [shape]
                split <;> simp_all
              exact ⟨_, run_equalIn_string w d f.type ⟨s1.toArray⟩ ⟨s2.toArray⟩ hu, by rw [ByteArray.toList_mk, ByteArray.toList_mk]; simp⟩
          obtain ⟨r, hr, hri⟩ := hcell
          obtain ⟨r', hr', hri'⟩ := run_eqFields_flat d fs (i + 1) ks a b xs ys h4 ha hb hx' hy'
          rw [← h2] at hc hc'
          refine ⟨r && r', ?_, by rw [Bool.and_eq_true, hri, hri', List.cons.injEq]⟩
          simp only [Op.eqFields, if_pos h1, Sem.run_bind, run_part_plain w hpk hc, run_part_plain w hpk hc', Result.andThen_ok, hr]
          cases r
          · simp
          · simpa using hr'

theorem run_bin (hG : EnvOk P G) {t : Nat} {op : BinOp} {x y : PV} {cx cy : Value} {K : PV → Prop} {I : Nat → Prop} (hx : Rep w I η x cx) (hy : Rep w I η y cy) (h : opBin (std bb P) G t op x y K) :
    ∃ c p, (binOp op t cx cy).run P w = .ok c w ∧ Rep w I η p c ∧ K p ∧ ∀ u v, (eqGuard op t u v cx cy).run P w = .ok () w := by
  have two : ∀ (c : Prop) [Decidable c], (c → K (.bool true)) → (¬ c → K (.bool false)) → ∃ p, Rep w I η p (.bool (decide c)) ∧ K p := fun c _ h1 h2 => by
    by_cases hc : c
    · exact ⟨_, by rw [decide_eq_true hc]; exact repBool _, h1 hc⟩
    · exact ⟨_, by rw [decide_eq_false hc]; exact repBool _, h2 hc⟩
  unfold opBin at h
  split at h
  · rename_i k a k' b
    obtain ⟨rfl, hwa⟩ := hx.int
    obtain ⟨rfl, hwb⟩ := hy.int
    split at h
    · obtain ⟨h0, h1, hK⟩ := h
      refine ⟨_, _, by rw [binOp_shl, shift_shl _ _ _ _ h0 h1]; rfl, repInt _ _, hK, fun _ _ => rfl⟩
    · obtain ⟨h0, h1, hK⟩ := h
      exact ⟨_, _, by rw [binOp_shr, shift_shr _ _ _ _ h0 h1]; rfl, .of (.int _ _ (shr_wrap _ _ _ hwa)), hK, fun _ _ => rfl⟩
    · split at h
      · rename_i hk
        subst hk
        have hg : ∀ u v, (eqGuard op t u v (.int k a) (.int k b)).run P w = .ok () w := fun u v => by rw [eqGuard_at_int ..]; rfl
        cases op <;> simp only [std] at h
        case add => exact ⟨_, _, by rw [binOp_add]; rfl, repInt _ _, h, hg⟩
        case sub => exact ⟨_, _, by rw [binOp_sub]; rfl, repInt _ _, h, hg⟩
        case mul => exact ⟨_, _, by rw [binOp_mul]; rfl, repInt _ _, h, hg⟩
        case quo => exact ⟨_, _, by rw [binOp_quo, Op.intDiv, if_neg h.1]; rfl, repInt _ _, h.2, hg⟩
        case rem => exact ⟨_, _, by rw [binOp_rem, Op.intDiv, if_neg h.1]; rfl, .of (.int _ _ (tmod_wrap _ _ _ hwa)), by rw [tmod_wrap _ _ _ hwa] at h; exact h.2, hg⟩
        case and => exact ⟨_, _, by rw [binOp_and, intBits_and]; rfl, .of (.int _ _ (bits_wrap _ _ _ _)), h, hg⟩
        case or => exact ⟨_, _, by rw [binOp_or, intBits_or]; rfl, .of (.int _ _ (bits_wrap _ _ _ _)), h, hg⟩
        case xor => exact ⟨_, _, by rw [binOp_xor, intBits_xor]; rfl, .of (.int _ _ (bits_wrap _ _ _ _)), h, hg⟩
        case andNot => exact ⟨_, _, by rw [binOp_andNot, intBits_andNot]; rfl, .of (.int _ _ (bits_wrap _ _ _ _)), h, hg⟩
        case eql =>
          obtain ⟨p, hp, hK⟩ := two (a = b) h.1 h.2
          exact ⟨_, p, by rw [binOp_eql]; rfl, by rw [beq_dec]; exact hp, hK, hg⟩
        case neq =>
          obtain ⟨p, hp, hK⟩ := two (a ≠ b) h.1 (fun e => h.2 (by simpa using e))
          exact ⟨_, p, by rw [binOp_neq]; rfl, by have e : (a != b) = decide (a ≠ b) := by rw [bne, beq_dec, ← decide_not]
                                                  rw [e]; exact hp, hK, hg⟩
        case lss =>
          obtain ⟨p, hp, hK⟩ := two (a < b) h.1 (fun e => h.2 (by omega))
          exact ⟨_, p, by rw [binOp_lss]; rfl, hp, hK, hg⟩
        case leq =>
          obtain ⟨p, hp, hK⟩ := two (a ≤ b) h.1 (fun e => h.2 (by omega))
          exact ⟨_, p, by rw [binOp_leq]; rfl, hp, hK, hg⟩
        case gtr =>
          obtain ⟨p, hp, hK⟩ := two (a > b) (fun e => h.1 (by omega)) (fun e => h.2 (by omega))
          exact ⟨_, p, by rw [binOp_gtr]; rfl, hp, hK, hg⟩
        case geq =>
          obtain ⟨p, hp, hK⟩ := two (a ≥ b) (fun e => h.1 (by omega)) (fun e => h.2 (by omega))
          exact ⟨_, p, by rw [binOp_geq]; rfl, hp, hK, hg⟩
        all_goals exact h.elim
      · exact h.elim
  · rename_i a b
    obtain ⟨rfl, hla⟩ := hx.str
    obtain ⟨rfl, hlb⟩ := hy.str
    have hg : ∀ u v, (eqGuard op t u v (.string ⟨a.toArray⟩) (.string ⟨b.toArray⟩)).run P w = .ok () w := fun u v => by rw [eqGuard_at_string ..]; rfl
    have hb : ∀ (c : Bool), (c = true → K (.bool true)) → (c = false → K (.bool false)) → ∃ p, Rep w I η p (.bool c) ∧ K p := fun c h1 h2 => by
      cases c
      · exact ⟨_, repBool _, h2 rfl⟩
      · exact ⟨_, repBool _, h1 rfl⟩
    cases op <;> simp only [std] at h
    case add =>
      refine ⟨.string ⟨(a ++ b).toArray⟩, .str (a ++ b), ?_, .of (.str _ ?_), h.2, hg⟩
      · rw [binOp_string_add, Op.stringOp]
        have hs : (⟨a.toArray⟩ : ByteArray).size + (⟨b.toArray⟩ : ByteArray).size = a.length + b.length := by simp [ByteArray.size]
        have hbound := h.1
        unfold sizeBound at hbound
        simp only [hs]
        rw [if_neg (by rw [IntKind.max_i64]; omega)]
        have e : (⟨a.toArray⟩ : ByteArray) ++ ⟨b.toArray⟩ = ⟨(a ++ b).toArray⟩ := by
          apply ByteArray.ext
          rw [ByteArray.data_append]
          simp
        rw [e]
        rfl
      · have hbound := h.1
        unfold sizeBound at hbound
        simp only [List.length_append, maxLen]
        omega
    case eql =>
      obtain ⟨p, hp, hK⟩ := hb (a == b) (fun e => h.1 (by simpa using e)) (fun e => h.2 (by simpa using e))
      exact ⟨_, p, by rw [binOp_string_eql]; rfl, by rw [ByteArray.toList_mk, ByteArray.toList_mk]; exact hp, hK, hg⟩
    case neq =>
      obtain ⟨p, hp, hK⟩ := hb (!(a == b)) (fun e => h.1 (by simpa using e)) (fun e => h.2 (by simpa using e))
      exact ⟨_, p, by rw [binOp_string_neq]; rfl, by rw [ByteArray.toList_mk, ByteArray.toList_mk]; exact hp, hK, hg⟩
    case lss =>
      obtain ⟨p, hp, hK⟩ := hb _ h.1 h.2
      exact ⟨_, p, by rw [binOp_string_lss]; rfl, by rw [ByteArray.toList_mk, ByteArray.toList_mk]; exact hp, hK, hg⟩
    case leq =>
      obtain ⟨p, hp, hK⟩ := hb _ h.1 h.2
      exact ⟨_, p, by rw [binOp_string_leq]; rfl, by rw [ByteArray.toList_mk, ByteArray.toList_mk]; exact hp, hK, hg⟩
    case gtr =>
      obtain ⟨p, hp, hK⟩ := hb (!(Op.bytesLess a b || a == b)) (fun e => h.1 (by revert e; cases (Op.bytesLess a b || a == b) <;> simp)) (fun e => h.2 (by revert e; cases (Op.bytesLess a b || a == b) <;> simp))
      exact ⟨_, p, by rw [binOp_string_gtr]; rfl, by rw [ByteArray.toList_mk, ByteArray.toList_mk]; exact hp, hK, hg⟩
    case geq =>
      obtain ⟨p, hp, hK⟩ := hb (!(Op.bytesLess a b)) (fun e => h.1 (by simpa using e)) (fun e => h.2 (by simpa using e))
      exact ⟨_, p, by rw [binOp_string_geq]; rfl, by rw [ByteArray.toList_mk, ByteArray.toList_mk]; exact hp, hK, hg⟩
    all_goals exact h.elim
  · rename_i a b
    obtain rfl := hx.bool
    obtain rfl := hy.bool
    split at h
    · rename_i hb
      have hu : P.underlying t = some .bool := by
        unfold isBool at hb
        split at hb
        · rename_i he; exact (hG t _ he).1
        · cases hb
      split at h
      · exact ⟨_, _, run_eql_bool w t a b hu, repBool _, h, fun _ _ => by rw [eqGuard_at_bool ..]; rfl⟩
      · exact ⟨_, _, run_neq_bool w t a b hu, repBool _, h, fun _ _ => by rw [eqGuard_at_bool ..]; rfl⟩
      · exact h.elim
    · exact h.elim
  · rename_i a b
    obtain ⟨xs, rfl, hx'⟩ := hx.agg_
    obtain ⟨ys, rfl, hy'⟩ := hy.agg_
    have main : ∀ neq, std bb P (.aeq t neq a b) K → ∃ r : Bool, (Op.equalIn 10000 t (.agg xs.toArray) (.agg ys.toArray)).run P w = .ok r w ∧ K (.bool (if neq then !r else r)) ∧ P.eqGuardType P.depth t = false := fun neq hh => by
      obtain ⟨⟨ks, hk, ha, hb⟩, h1, h2⟩ := hh
      simp only [aeqKinds, Bool.and_eq_true, Bool.not_eq_true'] at hk
      obtain ⟨⟨k1, k2⟩, k3⟩ := hk
      split at k3
      case h_2 => cases k3
      rename_i fs hu
      have hf : P.fieldsOf t = fs := by simp [Program.fieldsOf, hu]
      obtain ⟨r, hr, hri⟩ := run_eqFields_flat (w := w) 9998 (P := P) fs.toList 0 ks a b xs.toArray ys.toArray k3 ha hb (by simpa using hx') (by simpa using hy')
      refine ⟨r, ?_, ?_, k2⟩
      · rw [run_equalIn_struct w 9999 t _ _ (by rw [hf]; exact hu) k1, hf]
        exact hr
      · by_cases e : a = b
        · have := hri.2 e
          subst this
          have := h1 e
          cases neq <;> simpa using this
        · have hrf : r = false := by cases r; rfl; exact absurd (hri.1 rfl) e
          subst hrf
          have := h2 e
          cases neq <;> simpa using this
    split at h
    · obtain ⟨r, hr, hK, hg⟩ := main false h
      exact ⟨_, _, by rw [run_eql_struct, hr]; rfl, repBool r, by simpa using hK, fun u v => run_eqGuard_agg w _ t u v _ _ hg⟩
    · obtain ⟨r, hr, hK, hg⟩ := main true h
      exact ⟨_, _, by rw [run_neq_struct, hr]; rfl, repBool (!r), by simpa using hK, fun u v => run_eqGuard_agg w _ t u v _ _ hg⟩
    · exact h.elim
  · exact h.elim

theorem isSlice_under (hG : EnvOk P G) {t : Nat} (h : isSlice (G t) = true) : ∃ e, P.underlying t = some (.slice e) := by
  unfold isSlice at h
  split at h
  · rename_i e _ _ _ _ _ hg
    exact ⟨e, (hG t _ hg).1⟩
  · cases h
theorem run_nil (hG : EnvOk P G) {t : Nat} {op : BinOp} {A : Option Addr} {l c : Nat} {isn : Bool} {K : PV → Prop} {I : Nat → Prop} (hA : A.isNone = isn) (h : nilAns G t op isn K) :
    ∃ v p, (binOp op t (.slice A l c) (.slice none 0 0)).run P w = .ok v w ∧ Rep w I η p v ∧ K p ∧ ∀ u u', (eqGuard op t u u' (.slice A l c) (.slice none 0 0)).run P w = .ok () w := by
  unfold nilAns at h
  split at h
  case isFalse => exact h.elim
  rename_i hs
  obtain ⟨e, hu⟩ := isSlice_under hG hs
  have hg : ∀ op u u', (eqGuard op t u u' (.slice A l c) (.slice none 0 0)).run P w = .ok () w := fun op u u' => by cases op <;> rfl
  split at h
  · exact ⟨.bool isn, _, by simp only [binOp]; simp [run_equal_slice_nil w t e A l c hu, hA], repBool _, h, hg _⟩
  · exact ⟨.bool (!isn), _, by rw [run_neq_slice_nil w t e A l c hu, hA], repBool _, h, hg _⟩
  · exact h.elim
theorem sound_bin (hG : EnvOk P G) (h : Sim κ η s a w) {K : St → Prop} (b : BinOp) (t t' : Nat) (x y : Operand) (ho : o.op = .binOp b t x y t')
    (hK : opBinH (std bb P) G t s b (s.ev x) (s.ev y) fun v => K (s.put o.dst v)) : o.wp P a w (Then κ K) Q' := by
  have fin : (∃ c p, (binOp b t (a.eval x) (a.eval y)).run P w = .ok c w ∧ Rep w (imm κ η w) η p c ∧ K (s.put o.dst p) ∧ ∀ u v, (eqGuard b t u v (a.eval x) (a.eval y)).run P w = .ok () w) → o.wp P a w (Then κ K) Q' := by
    rintro ⟨c, p, hr, hp, hk, hg⟩
    refine done_put h (c := c) ?_ hp hk
    simp only [execOp, ho, Sem.run_bind, Sem.run_pure, hg, Result.andThen_ok, hr]
  have hy := h.ev y
  have hx := h.ev x
  unfold opBinH at hK
  split at hK
  case h_2 => exact fin (run_bin hG hx hy hK)
  rename_i hye
  rw [hye] at hy
  have ey := hy.nil
  refine fin ?_
  rw [ey]
  split at hK
  · rename_i hxe
    rw [hxe] at hx
    rw [hx.nil]
    exact run_nil hG rfl hK
  · rename_i sz es hxe
    rw [hxe] at hx
    obtain ⟨hn, hK⟩ := hK
    have hi := hx.invI rfl
    generalize a.eval x = cx at hi
    cases hi with
    | isl0 => exact absurd hn (by simp)
    | isl => exact run_nil hG rfl hK
  · rename_i id ver hxe
    split at hK
    case h_2 => exact hK.elim
    rename_i v' e' sz es hget
    split at hK
    case isFalse => exact hK.elim
    rename_i hv
    subst hv
    obtain ⟨hn, hK⟩ := hK
    rw [hxe] at hx
    have hob := h.heap id
    rw [hget] at hob
    obtain ⟨hcur, v, vals, hval, hown, _, _⟩ := hob
    have hc : a.eval x = v := by
      have h1 := hx.inv1 (fun cs e => by cases e) (fun cs e => by cases e)
      cases h1 with
      | imm h1 => cases h1
      | osl _ _ _ hv h1 => exact h1 hcur.symm v hval
    rw [hc]
    rcases hown.row.2 with ⟨_, h0⟩ | ⟨g, cap, cur, rfl, _⟩
    · omega
    · exact run_nil hG rfl hK
  · exact hK.elim

theorem sound_un (h : Sim κ η s a w) {K : St → Prop} (u : UnOp) (t : Nat) (x : Operand) (ho : o.op = .unOp u t x)
    (hK : opUn (std bb P) u (s.ev x) fun v => K (s.put o.dst v)) : o.wp P a w (Then κ K) Q' := by
  have hx := h.ev x
  unfold opUn at hK
  split at hK
  · rename_i b hb
    rw [hb] at hx
    refine done_put h (c := .bool !b) ?_ (repBool _) hK
    simp only [execOp, ho, hx.bool, Op.unary, Sem.run_bind, Sem.run_pure, Result.andThen_ok]
  · rename_i k n hb
    rw [hb] at hx
    refine done_put h (c := .int k (k.wrap (-n))) ?_ (repInt _ _) hK
    simp only [execOp, ho, hx.int.1, Op.unary, Op.intArith, Sem.run_bind, Sem.run_pure, Result.andThen_ok, Int.zero_sub]
  · exact hK.elim
end
end Go.Proofs.Ytngefbdedbbplaa.Ai
