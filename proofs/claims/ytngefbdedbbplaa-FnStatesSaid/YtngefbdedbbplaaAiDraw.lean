/- Regions that draw their order: where all operations but calls that only read are determined by what they read, one run in the text's order serves every order. -/
import Derived.Test.YtngefbdedbbplaaAiLoop
set_option linter.unusedSectionVars false
namespace Go.Proofs.Ytngefbdedbbplaa.Ai
open Go Go.RowKit
set_option linter.unusedVariables false
set_option linter.unusedSimpArgs false

/-- Determined: it holds for nothing, or it is 'K u' for one u. -/
def DetF (F : (PV → Prop) → Prop) : Prop := (∀ K, ¬ F K) ∨ ∃ u, ∀ K, F K ↔ K u

theorem DetF.no {F : (PV → Prop) → Prop} (h : ∀ K, ¬ F K) : DetF F := .inl h
theorem DetF.false_ : DetF fun _ => False := .inl fun _ h => h
theorem DetF.val (u : PV) : DetF fun K => K u := .inr ⟨u, fun _ => Iff.rfl⟩
theorem DetF.guard {p : Prop} (u : PV) : DetF fun K => p ∧ K u := by
  by_cases h : p
  · exact .inr ⟨u, fun K => ⟨fun x => x.2, fun x => ⟨h, x⟩⟩⟩
  · exact .inl fun K x => h x.1
theorem DetF.congr {F F' : (PV → Prop) → Prop} (h : ∀ K, F K ↔ F' K) (hd : DetF F) : DetF F' := by
  rcases hd with hd | ⟨u, hu⟩
  · exact .inl fun K x => hd K ((h K).2 x)
  · exact .inr ⟨u, fun K => (h K).symm.trans (hu K)⟩
theorem DetF.ite {p : Prop} [Decidable p] {F F' : (PV → Prop) → Prop} (h : DetF F) (h' : DetF F') : DetF fun K => if p then F K else F' K := by
  by_cases hp : p
  · exact h.congr fun K => by rw [if_pos hp]
  · exact h'.congr fun K => by rw [if_neg hp]
theorem DetF.two {p q : Prop} (h : p ∨ q) (hn : ¬ (p ∧ q)) (u v : PV) : DetF fun K => (p → K u) ∧ (q → K v) := by
  rcases h with h | h
  · exact .inr ⟨u, fun K => ⟨fun x => x.1 h, fun x => ⟨fun _ => x, fun hq => absurd ⟨h, hq⟩ hn⟩⟩⟩
  · exact .inr ⟨v, fun K => ⟨fun x => x.2 h, fun x => ⟨fun hp => absurd ⟨hp, h⟩ hn, fun _ => x⟩⟩⟩

section
variable {P : Program} {G : Env}

theorem det_std_bin (op : BinOp) (k : IntKind) (a b : Int) : DetF fun K => std true P (.bin op k a b) K := by
  cases op <;> simp only [std] <;> first
    | exact DetF.val _
    | exact DetF.guard _
    | exact DetF.false_
    | exact DetF.two (by omega) (by omega) _ _
    | exact DetF.two (by by_cases h : a = b <;> simp [h]) (by simp_all) _ _

theorem DetF.bool (c : Bool) (u v : PV) : DetF fun K => (c = true → K u) ∧ (c = false → K v) :=
  DetF.two (by cases c <;> simp) (fun h => absurd (h.1.symm.trans h.2) (by simp)) _ _
theorem DetF.bool' (c : Bool) (u v : PV) : DetF fun K => (c = false → K u) ∧ (c = true → K v) :=
  DetF.two (by cases c <;> simp) (fun h => absurd (h.1.symm.trans h.2) (by simp)) _ _

theorem det_std_sbin (op : BinOp) (a b : List UInt8) : DetF fun K => std true P (.sbin op a b) K := by
  cases op <;> simp only [std] <;> try exact DetF.false_
  case add => exact DetF.guard _
  case eql => exact DetF.two (by by_cases h : a = b <;> simp [h]) (by simp_all) _ _
  case neq => exact DetF.two (by by_cases h : a = b <;> simp [h]) (by simp_all) _ _
  case lss => exact DetF.bool _ _ _
  case leq => exact DetF.bool _ _ _
  case gtr => exact DetF.bool' _ _ _
  case geq => exact DetF.bool' _ _ _

theorem det_opBin (t : Nat) (op : BinOp) (x y : PV) : DetF fun K => opBin (std true P) G t op x y K := by
  unfold opBin
  cases x <;> cases y <;> try exact DetF.false_
  case bool.bool a b =>
    refine DetF.ite ?_ DetF.false_
    cases op <;> first | exact DetF.val _ | exact DetF.false_
  case int.int k a k' b =>
    have hsh : ∀ op, DetF fun K => std true P (.shift op k a k' b) K := fun op => by
      by_cases h : 0 ≤ b ∧ b ≤ k.bits
      · cases op <;> simp only [std] <;> first
          | (refine DetF.no fun K x => x.2.2)
          | exact .inr ⟨_, fun K => ⟨fun x => x.2.2, fun x => ⟨h.1, h.2, x⟩⟩⟩
      · exact .inl fun K x => h ⟨x.1, x.2.1⟩
    cases op <;> first
      | exact hsh _
      | exact DetF.ite (det_std_bin _ _ _ _) DetF.false_
  case str.str a b => exact det_std_sbin _ _ _
  case agg.agg a b =>
    have two : ∀ neq, DetF fun K => std true P (.aeq t neq a b) K := fun neq => by
      simp only [std]
      by_cases h : ∃ ks, aeqKinds P t ks = true ∧ a.map shape = ks ∧ b.map shape = ks
      · by_cases e : a = b
        · exact .inr ⟨.bool (!neq), fun K => ⟨fun x => x.2.1 e, fun x => ⟨h, fun _ => x, fun e' => absurd e e'⟩⟩⟩
        · exact .inr ⟨.bool neq, fun K => ⟨fun x => x.2.2 e, fun x => ⟨h, fun e' => absurd e' e, fun _ => x⟩⟩⟩
      · exact DetF.no fun K x => h x.1
    cases op <;> first | exact two _ | exact DetF.false_

theorem det_nilAns (t : Nat) (op : BinOp) (isn : Bool) : DetF fun K => nilAns G t op isn K := by
  unfold nilAns
  refine DetF.ite ?_ DetF.false_
  cases op <;> first | exact DetF.val _ | exact DetF.false_
theorem det_notnil (t : Nat) (op : BinOp) (n : Nat) : DetF fun K => std true P (.notnil n) fun _ => nilAns G t op false K := by
  by_cases h : 0 < n
  · rcases det_nilAns (G := G) t op false with hd | ⟨p, hp⟩
    · exact .inl fun K x => hd K x.2
    · exact .inr ⟨p, fun K => ⟨fun x => (hp K).1 x.2, fun x => ⟨h, (hp K).2 x⟩⟩⟩
  · exact .inl fun K x => h x.1
theorem det_opBinH (t : Nat) (s : St) (op : BinOp) (x y : PV) : DetF fun K => opBinH (std true P) G t s op x y K := by
  unfold opBinH
  cases y <;> try exact det_opBin t op x _
  cases x <;> try exact DetF.false_
  · exact det_nilAns _ _ _
  · exact det_notnil _ _ _
  · rename_i id ver
    simp only
    generalize s.H.get id = q
    obtain ⟨v, b⟩ := q
    cases b with
    | dead => exact DetF.false_
    | box cs => exact DetF.false_
    | tree e' sz es => exact DetF.false_
    | wild e' sz es => exact DetF.false_
    | iter b pos => exact DetF.false_
    | map es => exact DetF.false_
    | row e' sz es => exact DetF.ite (det_notnil _ _ _) DetF.false_

theorem det_opUn (u : UnOp) (x : PV) : DetF fun K => opUn (std true P) u x K := by
  unfold opUn
  cases u <;> cases x <;> first | exact DetF.false_ | exact DetF.val _

theorem det_aggOr (b : Bool) (n : Nat) (cs : List PV) : DetF fun K => aggOr b n cs K := by
  unfold aggOr
  refine DetF.ite (DetF.ite (DetF.val _) DetF.false_) ?_
  cases cs with
  | nil => exact DetF.false_
  | cons c r => exact DetF.val _

theorem det_opLoad (t : Nat) (s : St) (a : PV) : DetF fun K => opLoad (std true P) G t s a K := by
  unfold opLoad
  cases G t with
  | none => exact DetF.false_
  | some ti =>
    cases a <;> try exact DetF.false_
    case iptr cs => exact det_aggOr _ _ _
    case optr id ver sz i off =>
      simp only
      generalize s.H.get id = q
      obtain ⟨v, b⟩ := q
      cases b with
      | dead => exact DetF.false_
      | box cs => exact DetF.ite (DetF.ite (det_aggOr _ _ _) DetF.false_) DetF.false_
      | tree e sz' es => exact DetF.false_
      | wild e sz' es => exact DetF.false_
      | iter b pos => exact DetF.false_
      | map es => exact DetF.false_
      | row e sz' es =>
        refine DetF.ite (DetF.ite ?_ DetF.false_) DetF.false_
        simp only [std]
        cases he : es[i]? with
        | none => exact DetF.no fun K x => by obtain ⟨el, h, _⟩ := x; cases h
        | some el =>
          by_cases hf : off + ti.size ≤ el.length
          · refine (det_aggOr ti.isAgg ti.size ((el.drop off).take ti.size)).congr fun K => ⟨fun x => ⟨el, rfl, hf, x⟩, fun x => ?_⟩
            obtain ⟨el', h, _, x⟩ := x
            obtain rfl := Option.some.inj h
            exact x
          · exact DetF.no fun K x => by
              obtain ⟨el', h, hf', _⟩ := x
              obtain rfl := Option.some.inj h
              exact hf hf'

theorem det_std_index (es : List (List PV)) (i : Int) : DetF fun K => std true P (.index es i) K := by
  simp only [std]
  by_cases h0 : 0 ≤ i
  · cases he : es[i.toNat]? with
    | none => exact DetF.no fun K x => by obtain ⟨_, el, h, _⟩ := x; cases h
    | some el => exact .inr ⟨.iptr el, fun K => ⟨fun x => by obtain ⟨_, el', h, x⟩ := x; obtain rfl := Option.some.inj h; exact x, fun x => ⟨h0, el, rfl, x⟩⟩⟩
  · exact DetF.no fun K x => h0 x.1

theorem det_std_sindex (s : List UInt8) (i : Int) : DetF fun K => std true P (.sindex s i) K := by
  simp only [std]
  by_cases h0 : 0 ≤ i
  · cases he : s[i.toNat]? with
    | none => exact DetF.no fun K x => by obtain ⟨_, el, h, _⟩ := x; cases h
    | some el => exact .inr ⟨.int .u8 el.toNat, fun K => ⟨fun x => by obtain ⟨_, el', h, x⟩ := x; obtain rfl := Option.some.inj h; exact x, fun x => ⟨h0, el, rfl, x⟩⟩⟩
  · exact DetF.no fun K x => h0 x.1

theorem det_std_tostr (es : List (List PV)) : DetF fun K => std true P (.tostr es) K := by
  simp only [std]
  by_cases h : ∃ l : List Int, es = l.map (fun n => [PV.int .u8 n])
  · obtain ⟨l, e⟩ := h
    refine .inr ⟨_, fun K => ⟨fun x => ?_, fun x => ⟨l, e, x⟩⟩⟩
    obtain ⟨l', e', x⟩ := x
    have hl : l' = l := (List.map_inj_right (by intro a b hab; simpa using hab)).1 (e'.symm.trans e)
    subst hl
    exact x
  · exact DetF.no fun K x => h ⟨x.choose, x.choose_spec.1⟩

theorem det_opConvert (src dst : Nat) (s : St) (x : PV) : DetF fun K => opConvert (std true P) G src dst s x K := by
  unfold opConvert
  cases G src with
  | none => exact DetF.false_
  | some ts =>
    cases G dst with
    | none => exact DetF.false_
    | some td =>
      simp only
      cases td.desc <;> cases x <;> first
        | exact DetF.false_
        | exact DetF.val _
        | exact DetF.ite (det_std_tostr _) DetF.false_
        | skip
      rename_i id ver
      refine DetF.ite ?_ DetF.false_
      generalize s.H.get id = q
      obtain ⟨v', b⟩ := q
      cases b with
      | dead => exact DetF.false_
      | box cs => exact DetF.false_
      | tree e' sz es => exact DetF.false_
      | wild e' sz es => exact DetF.false_
      | iter b pos => exact DetF.false_
      | map es => exact DetF.false_
      | row e' sz es => exact DetF.ite (det_std_tostr _) DetF.false_

theorem det_opIndexAddr (t : Nat) (s : St) (x i : PV) : DetF fun K => opIndexAddr (std true P) G t s x i K := by
  unfold opIndexAddr
  cases sliceOf G t with
  | none => exact DetF.false_
  | some q =>
    obtain ⟨e, te⟩ := q
    cases i <;> try exact DetF.false_
    cases x <;> try exact DetF.false_
    · exact DetF.ite (det_std_index _ _) DetF.false_
    · rename_i k n id ver
      simp only
      generalize s.H.get id = q
      obtain ⟨v, b⟩ := q
      cases b with
      | dead => exact DetF.false_
      | box cs => exact DetF.false_
      | tree e' sz es => exact DetF.false_
      | wild e' sz es => exact DetF.false_
      | iter b pos => exact DetF.false_
      | map es => exact DetF.false_
      | row e' sz es =>
        refine DetF.ite (DetF.ite ?_ DetF.false_) DetF.false_
        simp only [std]
        by_cases h : 0 ≤ n ∧ n.toNat < es.length
        · exact .inr ⟨_, fun K => ⟨fun x => x.2.2, fun x => ⟨h.1, h.2, x⟩⟩⟩
        · exact DetF.no fun K x => h ⟨x.1, x.2.1⟩

theorem det_opFieldAddr (t : Nat) (s : St) (x : PV) (f : Nat) : DetF fun K => opFieldAddr G t s x f K := by
  unfold opFieldAddr
  cases structOf (G t) with
  | none => exact DetF.false_
  | some fs =>
    simp only
    cases fieldOff fs f with
    | none => exact DetF.false_
    | some q =>
      obtain ⟨off, ft⟩ := q
      simp only
      cases G ft with
      | none => exact DetF.false_
      | some tf =>
        refine DetF.ite DetF.false_ ?_
        cases x <;> try exact DetF.false_
        · exact DetF.ite (DetF.val _) DetF.false_
        · exact DetF.ite (DetF.val _) DetF.false_

theorem det_opField (t : Nat) (x : PV) (f : Nat) : DetF fun K => opField G t x f K := by
  unfold opField
  cases structOf (G t) with
  | none => exact DetF.false_
  | some fs =>
    simp only
    cases fieldOff fs f with
    | none => exact DetF.false_
    | some q =>
      obtain ⟨off, ft⟩ := q
      simp only
      cases G ft with
      | none => exact DetF.false_
      | some tf =>
        cases x <;> try exact DetF.false_
        exact DetF.ite (det_aggOr _ _ _) DetF.false_

theorem det_opLen (t : Nat) (s : St) (x : PV) : DetF fun K => opLen (std true P) G t s x K := by
  unfold opLen
  cases x <;> try exact DetF.false_
  · exact DetF.ite (DetF.guard _) DetF.false_
  · exact DetF.ite (DetF.val _) DetF.false_
  · exact DetF.ite (DetF.guard _) DetF.false_
  · rename_i id ver
    refine DetF.ite ?_ DetF.false_
    generalize s.H.get id = q
    obtain ⟨v, b⟩ := q
    cases b with
    | dead => exact DetF.false_
    | box cs => exact DetF.false_
    | tree e' sz es => exact DetF.false_
    | wild e' sz es => exact DetF.false_
    | iter b pos => exact DetF.false_
    | map es => exact DetF.false_
    | row e' sz es => exact DetF.ite (DetF.guard _) DetF.false_
end
end Go.Proofs.Ytngefbdedbbplaa.Ai
