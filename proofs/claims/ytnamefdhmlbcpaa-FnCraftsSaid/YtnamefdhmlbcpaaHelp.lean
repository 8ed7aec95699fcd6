/- Contracts of the laws' helpers for []int and []laws.Craft. -/
import Derived.Test.YtnamefdhmlbcpaaAiTypes
import Derived.Test.YtnamefdhmlbcpaaAiBase
namespace Go.Proofs.Ytnamefdhmlbcpaa.Ai
open Go Go.Proofs
set_option maxRecDepth 10000
set_option maxHeartbeats 4000000
set_option linter.unusedVariables false

theorem szIntS_ok (xs : List Int) (l : Int) (hl : 0 ≤ l) (hl' : l ≤ 1048576) : OkA Try.prog 44 [.isl 1 (rows cInt xs), .int .i64 l] (fun r => ∃ q, r = .int .i64 q ∧ q ≤ l ∧ (0 ≤ q → (xs.length : Int) ≤ l)) :=
  fn_intro envOk fieldsOk mixed Try.func44 rfl fun κ X Y L Q m hQ => by
    conv => cbv
    refine r_lenR m.sX fun n hn hm => ?_
    conv => cbv
    refine r_subf m.sX (by omega) (by omega) fun d hd => ?_
    conv => cbv
    refine r_lss m.sX (fun h1 => ?_) (fun h1 => ?_) <;> conv => cbv
    · exact hQ _ ⟨-1, rfl, by omega, by omega⟩
    · exact hQ _ ⟨d, rfl, by omega, by omega⟩

theorem toIntS_ok (xs : List Int) (hl : (xs.length : Int) ≤ 1048576) : OkA Try.prog 13 [.isl 1 (rows cInt xs)] (· = .fr 3 1 (rows cInt xs)) :=
  fn_intro envOk fieldsOk mixed Try.func13 rfl fun κ X Y L Q m hQ => by
    conv => cbv
    refine r_lenR m.sX fun n hn hm => ?_
    conv => cbv
    refine r_make cInt 0 m.sX rfl (by omega) (by omega) (by dsimp only; omega) (by omega) fun zs hz => ?_
    conv => cbv
    refine r_loop (α := Int × List Int) m 22 [0, 4] [⟨3, 25, 3, 1, 0⟩] (fun a => [(0, .isl 1 (rows cInt xs)), (4, .int .i64 a.1), (3, .osl 25 0)]) (fun a => [(25, 0, .row 3 1 (rows cInt a.2))])
      (fun a => 0 ≤ a.1 ∧ a.1 ≤ xs.length ∧ a.2 = xs.take a.1.toNat ++ List.replicate (xs.length - a.1.toNat) 0) (fun a => xs.length - a.1.toNat) (0, zs) ?_ ?_ ?_ ?_
    · cbv
    · cbv
    · refine ⟨by omega, by omega, by simp [hz, hn]⟩
    rintro ⟨i, ys⟩ ⟨h1, h2, h3⟩ E hE
    simp only at h1 h2 h3
    have hy : ys.length = xs.length := by rw [h3]; simp; omega
    conv => cbv
    refine r_lenR m.sX fun n hn hm => ?_
    conv => cbv
    refine r_lss m.sX (fun h1 => ?_) (fun h1 => ?_) <;> conv => cbv
    · refine r_index m.sX (by omega) (by omega) fun x hx => ?_
      conv => cbv
      refine r_oindex m.sX (by omega) (by omega) ?_
      conv => cbv
      obtain ⟨y, hy'⟩ := get_ex (xs := ys) (i := i.toNat) (by omega)
      refine r_ostore (l := i.toNat) x m.sX hy' (Nat.le_refl _) rfl fun vs hv => ?_
      conv => cbv
      refine r_addf m.sX (by omega) (by omega) fun j hj => ?_
      conv => cbv
      refine hE _ (j, vs) ?_ ?_ ⟨by dsimp only; omega, by dsimp only; omega, ?_⟩ (by dsimp only; omega)
      · cbv
      · cbv
      · dsimp only
        rw [hv, copy_step h3 hx, show j.toNat = i.toNat + 1 by omega]
    · exact hQ _ (congrArg (fun l => PV.fr 3 1 (rows cInt l)) (by rw [h3, show i.toNat = xs.length by omega]; simp))

theorem eqIntS_ok (xs : List Int) : OkA Try.prog 15 [.isl 1 (rows cInt xs), .isl 1 (rows cInt xs)] (· = .bool true) :=
  fn_intro envOk fieldsOk mixed Try.func15 rfl fun κ X Y L Q m hQ => by
    conv => cbv
    refine r_lenR m.sX fun n hn hm => ?_
    conv => cbv
    refine r_lenR m.sX fun n' hn' hm' => ?_
    conv => cbv
    refine r_neq m.sX (fun h1 => (by omega)) (fun h1 => ?_)
    conv => cbv
    refine r_loop (α := Int) m 26 [0, 1, 5] [] (fun a => [(0, .isl 1 (rows cInt xs)), (1, .isl 1 (rows cInt xs)), (5, .int .i64 a)]) (fun a => [])
      (fun a => 0 ≤ a ∧ a ≤ xs.length) (fun a => xs.length - a.toNat) 0 ?_ ?_ ?_ ?_
    · cbv
    · cbv
    · exact ⟨by omega, by omega⟩
    rintro i ⟨h1, h2⟩ E hE
    conv => cbv
    refine r_lenR m.sX fun n hn hm => ?_
    conv => cbv
    refine r_lss m.sX (fun h1 => ?_) (fun h1 => ?_) <;> conv => cbv
    · refine r_draw m (by kernel_rfl) ?_
      conv => cbv
      refine r_index m.sY (by omega) (by omega) fun x hx => ?_
      conv => cbv
      refine r_index m.sY (by omega) (by omega) fun x' hx' => ?_
      conv => cbv
      obtain rfl := Option.some.inj (hx.symm.trans hx')
      refine r_neq m.sY (fun h1 => (by omega)) (fun h1 => ?_)
      conv => cbv
      refine r_addf m.sX (by omega) (by omega) fun j hj => ?_
      conv => cbv
      refine hE _ j ?_ ?_ ⟨by omega, by omega⟩ (by omega)
      · cbv
      · cbv
    · exact hQ _ rfl

/-! ### Craft -/
abbrev Craft := List Int × Int
noncomputable def cCraft (c : Craft) : List PV := [.isl 1 (rows cInt c.1), .int .i64 c.2]

theorem szCraft_ok (c : Craft) (l : Int) (hl : 0 ≤ l) (hl' : l ≤ 1048576) : OkA Try.prog 43 [.agg (cCraft c), .int .i64 l] (fun r => ∃ q, r = .int .i64 q ∧ q ≤ l ∧ (0 ≤ q → (c.1.length : Int) ≤ 1048576)) :=
  fn_intro envOk fieldsOk mixed Try.func43 rfl fun κ X Y L Q m hQ => by
    conv => cbv
    refine r_callE m.sX (szIntS_ok c.1 l hl hl') ?_
    rintro _ ⟨q, rfl, h1, h2⟩
    conv => cbv
    refine r_lss m.sX (fun h3 => ?_) (fun h3 => ?_) <;> conv => cbv
    · exact hQ _ ⟨-1, rfl, by omega, by omega⟩
    · exact hQ _ ⟨q, rfl, by omega, by omega⟩

def SmallCraft (c : Craft) : Prop := (c.1.length : Int) ≤ 1048576
def SmallCraftS (cs : List Craft) : Prop := (cs.length : Int) ≤ 1048576 ∧ ∀ c ∈ cs, SmallCraft c

theorem szCraftS_ok (cs : List Craft) (l : Int) (hl : 0 ≤ l) (hl' : l ≤ 1048576) : OkA Try.prog 8 [.isl 2 (rows cCraft cs), .int .i64 l] (fun r => ∃ q, r = .int .i64 q ∧ q ≤ l ∧ (0 ≤ q → SmallCraftS cs)) :=
  fn_intro envOk fieldsOk mixed Try.func8 rfl fun κ X Y L Q m hQ => by
    conv => cbv
    refine r_lenR m.sX fun n hn hm => ?_
    conv => cbv
    refine r_subf m.sX (by omega) (by omega) fun d hd => ?_
    conv => cbv
    refine r_lss m.sX (fun h1 => ?_) (fun h1 => ?_) <;> conv => cbv
    · exact hQ _ ⟨-1, rfl, by omega, by omega⟩
    refine r_loop (α := Int × Int) m 27 [0, 1, 5] [] (fun a => [(0, .isl 2 (rows cCraft cs)), (1, .int .i64 a.2), (5, .int .i64 a.1)]) (fun a => [])
      (fun a => 0 ≤ a.1 ∧ a.1 ≤ cs.length ∧ 0 ≤ a.2 ∧ a.2 ≤ l ∧ ∀ c ∈ cs.take a.1.toNat, SmallCraft c) (fun a => cs.length - a.1.toNat) (0, d) ?_ ?_ ?_ ?_
    · cbv
    · cbv
    · exact ⟨by dsimp only; omega, by dsimp only; omega, by dsimp only; omega, by dsimp only; omega, by simp⟩
    rintro ⟨i, d'⟩ ⟨h2, h3, h4, h5, h6⟩ E hE
    dsimp only at h2 h3 h4 h5 h6
    conv => cbv
    refine r_lenR m.sX fun n' hn' hm' => ?_
    conv => cbv
    refine r_lss m.sX (fun h7 => ?_) (fun h7 => ?_) <;> conv => cbv
    · refine r_index m.sX (by omega) (by omega) fun x hx => ?_
      conv => cbv
      refine r_callE m.sX (szCraft_ok x d' (by omega) (by omega)) ?_
      rintro _ ⟨q, rfl, h8, h9⟩
      conv => cbv
      refine r_lss m.sX (fun h10 => ?_) (fun h10 => ?_) <;> conv => cbv
      · exact hQ _ ⟨-1, rfl, by omega, by omega⟩
      refine r_addf m.sX (by omega) (by omega) fun j hj => ?_
      conv => cbv
      refine hE _ (j, q) ?_ ?_ ⟨by dsimp only; omega, by dsimp only; omega, by dsimp only; omega, by dsimp only; omega, ?_⟩ (by dsimp only; omega)
      · cbv
      · cbv
      · dsimp only
        rw [show j.toNat = i.toNat + 1 by omega, List.take_add_one, hx]
        intro c hc
        rcases List.mem_append.1 hc with hc | hc
        · exact h6 c hc
        · obtain rfl : c = x := by simpa using hc
          exact h9 (by omega)
    · refine hQ _ ⟨d', rfl, by omega, fun _ => ⟨by omega, ?_⟩⟩
      rw [show i.toNat = cs.length by omega, List.take_length] at h6
      exact h6
end Go.Proofs.Ytnamefdhmlbcpaa.Ai
