/- Contracts of the laws' helpers for []laws.Craft, continued. -/
import Derived.Test.YtnamefdhmlbcpaaHelp
namespace Go.Proofs.Ytnamefdhmlbcpaa.Ai
open Go Go.Proofs
set_option maxRecDepth 10000
set_option maxHeartbeats 4000000
set_option linter.unusedVariables false

theorem toCraft_ok (c : Craft) (hl : SmallCraft c) : OkA Try.prog 51 [.agg (cCraft c)] (· = .agg (cCraft c)) :=
  fn_intro envOk fieldsOk mixed Try.func51 rfl fun κ X Y L Q m hQ => by
    conv => cbv
    refine r_call m.sX (toIntS_ok c.1 hl) ?_
    conv => cbv
    exact hQ _ rfl

def zCraft : List PV := [.nil, .int .i64 0]

theorem toCraftS_ok (cs : List Craft) (hl : SmallCraftS cs) : OkA Try.prog 11 [.isl 2 (rows cCraft cs)] (· = .fr 56 2 (rows cCraft cs)) :=
  fn_intro envOk fieldsOk mixed Try.func11 rfl fun κ X Y L Q m hQ => by
    obtain ⟨hl, hs⟩ := hl
    conv => cbv
    refine r_lenR m.sX fun n hn hm => ?_
    conv => cbv
    refine r_make (orZ zCraft cCraft) none m.sX rfl (by omega) (by omega) (by dsimp only; omega) (by omega) fun zs hz => ?_
    conv => cbv
    refine r_loop (α := Int × List (Option Craft)) m 23 [0, 4] [⟨3, 25, 56, 2, 0⟩] (fun a => [(0, .isl 2 (rows cCraft cs)), (4, .int .i64 a.1), (3, .osl 25 0)]) (fun a => [(25, 0, .row 56 2 (rows (orZ zCraft cCraft) a.2))])
      (fun a => 0 ≤ a.1 ∧ a.1 ≤ cs.length ∧ a.2 = (cs.map some).take a.1.toNat ++ List.replicate ((cs.map some).length - a.1.toNat) none) (fun a => cs.length - a.1.toNat) (0, zs) ?_ ?_ ?_ ?_
    · cbv
    · cbv
    · refine ⟨by omega, by omega, by simp [hz, hn]⟩
    rintro ⟨i, ys⟩ ⟨h1, h2, h3⟩ E hE
    simp only at h1 h2 h3
    have hy : ys.length = cs.length := by rw [h3]; simp; omega
    conv => cbv
    refine r_lenR m.sX fun n hn hm => ?_
    conv => cbv
    refine r_lss m.sX (fun h1 => ?_) (fun h1 => ?_) <;> conv => cbv
    · refine r_index m.sX (by omega) (by omega) fun x hx => ?_
      conv => cbv
      refine r_call m.sX (toCraft_ok x (hs x (get_mem hx))) ?_
      conv => cbv
      refine r_oindex m.sX (by omega) (by omega) ?_
      conv => cbv
      obtain ⟨y, hy'⟩ := get_ex (xs := ys) (i := i.toNat) (by omega)
      refine r_ostore (l := i.toNat) (some x) m.sX hy' (by cases y <;> exact Nat.le_refl 2) (by cases y <;> rfl) fun vs hv => ?_
      conv => cbv
      refine r_addf m.sX (by omega) (by omega) fun j hj => ?_
      conv => cbv
      refine hE _ (j, vs) ?_ ?_ ⟨by dsimp only; omega, by dsimp only; omega, ?_⟩ (by dsimp only; omega)
      · cbv
      · cbv
      · dsimp only
        rw [hv, copy_step (x := some x) h3 (by simp [hx]), show j.toNat = i.toNat + 1 by omega]
    · exact hQ _ (congrArg (fun l => PV.fr 56 2 l) (by rw [← rows_some zCraft cCraft cs]; exact congrArg _ (copy_end h3 (by simp; omega))))

theorem eqCraft_ok (c : Craft) : OkA Try.prog 55 [.agg (cCraft c), .agg (cCraft c)] (· = .bool true) :=
  fn_intro envOk fieldsOk mixed Try.func55 rfl fun κ X Y L Q m hQ => by
    conv => cbv
    refine r_call m.sX (eqIntS_ok c.1) ?_
    conv => cbv
    refine r_neq m.sX (fun h1 => (by omega)) (fun h1 => ?_)
    conv => cbv
    exact hQ _ rfl

theorem eqCraftS_ok (cs : List Craft) : OkA Try.prog 16 [.isl 2 (rows cCraft cs), .isl 2 (rows cCraft cs)] (· = .bool true) :=
  fn_intro envOk fieldsOk mixed Try.func16 rfl fun κ X Y L Q m hQ => by
    conv => cbv
    refine r_lenR m.sX fun n hn hm => ?_
    conv => cbv
    refine r_lenR m.sX fun n' hn' hm' => ?_
    conv => cbv
    refine r_neq m.sX (fun h1 => (by omega)) (fun h1 => ?_)
    conv => cbv
    refine r_loop (α := Int) m 27 [0, 1, 5] [] (fun a => [(0, .isl 2 (rows cCraft cs)), (1, .isl 2 (rows cCraft cs)), (5, .int .i64 a)]) (fun a => [])
      (fun a => 0 ≤ a ∧ a ≤ cs.length) (fun a => cs.length - a.toNat) 0 ?_ ?_ ?_ ?_
    · cbv
    · cbv
    · exact ⟨by omega, by omega⟩
    rintro i ⟨h1, h2⟩ E hE
    conv => cbv
    refine r_lenR m.sX fun n hn hm => ?_
    conv => cbv
    refine r_lss m.sX (fun h1 => ?_) (fun h1 => ?_) <;> conv => cbv
    · refine r_draw m (by kernel_rfl) ?_
      conv => cbv
      refine r_index m.sY (by omega) (by omega) fun x hx => ?_
      conv => cbv
      refine r_index m.sY (by omega) (by omega) fun x' hx' => ?_
      conv => cbv
      obtain rfl := Option.some.inj (hx.symm.trans hx')
      refine r_callS m.sY (eqCraft_ok x) trivial ?_
      conv => cbv
      refine r_addf m.sX (by omega) (by omega) fun j hj => ?_
      conv => cbv
      refine hE _ j ?_ ?_ ⟨by omega, by omega⟩ (by omega)
      · cbv
      · cbv
    · exact hQ _ rfl
end Go.Proofs.Ytnamefdhmlbcpaa.Ai
