/- Contracts of the cursor's choices. -/
import Derived.Test.YtngefbdedbbplaaCur
namespace Go.Proofs.Ytngefbdedbbplaa.Ai
open Go Go.Proofs
set_option linter.unusedSimpArgs false
set_option maxRecDepth 10000
set_option maxHeartbeats 4000000
set_option linter.unusedVariables false

theorem CurTo.refl (code : List Int) (a s : Int) : CurTo code a 0 (cCur code a s) := ⟨a, s, rfl, by omega, by omega⟩

theorem cPick_ok (code : List Int) (a s n : Int) (h : CurIn code) (h0 : 0 ≤ a) (hk : a ≤ 999999999999999999) : OkM Try.prog 62 (cCur code a s) [.int .i64 n] (fun r cs => ∃ q, r = .int .i64 q ∧ CurTo code a 2 cs ∧ 0 ≤ q ∧ (1 ≤ n → q < n) ∧ q ≤ 65535) :=
  fnM_intro envOk fieldsOk mixed Try.func62 rfl fun κ X Y L Q m hQ => by
    conv => cbv
    refine r_leq m.sX (fun h1 => ?_) (fun h1 => ?_) <;> conv => cbv
    · exact hQ (.int .i64 0) (cCur code a s) ⟨0, rfl, ⟨a, s, rfl, by omega, by omega⟩, by omega, by omega, by omega⟩
    refine r_mcall m.sX (cNext_ok code a s h h0 (by omega)) ?_
    rintro _ _ ⟨q, rfl, ⟨a1, s1, rfl, e1, e2⟩, e3, e4⟩
    conv => cbv
    refine r_gtr m.sX (fun h2 => ?_) (fun h2 => ?_) <;> conv => cbv
    · refine r_mulf m.sX (by first | omega | (subst_vars; omega)) (by first | omega | (subst_vars; omega)) fun p hp => ?_
      conv => cbv
      refine r_mcall m.sX (cNext_ok code a1 s1 h (by omega) (by omega)) ?_
      rintro _ _ ⟨q', rfl, ⟨a2, s2, rfl, e5, e6⟩, e7, e8⟩
      conv => cbv
      refine r_addf m.sX (by omega) (by omega) fun t ht => ?_
      conv => cbv
      refine r_modf m.sX (by omega) (by omega) fun u hu bu => ?_
      conv => cbv
      exact hQ (.int .i64 u) (cCur code a2 s2) ⟨u, rfl, ⟨a2, s2, rfl, by omega, by omega⟩, by omega, by omega, by omega⟩
    · refine r_modf m.sX (by omega) (by omega) fun u hu bu => ?_
      conv => cbv
      exact hQ (.int .i64 u) (cCur code a1 s1) ⟨u, rfl, ⟨a1, s1, rfl, by omega, by omega⟩, by omega, by omega, by omega⟩

theorem cOne_ok (code : List Int) (a s n : Int) (h : CurIn code) (h0 : 0 ≤ a) (hk : a ≤ 999999999999999999) : OkM Try.prog 42 (cCur code a s) [.int .i64 n] (fun r cs => ∃ q, r = .bool q ∧ CurTo code a 2 cs) :=
  fnM_intro envOk fieldsOk mixed Try.func42 rfl fun κ X Y L Q m hQ => by
    conv => cbv
    refine r_mcall m.sX (cPick_ok code a s n h h0 hk) ?_
    rintro _ _ ⟨q, rfl, ⟨a1, s1, rfl, e1, e2⟩, e3, e4, e5⟩
    conv => cbv
    refine r_eql m.sX (fun h1 => ?_) (fun h1 => ?_) <;> conv => cbv
    · exact hQ (.bool true) (cCur code a1 s1) ⟨true, rfl, ⟨a1, s1, rfl, e1, e2⟩⟩
    · exact hQ (.bool false) (cCur code a1 s1) ⟨false, rfl, ⟨a1, s1, rfl, e1, e2⟩⟩

theorem cAmong_ok (code : List Int) (a s : Int) (xs : List Int) (hx : xs ≠ []) (h : CurIn code) (h0 : 0 ≤ a) (hk : a ≤ 999999999999999999) : OkM Try.prog 61 (cCur code a s) [.isl 1 (xs.map cInt)] (fun r cs => ∃ q, r = .int .i64 q ∧ CurTo code a 2 cs ∧ q ∈ xs) := by
  rw [← rows_eq]
  exact fnM_intro envOk fieldsOk mixed Try.func61 rfl fun κ X Y L Q m hQ => by
    conv => cbv
    refine r_lenR m.sX fun n hn mn => ?_
    conv => cbv
    have hn0 : 1 ≤ n := by
      cases xs with
      | nil => exact absurd rfl hx
      | cons y r => rw [hn]; simp; omega
    refine r_mcall m.sX (cPick_ok code a s n h h0 hk) ?_
    rintro _ _ ⟨q, rfl, ⟨a1, s1, rfl, e1, e2⟩, e3, e4, e5⟩
    conv => cbv
    have e6 := e4 hn0
    refine r_index m.sX (by omega) (by omega) fun x hx => ?_
    conv => cbv
    exact hQ (.int .i64 x) (cCur code a1 s1) ⟨x, rfl, ⟨a1, s1, rfl, e1, e2⟩, get_mem hx⟩
end Go.Proofs.Ytngefbdedbbplaa.Ai
