/- Contracts of the cursor that the laws draw from. -/
import Derived.Test.YtngefbdedbbplaaAiTypes
import Derived.Test.YtngefbdedbbplaaAiBase
import Derived.Laws.Bits64b
namespace Go.Proofs.Ytngefbdedbbplaa.Ai
open Go Go.Proofs
set_option linter.unusedSimpArgs false
set_option maxRecDepth 10000
set_option maxHeartbeats 4000000
set_option linter.unusedVariables false

noncomputable def cCur (code : List Int) (a s : Int) : List PV := [.isl 1 (rows cU8 code), .int .i64 a, .int .u64 s]

/-- What holds of a cursor's input. -/
structure CurIn (code : List Int) : Prop where
  len : (code.length : Int) ≤ 9223372036854775807
  fits : ∀ x ∈ code, 0 ≤ x ∧ x ≤ 255

/-- What a method leaves: at most k choices more. -/
def CurTo (code : List Int) (a k : Int) (cs : List PV) : Prop := ∃ a' s', cs = cCur code a' s' ∧ a ≤ a' ∧ a' ≤ a + k

theorem wrapU (n : Int) : 0 ≤ IntKind.u64.wrap n ∧ IntKind.u64.wrap n < 18446744073709551616 := by
  simp [IntKind.wrap, IntKind.bits, IntKind.signed]; omega

theorem low8 {s : Int} (h0 : 0 ≤ s) (h1 : s < 18446744073709551616) : 0 ≤ bits .and .u64 (s / 2 ^ (40 : Int).toNat) 255 ∧ bits .and .u64 (s / 2 ^ (40 : Int).toNat) 255 ≤ 255 := by
  obtain ⟨n, rfl⟩ := Int.eq_ofNat_of_zero_le h0
  have e : ((n : Int) / 2 ^ (40 : Int).toNat) = ((n / 1099511627776 : Nat) : Int) := by
    rw [show (2 : Int) ^ (40 : Int).toNat = ((1099511627776 : Nat) : Int) from rfl, Int.natCast_ediv]
  rw [e, show (255 : Int) = ((255 : Nat) : Int) from rfl, bits_and_u64_nat _ _ (by omega) (by omega)]
  have := Nat.and_le_right (n := n / 1099511627776) (m := 255)
  omega

theorem cNext_ok (code : List Int) (a s : Int) (h : CurIn code) (h0 : 0 ≤ a) (h1 : a ≤ 1000000000000000000) : OkM Try.prog 77 (cCur code a s) [] (fun r cs => ∃ q, r = .int .i64 q ∧ CurTo code a 1 cs ∧ 0 ≤ q ∧ q ≤ 255) :=
  fnM_intro envOk fieldsOk mixed Try.func77 rfl fun κ X Y L Q m hQ => by
    obtain ⟨hl, hf⟩ := h
    conv => cbv
    refine r_draw m (by kernel_rfl) ?_
    conv => cbv
    refine r_lenRS m.sY (by omega) fun n hn => ?_
    conv => cbv
    have rest : ∀ b : Int, 0 ≤ b → b ≤ 255 → True := fun _ _ _ => trivial
    refine r_lss m.sY (fun h2 => ?_) (fun h2 => ?_) <;> conv => cbv
    · refine r_draw m (by kernel_rfl) ?_
      conv => cbv
      refine r_index m.sY (by omega) (by omega) fun x hx => ?_
      conv => cbv
      have hb := hf x (get_mem hx)
      refine r_convf m.sY (by omega) (by omega) fun b hb' => ?_
      conv => cbv
      refine r_addf m.sX (by omega) (by omega) fun a' ha' => ?_
      conv => cbv
      refine r_mul m.sX fun s1 hs1 => ?_
      conv => cbv
      refine r_conv m.sX fun s2 hs2 => ?_
      conv => cbv
      refine r_add m.sX fun s3 hs3 => ?_
      conv => cbv
      refine r_add m.sX fun s4 hs4 => ?_
      conv => cbv
      refine r_draw m (by kernel_rfl) ?_
      conv => cbv
      refine r_lenRS m.sY (by omega) fun n' hn' => ?_
      conv => cbv
      have hw := hs4 ▸ wrapU _
      refine r_leq m.sY (fun h3 => ?_) (fun h3 => ?_) <;> conv => cbv
      · exact hQ (.int .i64 b) (cCur code a' s4) ⟨b, rfl, ⟨a', s4, rfl, by omega, by omega⟩, by omega, by omega⟩
      · omega
    · refine r_addf m.sX (by omega) (by omega) fun a' ha' => ?_
      conv => cbv
      refine r_mul m.sX fun s1 hs1 => ?_
      conv => cbv
      refine r_conv m.sX fun s2 hs2 => ?_
      conv => cbv
      refine r_add m.sX fun s3 hs3 => ?_
      conv => cbv
      refine r_add m.sX fun s4 hs4 => ?_
      conv => cbv
      refine r_draw m (by kernel_rfl) ?_
      conv => cbv
      refine r_lenRS m.sY (by omega) fun n' hn' => ?_
      conv => cbv
      have hw := hs4 ▸ wrapU _
      refine r_leq m.sY (fun h3 => ?_) (fun h3 => ?_) <;> conv => cbv
      · omega
      · refine r_shr m.sX (by omega) (by decide) fun q1 hq1 => ?_
        conv => cbv
        refine r_and m.sX fun q2 hq2 => ?_
        conv => cbv
        have hlow := low8 (s := s4) (by omega) (by omega)
        rw [← hq1, ← hq2] at hlow
        refine r_convf m.sX (by omega) (by omega) fun q3 hq3 => ?_
        conv => cbv
        exact hQ (.int .i64 q3) (cCur code a' s4) ⟨q3, rfl, ⟨a', s4, rfl, by omega, by omega⟩, by omega, by omega⟩
end Go.Proofs.Ytngefbdedbbplaa.Ai
