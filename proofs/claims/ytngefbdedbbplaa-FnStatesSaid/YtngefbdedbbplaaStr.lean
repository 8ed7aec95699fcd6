/- Rules for strings. -/
import Derived.Test.YtngefbdedbbplaaLit
namespace Go.Proofs.Ytngefbdedbbplaa.Ai
open Go Go.Proofs
set_option linter.unusedSimpArgs false
set_option linter.unusedVariables false
section
variable {P : Program} {b : Bool} {X : Req → (PV → Prop) → Prop} {K : PV → Prop} {u v : List UInt8}
theorem r_seqlT (h : Std P b X) (e : u = v) (H : K (.bool true)) : X (.sbin .eql u v) K := r_seql h (fun _ => H) fun e' => absurd e e'
theorem r_seqlF (h : Std P b X) (e : u ≠ v) (H : K (.bool false)) : X (.sbin .eql u v) K := r_seql h (fun e' => absurd e' e) fun _ => H
theorem r_sneqT (h : Std P b X) (e : u ≠ v) (H : K (.bool true)) : X (.sbin .neq u v) K := r_sneq h (fun _ => H) fun e' => absurd e' e
theorem r_sneqF (h : Std P b X) (e : u = v) (H : K (.bool false)) : X (.sbin .neq u v) K := r_sneq h (fun e' => absurd e e') fun _ => H
theorem r_sgeqT (h : Std P b X) (e : Op.bytesLess u v = false) (H : K (.bool true)) : X (.sbin .geq u v) K := r_sgeq h (fun _ => H) fun e' => by rw [e] at e'; cases e'
theorem r_sgeqF (h : Std P b X) (e : Op.bytesLess u v = true) (H : K (.bool false)) : X (.sbin .geq u v) K := r_sgeq h (fun e' => by rw [e] at e'; cases e') fun _ => H
theorem r_tostr {es : List (List PV)} (l : List Int) (h : Std P b X) (he : es = l.map fun n => [PV.int .u8 n]) (H : ∀ zs, zs = l.map (fun n => UInt8.ofNat n.toNat) → K (.str zs)) : X (.tostr es) K := by
  rw [h.eq]; exact ⟨l, he, H _ rfl⟩
end
theorem slice_one {α : Type} {u zs : List α} {x : α} {i j : Int} (hx : u[i.toNat]? = some x) (h0 : 0 ≤ i) (hj : j = i + 1) (hz : zs = (u.take j.toNat).drop i.toNat) : zs = [x] := by
  have hi := (List.getElem?_eq_some_iff.1 hx).1
  rw [hz, show j.toNat = i.toNat + 1 by omega, take_snoc hx, List.drop_append, List.drop_of_length_le (by rw [List.length_take]; omega), List.nil_append]
  rw [List.length_take, Nat.min_eq_left (Nat.le_of_lt hi), Nat.sub_self]; rfl
theorem OkA.iceR {P : Program} {f : FuncId} {args : List PV} {Q : PV → Prop} (h : OkA P f args (fun r => Q (Ai.ice r))) : OkA P f args Q := (OkA.iceE h).mono fun _ ⟨_, q, e⟩ => by rw [e]; exact q
end Go.Proofs.Ytngefbdedbbplaa.Ai
