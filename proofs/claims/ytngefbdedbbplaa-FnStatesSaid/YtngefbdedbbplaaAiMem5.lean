/- Soundness: cutting slices and strings. -/
import Derived.Test.YtngefbdedbbplaaAiMem4
set_option linter.unusedSectionVars false
namespace Go.Proofs.Ytngefbdedbbplaa.Ai
open Go Go.RowKit
set_option linter.unusedVariables false
set_option linter.unusedSimpArgs false

section
variable {bb : Bool} {P : Program} {κ : Ctx} [NoZ κ] {η : Own} {s : St} {a : Act} {w : World} {G : Env} {o : Oper} {Q' : Exit → Act → World → Prop}

theorem optInt_spec (h : Sim κ η s a w) {x : Option Operand} {l : Option Int} (hl : optInt s x = some l) : (x = none ∧ l = none) ∨ ∃ y k n, x = some y ∧ l = some n ∧ a.eval y = .int k n := by
  unfold optInt at hl
  split at hl
  · exact .inl ⟨rfl, (Option.some.inj hl).symm⟩
  · rename_i y
    split at hl
    · rename_i k n hy
      have := h.ev y
      rw [hy] at this
      exact .inr ⟨y, k, n, rfl, (Option.some.inj hl).symm, this.int.1⟩
    · cases hl

theorem run_cut (h : Sim κ η s a w) {t e : Nat} {te : TI} (hu : P.underlying t = some (.slice e)) (hd : descOk P e te) {lo hi : Option Operand} {l r : Option Int} (hl : optInt s lo = some l) (hr : optInt s hi = some r)
    (A : Option Addr) (len cap : Nat) (h0 : 0 ≤ l.getD 0) (h1 : l.getD 0 ≤ r.getD len) (h2 : (r.getD len).toNat ≤ len) (hc : len ≤ cap) :
    (Instr.sliceAt t (.slice A len cap) (lo.map a.eval) (hi.map a.eval) none).run P w = .ok (sliced A (l.getD 0).toNat (r.getD len).toNat cap te.size) w := by
  have he : P.elem t = e := by simp [Program.elem, hu]
  have hu' : P.underlying t = some (.slice (P.elem t)) := by rw [he]; exact hu
  have hs : ∀ w, (sizeOf (P.elem t)).run P w = .ok te.size w := fun w => by rw [he]; exact run_sizeOf hd w
  rw [run_sliceAt_slice _ _ _ _ _ _ hu']
  rcases optInt_spec h hl with ⟨rfl, rfl⟩ | ⟨y, k, n, rfl, rfl, hy⟩ <;> rcases optInt_spec h hr with ⟨rfl, rfl⟩ | ⟨z, k', m, rfl, rfl, hz⟩
  · simp only [Option.map_none, Option.getD_none]
    rw [run_slice_all _ _ _ _ _ hu', hs]
    rfl
  · simp only [Option.map_none, Option.getD_none, Option.map_some, Option.getD_some, hz] at *
    rw [run_slice_h _ _ _ _ _ hu' k' m (by omega) (by omega), hs]
    rfl
  · simp only [Option.map_none, Option.getD_none, Option.map_some, Option.getD_some, hy] at *
    rw [run_slice_l _ _ _ _ _ hu' k n (by omega) (by omega), hs]
    rfl
  · simp only [Option.map_some, Option.getD_some, hy, hz] at *
    rw [run_slice_lh _ _ _ _ _ hu' k k' n m (by omega) (by omega) (by omega), hs]
    rfl

theorem run_cut_string (h : Sim κ η s a w) {t : Nat} (hu : P.underlying t = some .string) {lo hi : Option Operand} {l r : Option Int} (hl : optInt s lo = some l) (hr : optInt s hi = some r)
    (b : ByteArray) (h0 : 0 ≤ l.getD 0) (h1 : l.getD 0 ≤ r.getD b.size) (h2 : (r.getD b.size).toNat ≤ b.size) :
    (Instr.sliceAt t (.string b) (lo.map a.eval) (hi.map a.eval) none).run P w = .ok (.string (b.extract (l.getD 0).toNat (r.getD b.size).toNat)) w := by
  rw [run_sliceAt_string _ _ _ _ _ _ hu]
  rcases optInt_spec h hl with ⟨rfl, rfl⟩ | ⟨y, k, n, rfl, rfl, hy⟩ <;> rcases optInt_spec h hr with ⟨rfl, rfl⟩ | ⟨z, k', m, rfl, rfl, hz⟩
  · simp only [Option.map_none, Option.getD_none]
    rw [run_slice_string_all _ _ _ hu]
    rfl
  · simp only [Option.map_none, Option.getD_none, Option.map_some, Option.getD_some, hz] at *
    rw [run_slice_string_h _ _ _ hu k' m (by omega) (by omega)]
    rfl
  · simp only [Option.map_none, Option.getD_none, Option.map_some, Option.getD_some, hy] at *
    rw [run_slice_string_l _ _ _ hu k n (by omega) (by omega)]
    rfl
  · simp only [Option.map_some, Option.getD_some, hy, hz] at *
    rw [run_slice_string _ t b k k' n m hu (by omega) (by omega) (by omega)]

theorem cut_isl {I : Nat → Prop} {sz : Nat} {es : List (List PV)} {c : Value} (hr : RepI w I (.isl sz es) c) (lo hi : Nat) (h1 : lo ≤ hi) (h2 : hi ≤ es.length) :
    ∃ A cap, c = .slice A es.length cap ∧ es.length ≤ cap ∧ RepI w I (.isl sz ((es.take hi).drop lo)) (sliced A lo hi cap sz) := by
  have hlen : ((es.take hi).drop lo).length = hi - lo := by simp; omega
  have nilcase : ∀ (A : Option Addr) (cap : Nat), cap ≤ maxLen → hi - lo = 0 → RepI w I (.isl sz ((es.take hi).drop lo)) (sliced A lo hi cap sz) := fun A cap hc h0 => by
    rw [List.eq_nil_of_length_eq_zero (hlen.trans h0)]
    unfold sliced
    rw [h0]
    exact .isl0 sz _ _ (by omega)
  cases hr with
  | isl0 _ A cap hm => exact ⟨A, cap, rfl, Nat.zero_le _, nilcase A cap hm (by simp at h2; omega)⟩
  | isl _ _ g o' cap vs hl hr hI hcell hc hm =>
    refine ⟨_, cap, rfl, hc, ?_⟩
    by_cases h0 : hi - lo = 0
    · exact nilcase _ cap hm h0
    · unfold sliced
      rw [if_neg (by omega)]
      simp only [Option.map_some, Addr.add_lit]
      have hfl : ((es.take hi).drop lo).flatten = (es.flatten.take (hi * sz)).drop (lo * sz) := by
        rw [flat_take hi hl, flat_drop lo fun x hx => hl x (List.mem_of_mem_take hx)]
      rw [← hlen]
      refine .isl sz _ g (o' + lo * sz) (cap - lo) ((vs.take (hi * sz)).drop (lo * sz)) (fun e he => hl e (List.mem_of_mem_take (List.mem_of_mem_drop he))) ?_ hI (fun j v hj => ?_) (by omega) (by omega)
      · rw [hfl]
        exact RepIs.of ((hr.all2.take _).drop _)
      · rw [List.getElem?_drop, List.getElem?_take] at hj
        rw [Nat.add_assoc]
        split at hj
        · exact hcell _ v hj
        · cases hj

theorem put_dead (H : Heap) (id : Nat) (x y : Nat × Body) : (H.put id x).put id y = H.put id y := by
  induction H with
  | nil => simp [Heap.put]
  | cons q r ih =>
    obtain ⟨i, u, b⟩ := q
    simp only [Heap.put]
    by_cases e : i = id
    · simp [e, Heap.put]
    · simp [e, Heap.put, ih]

theorem own_value (h : Sim κ η s a w) {id ver e sz : Nat} {es : List (List PV)} (he : s.H.get id = (ver, .row e sz es)) {c : Value} (hx : Rep w (imm κ η w) η (.osl id ver) c) : η.val id = some c ∧ η.cur id = ver := by
  have hob := h.heap id
  rw [he] at hob
  obtain ⟨hcur, v, vals, hval, hown, hr, hlen⟩ := hob
  have h1 := hx.inv1 (fun _ e => by cases e) (fun _ e => by cases e)
  cases h1 with
  | imm h1 => cases h1
  | osl _ _ _ hv' hp => rw [hp hcur.symm v hval]; exact ⟨hval, hcur⟩

theorem sound_slice (hG : EnvOk P G) (h : Sim κ η s a w) {K : St → Prop} (t : Nat) (x : Operand) (lo hi : Option Operand) (ho : o.op = .slice t x lo hi none) {l r : Option Int} (hl : optInt s lo = some l) (hr : optInt s hi = some r)
    (hK : opSlice (std bb P) G t s (s.ev x) l r o.dst K) : o.wp P a w (Then κ K) Q' := by
  have hx := h.ev x
  have hrunop : ∀ c w', (Instr.sliceAt t (a.eval x) (lo.map a.eval) (hi.map a.eval) none).run P w = .ok c w' → (execOp a.eval o).run P w = .ok (.value c) w' := by
    intro c w' hr
    simp only [execOp, ho, Option.map_none, Sem.run_bind, hr, Result.andThen_ok, Sem.run_pure]
  unfold opSlice at hK
  split at hK
  · rename_i b hv
    split at hK
    case isFalse => exact hK.elim
    rename_i hs
    have hu := isString_spec hG hs
    obtain ⟨h0, h1, h2, hK⟩ := hK
    rw [hv] at hx
    obtain ⟨hx, hlb⟩ := hx.str
    have hsz : (⟨b.toArray⟩ : ByteArray).size = b.length := by simp [ByteArray.size]
    have hrun := run_cut_string (P := P) h hu hl hr ⟨b.toArray⟩ h0 (by rw [hsz]; exact h1) (by rw [hsz]; exact h2)
    rw [hsz] at hrun
    refine done_put h (hrunop _ _ (by rw [hx]; exact hrun)) ?_ hK
    have e : (⟨b.toArray⟩ : ByteArray).extract (l.getD 0).toNat (r.getD b.length).toNat = ⟨((b.take (r.getD b.length).toNat).drop (l.getD 0).toNat).toArray⟩ := by
      apply ByteArray.ext
      rw [ByteArray.data_extract]
      simp [List.extract_toArray, List.extract_eq_take_drop, List.drop_take]
    rw [e]
    exact .of (.str _ (by simp; omega))
  · rename_i hv
    split at hK
    case h_2 => exact hK.elim
    rename_i et hsl
    obtain ⟨hu, hd⟩ := sliceOf_spec hG (e := et.1) (te := et.2) hsl
    obtain ⟨h0, h1, h2, hK⟩ := hK
    rw [hv] at hx
    have hxn := hx.nil
    have h2' : (r.getD 0).toNat = 0 := by simpa using h2
    have hrun := run_cut (P := P) h hu hd hl hr none 0 0 h0 h1 (by simp [h2']) (Nat.le_refl _)
    refine done_put h (c := .slice none 0 0) (hrunop _ _ ?_) (.of .nil) hK
    rw [hxn, hrun]
    have h3 : (l.getD 0).toNat = 0 := by omega
    simp [sliced, h2', h3]
  · rename_i sz es hv
    split at hK
    case h_2 => exact hK.elim
    rename_i e te hsl
    obtain ⟨hu, hd⟩ := sliceOf_spec hG hsl
    split at hK
    case isFalse => exact hK.elim
    rename_i hsz
    obtain ⟨h0, h1, h2, hK⟩ := hK
    rw [hv] at hx
    obtain ⟨A, cap, hc, hcap, hrep⟩ := cut_isl (hx.invI rfl) (l.getD 0).toNat (r.getD es.length).toNat (by omega) h2
    have hrun := run_cut (P := P) h hu hd hl hr A es.length cap h0 h1 h2 hcap
    refine done_put h (hrunop _ _ (by rw [hc]; exact hrun)) ?_ hK
    rw [← hsz]
    exact .of hrep
  · rename_i id ver hv
    split at hK
    case h_2 => exact hK.elim
    rename_i e te hsl
    obtain ⟨hu, hd⟩ := sliceOf_spec hG hsl
    split at hK
    case h_2 => exact hK.elim
    rename_i v0 e0 sz es he
    split at hK
    case isFalse => exact hK.elim
    rename_i ev
    subst ev
    split at hK
    case isFalse => exact hK.elim
    rename_i hsz
    rw [hv] at hx
    obtain ⟨hval, hcur⟩ := own_value h he hx
    have hob := h.heap id
    rw [he] at hob
    obtain ⟨_, v, vals, hval', ⟨hown, hside⟩, hrr, hlen⟩ := hob
    rw [hval] at hval'
    obtain rfl := Option.some.inj hval'
    split at hK
    · split at hK
      case h_2 => exact hK.elim
      rename_i d hd'
      obtain ⟨h0, h1, h2, hK⟩ := hK
      simp only [Int.toNat_zero, List.drop_zero] at hK
      have hform : ∃ A cap, a.eval x = .slice A es.length cap ∧ es.length ≤ cap := by
        rcases hown.2 with ⟨e1, e2⟩ | ⟨g, cap, cur, e1, hB, hh, hcap, hm, hcs, htake⟩
        · exact ⟨none, 0, by rw [e1, e2], by omega⟩
        · exact ⟨_, cap, e1, hcap⟩
      obtain ⟨A, cap, hc, hcap⟩ := hform
      have hrun := run_cut (P := P) h hu hd hl hr A es.length cap (by simp) (by simpa using h1) h2 hcap
      simp only [Option.getD_none, Int.toNat_zero] at hrun
      have hsl0 : sliced A 0 (r.getD es.length).toNat cap te.size = .slice A (r.getD es.length).toNat cap := by
        unfold sliced
        rw [Nat.zero_mul]
        split
        · simp
        · cases A <;> simp [Addr.add]
      rw [hsl0] at hrun
      have hown' : w.ownsRow 0 e0 sz (.slice A (r.getD es.length).toNat cap) ((es.take (r.getD es.length).toNat).length) (vals.take ((r.getD es.length).toNat * sz)) := by
        have hmul : (r.getD es.length).toNat * sz ≤ es.length * sz := Nat.mul_le_mul_right _ h2
        rw [hc] at hown
        have htl : (es.take (r.getD es.length).toNat).length = (r.getD es.length).toNat := by rw [List.length_take]; omega
        rw [htl]
        refine ⟨by rw [List.length_take, hown.1]; omega, ?_⟩
        rcases hown.2 with ⟨e1, e2⟩ | ⟨g, cap', cur, e1, hB, hh, hcap', hm, hcs, htake⟩
        · injection e1 with e3 e4 e5
          subst e3 e5
          refine .inl ⟨?_, by omega⟩
          congr 1
          omega
        · injection e1 with e3 e4 e5
          subst e3 e5
          refine .inr ⟨g, cap, cur, rfl, hB, hh, by omega, hm, hcs, ?_⟩
          rw [← htake, List.take_take, Nat.min_eq_left hmul]
      obtain ⟨hs1, hI⟩ := h.grow (w' := w) id v0 (.row e0 sz (es.take (r.getD es.length).toNat)) (a.eval x) (.slice A (r.getD es.length).toNat cap) hcur hval (World.grownBy.refl w _)
        hside.new
        (fun g hgv => .inl (by rw [hc]; cases A <;> exact hgv))
        (fun η' hle hI hc' hv' => ⟨hc', _, _, hv', ⟨hown', ⟨fun g hgv => hside.new g (by rw [hc]; cases A <;> exact hgv), fun _ _ h => by cases h⟩⟩, by
          rw [← flat_take _ hlen]
          exact RepIs.of (((hrr.mono hI).all2).take _), fun x hx => hlen x (List.mem_of_mem_take hx)⟩)
      obtain ⟨η2, hs2, hle2, hI2, hv2, hc2⟩ := hs1.rename id (8 * d) (v0 + 1) e0 sz (es.take (r.getD es.length).toNat) (by simp [Heap.get_put]) (v := .slice A (r.getD es.length).toNat cap) Own.set_o
      refine done_value (c := .slice A (r.getD es.length).toNat cap) (hrunop _ _ (by rw [hc]; exact hrun)) (s' := bind ⟨s.T, s.H.put id (v0 + 1, .dead)⟩ (some d) (.fr e0 sz (es.take (r.getD es.length).toNat))) (η' := η2) ?_ hK
      rw [put_dead] at hs2 hc2
      rw [hd']
      refine hs2.put (some d) (.of1 (.osl _ _ _ ?_ ?_))
      · rw [hc2]; exact Nat.le_refl _
      · intro _ x hx
        rw [hv2] at hx
        exact Option.some.inj hx
    · rename_i l'
      obtain ⟨h0, h1, h2, hK⟩ := hK
      simp only at hK
      obtain ⟨η', hs', hle, hI', v', hv', hri⟩ := h.freeze he
      rw [hval] at hv'
      obtain rfl := Option.some.inj hv'
      obtain ⟨A, cap, hc, hcap, hrep⟩ := cut_isl hri l'.toNat (r.getD es.length).toNat (by omega) h2
      have hrun := run_cut (P := P) h hu hd hl hr A es.length cap (by simpa using h0) (by simpa using h1) h2 hcap
      refine done_value (hrunop _ _ (by rw [hc]; exact hrun)) (hs'.put o.dst ?_) hK
      simp only [Option.getD_some]
      rw [← hsz]
      exact .of hrep
  · exact hK.elim

/-- The first elements of a row, with any bound on the capacity that leaves room for them. -/
theorem cut_isl3 {I : Nat → Prop} {sz : Nat} {es : List (List PV)} {c : Value} (hr : RepI w I (.isl sz es) c) (hi mx : Nat) (h1 : hi ≤ mx) (h2 : mx ≤ es.length) :
    ∃ A cap, c = .slice A es.length cap ∧ es.length ≤ cap ∧ RepI w I (.isl sz (es.take hi)) (sliced A 0 hi mx sz) := by
  have hlen : (es.take hi).length = hi := by simp; omega
  have nilcase : ∀ (A : Option Addr), mx ≤ maxLen → hi = 0 → RepI w I (.isl sz (es.take hi)) (sliced A 0 hi mx sz) := fun A hc h0 => by
    rw [List.eq_nil_of_length_eq_zero (hlen.trans h0)]
    unfold sliced
    rw [h0]
    exact .isl0 sz _ _ (by omega)
  cases hr with
  | isl0 _ A cap hm => exact ⟨A, cap, rfl, Nat.zero_le _, nilcase A (by simp at h2; omega) (by simp at h2; omega)⟩
  | isl _ _ g o' cap vs hl hr hI hcell hc hm =>
    refine ⟨_, cap, rfl, hc, ?_⟩
    by_cases h0 : hi = 0
    · exact nilcase _ (by omega) h0
    · unfold sliced
      rw [Nat.zero_mul, Nat.sub_zero, Nat.sub_zero, if_neg (by omega)]
      simp only [Option.map_some, Addr.add_lit, Nat.add_zero]
      have hfl : (es.take hi).flatten = es.flatten.take (hi * sz) := (flat_take hi hl).symm
      conv => rhs; rw [← hlen]
      refine .isl sz _ g o' mx (vs.take (hi * sz)) (fun e he => hl e (List.mem_of_mem_take he)) ?_ hI (fun j v hj => ?_) (by omega) (by omega)
      · rw [hfl]
        exact RepIs.of (hr.all2.take _)
      · rw [List.getElem?_take] at hj
        split at hj
        · exact hcell _ v hj
        · cases hj

theorem sound_slice3 (hG : EnvOk P G) (h : Sim κ η s a w) {K : St → Prop} (t : Nat) (x hi mx : Operand) (ho : o.op = .slice t x none (some hi) (some mx))
    (hK : opSlice3 (std bb P) G t s (s.ev x) (s.ev hi) (s.ev mx) o.dst K) : o.wp P a w (Then κ K) Q' := by
  have hx := h.ev x
  have hn := h.ev hi
  have hm := h.ev mx
  have hrunop : ∀ c w', (Instr.sliceAt t (a.eval x) none (some (a.eval hi)) (some (a.eval mx))).run P w = .ok c w' → (execOp a.eval o).run P w = .ok (.value c) w' := by
    intro c w' hr
    simp only [execOp, ho, Option.map_none, Option.map_some, Sem.run_bind, hr, Result.andThen_ok, Sem.run_pure]
  unfold opSlice3 at hK
  split at hK
  case h_2 => exact hK.elim
  rename_i id ver k n k' m' hv hvn hvm
  split at hK
  case h_2 => exact hK.elim
  rename_i e te hsl
  obtain ⟨hu, hd⟩ := sliceOf_spec hG hsl
  split at hK
  case h_2 => exact hK.elim
  rename_i v0 e0 sz es he
  split at hK
  case isFalse => exact hK.elim
  rename_i ev
  subst ev
  split at hK
  case isFalse => exact hK.elim
  rename_i hsz
  obtain ⟨a0, a1, a2, b0, b1, b2, hK⟩ := hK
  simp only [Int.toNat_zero, List.drop_zero] at hK
  rw [hv] at hx
  rw [hvn] at hn
  rw [hvm] at hm
  obtain ⟨hval, hcur⟩ := own_value h he hx
  obtain ⟨η', hs', hle, hI', v', hv', hri⟩ := h.freeze he
  rw [hval] at hv'
  obtain rfl := Option.some.inj hv'
  obtain ⟨A, cap, hc, hcap, hrep⟩ := cut_isl3 hri n.toNat m'.toNat (by omega) a2
  have he' : P.elem t = e := by simp [Program.elem, hu]
  have hu' : P.underlying t = some (.slice (P.elem t)) := by rw [he']; exact hu
  have hrun : (Instr.sliceAt t (.slice A es.length cap) none (some (.int k n)) (some (.int k' m'))).run P w = .ok (sliced A 0 n.toNat m'.toNat te.size) w := by
    rw [run_sliceAt_slice _ _ _ _ _ _ hu', run_slice_hm _ _ _ _ _ hu' k k' n m' (by omega) (by omega) (by omega), he', run_sizeOf hd w]
    rfl
  refine done_value (hrunop _ _ (by rw [hc, hn.int.1, hm.int.1]; exact hrun)) (hs'.put o.dst ?_) hK
  rw [← hsz]
  exact .of hrep
end
end Go.Proofs.Ytngefbdedbbplaa.Ai
