/- The library's sort, of a list without elements, too. -/
import Derived.Test.YtnamefdhmlbcpaaSort
import Derived.WalkKit
set_option linter.unusedSectionVars false
namespace Go.Proofs.Ytnamefdhmlbcpaa.Ai
open Go Go.RowKit Go.Proofs
set_option maxRecDepth 100000
set_option maxHeartbeats 1600000 in
theorem insNil (w : World) : Calls Try.prog 87 #[.slice none 0 0, .int .i64 0, .int .i64 0] w fun e w' => e = .returned (.tuple #[]) ∧ w' = w := by
  go_enter Try.func87, Try.ntmps87
  go_wp2
  refine wp_loop_once ?_
  go_wp2
  first | go_end0 | ((try simp only [Exit.inBlock, Exit.then]); refine bodyPost_ret (results_none rfl _ _ _) rfl ?_)
  exact ⟨rfl, rfl⟩
set_option maxHeartbeats 1600000 in
theorem pdqNil (w : World) (l : Int) : Calls Try.prog 85 #[.slice none 0 0, .int .i64 0, .int .i64 0, .int .i64 l] w fun e w' => e = .returned (.tuple #[]) ∧ w' = w := by
  go_enter Try.func85, Try.ntmps85
  go_wp2
  refine wp_loop_once ?_
  go_wp2_with (refine (insNil _).mono ?_; rintro e w1 ⟨rfl, rfl⟩)
  first | go_end0 | ((try simp only [Exit.inBlock, Exit.then]); refine bodyPost_ret (results_none rfl _ _ _) rfl ?_)
  exact ⟨rfl, rfl⟩
set_option maxHeartbeats 1600000 in
theorem lenNil (w : World) : Calls Try.prog 86 #[.int .u64 0] w fun e w' => ∃ n, e = .returned (.int .i64 n) ∧ w' = w := by
  go_enter Try.func86, Try.ntmps86
  go_wp2
  go_ret
  exact ⟨_, rfl, rfl⟩
set_option maxHeartbeats 1600000 in
theorem sSortNil (w : World) : Calls Try.prog 84 #[.slice none 0 0] w fun e w' => e = .returned (.tuple #[]) ∧ w' = w := by
  go_enter Try.func84, Try.ntmps84
  go_wp2_with (first | (refine (lenNil _).mono ?_; rintro e w1 ⟨n, rfl, rfl⟩) | (refine (pdqNil _ _).mono ?_; rintro e w1 ⟨rfl, rfl⟩))
  first | go_end0 | ((try simp only [Exit.inBlock, Exit.then]); refine bodyPost_ret (results_none rfl _ _ _) rfl ?_)
  exact ⟨rfl, rfl⟩
set_option maxHeartbeats 1600000 in
theorem sortNil (w : World) : Calls Try.prog 82 #[.slice none 0 0] w fun e w' => e = .returned (.tuple #[]) ∧ w' = w := by
  go_enter Try.func82, Try.ntmps82
  go_wp2_with (refine (sSortNil _).mono ?_; rintro e w1 ⟨rfl, rfl⟩)
  first | go_end0 | ((try simp only [Exit.inBlock, Exit.then]); refine bodyPost_ret (results_none rfl _ _ _) rfl ?_)
  exact ⟨rfl, rfl⟩

section
variable {P : Program} {κ : Ctx} [NoZ κ] {η : Own} {s : St} {a : Act} {w : World} {o : Oper} {Q' : Exit → Act → World → Prop}
theorem Sim.sameH (h : Sim κ η s a w) {H' : Heap} (e : ∀ i, H'.get i = s.H.get i) : Sim κ η ⟨s.T, H'⟩ a w :=
  ⟨h.tmps, h.defers, fun i => by rw [e i]; exact h.heap i, h.apart, fun i => by rw [e i]; exact h.sub i, h.kept⟩
/-- The call of sort.Ints: the row is sorted. -/
theorem call_sort0 {f : FuncId} (hf : SortsInts P f) (hf0 : ∀ w : World, Calls P f #[.slice none 0 0] w fun e w' => e = .returned (.tuple #[]) ∧ w' = w) (h : Sim κ η s a w) {K : St → Prop} {x : Operand} {ts : Array TypeId} (ho : o.op = .call { callee := .value (.func f), args := #[x], argTypes := ts }) {id ver e : Nat} {xs : List Int}
    (hx : s.ev x = .osl id ver) (he : s.H.get id = (ver, .row e 1 (rows cInt xs))) (hl : xs.length < 4611686018427387904)
    (hK : K (St.put ⟨s.T, s.H.put id (ver, .row e 1 (rows cInt (sortI xs)))⟩ o.dst (.tup []))) : o.wp P a w (Then κ K) Q' := by
  have hr := h.ev x
  rw [hx] at hr
  obtain ⟨hv, hc⟩ := own_value h he hr
  have hob := h.heap id
  rw [he] at hob
  obtain ⟨_, v, vals, hv', hown, hrep, hlen⟩ := hob
  obtain rfl := Option.some.inj (hv.symm.trans hv')
  rw [rows_eq] at hrep hown
  obtain ⟨rfl, hwr⟩ := repIs_ints hrep
  unfold Oper.wp
  rw [execOp_call ho hf.1]
  rw [Oper.upon_enter]
  rw [List.length_map] at hown
  rcases hown.2 with ⟨hnil, h0⟩ | ⟨g, cap, cur, hav, hB, hh, h1, h2, h3, h4⟩
  · obtain rfl : xs = [] := List.length_eq_zero_iff.1 (by simpa using h0)
    have hargs : (#[x].map a.eval) = #[.slice none 0 0] := by simp [hnil]
    rw [hargs]
    refine (hf0 w).mono ?_
    rintro en w' ⟨rfl, rfl⟩
    have e0 : sortI ([] : List Int) = [] := by simp [sortI]
    have hs : Sim κ η ⟨s.T, s.H.put id (ver, .row e 1 (rows cInt (sortI [])))⟩ a w' := h.sameH fun i => by
      rw [Heap.get_put, e0]
      split
      · rename_i e'; rw [e', he]
      · rfl
    exact ⟨η, _, hs.put o.dst (.tup [] [] .nil), hK⟩
  · have hargs : (#[x].map a.eval) = #[.slice (some ⟨g, 0, none⟩) xs.length cap] := by simp [hav]
    rw [hargs]
    have hcell := holds_of_blockI (ss := xs) hh (by simpa using h4)
    refine (hf.2 g 0 cap xs w hcell (Array.getElem?_eq_some_iff.1 hh).1 hl).mono ?_
    rintro en w' ⟨rfl, n, os, rfl⟩
    rw [hav] at hv
    have hs := sim_sort (n := n) (os := os) h he hc hv hB hh h1 h2 h3 hwr
    exact ⟨η, _, hs.put o.dst (.tup [] [] .nil), hK⟩

theorem W_sortInts0 {G : Env} {X Y : Req → (PV → Prop) → Prop} {L : Code → (Ex → St → Prop) → St → Prop} (m : Mach P G κ X Y L) {f : FuncId} (hf : SortsInts P f) (hf0 : ∀ w : World, Calls P f #[.slice none 0 0] w fun e w' => e = .returned (.tuple #[]) ∧ w' = w) {Q : Ex → St → Prop} {id : Nat} {o1 o2 : Oper} {c : Code} {t3 t7 : Nat} {ts : Array TypeId}
    (h1 : o1.op = .move (.tmp t3)) (g1 : o1.guard = none) (d1 : o1.dst = some t7) (h2 : o2.op = .call { callee := .value (.func f), args := #[.tmp t7], argTypes := ts }) (g2 : o2.guard = none)
    {ver e idr : Nat} {xs : List Int} (hx : s.ev (.tmp t3) = .osl idr ver) (hx7 : (s.put (some t7) (.osl idr ver)).ev (.tmp t7) = .osl idr ver) (he : s.H.get idr = (ver, .row e 1 (rows cInt xs))) (hl : xs.length < 4611686018427387904)
    (rest : W P κ c Q (St.put ⟨(s.put (some t7) (.osl idr ver)).T, s.H.put idr (ver, .row e 1 (rows cInt (sortI xs)))⟩ o2.dst (.tup []))) : W P κ (.seq (.region id #[o1, o2] false) c) Q s := by
  intro η a w h
  refine wp_seq ?_
  refine wp_region_list ?_
  show wpList P #[o1, o2] _ [o1, o2] a w
  unfold wpList
  rw [if_pos (by simp [Region.wanted, g1])]
  refine .inl (Oper.wp_mono (K := Then κ fun s' => s' = s.put (some t7) (.osl idr ver)) ?_ (sound_move h (.tmp t3) (.inl h1) (by rw [d1, hx])))
  rintro a1 w1 ⟨η1, s1, hs1, rfl⟩
  unfold wpList
  rw [if_pos (by simp [Region.wanted, g2])]
  refine .inl (Oper.wp_mono (K := Then κ fun s' => s' = St.put ⟨(s.put (some t7) (.osl idr ver)).T, s.H.put idr (ver, .row e 1 (rows cInt (sortI xs)))⟩ o2.dst (.tup [])) ?_ (call_sort0 hf hf0 hs1 h2 hx7 he hl rfl))
  rintro a2 w2 ⟨η2, s2, hs2, rfl⟩
  unfold wpList
  exact rest η2 a2 w2 hs2
end

theorem sorted0_ok (l : List Int) (hl : l.length ≤ 100000000) : OkA Try.prog 65 [.isl 1 (rows cInt l)] (· = .fr 3 1 (rows cInt (sortI l))) :=
  fn_introW envOk fieldsOk mixed Try.func65 rfl rfl fun κ X Y L Q m hQ => by
    have := m.z
    refine W_cut m 2 10 [] [⟨3, 25, 3, 1, 0⟩] (fun σ : List Int => [(3, .osl 25 0)]) (fun σ => [(25, 0, .row 3 1 (rows cInt σ))]) (fun σ => σ = l) (fun E hE => ?_) (fun σ hσ => ?_)
    · conv => cbv
      refine r_append0R m.sX (by first | omega | (dsimp only; omega)) (by first | omega | (dsimp only; omega)) fun z hz => ?_
      conv => cbv
      exact hE _ z (by cbv) (by cbv) hz
    · subst hσ
      refine W_sortInts0 m sortsInts sortNil (t3 := 3) (t7 := 7) rfl rfl rfl rfl rfl (idr := 25) (ver := 0) rfl rfl rfl (by omega) ?_
      refine W_last m ?_
      generalize sortI σ = z at *
      conv => cbv
      exact hQ _ rfl
end Go.Proofs.Ytnamefdhmlbcpaa.Ai
