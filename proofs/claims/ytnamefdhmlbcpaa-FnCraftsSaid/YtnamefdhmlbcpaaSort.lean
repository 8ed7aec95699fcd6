/- The library's sort on an own row of numbers: what the abstract machine makes of its call. -/
import Derived.Test.YtnamefdhmlbcpaaAiCut
import Derived.Test.YtnamefdhmlbcpaaTrialLaw
import Derived.Test.YtnamefdhmlbcpaaLays
import Derived.Sort.OwnSortedInts
set_option linter.unusedSectionVars false
namespace Go.Proofs.Ytnamefdhmlbcpaa.Ai
open Go Go.RowKit

section
variable {P : Program} {κ : Ctx} [NoZ κ] {η : Own} {s : St} {a : Act} {w : World} {o : Oper} {Q' : Exit → Act → World → Prop}

theorem repIs_ints {I : Nat → Prop} : ∀ {l : List Int} {vs : List Value}, RepIs w I (l.map cInt).flatten vs → vs = l.map (Value.int .i64) ∧ ∀ x ∈ l, IntKind.i64.wrap x = x
  | [], _, h => by cases h; exact ⟨rfl, fun x hx => by cases hx⟩
  | x :: r, _, h => by
    simp only [List.map_cons, List.flatten_cons, cInt, List.cons_append, List.nil_append] at h
    cases h with
    | cons h1 h2 =>
      cases h1 with
      | int k n hn =>
        obtain ⟨rfl, h3⟩ := repIs_ints h2
        refine ⟨rfl, fun y hy => ?_⟩
        rcases List.mem_cons.1 hy with rfl | hy
        · exact hn
        · exact h3 y hy
theorem repIs_ofInts {I : Nat → Prop} : ∀ {l : List Int}, (∀ x ∈ l, IntKind.i64.wrap x = x) → RepIs w I (l.map cInt).flatten (l.map (Value.int .i64))
  | [], _ => .nil
  | x :: r, h => .cons (.int _ _ (h x (by simp))) (repIs_ofInts fun y hy => h y (by simp [hy]))

/-- The contract of sort.Ints, as the kit has it. -/
def SortsInts (P : Program) (f : FuncId) : Prop := Callable P f ∧
  (∀ (blk off cap : Nat) (zs : List Int) (w : World), Sort.Holds (Value.int .i64) w blk off zs.toArray → blk < w.heap.size → zs.length < 4611686018427387904 →
    Calls P f #[.slice (some ⟨blk, off, none⟩) zs.length cap] w fun e w' => e = .returned (.tuple #[]) ∧ ∃ n os, w' = Sort.grow (Sort.putRow (Value.int .i64) (Sort.ahead w n) blk off (zs.mergeSort fun x y => decide (x ≤ y)).toArray) os)

theorem sim_sort (h : Sim κ η s a w) {id ver e g cap n : Nat} {xs : List Int} {cur : Array Value} {os : Array Obj} (he : s.H.get id = (ver, .row e 1 (rows cInt xs))) (hc : η.cur id = ver) (hv : η.val id = some (.slice (some ⟨g, 0, none⟩) xs.length cap))
    (hB : κ.B ≤ g) (hh : w.heap[g]? = some (.cells cur e (0, 0))) (h1 : xs.length ≤ cap) (h2 : cap ≤ maxLen) (h3 : cur.size = cap * 1) (hr : ∀ x ∈ xs, IntKind.i64.wrap x = x) :
    Sim κ η ⟨s.T, s.H.put id (ver, .row e 1 (rows cInt (sortI xs)))⟩ a (Sort.grow (Sort.putRow (Value.int .i64) (Sort.ahead w n) g 0 (sortI xs).toArray) os) := by
  have hg : g < w.heap.size := (Array.getElem?_eq_some_iff.1 hh).1
  have hother : ∀ k, k ≠ g → (Sort.putRow (Value.int .i64) (Sort.ahead w n) g 0 (sortI xs).toArray).heap[k]? = w.heap[k]? := fun k hk => by
    have : g ≠ k := fun e => hk e.symm
    simp [Sort.putRow, Sort.mapBlock, Sort.ahead, Array.getElem?_modify, this]
  have hsz : (Sort.putRow (Value.int .i64) (Sort.ahead w n) g 0 (sortI xs).toArray).heap.size = w.heap.size := by simp [Sort.putRow, Sort.mapBlock, Sort.ahead]
  have hs := h.write (w' := Sort.putRow (Value.int .i64) (Sort.ahead w n) g 0 (sortI xs).toArray) id ver (.row e 1 (rows cInt (sortI xs))) (.slice (some ⟨g, 0, none⟩) xs.length cap) g hc hv rfl hother (by omega)
    (h.kept.step rfl rfl rfl (by omega) fun k hk _ => hother k fun e => by omega) (by rw [he]; rfl) fun hI => by
      refine ⟨hc, _, (sortI xs).map (Value.int .i64), hv, ?_, ?_, ?_⟩
      · have := ownsRow_sortedI (w := w) (n := n) (base := κ.B) (os := #[]) (ss := xs) (ts := sortI xs) (sortI_len xs) hB hh h1 h2 h3
        rw [Sort.grow_empty] at this
        rw [rows_eq, List.length_map, sortI_len]
        exact this
      · rw [rows_eq]
        exact repIs_ofInts fun x hx => hr x ((sortI_perm xs).subset hx)
      · intro x hx
        rw [rows_eq] at hx
        obtain ⟨y, _, rfl⟩ := List.mem_map.1 hx
        rfl
  refine hs.below ⟨rfl, rfl, rfl, by simp, fun k hk => ?_⟩
  rw [Sort.heap_grow_old _ _ hk]

/-- The call of sort.Ints: the row is sorted. -/
theorem call_sort {f : FuncId} (hf : SortsInts P f) (h : Sim κ η s a w) {K : St → Prop} {x : Operand} {ts : Array TypeId} (ho : o.op = .call { callee := .value (.func f), args := #[x], argTypes := ts }) {id ver e : Nat} {xs : List Int}
    (hx : s.ev x = .osl id ver) (he : s.H.get id = (ver, .row e 1 (rows cInt xs))) (hne : xs ≠ []) (hl : xs.length < 4611686018427387904)
    (hK : K (St.put ⟨s.T, s.H.put id (ver, .row e 1 (rows cInt (sortI xs)))⟩ o.dst (.tup []))) : o.wp P a w (Then κ K) Q' := by
  have hr := h.ev x
  rw [hx] at hr
  obtain ⟨hv, hc⟩ := own_value h he hr
  have hob := h.heap id
  rw [he] at hob
  obtain ⟨_, v, vals, hv', hown, hrep, hlen⟩ := hob
  obtain rfl := Option.some.inj (hv.symm.trans hv')
  rw [rows_eq] at hrep hown
  obtain ⟨rfl, hwr⟩ := repIs_ints hrep
  unfold Oper.wp
  rw [execOp_call ho hf.1]
  rw [Oper.upon_enter]
  rw [List.length_map] at hown
  rcases hown.2 with ⟨hnil, h0⟩ | ⟨g, cap, cur, hav, hB, hh, h1, h2, h3, h4⟩
  · exact absurd (List.length_eq_zero_iff.1 (by simpa using h0)) hne
  · have hargs : (#[x].map a.eval) = #[.slice (some ⟨g, 0, none⟩) xs.length cap] := by simp [hav]
    rw [hargs]
    have hcell := holds_of_blockI (ss := xs) hh (by simpa using h4)
    refine (hf.2 g 0 cap xs w hcell (Array.getElem?_eq_some_iff.1 hh).1 hl).mono ?_
    rintro en w' ⟨rfl, n, os, rfl⟩
    rw [hav] at hv
    have hs := sim_sort (n := n) (os := os) h he hc hv hB hh h1 h2 h3 hwr
    exact ⟨η, _, hs.put o.dst (.tup [] [] .nil), hK⟩

theorem W_sortInts {G : Env} {X Y : Req → (PV → Prop) → Prop} {L : Code → (Ex → St → Prop) → St → Prop} (m : Mach P G κ X Y L) {f : FuncId} (hf : SortsInts P f) {Q : Ex → St → Prop} {id : Nat} {o1 o2 : Oper} {c : Code} {t3 t7 : Nat} {ts : Array TypeId}
    (h1 : o1.op = .move (.tmp t3)) (g1 : o1.guard = none) (d1 : o1.dst = some t7) (h2 : o2.op = .call { callee := .value (.func f), args := #[.tmp t7], argTypes := ts }) (g2 : o2.guard = none)
    {ver e idr : Nat} {xs : List Int} (hx : s.ev (.tmp t3) = .osl idr ver) (hx7 : (s.put (some t7) (.osl idr ver)).ev (.tmp t7) = .osl idr ver) (he : s.H.get idr = (ver, .row e 1 (rows cInt xs))) (hne : xs ≠ []) (hl : xs.length < 4611686018427387904)
    (rest : W P κ c Q (St.put ⟨(s.put (some t7) (.osl idr ver)).T, s.H.put idr (ver, .row e 1 (rows cInt (sortI xs)))⟩ o2.dst (.tup []))) : W P κ (.seq (.region id #[o1, o2] false) c) Q s := by
  intro η a w h
  refine wp_seq ?_
  refine wp_region_list ?_
  show wpList P #[o1, o2] _ [o1, o2] a w
  unfold wpList
  rw [if_pos (by simp [Region.wanted, g1])]
  refine .inl (Oper.wp_mono (K := Then κ fun s' => s' = s.put (some t7) (.osl idr ver)) ?_ (sound_move h (.tmp t3) (.inl h1) (by rw [d1, hx])))
  rintro a1 w1 ⟨η1, s1, hs1, rfl⟩
  unfold wpList
  rw [if_pos (by simp [Region.wanted, g2])]
  refine .inl (Oper.wp_mono (K := Then κ fun s' => s' = St.put ⟨(s.put (some t7) (.osl idr ver)).T, s.H.put idr (ver, .row e 1 (rows cInt (sortI xs)))⟩ o2.dst (.tup [])) ?_ (call_sort hf hs1 h2 hx7 he hne hl rfl))
  rintro a2 w2 ⟨η2, s2, hs2, rfl⟩
  unfold wpList
  exact rest η2 a2 w2 hs2
end

theorem sortsInts : SortsInts Try.prog 82 :=
  ⟨⟨_, Try.func82, rfl, rfl⟩, fun blk off cap zs w hH hb hl => calls_of_every_depth fun D => AnyS.sort_Ints_in lays191 D blk off cap zs w hH hb hl⟩

theorem sorted_ok (l : List Int) (hne : l ≠ []) (hl : l.length ≤ 1000000) : OkA Try.prog 65 [.isl 1 (rows cInt l)] (· = .fr 3 1 (rows cInt (sortI l))) :=
  fn_introW envOk fieldsOk mixed Try.func65 rfl rfl fun κ X Y L Q m hQ => by
    have := m.z
    refine W_cut m 2 10 [] [⟨3, 25, 3, 1, 0⟩] (fun σ : List Int => [(3, .osl 25 0)]) (fun σ => [(25, 0, .row 3 1 (rows cInt σ))]) (fun σ => σ = l) (fun E hE => ?_) (fun σ hσ => ?_)
    · conv => cbv
      refine r_append0R m.sX (by first | omega | (dsimp only; omega)) (by first | omega | (dsimp only; omega)) fun z hz => ?_
      conv => cbv
      exact hE _ z (by cbv) (by cbv) hz
    · subst hσ
      refine W_sortInts m sortsInts (t3 := 3) (t7 := 7) rfl rfl rfl rfl rfl (idr := 25) (ver := 0) rfl rfl rfl hne (by omega) ?_
      refine W_last m ?_
      generalize sortI σ = z at *
      conv => cbv
      exact hQ _ rfl
end Go.Proofs.Ytnamefdhmlbcpaa.Ai
