/- What the laws of proofs and of their states ask: plain laws. -/
import Derived.Test.YtngefbdedbbplaaMarkLaw
namespace Go.Proofs.Ytngefbdedbbplaa.Ai
open Go Go.Proofs
set_option linter.unusedSimpArgs false
set_option linter.unusedVariables false
def atL (p : List Tx) (k : Nat) : Tx := (p[k]?).getD []
/-- The marks that turn the lines of p into those of q. -/
def nextM (p q : List Tx) (n : Nat) : List Mark := (List.range n).flatMap fun (k : Nat) => (betF (atL p k) (atL q k)).map (setL k)
theorem nextM_step (p q : List Tx) (n : Nat) : nextM p q (n + 1) = nextM p q n ++ (betF (atL p n) (atL q n)).map (setL n) := by
  unfold nextM
  rw [List.range_succ, List.flatMap_append, List.flatMap_singleton]
theorem bet_kind {a b : List UInt8} {m : Mark} (h : m ∈ betF a b) : 0 ≤ m.2.1 ∧ m.1 = 0 ∧ (m.2.2.1 = 1 ∨ m.2.2.1 = 2 ∨ m.2.2.1 = 3) := by
  have := diff_ge _ _ _ m h
  exact ⟨by omega, this.2⟩
theorem nextM_mem {p q : List Tx} {n : Nat} {m : Mark} (h : m ∈ nextM p q n) : (0 ≤ m.1 ∧ m.1 < n) ∧ (m.2.2.1 = 1 ∨ m.2.2.1 = 2 ∨ m.2.2.1 = 3) := by
  unfold nextM at h
  obtain ⟨k, hk, h⟩ := List.mem_flatMap.1 h
  obtain ⟨m0, h0, rfl⟩ := List.mem_map.1 h
  have := List.mem_range.1 hk
  exact ⟨by show (0 : Int) ≤ (k : Int) ∧ (k : Int) < n; omega, (bet_kind h0).2.2⟩
def lexM (x y : Mark) : Prop := x.1 < y.1 ∨ (x.1 = y.1 ∧ x.2.1 < y.2.1)
theorem nextM_lex (p q : List Tx) : ∀ n, (nextM p q n).Pairwise lexM
  | 0 => List.Pairwise.nil
  | n + 1 => by
    rw [nextM_step, List.pairwise_append]
    refine ⟨nextM_lex p q n, ?_, fun x hx y hy => ?_⟩
    · rw [List.pairwise_map]
      exact (diff_inc _ _ _).imp fun h => .inr ⟨rfl, h⟩
    · obtain ⟨m0, h0, rfl⟩ := List.mem_map.1 hy
      have := nextM_mem hx
      exact .inl (by show x.1 < (n : Int); omega)
theorem lex_srtd {l : List Mark} (h : l.Pairwise lexM) : srtd l := h.imp fun h => by
  rw [bef_not]; unfold lexM at h; omega
theorem lex_clash {l : List Mark} (h : l.Pairwise lexM) : l.Pairwise fun a b => clashB a b = false := h.imp fun {a b} h => by
  unfold lexM at h
  unfold clashB
  by_cases h1 : a.1 = b.1
  · rw [decide_eq_false (show ¬ a.2.1 = b.2.1 by omega), Bool.and_false, Bool.false_and]
  · rw [decide_eq_false h1, Bool.false_and, Bool.false_and]
theorem filter_line {p q : List Tx} {n k : Nat} (j : Int) (h : n ≤ k) : (nextM p q n).filter (atM k j) = [] := by
  rw [List.filter_eq_nil_iff]
  intro m hm
  have := nextM_mem hm
  rw [atM, decide_eq_false (show ¬ m.1 = (k : Int) by omega), Bool.false_and]
  exact Bool.false_ne_true
theorem nextM_at {p q : List Tx} (j : Int) : ∀ (n k : Nat), k < n → (nextM p q n).filter (atM k j) = ((betF (atL p k) (atL q k)).map (setL k)).filter (atM k j)
  | 0, k, h => by omega
  | n + 1, k, h => by
    rw [nextM_step, List.filter_append]
    by_cases e : k = n
    · subst e; rw [filter_line j (Nat.le_refl _), List.nil_append]
    · have e1 : ((betF (atL p n) (atL q n)).map (setL n)).filter (atM k j) = [] := by
        rw [List.filter_eq_nil_iff]
        intro m hm
        obtain ⟨m0, -, rfl⟩ := List.mem_map.1 hm
        rw [atM, decide_eq_false (show ¬ (setL n m0).1 = (k : Int) by show ¬ (n : Int) = k; omega), Bool.false_and]
        exact Bool.false_ne_true
      rw [e1, List.append_nil, nextM_at j n k (by omega)]
theorem next_right {p q : List Tx} (hl : p.length = q.length) : nextF p (nextM p q p.length) p.length = q := by
  unfold nextF
  refine List.ext_getElem? fun i => ?_
  by_cases hi : i < p.length
  · rw [List.getElem?_map, List.getElem?_range hi, Option.map_some]
    have := cor_bet (a := atL p i) (b := atL q i) (n := i) (M := nextM p q p.length) fun j _ => nextM_at j _ _ hi
    rw [show (p[i]?).getD [] = atL p i from rfl, this, atL, List.getElem?_eq_getElem (by omega : i < q.length)]; rfl
  · rw [List.getElem?_eq_none (by simp; omega), List.getElem?_eq_none (by omega)]
theorem cor_all {p q : List Tx} (hl : p.length = q.length) (hm : marksB p (nextM p q p.length) = true) (hq : proofB q = true) : corA p (nextM p q p.length) = (q, true) := by
  have hk : liveL (nextM p q p.length) = nextM p q p.length := liveL_all fun m hm => by have := (nextM_mem hm).2; omega
  have hx := nextM_lex p q p.length
  rw [corA, hk, sort_same (lex_srtd hx), if_pos ⟨hm, (conf_iff _).2 (by rw [hk]; exact lex_clash hx)⟩, next_right hl, if_pos hq]
theorem nextM_nil {p q : List Tx} (hl : p.length = q.length) : nextM p q p.length = [] ↔ p = q := by
  constructor
  · intro h
    have h1 := next_right hl
    rw [h] at h1
    rw [← h1]
    unfold nextF
    refine List.ext_getElem? fun i => ?_
    by_cases hi : i < p.length
    · rw [List.getElem?_map, List.getElem?_range hi, Option.map_some, List.getElem?_eq_getElem hi]
      exact congrArg some (cor_none _ 0 fun j _ => rfl).symm
    · rw [List.getElem?_eq_none (by omega), List.getElem?_eq_none (by simp; omega)]
  · rintro rfl
    unfold nextM
    rw [List.flatMap_eq_nil_iff]
    intro k _
    rw [bet_same]; rfl
theorem bet_next (a b : Tx) : nextM [a] [b] 1 = betF a b := by
  unfold nextM
  rw [show List.range 1 = [0] from rfl, List.flatMap_singleton]
  show (betF a b).map (setL 0) = betF a b
  have : ∀ m ∈ betF a b, setL 0 m = id m := fun m hm => by
    obtain ⟨m1, m2, m3⟩ := m
    have := (bet_kind hm).2.1
    show ((0 : Int), m2, m3) = (m1, m2, m3)
    rw [← this]
  rw [List.map_congr_left this, List.map_id]
/-- The marks between two lines correct the one into the other. -/
theorem bet_law {a b : Tx} {m : List Mark} (h : (m, true) = betA a b) : corA [a] m = ([b], true) ∧ (a = b ↔ m = []) ∧ marksB [a] m = true := by
  unfold betA at h
  split at h
  · rename_i hab
    split at h
    · rename_i hm
      obtain rfl := (Prod.mk.inj h).1
      have e := bet_next a b
      refine ⟨?_, ⟨fun e => by rw [e]; exact bet_same b, bet_nil⟩, hm⟩
      rw [← e]
      exact cor_all (p := [a]) (q := [b]) rfl (by show marksB [a] (nextM [a] [b] 1) = true; rw [e]; exact hm) (by rw [proofB, List.all_cons, hab.2]; rfl)
    · cases (Prod.mk.inj h).2
  · cases (Prod.mk.inj h).2
theorem marks_sub {lines : List Tx} {M L : List Mark} (h : marksB lines M = true) (hs : ∀ m ∈ L, m ∈ M) (hl : L.length ≤ M.length) : marksB lines L = true := by
  unfold marksB at *
  rw [Bool.and_eq_true, Bool.and_eq_true] at *
  refine ⟨List.all_eq_true.2 fun m hm => List.all_eq_true.1 h.1 m (hs m hm), h.2.1, ?_⟩
  have := of_decide_eq_true h.2.2
  exact decide_eq_true (by omega)
theorem marks_len {lines : List Tx} {M : List Mark} (h : marksB lines M = true) : M.length ≤ 20 := by
  unfold marksB at h
  rw [Bool.and_eq_true, Bool.and_eq_true] at h
  have := of_decide_eq_true h.2.2
  omega
theorem marks_proof {lines : List Tx} {M : List Mark} (h : marksB lines M = true) : proofB lines = true := by
  unfold marksB at h
  rw [Bool.and_eq_true, Bool.and_eq_true] at h
  exact h.2.1
theorem marks_at {lines : List Tx} {M : List Mark} (h : marksB lines M = true) : ∀ m ∈ M, (0 ≤ m.1 ∧ m.1 < lines.length) ∧ (0 ≤ m.2.1 ∧ m.2.1 ≤ 40) := fun m hm => by
  unfold marksB at h
  rw [Bool.and_eq_true] at h
  have h1 := List.all_eq_true.1 h.1 m hm
  unfold markB aloneB at h1
  rw [Bool.and_eq_true, Bool.and_eq_true, Bool.and_eq_true, Bool.and_eq_true] at h1
  have h2 := inB_spec h1.1.1.1
  have h3 := inB_spec h1.1.1.2
  have h4 := of_decide_eq_true h1.2.1
  omega
/-- The live marks, put in order, correct as all marks do. -/
theorem live_law {lines : List Tx} {own L : List Mark} (h : (L, true) = liveA lines own) : corA lines L = corA lines own ∧ (cntF (liveL own) lines.length).sum = L.length ∧ marksB lines own = true ∧ L.length ≤ 20 ∧ L = sortF (liveL own) := by
  unfold liveA at h
  split at h
  · rename_i hm
    obtain rfl := (Prod.mk.inj h).1
    obtain ⟨hs, hp⟩ := sort_spec (liveL own)
    have hk : liveL (sortF (liveL own)) = sortF (liveL own) := liveL_all fun m hm => (live_sub own m (hp.mem_iff.1 hm)).2
    have hl : (sortF (liveL own)).length ≤ own.length := by rw [sort_len]; exact live_len own
    have hm2 : marksB lines (sortF (liveL own)) = true := marks_sub hm (fun m hx => (live_sub own m (hp.mem_iff.1 hx)).1) hl
    have hc : confF (sortF (liveL own)) (sortF (liveL own)).length = [] ↔ confF own own.length = [] := by
      rw [conf_iff, conf_iff, hk]
      exact hp.pairwise_iff fun {a b} h => by rw [clash_symm]; exact h
    refine ⟨?_, ?_, hm, by have := marks_len hm2; exact this, rfl⟩
    · unfold corA
      rw [hk, sort_same hs]
      by_cases hq : confF own own.length = []
      · rw [if_pos (show marksB lines (sortF (liveL own)) = true ∧ confF (sortF (liveL own)) (sortF (liveL own)).length = [] from ⟨hm2, hc.2 hq⟩), if_pos (show marksB lines own = true ∧ confF own own.length = [] from ⟨hm, hq⟩)]
      · rw [if_neg (show ¬ (marksB lines (sortF (liveL own)) = true ∧ confF (sortF (liveL own)) (sortF (liveL own)).length = []) from fun h => hq (hc.1 h.2)), if_neg (show ¬ (marksB lines own = true ∧ confF own own.length = []) from fun h => hq h.2)]
    · rw [cnt_sum _ _ fun m hx => (marks_at hm m (live_sub own m hx).1).1, sort_len]
  · cases (Prod.mk.inj h).2
theorem add_law {u : List Tx} {v w after : List Mark} {x : Mark} {seven : Bool} (h : (w, true) = addA u v x) (hx : x.2.2.1 = 4) (ha : (after, seven) = liveA u w) : seven = true ∧ ∀ y ∈ after, ¬ (y.1 = x.1 ∧ y.2.1 = x.2.1) := by
  unfold addA at h
  split at h
  · rename_i hm
    obtain rfl := (Prod.mk.inj h).1
    rw [liveA, if_pos hm.2] at ha
    refine ⟨(Prod.mk.inj ha).2, fun y hy => ?_⟩
    rw [(Prod.mk.inj ha).1] at hy
    exact live_stet v x hx y ((sort_spec _).2.mem_iff.1 hy)
  · cases (Prod.mk.inj h).2
end Go.Proofs.Ytngefbdedbbplaa.Ai
