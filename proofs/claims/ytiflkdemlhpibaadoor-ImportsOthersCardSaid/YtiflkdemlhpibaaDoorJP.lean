/- What an order is, and what is reached, plainly. -/
import Derived.Test.YtiflkdemlhpibaaDoorJL
set_option linter.unusedVariables false
set_option linter.unusedSimpArgs false
namespace Go.Eng

theorem may_small {l : List En} (hd : Dist l) (hn : l.length ≤ 1000) : mayN l = 0 := by
  unfold mayN
  rw [if_neg (by omega), if_pos hd]
theorem ord_bad {l : List En} {p : List UInt8} (h : (orderN p l).2.2 ≠ 0) : (orderN p l).1 = [] := by
  simp only [orderN] at h ⊢
  split
  · rfl
  · rename_i hm
    rw [if_neg hm] at h
    cases hf : findN l p with
    | none => rfl
    | some i =>
      rw [hf] at h
      simp only at h ⊢
      cases hr : (dfs l 33 i (dfs0 l)).2 with
      | some x => rfl
      | none => rw [hr] at h; exact absurd rfl h
theorem ord_good {l : List En} (hd : Dist l) (hn : l.length ≤ 1000) {r : Nat} {e : En} (he : l[r]? = some e) (h : (orderN e.P l).2.2 = 0) :
    ∃ s, DInv l s ∧ (orderN e.P l).1 = s.ord ∧ (∀ k, k ∈ s.ord ↔ Rch l r k) ∧ ∃ m, s.ord = m ++ [r] := by
  have hm := may_small hd hn
  have hf := find_self hd he
  have hr := (List.getElem?_eq_some_iff.1 he).1
  have w := dfs_root hr
  have e1 : orderN e.P l = match (dfs l 33 r (dfs0 l)).2 with
    | some (p, e) => ([], p, e)
    | none => ((dfs l 33 r (dfs0 l)).1.ord, [], 0) := by
    simp only [orderN, hf, hm]; rfl
  cases hr2 : (dfs l 33 r (dfs0 l)).2 with
  | some x =>
    rw [e1, hr2] at h
    exact absurd h (dfs_err l 33 r _ x hr2)
  | none =>
    rw [hr2] at w e1
    exact ⟨_, w.1, by rw [e1], w.2.1, w.2.2⟩
/-- What is reached, as it is given. -/
def reachI (p : List UInt8) (l : List En) : List Int := (reachN p l).map fun (k : Nat) => (k : Int)
theorem reach_mem {l : List En} {p : List UInt8} {k : Nat} : (k : Int) ∈ reachI p l ↔ ∃ i, findN l p = some i ∧ Rch l i k := by
  rw [← rnd_root l p k]
  unfold reachI reachN
  simp only [List.mem_map]
  constructor
  · rintro ⟨a, ha, e⟩
    have : a = k := by omega
    subst this; exact ha
  · intro h; exact ⟨k, h, rfl⟩
theorem reach_len {l : List En} {p : List UInt8} {xs : List Nat} (hn : xs.Nodup) (h : ∀ k, k ∈ xs ↔ k ∈ reachN p l) : (reachI p l).length = xs.length := by
  have e : sortI (xs.map fun (k : Nat) => (k : Int)) = reachI p l := by
    have ndI : (xs.map fun (k : Nat) => (k : Int)).Nodup := List.Pairwise.map _ (fun a b h e => h (by omega)) hn
    have ndS := (sortI_perm (xs.map fun (k : Nat) => (k : Int))).nodup_iff.2 ndI
    refine int_ext ?_ ?_ fun k => ?_
    · exact List.Pairwise.imp (fun h => by obtain ⟨h1, h2⟩ := h; omega) (List.Pairwise.and (sortI_sorted _) ndS)
    · exact List.Pairwise.map _ (fun a b h => by omega) (picks_rise _)
    · rw [(sortI_perm _).mem_iff]
      simp only [reachI, List.mem_map]
      constructor
      · rintro ⟨a, ha, rfl⟩; exact ⟨a, (h a).1 ha, rfl⟩
      · rintro ⟨a, ha, rfl⟩; exact ⟨a, (h a).2 ha, rfl⟩
  rw [← e, sortI_len]; simp
/-- What ImportsBehind asks of a place in an order. -/
theorem behind_at {l : List En} {s : Dfs} (hs : DInv l s) {i n : Nat} (hi : s.ord[i]? = some n) : n ∉ s.ord.take i ∧ ∀ p ∈ impN l n, ∃ j, findN l p = some j ∧ j ∈ s.ord.take i := by
  have hl := (List.getElem?_eq_some_iff.1 hi).1
  have e : s.ord = s.ord.take i ++ n :: s.ord.drop (i + 1) := by
    conv => lhs; rw [← List.take_append_drop i s.ord]
    congr 1
    rw [List.drop_eq_getElem_cons hl]
    congr 1
    have := (List.getElem?_eq_some_iff.1 hi).2
    exact this
  refine ⟨fun h => ?_, fun p hp => hs.ahead _ n _ e p hp⟩
  have nd := hs.nod
  rw [e] at nd
  exact (List.nodup_append.1 nd).2.2 n h n (by simp) rfl
end Go.Eng
