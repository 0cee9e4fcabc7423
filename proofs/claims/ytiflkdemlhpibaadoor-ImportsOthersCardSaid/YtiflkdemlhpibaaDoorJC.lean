/- The walk's box, its map, its states; begin. -/
import Derived.Test.YtiflkdemlhpibaaDoorJB
set_option linter.unusedVariables false
set_option linter.unusedSimpArgs false
set_option linter.unusedSectionVars false
set_option maxRecDepth 100000
namespace Go.Eng
open Go Go.Proofs

abbrev NI (xs : List Nat) : List Value := xs.map fun (k : Nat) => .int .i64 (k : Int)
theorem NI_I (xs : List Nat) : NI xs = I (xs.map fun (k : Nat) => (k : Int)) := by simp [NI, I]
theorem NI_all (xs : List Nat) : (NI xs).all oneC = true := by
  rw [List.all_eq_true]
  intro v hv
  simp only [NI, List.mem_map] at hv
  obtain ⟨_, _, rfl⟩ := hv
  rfl
theorem rep_NI : ∀ n, rep n [.int .i64 0] = NI (List.replicate n 0)
  | 0 => rfl
  | n + 1 => by
    simp only [rep, List.replicate_succ, rep_NI n]
    rfl
theorem mkI_ok {N : Nat} (h : N ≤ 1000000000000) {H : Heap} : mkS 1 8 [.int .i64 0] (.int .i64 (N : Int)) (.int .i64 (N : Int)) H = some (.slice (some ⟨H.n, 0, none⟩) N N, H.push ⟨NI (List.replicate N 0), 1, true⟩) := by
  have hm : mostBytes = 140737488355328 := rfl
  simp only [mkS]
  rw [if_pos ⟨by omega, by omega, by omega, rfl, by omega, by omega⟩, rep_NI]
  simp only [newS, Int.toNat_natCast, NI_all, if_true]
theorem own_at {S n k : Nat} (h : k < n) : iAddrS 1 (.slice (some ⟨S, 0, none⟩) n n) (.int .i64 (k : Int)) = some (ptr S k) := by
  simp only [iAddrS]
  rw [if_pos (by omega)]
  simp
theorem own_ld {H : Heap} {S k : Nat} {cs : List Value} {sz : Nat} {x : Value} (h : H.get S = some ⟨cs, sz, true⟩) (hk : cs[k]? = some x) : ldC (ptr S k) H = some (x, H) := Box.ld (R := fun _ => True) ⟨trivial, _, _, h⟩ hk
theorem NI_at {xs : List Nat} {k v : Nat} (h : xs[k]? = some v) : (NI xs)[k]? = some (.int .i64 (v : Int)) := by simp [NI, h]
theorem NI_set {xs : List Nat} {k v : Nat} : (NI xs).set k (.int .i64 (v : Int)) = NI (xs.set k v) := by simp [NI, List.map_set]

/-! ### maps of paths -/
def keysN (es : List Ent) (l : List En) : Prop := es.map (·.key) = l.map fun e => .string (bs e.P)
theorem keyB_str {s : ByteArray} : keyB .string (.string s) = true := nr _
theorem bs_eqb {a b : List UInt8} : (bs a == bs b) = decide (a = b) := by
  show (a.toArray == b.toArray) = _
  rw [Bool.eq_iff_iff]
  simp
theorem findM_str {p : List UInt8} : ∀ (es : List Ent) (l : List En) (i : Nat), keysN es l → findM .string (.string (bs p)) es i = some (match findN l p with | none => none | some k => some (k + i, match es[k]? with | some e => e.val | none => undef))
  | [], [], i, _ => rfl
  | [], e :: l, i, h => by cases h
  | x :: es, [], i, h => by cases h
  | x :: es, e :: l, i, h => by
    simp only [keysN, List.map_cons, List.cons.injEq] at h
    have ih := findM_str (p := p) es l (i + 1) h.2
    simp only [findM, h.1, Instr.sameNow, bs_eqb, findN]
    by_cases hp : e.P = p
    · rw [if_pos hp, decide_eq_true hp.symm]
      simp
    · rw [if_neg hp, decide_eq_false (fun h => hp h.symm)]
      simp only [ih]
      cases findN l p with
      | none => rfl
      | some k =>
        simp only [Option.map_some, List.getElem?_cons_succ]
        congr 3
        omega
def MapOk (H : Heap) (M : Nat) (l : List En) : Prop := ∃ es c, H.get M = some (obj (.map es c)) ∧ keysN es l ∧ ∀ (k : Nat) (e : Ent), es[k]? = some e → e.val = .int .i64 (k : Int)
theorem obAt_of {H : Heap} {M : Nat} {o : Ob} (h : H.get M = some (obj o)) : obAt H M = some o := by simp only [obAt, h, Option.bind_some]; rfl
def lkV : Option Nat → Value
  | none => .tuple #[.int .i64 0, .bool false]
  | some k => .tuple #[.int .i64 (k : Int), .bool true]
theorem lk_ok {H : Heap} {M : Nat} {l : List En} (h : MapOk H M l) (p : List UInt8) : lkM .string (.int .i64 0) true (.map (some M)) (.string (bs p)) H = some (lkV (findN l p), H) := by
  obtain ⟨es, c, h1, h2, h3⟩ := h
  have hk := congrArg List.length h2
  simp only [List.length_map] at hk
  simp only [lkM, obAt_of h1, findM_str es l 0 h2]
  cases hf : findN l p with
  | none => rfl
  | some k =>
    have := find_lt hf
    obtain ⟨e, he⟩ : ∃ e, es[k]? = some e := ⟨_, List.getElem?_eq_getElem (by omega)⟩
    simp only [he, h3 k e he, if_true, lkV]

theorem keys_mod {es : List Ent} {k : Nat} {q x : Value} (h : (es.map (·.key))[k]? = some q) : (es.modify k fun e => ⟨q, x, e.born⟩).map (·.key) = es.map (·.key) := by
  apply List.ext_getElem?
  intro j
  simp only [List.getElem?_map, List.getElem?_modify]
  by_cases hj : k = j
  · subst hj
    rw [List.getElem?_map] at h
    cases hes : es[k]? with
    | none => rw [hes] at h; cases h
    | some y =>
      rw [hes] at h
      simp only [Option.map_some, Option.some.injEq] at h
      simp [h]
  · cases es[j]? <;> simp [hj]
/-! ### the map of all paths -/
/-- What has been put into it: so many files. -/
def MapI (H : Heap) (M : Nat) (l : List En) (i : Nat) : Prop := ∃ es c, H.get M = some (obj (.map es c)) ∧
  ((Dist (l.take i) ∧ keysN es (l.take i) ∧ ∀ (k : Nat) (e : Ent), es[k]? = some e → e.val = .int .i64 (k : Int)) ∨ (¬ Dist (l.take i) ∧ es.length < i ∧ ∃ l', keysN es l'))
theorem up_ok {H : Heap} {M i : Nat} {l : List En} {e : En} (h : MapI H M l i) (he : l[i]? = some e) : ∃ x, upM .string (.map (some M)) (.string (bs e.P)) (.int .i64 (i : Int)) H = some (undef, H.upd M x) ∧ MapI (H.upd M x) M l (i + 1) := by
  obtain ⟨es, c, h1, h2⟩ := h
  have hi := (List.getElem?_eq_some_iff.1 he).1
  simp only [upM, obAt_of h1]
  rcases h2 with ⟨hd, hk, hv⟩ | ⟨hd, hl, l', hk⟩
  · have hkl := congrArg List.length hk
    simp only [List.length_map, List.length_take] at hkl
    rw [findM_str es (l.take i) 0 hk]
    cases hf : findN (l.take i) e.P with
    | none =>
      refine ⟨_, rfl, es ++ [⟨.string (bs e.P), .int .i64 (i : Int), c⟩], c + 1, upd_self, .inl ⟨(nodup_snoc he).2 ⟨hd, fun j e' hj he' => find_none hf e' (List.mem_of_getElem? (i := j) (by rw [List.getElem?_take, if_pos hj]; exact he'))⟩, ?_, fun k x hx => ?_⟩⟩
      · have h1 : l.take (i + 1) = l.take i ++ [e] := by rw [List.take_add_one, he]; rfl
        unfold keysN at hk ⊢
        rw [h1, List.map_append, List.map_append, hk]
        rfl
      · rw [List.getElem?_append] at hx
        split at hx
        · exact hv k x hx
        · rename_i hlt
          have hk0 : k - es.length = 0 := by
            have := (List.getElem?_eq_some_iff.1 hx).1
            simp only [List.length_singleton] at this; omega
          rw [hk0] at hx
          simp only [List.getElem?_cons_zero, Option.some.injEq] at hx
          subst hx
          have : k = i := by omega
          subst this; rfl
    | some k =>
      obtain ⟨e', f1, f2, _⟩ := find_some hf
      have hk' := find_lt hf
      simp only [List.length_take] at hk'
      refine ⟨_, rfl, _, c, upd_self, .inr ⟨fun hd' => ?_, by rw [List.length_modify]; omega, l.take i, ?_⟩⟩
      · rw [List.getElem?_take] at f1
        split at f1
        · exact ((nodup_snoc he).1 hd').2 k e' (by omega) f1 f2
        · cases f1
      · unfold keysN at hk ⊢
        rw [← hk]
        exact keys_mod (by rw [hk, List.getElem?_map, Nat.add_zero, f1, Option.map_some, f2])
  · have hnd : ¬ Dist (l.take (i + 1)) := fun h => hd ((nodup_snoc he).1 h).1
    rw [findM_str es l' 0 hk]
    cases hf : findN l' e.P with
    | none =>
      refine ⟨_, rfl, es ++ [⟨.string (bs e.P), .int .i64 (i : Int), c⟩], c + 1, upd_self, .inr ⟨hnd, by simp only [List.length_append, List.length_singleton]; omega, l' ++ [e], ?_⟩⟩
      unfold keysN at hk ⊢
      rw [List.map_append, List.map_append, hk]
      rfl
    | some k =>
      obtain ⟨e', f1, f2, _⟩ := find_some hf
      refine ⟨_, rfl, _, c, upd_self, .inr ⟨hnd, by rw [List.length_modify]; omega, l', ?_⟩⟩
      unfold keysN at hk ⊢
      rw [← hk]
      exact keys_mod (by rw [hk, List.getElem?_map, Nat.add_zero, f1, Option.map_some, f2])
theorem MapI.len {H : Heap} {M : Nat} {l : List En} (h : MapI H M l l.length) : ∃ n : Nat, lenM (.map (some M)) H = some (.int .i64 (n : Int), H) ∧ ((n < l.length ∧ ¬ Dist l) ∨ (n = l.length ∧ Dist l ∧ MapOk H M l)) := by
  obtain ⟨es, c, h1, h2⟩ := h
  rw [List.take_length] at h2
  refine ⟨es.length, by simp only [lenM, obAt_of h1], ?_⟩
  rcases h2 with ⟨hd, hk, hv⟩ | ⟨hd, hl, _⟩
  · have hkl := congrArg List.length hk
    simp only [List.length_map] at hkl
    exact .inr ⟨hkl, hd, es, c, h1, hk, hv⟩
  · exact .inl ⟨hl, hd⟩
end Go.Eng
