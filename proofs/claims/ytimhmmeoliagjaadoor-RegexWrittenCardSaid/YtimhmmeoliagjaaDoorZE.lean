/- RegexWritten. -/
import Derived.Test.YtimhmmeoliagjaaDoorZB
set_option linter.unusedVariables false
set_option linter.unusedSimpArgs false
set_option linter.unusedSectionVars false
set_option maxRecDepth 100000
namespace Go.Eng
open Go Go.Proofs

def escX (c : Nat) : List Nat := [92, 120, hexN (c / 16), hexN (c % 16)]
def escS (b : List Nat) : List Nat := b.flatMap escX
theorem escS_cons (c : Nat) (b : List Nat) : escS (c :: b) = escX c ++ escS b := rfl
theorem escS_snoc (b : List Nat) (c : Nat) : escS (b ++ [c]) = escS b ++ escX c := by simp [escS]
theorem escS_len : ∀ b : List Nat, (escS b).length = 4 * b.length
  | [] => rfl
  | c :: b => by rw [escS_cons, List.length_append, escS_len b]; simp [escX]; omega
theorem escX_by {c : Nat} (hc : c < 256) : Bts (escX c) := by
  have h1 : hexN (c / 16) < 256 := hexN_lt (by omega)
  have h2 : hexN (c % 16) < 256 := hexN_lt (by omega)
  exact cons_by (by decide) (cons_by (by decide) (cons_by h1 (cons_by h2 nil_by)))
theorem escS_by : ∀ {b : List Nat}, Bts b → Bts (escS b)
  | [], _ => nil_by
  | c :: b, h => app_by (escX_by (h c (by simp))) (escS_by fun x hx => h x (by simp [hx]))
theorem esc_read {no : List Nat} {c : Nat} (hc : c < 256) (r : List Nat) : letR no (escX c ++ r) = .ok (c, r) := by
  show letR no (92 :: 120 :: hexN (c / 16) :: hexN (c % 16) :: r) = _
  rw [letR, if_pos rfl, escR, if_neg (by decide), if_neg (by decide), if_neg (by decide), if_neg (by decide), if_pos rfl]
  have d1 := dgt_hex (n := c / 16) (by omega)
  have d2 := dgt_hex (n := c % 16) (by omega)
  simp only [hex2, hex1, d1, d2]
  rw [if_pos (by omega)]
  simp only
  rw [if_pos (by omega)]
  simp only
  congr 2; omega
theorem esc_atom {c : Nat} (hc : c < 256) {f : Nat} (r : List Nat) : atomR (f + 1) (escX c ++ r) = .ok (.set (ofS [c]), r) := by
  have h := esc_read (no := signsL) hc r
  have e : escX c ++ r = 92 :: 120 :: hexN (c / 16) :: hexN (c % 16) :: r := rfl
  rw [e] at h ⊢
  rw [atomR]
  · rw [h]
  · intro r1 he; simp at he
  · intro r1 he; simp at he
  · intro r1 he; simp at he
def wrF (x : Rx) (cs : List Nat) : Rx := cs.foldl (fun x c => .seq x (.set (ofS [c]))) x
def wrT : List Nat → Rx
  | [] => .nil
  | c :: cs => wrF (.set (ofS [c])) cs
theorem wrT_snoc : ∀ {b : List Nat} (c : Nat), b ≠ [] → wrT (b ++ [c]) = .seq (wrT b) (.set (ofS [c]))
  | d :: b, c, _ => by
    show wrF _ (b ++ [c]) = _
    unfold wrF
    rw [List.foldl_append]; rfl
theorem wrF_size : ∀ (cs : List Nat) (x : Rx), (wrF x cs).size = x.size + 2 * cs.length
  | [], x => rfl
  | c :: cs, x => by
    show (wrF (.seq x (.set (ofS [c]))) cs).size = _
    rw [wrF_size cs]; simp only [Rx.size, List.length_cons]; omega
theorem wrT_size (b : List Nat) : (wrT b).size ≤ 2 * b.length + 1 := by
  cases b with
  | nil => simp [wrT, Rx.size]
  | cons c cs => rw [wrT, wrF_size]; simp only [Rx.size, List.length_cons]; omega
theorem escS_post (cs : List Nat) {R : List Nat} (hR : noPost R) : noPost (escS cs ++ R) := by
  cases cs with
  | nil => exact hR
  | cons c cs => intro d hd; rw [escS_cons] at hd; simp [escX] at hd; subst hd; decide
theorem way_esc {R : List Nat} (hR : stopR R) : ∀ (cs : List Nat) (x : Rx) (f : Nat), (∀ c ∈ cs, c < 256) → cs.length + 1 ≤ f → wayL f (some x) (escS cs ++ R) = .ok (wrF x cs, R)
  | [], x, f, _, hf => way_end hR (by simpa using hf)
  | c :: cs, x, f, hb, hf => by
    simp only [List.length_cons] at hf
    obtain ⟨f, rfl⟩ : ∃ g, f = g + 2 := ⟨f - 2, by omega⟩
    have e : escS (c :: cs) ++ R = escX c ++ (escS cs ++ R) := by rw [escS_cons, List.append_assoc]
    have hns : ¬ (escX c ++ (escS cs ++ R) = [] ∨ (escX c ++ (escS cs ++ R)).head? = some 124 ∨ (escX c ++ (escS cs ++ R)).head? = some 41) := by
      rintro (h | h | h) <;> simp [escX] at h
    rw [e, wayL, if_neg hns, esc_atom (hb c (by simp))]
    simp only [post_no (escS_post cs (stop_noPost hR))]
    exact way_esc hR cs _ (f + 1) (fun d hd => hb d (by simp [hd])) (by omega)
theorem way_esc0 {R : List Nat} (hR : stopR R) {b : List Nat} {f : Nat} (hb : ∀ c ∈ b, c < 256) (hf : b.length + 2 ≤ f) : wayL f none (escS b ++ R) = .ok (wrT b, R) := by
  cases b with
  | nil =>
    obtain ⟨f, rfl⟩ : ∃ g, f = g + 1 := ⟨f - 1, by omega⟩
    show wayL (f + 1) none R = _
    rw [wayL, if_pos (show R = [] ∨ R.head? = some 124 ∨ R.head? = some 41 from hR)]; rfl
  | cons c cs =>
    simp only [List.length_cons] at hf
    obtain ⟨f, rfl⟩ : ∃ g, f = g + 2 := ⟨f - 2, by omega⟩
    have e : escS (c :: cs) ++ R = escX c ++ (escS cs ++ R) := by rw [escS_cons, List.append_assoc]
    have hns : ¬ (escX c ++ (escS cs ++ R) = [] ∨ (escX c ++ (escS cs ++ R)).head? = some 124 ∨ (escX c ++ (escS cs ++ R)).head? = some 41) := by
      rintro (h | h | h) <;> simp [escX] at h
    rw [e, wayL, if_neg hns, esc_atom (hb c (by simp))]
    simp only [post_no (escS_post cs (stop_noPost hR))]
    exact way_esc hR cs _ (f + 1) (fun d hd => hb d (by simp [hd])) (by omega)
theorem ways_esc {R : List Nat} (hR : R = [] ∨ R.head? = some 41) {b : List Nat} {f : Nat} (hb : ∀ c ∈ b, c < 256) (hf : b.length + 3 ≤ f) : waysR f (escS b ++ R) = .ok (wrT b, R) := by
  obtain ⟨f, rfl⟩ : ∃ g, f = g + 2 := ⟨f - 2, by omega⟩
  have hs : stopR R := by rcases hR with h | h; exact .inl h; exact .inr (.inr h)
  rw [waysR, way_esc0 hs hb (by omega)]
  simp only
  have hn : ¬ R.head? = some 124 := by
    rcases hR with rfl | h
    · simp
    · rw [h]; simp
  rw [waysL, if_neg hn]
theorem parse_esc {b : List Nat} (hb : ∀ c ∈ b, c < 256) (hl : b.length ≤ 100) : parseR (escS b) = .ok (wrT b) := by
  have h := ways_esc (R := []) (.inl rfl) (f := 4 * (escS b).length + 8) hb (by rw [escS_len]; omega)
  rw [List.append_nil] at h
  have hs := wrT_size b
  unfold parseR
  rw [if_neg (by rw [escS_len]; omega), h]
  simp only
  rw [if_neg (by simp), if_neg (by omega)]
theorem parse_bra {b : List Nat} (hb : ∀ c ∈ b, c < 256) (hl : b.length ≤ 100) : parseR (40 :: (escS b ++ [41])) = .ok (wrT b) := by
  have hlen : (40 :: (escS b ++ [41])).length = 4 * b.length + 2 := by simp [escS_len]
  have hs := wrT_size b
  unfold parseR
  rw [if_neg (by omega), hlen, show 4 * (4 * b.length + 2) + 8 = (16 * b.length + 12) + 4 by omega, waysR, wayL, if_neg (by simp), atomR, ways_esc (.inr rfl) hb (by omega)]
  simp only [List.head?_cons, if_true, List.tail_cons]
  rw [show postR (wrT b) [] = (wrT b, []) by rw [postR], wayL, if_pos (.inl rfl)]
  simp only [Option.getD_some]
  rw [waysL, if_neg (by simp)]
  simp only
  rw [if_neg (by simp), if_neg (by omega)]
theorem bit1 {c d : Nat} : (ofS [c]).testBit d = true ↔ d = c := by rw [ofS_bit]; simp
theorem wrT_takes {T : List Nat} : ∀ (n : Nat) (b : List Nat), b.length = n → ∀ j, Mt T (wrT b) 0 j ↔ j = b.length ∧ T.take b.length = b
  | 0, b, hn, j => by
    have : b = [] := List.length_eq_zero_iff.1 hn
    subst this
    constructor
    · intro h; cases h; exact ⟨rfl, rfl⟩
    · rintro ⟨rfl, _⟩; exact .nil (Nat.zero_le _)
  | n + 1, b, hn, j => by
    obtain ⟨b', c, rfl⟩ : ∃ b' c, b = b' ++ [c] := ⟨b.dropLast, b.getLast (by intro h; rw [h] at hn; cases hn), (List.dropLast_concat_getLast _).symm⟩
    rw [List.length_append] at hn ⊢
    simp only [List.length_cons, List.length_nil] at hn ⊢
    by_cases h0 : b' = []
    · subst h0
      show Mt T (.set (ofS [c])) 0 j ↔ j = 1 ∧ T.take 1 = [c]
      constructor
      · intro h
        cases h with
        | set h1 h2 =>
          rw [bit1] at h2
          subst h2
          cases T with
          | nil => cases h1
          | cons d T => injection h1 with h1; subst h1; exact ⟨rfl, rfl⟩
      · rintro ⟨rfl, h⟩
        cases T with
        | nil => cases h
        | cons d T =>
          injection h with h _
          subst h
          exact .set rfl (bit1.2 rfl)
    · rw [wrT_snoc c h0, seq_iff]
      have ih := wrT_takes (T := T) n b' (by omega)
      constructor
      · rintro ⟨k, h1, h2⟩
        obtain ⟨rfl, h3⟩ := (ih k).1 h1
        cases h2 with
        | set h4 h5 =>
          rw [bit1] at h5
          subst h5
          refine ⟨rfl, ?_⟩
          rw [List.take_add_one, h3, h4]; rfl
      · rintro ⟨rfl, h⟩
        have hlen : b'.length < T.length := by
          have := congrArg List.length h
          rw [List.length_take, List.length_append] at this
          simp only [List.length_cons, List.length_nil] at this
          omega
        rw [List.take_add_one, List.getElem?_eq_getElem hlen] at h
        have h' := List.append_inj h (by rw [List.length_take]; omega)
        refine ⟨b'.length, (ih _).2 ⟨rfl, h'.1⟩, .set (List.getElem?_eq_getElem hlen) ?_⟩
        have := h'.2
        simp at this
        rw [this]; exact bit1.2 rfl
theorem wrT_self {b : List Nat} (hl : b.length ≤ 100) : takesN ((wrT b).flat 0) b = true := by
  have := wrT_size b
  rw [tk_iff (by omega), wrT_takes _ b rfl]
  exact ⟨rfl, List.take_length⟩
theorem wrT_not {b : List Nat} (hl : b.length ≤ 100) : takesN ((wrT (b ++ [0])).flat 0) b = false := by
  have hs := wrT_size (b ++ [0])
  rw [List.length_append] at hs
  simp only [List.length_cons, List.length_nil] at hs
  cases h : takesN ((wrT (b ++ [0])).flat 0) b with
  | false => rfl
  | true =>
    rw [tk_iff (by omega), wrT_takes _ (b ++ [0]) rfl, List.length_append] at h
    simp at h
theorem cls_esc {r : List Nat} : ∀ (b : List Nat) (f : Nat) (first : Bool) (acc : Nat), (∀ c ∈ b, c < 256) → b.length + 1 ≤ f → (first = true → b ≠ []) → ∃ s, clsL f first acc (escS b ++ 93 :: r) = .ok (s, r) ∧ ∀ d, s.testBit d = (acc.testBit d || decide (d ∈ b))
  | [], f, first, acc, _, hf, h1 => by
    obtain ⟨f, rfl⟩ : ∃ g, f = g + 1 := ⟨f - 1, by simp at hf; omega⟩
    have hff : first = false := by cases first with | false => rfl | true => exact absurd rfl (h1 rfl)
    refine ⟨acc, ?_, fun d => by simp⟩
    show clsL (f + 1) first acc (93 :: r) = _
    rw [clsL, if_pos ⟨hff, rfl⟩]; rfl
  | c :: b, f, first, acc, hb, hf, _ => by
    simp only [List.length_cons] at hf
    obtain ⟨f, rfl⟩ : ∃ g, f = g + 1 := ⟨f - 1, by omega⟩
    obtain ⟨s, i1, i2⟩ := cls_esc b f false (acc ||| spanS c c) (fun d hd => hb d (by simp [hd])) (by omega) (by simp)
    have e : escS (c :: b) ++ 93 :: r = escX c ++ (escS b ++ 93 :: r) := by rw [escS_cons, List.append_assoc]
    refine ⟨s, ?_, fun d => ?_⟩
    · rw [e, clsL, if_neg (by simp [escX]), esc_read (hb c (by simp))]
      simp only
      have hno : ¬ (escS b ++ 93 :: r).head? = some 45 := by
        cases b with
        | nil => simp [escS]
        | cons d b => rw [escS_cons]; simp [escX]
      rw [if_neg hno]
      exact i1
    · rw [i2, Nat.testBit_or, spanS_bit, Bool.or_assoc]
      congr 1
      rw [Bool.eq_iff_iff]
      simp only [Bool.or_eq_true, decide_eq_true_eq, List.mem_cons]
      constructor
      · rintro (h | h)
        · left; omega
        · exact .inr h
      · rintro (h | h)
        · left; omega
        · exact .inr h
theorem parse_cls {b : List Nat} (hb : ∀ c ∈ b, c < 256) (hl : b.length ≤ 100) (h0 : b ≠ []) : ∃ s, parseR (91 :: (escS b ++ [93])) = .ok (.set s) ∧ ∀ d, s.testBit d = decide (d ∈ b) := by
  have hlen : (91 :: (escS b ++ [93])).length = 4 * b.length + 2 := by simp [escS_len]
  obtain ⟨s, h1, h2⟩ := cls_esc (r := []) b ((escS b ++ [93]).length + 1) true 0 hb (by simp [escS_len]; omega) (fun _ => h0)
  refine ⟨s, ?_, fun d => by rw [h2]; simp⟩
  have hc : clsR (escS b ++ [93]) = .ok (s, []) := by
    unfold clsR
    have : ¬ (escS b ++ [93]).head? = some 94 := by
      cases b with
      | nil => exact absurd rfl h0
      | cons d b => rw [escS_cons]; simp [escX]
    rw [if_neg this]; exact h1
  unfold parseR
  rw [if_neg (by omega), hlen, show 4 * (4 * b.length + 2) + 8 = (16 * b.length + 12) + 4 by omega, waysR, wayL, if_neg (by simp), atomR, hc]
  simp only
  rw [show postR (.set s) [] = (.set s, []) by rw [postR], wayL, if_pos (.inl rfl)]
  simp only [Option.getD_some]
  rw [waysL, if_neg (by simp)]
  simp only
  rw [if_neg (by simp), if_neg (by simp [Rx.size])]
theorem parse_ncls {b : List Nat} (hb : ∀ c ∈ b, c < 256) (hl : b.length ≤ 100) (h0 : b ≠ []) : ∃ s, parseR (91 :: 94 :: (escS b ++ [93])) = .ok (.set s) ∧ ∀ d, d < 256 → s.testBit d = !decide (d ∈ b) := by
  have hlen : (91 :: 94 :: (escS b ++ [93])).length = 4 * b.length + 3 := by simp [escS_len]
  obtain ⟨s, h1, h2⟩ := cls_esc (r := []) b ((94 :: (escS b ++ [93])).length + 1) true 0 hb (by simp [escS_len]; omega) (fun _ => h0)
  refine ⟨notS s, ?_, fun d hd => by rw [notS_bit, h2]; simp [hd]⟩
  have hc : clsR (94 :: (escS b ++ [93])) = .ok (notS s, []) := by
    unfold clsR
    rw [if_pos (show (94 :: (escS b ++ [93])).head? = some 94 from rfl), List.tail_cons, h1]
  unfold parseR
  rw [if_neg (by omega), hlen, show 4 * (4 * b.length + 3) + 8 = (16 * b.length + 16) + 4 by omega, waysR, wayL, if_neg (by simp), atomR, hc]
  simp only
  rw [show postR (.set (notS s)) [] = (.set (notS s), []) by rw [postR], wayL, if_pos (.inl rfl)]
  simp only [Option.getD_some]
  rw [waysL, if_neg (by simp)]
  simp only
  rw [if_neg (by simp), if_neg (by simp [Rx.size])]
theorem set_takes {s c : Nat} : takesN ((Rx.set s).flat 0) [c] = s.testBit c := by
  rw [Bool.eq_iff_iff, tk_iff (by simp [Rx.size])]
  constructor
  · intro h
    cases h with
    | set h1 h2 => injection h1 with h1; subst h1; exact h2
  · intro h; exact .set rfl h
theorem slc_dig {k : Nat} (hk : k < 16) : slcStr (.string ⟨#[48, 49, 50, 51, 52, 53, 54, 55, 56, 57, 97, 98, 99, 100, 101, 102]⟩) (some (.int .u8 (k : Int))) (some (.int .u8 ((k + 1 : Nat) : Int))) = some (.string (strOf [hexN k])) :=
  match k, hk with
  | 0, _ => by kernel_rfl
  | 1, _ => by kernel_rfl
  | 2, _ => by kernel_rfl
  | 3, _ => by kernel_rfl
  | 4, _ => by kernel_rfl
  | 5, _ => by kernel_rfl
  | 6, _ => by kernel_rfl
  | 7, _ => by kernel_rfl
  | 8, _ => by kernel_rfl
  | 9, _ => by kernel_rfl
  | 10, _ => by kernel_rfl
  | 11, _ => by kernel_rfl
  | 12, _ => by kernel_rfl
  | 13, _ => by kernel_rfl
  | 14, _ => by kernel_rfl
  | 15, _ => by kernel_rfl
  | k + 16, h => absurd h (by omega)
end Go.Eng
