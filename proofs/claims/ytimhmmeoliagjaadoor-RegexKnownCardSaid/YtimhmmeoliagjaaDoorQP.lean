import Derived.Test.YtimhmmeoliagjaaDoorEnhDD
set_option linter.unusedVariables false
namespace Go.Eng

def wrd (s i : Nat) : Nat := s / 2 ^ (64 * i) % 2 ^ 64
theorem wrd_bit (s i j : Nat) : (wrd s i).testBit j = (decide (j < 64) && s.testBit (64 * i + j)) := by
  unfold wrd
  rw [Nat.testBit_mod_two_pow, Nat.testBit_div_two_pow, Nat.add_comm]
theorem wrd_lt (s i : Nat) : wrd s i < 18446744073709551616 := Nat.mod_lt _ (by decide)
theorem wrd_or (s t i : Nat) : wrd (s ||| t) i = wrd s i ||| wrd t i := by
  apply Nat.eq_of_testBit_eq
  intro j
  simp only [wrd_bit, Nat.testBit_or]
  cases decide (j < 64) <;> simp
theorem wrd_pow {c i : Nat} : wrd (2 ^ c) i = if c / 64 = i then 2 ^ (c % 64) else 0 := by
  apply Nat.eq_of_testBit_eq
  intro j
  rw [wrd_bit, Nat.testBit_two_pow]
  split
  · rename_i h
    rw [Nat.testBit_two_pow]
    by_cases hj : j < 64
    · simp only [hj, decide_true, Bool.true_and]
      rw [decide_eq_decide]
      omega
    · simp only [hj, decide_false, Bool.false_and]
      symm
      rw [decide_eq_false_iff_not]
      omega
  · rename_i h
    rw [Nat.zero_testBit]
    by_cases hj : j < 64
    · simp only [hj, decide_true, Bool.true_and]
      rw [decide_eq_false_iff_not]
      omega
    · simp [hj]
def all256 : Nat := 2 ^ 256 - 1
def notS (s : Nat) : Nat := s ^^^ all256
theorem all_bit (c : Nat) : all256.testBit c = decide (c < 256) := Nat.testBit_two_pow_sub_one ..
theorem notS_bit (s c : Nat) : (notS s).testBit c = (s.testBit c ^^ decide (c < 256)) := by
  unfold notS
  rw [Nat.testBit_xor, all_bit]
theorem wrd_not {s i : Nat} (hi : i < 4) : wrd (notS s) i = 18446744073709551615 - wrd s i := by
  apply Nat.eq_of_testBit_eq
  intro j
  rw [wrd_bit, notS_bit, show (18446744073709551615 : Nat) = 2 ^ 64 - 1 by rfl, show 2 ^ 64 - 1 - wrd s i = 2 ^ 64 - (wrd s i + 1) by omega, Nat.testBit_two_pow_sub_succ (wrd_lt s i), wrd_bit]
  by_cases hj : j < 64
  · have : 64 * i + j < 256 := by omega
    simp [hj, this]
  · simp [hj]
def spanS (a b : Nat) : Nat := (List.range (b + 1 - a)).foldl (fun s k => s ||| 2 ^ (a + k)) 0
def ofS (l : List Nat) : Nat := l.foldl (fun s c => s ||| 2 ^ c) 0
inductive Rx where
  | nil
  | set (s : Nat)
  | seq (a b : Rx)
  | alt (a b : Rx)
  | star (a : Rx)
  | plus (a : Rx)
  deriving DecidableEq
def Rx.size : Rx → Nat
  | .nil => 1
  | .set _ => 1
  | .seq a b => a.size + b.size + 1
  | .alt a b => a.size + b.size + 1
  | .star a => a.size + 1
  | .plus a => a.size + 1
theorem Rx.size_pos : ∀ t : Rx, 0 < t.size
  | .nil => by simp [Rx.size]
  | .set _ => by simp [Rx.size]
  | .seq _ _ => by simp [Rx.size]
  | .alt _ _ => by simp [Rx.size]
  | .star _ => by simp [Rx.size]
  | .plus _ => by simp [Rx.size]
structure Nd where
  kind : Int
  set : Nat
  a : Int
  b : Int
  deriving DecidableEq
def Rx.flat : Nat → Rx → List Nd
  | _, .nil => [⟨1, 0, 0, 0⟩]
  | _, .set s => [⟨2, s, 0, 0⟩]
  | o, .seq x y => x.flat o ++ y.flat (o + x.size) ++ [⟨3, 0, ((o + x.size - 1 : Nat) : Int), ((o + x.size + y.size - 1 : Nat) : Int)⟩]
  | o, .alt x y => x.flat o ++ y.flat (o + x.size) ++ [⟨4, 0, ((o + x.size - 1 : Nat) : Int), ((o + x.size + y.size - 1 : Nat) : Int)⟩]
  | o, .star x => x.flat o ++ [⟨5, 0, ((o + x.size - 1 : Nat) : Int), 0⟩]
  | o, .plus x => x.flat o ++ [⟨6, 0, ((o + x.size - 1 : Nat) : Int), 0⟩]
theorem Rx.flat_len : ∀ (t : Rx) (o : Nat), (t.flat o).length = t.size
  | .nil, _ => rfl
  | .set _, _ => rfl
  | .seq x y, o => by simp [Rx.flat, Rx.size, Rx.flat_len x, Rx.flat_len y]; omega
  | .alt x y, o => by simp [Rx.flat, Rx.size, Rx.flat_len x, Rx.flat_len y]; omega
  | .star x, o => by simp [Rx.flat, Rx.size, Rx.flat_len x]
  | .plus x, o => by simp [Rx.flat, Rx.size, Rx.flat_len x]

abbrev Rd (α : Type) := Except (List Nat) (α × List Nat)
def signsL : List Nat := [40, 41, 91, 93, 124, 42, 43, 63, 46, 92, 47]
def classL : List Nat := [91, 93, 92, 94, 45, 47]
def escL : List Nat := [40, 41, 91, 93, 124, 42, 43, 63, 46, 92, 47, 94, 45]
def dgt (c : Nat) : Nat := if 48 ≤ c ∧ c ≤ 57 then c - 48 else if 97 ≤ c ∧ c ≤ 102 then c - 87 else 16
def hex1 : List Nat → Rd Nat
  | [] => .error []
  | c :: r => if dgt c < 16 then .ok (dgt c, r) else .error (c :: r)
def hex2 (r : List Nat) : Rd Nat :=
  match hex1 r with
  | .error e => .error e
  | .ok (x, r1) => match hex1 r1 with
    | .error e => .error e
    | .ok (y, r2) => .ok (16 * x + y, r2)
def escR : List Nat → Rd Nat
  | [] => .error []
  | c :: r => if c = 110 then .ok (10, r) else if c = 116 then .ok (9, r) else if c = 114 then .ok (13, r) else if c ∈ escL then .ok (c, r) else if c = 120 then hex2 r else .error (c :: r)
def letR (no : List Nat) : List Nat → Rd Nat
  | [] => .error []
  | c :: r => if c = 92 then escR r else if c < 32 ∨ 126 < c ∨ c ∈ no then .error (c :: r) else .ok (c, r)
def clsL : Nat → Bool → Nat → List Nat → Rd Nat
  | 0, _, s, r => .error r
  | f + 1, first, s, r =>
    if first = false ∧ r.head? = some 93 then .ok (s, r.tail) else
    match letR classL r with
    | .error e => .error e
    | .ok (a, r1) =>
      if r1.head? = some 45 then
        match letR classL r1.tail with
        | .error e => .error e
        | .ok (b, r2) => if b < a then .error r1.tail else clsL f false (s ||| spanS a b) r2
      else clsL f false (s ||| spanS a a) r1
def clsR (r : List Nat) : Rd Nat :=
  if r.head? = some 94 then
    match clsL (r.length + 1) true 0 r.tail with
    | .error e => .error e
    | .ok (s, r1) => .ok (notS s, r1)
  else clsL (r.length + 1) true 0 r
def postR : Rx → List Nat → Rx × List Nat
  | t, [] => (t, [])
  | t, c :: r => if c = 63 then postR (.alt t .nil) r else if c = 43 then postR (.plus t) r else if c = 42 then postR (.star t) r else (t, c :: r)
mutual
def atomR : Nat → List Nat → Rd Rx
  | 0, r => .error r
  | f + 1, r =>
    match r with
    | 40 :: r1 => match waysR f r1 with
      | .error e => .error e
      | .ok (t, r2) => if r2.head? = some 41 then .ok (t, r2.tail) else .error r2
    | 46 :: r1 => .ok (.set (notS (ofS [10])), r1)
    | 91 :: r1 => match clsR r1 with | .error e => .error e | .ok (s, r2) => .ok (.set s, r2)
    | r => match letR signsL r with | .error e => .error e | .ok (c, r2) => .ok (.set (ofS [c]), r2)
def wayL : Nat → Option Rx → List Nat → Rd Rx
  | 0, _, r => .error r
  | f + 1, x, r =>
    if r = [] ∨ r.head? = some 124 ∨ r.head? = some 41 then .ok (x.getD .nil, r) else
    match atomR f r with
    | .error e => .error e
    | .ok (t, r1) => wayL f (some (match x with | none => (postR t r1).1 | some x => .seq x (postR t r1).1)) (postR t r1).2
def waysL : Nat → Rx → List Nat → Rd Rx
  | 0, _, r => .error r
  | f + 1, x, r =>
    if r.head? = some 124 then
      match wayL f none r.tail with
      | .error e => .error e
      | .ok (y, r1) => waysL f (.alt x y) r1
    else .ok (x, r)
def waysR : Nat → List Nat → Rd Rx
  | 0, r => .error r
  | f + 1, r => match wayL f none r with
    | .error e => .error e
    | .ok (x, r1) => waysL f x r1
end
inductive Pt where
  | ok (t : Rx)
  | bad (n : Nat)
  | big
def parseR (l : List Nat) : Pt :=
  if 1024 < l.length then .big else
  match waysR (4 * l.length + 8) l with
  | .error e => .bad (l.length - e.length)
  | .ok (t, r) => if r ≠ [] then .bad (l.length - r.length) else if 256 < t.size then .big else .ok t
end Go.Eng
