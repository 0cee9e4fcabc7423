/- What is written is read so, what is read is written so: the plain law. -/
import Derived.Test.YtmjeefecjgfdjaaDoorTL
set_option linter.unusedVariables false
set_option linter.unusedSimpArgs false
namespace Go.Eng
open Go Go.Proofs

theorem tkG_vnum : ∀ (m acc s : Nat) (r : List Nat), acc + m * 128 ^ s ≤ 9007199254740991 → (0 < s → m ≠ 0) → tkG (vnum m ++ r) acc s = (acc + m * 128 ^ s, s + (vnum m).length, 0) := by
  intro m
  induction m using Nat.strongRecOn with
  | _ m ih =>
    intro acc s r hb hs
    have hs8 : s ≠ 8 := by
      intro h
      subst h
      have : m ≠ 0 := hs (by omega)
      have h8 : (128 : Nat) ^ 8 = 72057594037927936 := by decide
      rw [h8] at hb
      omega
    rw [vnum]
    by_cases hm : m < 128
    · rw [if_pos hm]
      simp only [List.cons_append, List.nil_append, tkG]
      rw [if_neg hs8, if_pos hm, Nat.mod_eq_of_lt hm, if_neg (by
        rintro (h | h)
        · exact hs h.2 h.1
        · omega)]
      simp
    · rw [if_neg hm]
      simp only [List.cons_append, tkG]
      have e1 : ¬ m % 128 + 128 < 128 := by omega
      have e2 : (m % 128 + 128) % 128 = m % 128 := by omega
      rw [if_neg hs8, if_neg e1, e2]
      have hp : (128 : Nat) ^ (s + 1) = 128 ^ s * 128 := Nat.pow_succ ..
      have e3 : acc + m % 128 * 128 ^ s + m / 128 * 128 ^ (s + 1) = acc + m * 128 ^ s := by
        rw [hp]
        have : m = m % 128 + 128 * (m / 128) := (Nat.mod_add_div m 128).symm
        conv => rhs; rw [this, Nat.add_mul]
        rw [Nat.add_assoc, Nat.mul_comm 128 (m / 128), Nat.mul_assoc, Nat.mul_comm 128]
      rw [ih (m / 128) (by omega) _ _ _ (by omega) (by omega), e3]
      simp
      omega
theorem tk_vnum {n : Nat} (h : n ≤ 9007199254740991) (r : List Nat) : tk (vnum n ++ r) = (n, (vnum n).length, 0) := by
  have := tkG_vnum n 0 0 r (by simpa using h) (by simp)
  simpa [tk] using this
theorem tN_vnum {n : Nat} (h : n ≤ 9007199254740991) (r : List Nat) : tN (vnum n ++ r) = (n, r, 0) := by
  unfold tN
  rw [tk_vnum h]
  simp
theorem tkG_inv : ∀ (d : List Nat) (acc s : Nat), (∀ x ∈ d, x < 256) → (tkG d acc s).2.2 = 0 → ∃ m r, d = vnum m ++ r ∧ (tkG d acc s).1 = acc + m * 128 ^ s ∧ (tkG d acc s).2.1 = s + (vnum m).length ∧ (0 < s → m ≠ 0)
  | [], acc, s, _, h => by
    exfalso
    rw [tkG] at h
    split at h <;> exact absurd h (by decide)
  | c :: d, acc, s, hd, h => by
    rw [tkG] at h
    rw [tkG]
    by_cases h8 : s = 8
    · rw [if_pos h8] at h; exact absurd h (by decide)
    rw [if_neg h8] at h
    rw [if_neg h8]
    by_cases hc : c < 128
    · rw [if_pos hc] at h
      rw [if_pos hc]
      by_cases h0 : (c = 0 ∧ 0 < s) ∨ 9007199254740991 < acc + c % 128 * 128 ^ s
      · rw [if_pos h0] at h; exact absurd h (by decide)
      rw [if_neg h0]
      refine ⟨c, d, ?_, ?_, ?_, fun h1 h2 => h0 (.inl ⟨h2, h1⟩)⟩
      · rw [vnum, if_pos hc]; rfl
      · rw [Nat.mod_eq_of_lt hc]
      · rw [vnum, if_pos hc]; rfl
    · rw [if_neg hc] at h
      rw [if_neg hc]
      obtain ⟨m, r, g1, g2, g3, g4⟩ := tkG_inv d (acc + c % 128 * 128 ^ s) (s + 1) (fun x hx => hd x (List.mem_cons_of_mem _ hx)) h
      have hm := g4 (by omega)
      have hc2 := hd c (List.mem_cons_self ..)
      have hv : vnum (c % 128 + 128 * m) = c :: vnum m := by
        rw [vnum, if_neg (by omega)]
        have e1 : (c % 128 + 128 * m) % 128 + 128 = c := by omega
        have e2 : (c % 128 + 128 * m) / 128 = m := by omega
        rw [e1, e2]
      have hp : (128 : Nat) ^ (s + 1) = 128 ^ s * 128 := Nat.pow_succ ..
      refine ⟨c % 128 + 128 * m, r, by rw [hv, g1]; rfl, ?_, by rw [hv, g3, List.length_cons]; omega, by omega⟩
      rw [g2, hp, Nat.add_mul, Nat.add_assoc, Nat.mul_comm 128 m, Nat.mul_assoc, Nat.mul_comm 128]
theorem tN_inv {d : List Nat} (hd : ∀ x ∈ d, x < 256) (h : (tN d).2.2 = 0) : d = nb ((tN d).1 : Int) ++ (tN d).2.1 := by
  rcases tN_say d with ht | ht
  · obtain ⟨m, r, g1, g2, g3, _⟩ := tkG_inv d 0 0 hd ht.2.1
    have hle : (tk d).1 ≤ 9007199254740991 := by
      rcases tk_says d with h1 | h1
      · exact h1.2.2.2.2
      · omega
    have e1 : (tk d).1 = m := by simpa [tk] using g2
    have e2 : (tk d).2.1 = (vnum m).length := by simpa [tk] using g3
    rw [ht.2.2.1, ht.2.2.2, e1, e2, nb_nat (by omega)]
    conv => lhs; rw [g1]
    conv => rhs; rw [g1]
    simp
  · omega
theorem tN_nb {k : Int} (h : okN k = true) (r : List Nat) : ((tN (nb k ++ r)).1 : Int) = k ∧ (tN (nb k ++ r)).2 = (r, 0) := by
  simp only [okN, Bool.and_eq_true, decide_eq_true_eq] at h
  obtain ⟨m, rfl⟩ := Int.eq_ofNat_of_zero_le h.1
  rw [nb_nat (by omega), tN_vnum (by omega)]
  exact ⟨rfl, rfl⟩
theorem sN_nb {k : Int} (h : okN k = true) (r : List Nat) : sN (some (nb k ++ r)) = (k, some r) := by
  obtain ⟨h1, h2⟩ := tN_nb h r
  simp only [sN, h1, h2, if_true]
theorem sT_tb {m : Nat} {x : List Nat} (h : x.length ≤ m) (h' : x.length ≤ 9007199254740991) (r : List Nat) : sT m (some (tb x ++ r)) = (x, some r) := by
  have e : tb x ++ r = vnum x.length ++ (x ++ r) := by
    unfold tb
    rw [nb_nat h', List.append_assoc]
  have e1 : tN (tb x ++ r) = (x.length, x ++ r, 0) := by rw [e]; exact tN_vnum h' _
  have e2 : tT m (tb x ++ r) = (x, r, 0) := by
    simp only [tT, e1]
    rw [if_neg (by simp), if_neg (by omega), if_neg (by simp)]
    simp
  simp [sT, e2]
/-- What was read is what stood there. -/
theorem sN_inv {s : Option (List Nat)} {r : List Nat} (hs : ∀ d, s = some d → ∀ x ∈ d, x < 256) (h : (sN s).2 = some r) : s = some (nb (sN s).1 ++ r) ∧ okN (sN s).1 = true ∧ ∀ x ∈ r, x < 256 := by
  cases s with
  | none => cases h
  | some d =>
    by_cases h0 : (tN d).2.2 = 0
    · simp only [sN, h0, if_true] at h ⊢
      have := tN_inv (hs d rfl) h0
      simp only [Option.some.injEq] at h
      rw [← h, ← this]
      refine ⟨rfl, ?_, tN_byte (hs d rfl)⟩
      rcases tN_say d with ht | ht
      · rcases tk_says d with h1 | h1
        · rw [ht.2.2.1]; simp [okN]; omega
        · omega
      · omega
    · simp [sN, h0] at h
theorem sT_inv {m : Nat} {s : Option (List Nat)} {r : List Nat} (hs : ∀ d, s = some d → ∀ x ∈ d, x < 256) (h : (sT m s).2 = some r) : s = some (tb (sT m s).1 ++ r) ∧ (∀ x ∈ r, x < 256) ∧ ∀ x ∈ (sT m s).1, x < 256 := by
  cases s with
  | none => cases h
  | some d =>
    by_cases h0 : (tT m d).2.2 = 0
    · have hb := tT_byte (m := m) (hs d rfl)
      have he : (tN d).2.2 = 0 ∧ ¬ m < (tN d).1 ∧ ¬ (tN d).2.1.length < (tN d).1 := by
        unfold tT at h0
        by_cases h1 : (tN d).2.2 = 0
        · rw [if_neg (by simpa using h1)] at h0
          by_cases h2 : m < (tN d).1
          · rw [if_pos h2] at h0; exact absurd h0 (by decide)
          · rw [if_neg h2] at h0
            by_cases h3 : (tN d).2.1.length < (tN d).1
            · rw [if_pos h3] at h0; exact absurd h0 (by decide)
            · exact ⟨h1, h2, h3⟩
        · rw [if_pos h1] at h0; exact absurd h0 h1
      have hT : tT m d = ((tN d).2.1.take (tN d).1, (tN d).2.1.drop (tN d).1, 0) := by
        unfold tT
        rw [if_neg (by simpa using he.1), if_neg he.2.1, if_neg he.2.2]
      simp only [sT, h0, if_true] at h ⊢
      simp only [Option.some.injEq] at h
      rw [hT] at h hb ⊢
      simp only at h hb ⊢
      refine ⟨?_, by rw [← h]; exact hb.2, hb.1⟩
      have := tN_inv (hs d rfl) he.1
      have hl : ((tN d).2.1.take (tN d).1).length = (tN d).1 := by simp; omega
      rw [← h]
      unfold tb
      rw [hl, List.append_assoc, List.take_append_drop, ← this]
    · simp [sT, h0] at h

/-! ### requests -/
theorem ckA_n {k : Int} {l : List UInt8} {n : Nat} (h : ckA k l n = 0) : okN k = true := by
  have := ckA_ok h
  simp [okN]; omega
theorem read_ask {k : Int} {l : List UInt8} {x : List Nat} (h : ckA k l x.length = 0) (r : List Nat) : nA (wrA k l x ++ r) = (k, some (tb (U l) ++ (tb x ++ r))) ∧ pA (wrA k l x ++ r) = (U l, some (tb x ++ r)) ∧ dA (wrA k l x ++ r) = (x, some r) := by
  have ho := ckA_ok h
  have e : wrA k l x ++ r = nb k ++ (tb (U l) ++ (tb x ++ r)) := by simp [wrA, nbs, tbs]
  have h1 : nA (wrA k l x ++ r) = (k, some (tb (U l) ++ (tb x ++ r))) := by unfold nA; rw [e]; exact sN_nb (ckA_n h) _
  have h2 : pA (wrA k l x ++ r) = (U l, some (tb x ++ r)) := by unfold pA; rw [h1]; exact sT_tb (by rw [U_len]; omega) (by rw [U_len]; omega) _
  have h3 : dA (wrA k l x ++ r) = (x, some r) := by unfold dA; rw [h2]; exact sT_tb (by omega) (by omega) _
  exact ⟨h1, h2, h3⟩
theorem back_ask {k : Int} {l : List UInt8} {x : List Nat} (h : ckA k l x.length = 0) : askedP (wrA k l x) = (⟨k, l, x⟩, 0) := by
  obtain ⟨h1, h2, h3⟩ := read_ask h []
  rw [List.append_nil] at h1 h2 h3
  unfold askedP
  rw [h1, h2, h3, L_U]
  simp [h]
theorem askedP_says (d : List Nat) : (askedP d).2 = 0 ∨ ((askedP d).2 = 290 ∧ (askedP d).1 = ⟨0, [], []⟩) := by
  unfold askedP
  split
  · exact .inl rfl
  · exact .inr ⟨rfl, rfl⟩
theorem just_ask {d : List Nat} (hd : ∀ x ∈ d, x < 256) (h : (askedP d).2 = 0) : ckA (askedP d).1.k (askedP d).1.l (askedP d).1.x.length = 0 ∧ wrA (askedP d).1.k (askedP d).1.l (askedP d).1.x = d ∧ (∀ c ∈ (askedP d).1.x, c < 256) := by
  by_cases hg : (dA d).2 = some [] ∧ ckA (nA d).1 (L (pA d).1) (dA d).1.length = 0
  · have e : askedP d = (⟨(nA d).1, L (pA d).1, (dA d).1⟩, 0) := by unfold askedP; rw [if_pos hg]
    rw [e]
    refine ⟨hg.2, ?_⟩
    have hne : ∀ {s : Option (List Nat)} {m : Nat}, (sT m s).2 ≠ none → ∃ r, s = some r := fun {s m} h => by
      cases s with
      | none => exact absurd rfl h
      | some r => exact ⟨r, rfl⟩
    obtain ⟨r2, e2⟩ := hne (s := (pA d).2) (m := 8192) (by have := hg.1; unfold dA at this; rw [this]; simp)
    obtain ⟨r1, e1⟩ := hne (s := (nA d).2) (m := 32) (by have := e2; unfold pA at this; rw [this]; simp)
    obtain ⟨i1, i1o, i1b⟩ := sN_inv (s := some d) (r := r1) (fun d' h => by cases h; exact hd) e1
    obtain ⟨i2, i2b, i2c⟩ := sT_inv (m := 32) (s := some r1) (r := r2) (fun d' h => by cases h; exact i1b) (by rw [← e1]; exact e2)
    obtain ⟨i3, _, i3c⟩ := sT_inv (m := 8192) (s := some r2) (r := []) (fun d' h => by cases h; exact i2b) (by rw [← e2]; exact hg.1)
    have j1 : d = nb (nA d).1 ++ r1 := Option.some.inj i1
    have j2 : r1 = tb (pA d).1 ++ r2 := by
      have : (pA d).1 = (sT 32 (some r1)).1 := by unfold pA; rw [e1]
      rw [this]; simpa using i2
    have j3 : r2 = tb (dA d).1 := by
      have : (dA d).1 = (sT 8192 (some r2)).1 := by unfold dA; rw [e2]
      rw [this]; simpa using i3
    have hpb : ∀ c ∈ (pA d).1, c < 256 := by
      have : (pA d).1 = (sT 32 (some r1)).1 := by unfold pA; rw [e1]
      rw [this]; exact i2c
    have hdb : ∀ c ∈ (dA d).1, c < 256 := by
      have : (dA d).1 = (sT 8192 (some r2)).1 := by unfold dA; rw [e2]
      rw [this]; exact i3c
    refine ⟨?_, hdb⟩
    simp only [wrA, nbs, tbs, List.flatMap_cons, List.flatMap_nil, List.append_nil, U_L hpb]
    conv => rhs; rw [j1, j2, j3]
  · exfalso
    unfold askedP at h
    rw [if_neg hg] at h
    exact absurd h (by decide)
theorem cut_ask {k : Int} {l : List UInt8} {x : List Nat} (h : ckA k l x.length = 0) (hx : ∀ c ∈ x, c < 256) {i : Nat} (hi : i < (wrA k l x).length) (hb : ∀ c ∈ wrA k l x, c < 256) : (askedP ((wrA k l x).take i)).2 = 290 := by
  rcases askedP_says ((wrA k l x).take i) with h0 | h0
  · obtain ⟨j1, j2, _⟩ := just_ask (fun c hc => hb c (List.mem_of_mem_take hc)) h0
    have h1 := (read_ask j1 ((wrA k l x).drop i)).2.2
    rw [j2, List.take_append_drop] at h1
    have h2 := (read_ask h []).2.2
    rw [List.append_nil, h1] at h2
    simp only [Prod.mk.injEq, Option.some.injEq] at h2
    have := congrArg List.length h2.2
    simp only [List.length_drop, List.length_nil] at this
    omega
  · exact h0.1
theorem more_ask {k : Int} {l : List UInt8} {x m : List Nat} (h : ckA k l x.length = 0) (hb : ∀ c ∈ wrA k l x ++ m, c < 256) (hm : m ≠ []) : (askedP (wrA k l x ++ m)).2 = 290 := by
  rcases askedP_says (wrA k l x ++ m) with h0 | h0
  · obtain ⟨j1, j2, _⟩ := just_ask hb h0
    have h1 := (read_ask j1 []).2.2
    rw [List.append_nil, j2] at h1
    have h2 := (read_ask h m).2.2
    rw [h1] at h2
    simp only [Prod.mk.injEq, Option.some.injEq] at h2
    exact absurd h2.2.symm hm
  · exact h0.1
theorem nbs_byte (xs : List Int) : ∀ c ∈ nbs xs, c < 256 := fun c hc => by
  simp only [nbs, List.mem_flatMap] at hc
  obtain ⟨a, _, h⟩ := hc
  exact nb_byte a c h
theorem tb_byte {x : List Nat} (h : ∀ c ∈ x, c < 256) : ∀ c ∈ tb x, c < 256 := fun c hc => by
  rcases List.mem_append.1 hc with h' | h'
  · exact nb_byte _ c h'
  · exact h c h'
theorem tbs2_byte {l : List UInt8} {x : List Nat} (h : ∀ c ∈ x, c < 256) : ∀ c ∈ tbs [U l, x], c < 256 := fun c hc => by
  simp only [tbs, List.flatMap_cons, List.flatMap_nil, List.append_nil] at hc
  rcases List.mem_append.1 hc with h' | h'
  · exact tb_byte (U_byte l) c h'
  · exact tb_byte h c h'
theorem wrA_byte {k : Int} {l : List UInt8} {x : List Nat} (h : ∀ c ∈ x, c < 256) : ∀ c ∈ wrA k l x, c < 256 := fun c hc => by
  rcases List.mem_append.1 hc with h' | h'
  · exact nbs_byte _ c h'
  · exact tbs2_byte h c h'
theorem wrB_byte {k e a : Int} {l : List UInt8} {x : List Nat} (h : ∀ c ∈ x, c < 256) : ∀ c ∈ wrB k e a l x, c < 256 := fun c hc => by
  rcases List.mem_append.1 hc with h' | h'
  · exact nbs_byte _ c h'
  · exact tbs2_byte h c h'

/-! ### replies -/
theorem ckB_n {k e a : Int} {l : List UInt8} {n : Nat} (h : ckB k e a l n = 0) : okN k = true ∧ okN e = true ∧ okN a = true := by
  have := ckB_ok h
  simp [okN]; omega
theorem read_ans {k e a : Int} {l : List UInt8} {x : List Nat} (h : ckB k e a l x.length = 0) (r : List Nat) : (n1 (wrB k e a l x ++ r)).1 = k ∧ (n2 (wrB k e a l x ++ r)).1 = e ∧ (n3 (wrB k e a l x ++ r)).1 = a ∧ (pB (wrB k e a l x ++ r)).1 = U l ∧ dB (wrB k e a l x ++ r) = (x, some r) := by
  have ho := ckB_ok h
  have hn := ckB_n h
  have e0 : wrB k e a l x ++ r = nb k ++ (nb e ++ (nb a ++ (tb (U l) ++ (tb x ++ r)))) := by simp [wrB, nbs, tbs]
  have h1 : n1 (wrB k e a l x ++ r) = (k, some (nb e ++ (nb a ++ (tb (U l) ++ (tb x ++ r))))) := by unfold n1; rw [e0]; exact sN_nb hn.1 _
  have h1' : n2 (wrB k e a l x ++ r) = (e, some (nb a ++ (tb (U l) ++ (tb x ++ r)))) := by unfold n2; rw [h1]; exact sN_nb hn.2.1 _
  have h1'' : n3 (wrB k e a l x ++ r) = (a, some (tb (U l) ++ (tb x ++ r))) := by unfold n3; rw [h1']; exact sN_nb hn.2.2 _
  have h2 : pB (wrB k e a l x ++ r) = (U l, some (tb x ++ r)) := by unfold pB; rw [h1'']; exact sT_tb (by rw [U_len]; omega) (by rw [U_len]; omega) _
  have h3 : dB (wrB k e a l x ++ r) = (x, some r) := by unfold dB; rw [h2]; exact sT_tb (by omega) (by omega) _
  exact ⟨by rw [h1], by rw [h1'], by rw [h1''], by rw [h2], h3⟩
theorem back_ans {k e a : Int} {l : List UInt8} {x : List Nat} (h : ckB k e a l x.length = 0) : ansdP (wrB k e a l x) = (⟨k, e, a, l, x⟩, 0) := by
  obtain ⟨h1, h2, h3, h4, h5⟩ := read_ans h []
  rw [List.append_nil] at h1 h2 h3 h4 h5
  unfold ansdP
  rw [h1, h2, h3, h4, h5, L_U]
  simp [h]
theorem ansdP_says (d : List Nat) : (ansdP d).2 = 0 ∨ ((ansdP d).2 = 290 ∧ (ansdP d).1 = ⟨0, 0, 0, [], []⟩) := by
  unfold ansdP
  split
  · exact .inl rfl
  · exact .inr ⟨rfl, rfl⟩
theorem just_ans {d : List Nat} (hd : ∀ x ∈ d, x < 256) (h : (ansdP d).2 = 0) : ckB (ansdP d).1.k (ansdP d).1.e (ansdP d).1.a (ansdP d).1.l (ansdP d).1.x.length = 0 ∧ wrB (ansdP d).1.k (ansdP d).1.e (ansdP d).1.a (ansdP d).1.l (ansdP d).1.x = d ∧ (∀ c ∈ (ansdP d).1.x, c < 256) := by
  by_cases hg : (dB d).2 = some [] ∧ ckB (n1 d).1 (n2 d).1 (n3 d).1 (L (pB d).1) (dB d).1.length = 0
  · have e : ansdP d = (⟨(n1 d).1, (n2 d).1, (n3 d).1, L (pB d).1, (dB d).1⟩, 0) := by unfold ansdP; rw [if_pos hg]
    rw [e]
    refine ⟨hg.2, ?_⟩
    have hne : ∀ {s : Option (List Nat)} {m : Nat}, (sT m s).2 ≠ none → ∃ r, s = some r := fun {s m} h => by
      cases s with
      | none => exact absurd rfl h
      | some r => exact ⟨r, rfl⟩
    have hnn : ∀ {s : Option (List Nat)}, (sN s).2 ≠ none → ∃ r, s = some r := fun {s} h => by
      cases s with
      | none => exact absurd rfl h
      | some r => exact ⟨r, rfl⟩
    obtain ⟨r4, e4⟩ := hne (s := (pB d).2) (m := 262144) (by have := hg.1; unfold dB at this; rw [this]; simp)
    obtain ⟨r3, e3⟩ := hne (s := (n3 d).2) (m := 32) (by have := e4; unfold pB at this; rw [this]; simp)
    obtain ⟨r2, e2⟩ := hnn (s := (n2 d).2) (by have := e3; unfold n3 at this; rw [this]; simp)
    obtain ⟨r1, e1⟩ := hnn (s := (n1 d).2) (by have := e2; unfold n2 at this; rw [this]; simp)
    obtain ⟨i1, _, i1b⟩ := sN_inv (s := some d) (r := r1) (fun d' h => by cases h; exact hd) e1
    obtain ⟨i2, _, i2b⟩ := sN_inv (s := some r1) (r := r2) (fun d' h => by cases h; exact i1b) (by rw [← e1]; exact e2)
    obtain ⟨i3, _, i3b⟩ := sN_inv (s := some r2) (r := r3) (fun d' h => by cases h; exact i2b) (by rw [← e2]; exact e3)
    obtain ⟨i4, i4b, i4c⟩ := sT_inv (m := 32) (s := some r3) (r := r4) (fun d' h => by cases h; exact i3b) (by rw [← e3]; exact e4)
    obtain ⟨i5, _, i5c⟩ := sT_inv (m := 262144) (s := some r4) (r := []) (fun d' h => by cases h; exact i4b) (by rw [← e4]; exact hg.1)
    have j1 : d = nb (n1 d).1 ++ r1 := Option.some.inj i1
    have j2 : r1 = nb (n2 d).1 ++ r2 := by
      have : (n2 d).1 = (sN (some r1)).1 := by unfold n2; rw [e1]
      rw [this]; simpa using i2
    have j3 : r2 = nb (n3 d).1 ++ r3 := by
      have : (n3 d).1 = (sN (some r2)).1 := by unfold n3; rw [e2]
      rw [this]; simpa using i3
    have q4 : (pB d).1 = (sT 32 (some r3)).1 := by unfold pB; rw [e3]
    have q5 : (dB d).1 = (sT 262144 (some r4)).1 := by unfold dB; rw [e4]
    have j4 : r3 = tb (pB d).1 ++ r4 := by rw [q4]; simpa using i4
    have j5 : r4 = tb (dB d).1 := by rw [q5]; simpa using i5
    have hpb : ∀ c ∈ (pB d).1, c < 256 := by rw [q4]; exact i4c
    refine ⟨?_, by rw [q5]; exact i5c⟩
    simp only [wrB, nbs, tbs, List.flatMap_cons, List.flatMap_nil, List.append_nil, U_L hpb, List.append_assoc]
    conv => rhs; rw [j1, j2, j3, j4, j5]
  · exfalso
    unfold ansdP at h
    rw [if_neg hg] at h
    exact absurd h (by decide)
theorem cut_ans {k e a : Int} {l : List UInt8} {x : List Nat} (h : ckB k e a l x.length = 0) {i : Nat} (hi : i < (wrB k e a l x).length) (hb : ∀ c ∈ wrB k e a l x, c < 256) : (ansdP ((wrB k e a l x).take i)).2 = 290 := by
  rcases ansdP_says ((wrB k e a l x).take i) with h0 | h0
  · obtain ⟨j1, j2, _⟩ := just_ans (fun c hc => hb c (List.mem_of_mem_take hc)) h0
    have h1 := (read_ans j1 ((wrB k e a l x).drop i)).2.2.2.2
    rw [j2, List.take_append_drop] at h1
    have h2 := (read_ans h []).2.2.2.2
    rw [List.append_nil, h1] at h2
    simp only [Prod.mk.injEq, Option.some.injEq] at h2
    have := congrArg List.length h2.2
    simp only [List.length_drop, List.length_nil] at this
    omega
  · exact h0.1
theorem more_ans {k e a : Int} {l : List UInt8} {x m : List Nat} (h : ckB k e a l x.length = 0) (hb : ∀ c ∈ wrB k e a l x ++ m, c < 256) (hm : m ≠ []) : (ansdP (wrB k e a l x ++ m)).2 = 290 := by
  rcases ansdP_says (wrB k e a l x ++ m) with h0 | h0
  · obtain ⟨j1, j2, _⟩ := just_ans hb h0
    have h1 := (read_ans j1 []).2.2.2.2
    rw [List.append_nil, j2] at h1
    have h2 := (read_ans h m).2.2.2.2
    rw [h1] at h2
    simp only [Prod.mk.injEq, Option.some.injEq] at h2
    exact absurd h2.2.symm hm
  · exact h0.1
end Go.Eng
