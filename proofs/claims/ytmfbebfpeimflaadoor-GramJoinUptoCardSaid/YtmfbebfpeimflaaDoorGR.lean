/- Files of the grammar language, as they lie; lists that are made. -/
import Derived.Test.YtmfbebfpeimflaaDoorGP
import Derived.Test.YtmfbebfpeimflaaDoorEnhBB
set_option linter.unusedVariables false
set_option linter.unusedSimpArgs false
namespace Go.Eng
open Go

/-! ### kinds of data -/
/-- A text. -/
def Txt := List UInt8
instance : Rp Txt where
  sz := 1
  rep _ _ x cs := cs = [.string (bs x)]
  bulk x := List.length x + 1
  len h := by rw [h]; rfl
  keep h _ := h
  mono h _ := h
  one h := by rw [h]; rfl
  pos _ _ := Nat.succ_pos _
instance : Rp Tm := Rp.via fun x => ((show Txt from x.N), (show Txt from x.P), x.S, ())
instance : Rp Pr := Rp.via fun x => (x.K, (show List Txt from x.N), ())
instance : Rp Al := Rp.via fun x => ((show List Txt from x.S), (show Txt from x.P), ())
instance : Rp Rl := Rp.via fun x => ((show Txt from x.N), x.A, ())
instance : Rp Fl := Rp.via fun x => ((show List Txt from x.I), (show Txt from x.S), x.T, x.P, x.R, ())
abbrev STRL (l : List (List UInt8)) : List Value := l.map fun s => .string (bs s)
section
variable {R : Nat → Prop} {H : Heap}
theorem rpl_txt {l : List (List UInt8)} {cs : List Value} : RpL R H (show List Txt from l) cs ↔ cs = STRL l := by
  constructor
  · intro h
    have key : ∀ {l : List Txt} {cs : List Value}, RpL R H l cs → cs = STRL l := by
      intro l cs h
      induction h with
      | nil => rfl
      | cons h t ih => rw [ih]; obtain rfl := h; rfl
    exact key h
  · rintro rfl
    induction l with
    | nil => exact .nil
    | cons x l ih => exact .cons (c := [.string (bs x)]) rfl ih
theorem rep_tm {x : Tm} {cs : List Value} : Rp.rep R H x cs ↔ cs = [.string (bs x.N), .string (bs x.P), .bool x.S] := by
  constructor
  · rintro ⟨a, b, rfl, h1, c, d, rfl, h2, e, f, rfl, h3, h4⟩
    obtain rfl := h1; obtain rfl := h2; obtain rfl := h3; obtain rfl := h4
    rfl
  · rintro rfl
    exact ⟨[_], _, rfl, rfl, [_], _, rfl, rfl, [_], _, rfl, rfl, rfl⟩
theorem rep_pr {x : Pr} {cs : List Value} : Rp.rep R H x cs ↔ ∃ v, cs = [.int .i64 x.K, v] ∧ (-9223372036854775808 ≤ x.K ∧ x.K < 9223372036854775808) ∧ Sl R H 1 v x.N.length (STRL x.N) := by
  constructor
  · rintro ⟨a, b, rfl, ⟨rfl, hk⟩, c, d, rfl, ⟨v, rfl, ds, h2, h3⟩, h4⟩
    obtain rfl := h4
    obtain rfl := rpl_txt.1 h3
    exact ⟨v, rfl, hk, h2⟩
  · rintro ⟨v, rfl, hk, h⟩
    exact ⟨[_], _, rfl, ⟨rfl, hk⟩, [_], _, rfl, ⟨v, rfl, _, h, rpl_txt.2 rfl⟩, rfl⟩
theorem rep_al {x : Al} {cs : List Value} : Rp.rep R H x cs ↔ ∃ v, cs = [v, .string (bs x.P)] ∧ Sl R H 1 v x.S.length (STRL x.S) := by
  constructor
  · rintro ⟨a, b, rfl, ⟨v, rfl, ds, h2, h3⟩, c, d, rfl, h1, h4⟩
    obtain rfl := h4
    obtain rfl := h1
    obtain rfl := rpl_txt.1 h3
    exact ⟨v, rfl, h2⟩
  · rintro ⟨v, rfl, h⟩
    exact ⟨[_], _, rfl, ⟨v, rfl, _, h, rpl_txt.2 rfl⟩, [_], _, rfl, rfl, rfl⟩
theorem rep_rl {x : Rl} {cs : List Value} : Rp.rep R H x cs ↔ ∃ v, cs = [.string (bs x.N), v] ∧ Sli R H x.A v := by
  constructor
  · rintro ⟨a, b, rfl, h1, c, d, rfl, ⟨v, rfl, h2⟩, h4⟩
    obtain rfl := h4
    obtain rfl := h1
    exact ⟨v, rfl, h2⟩
  · rintro ⟨v, rfl, h⟩
    exact ⟨[_], _, rfl, rfl, [_], _, rfl, ⟨v, rfl, h⟩, rfl⟩
theorem rep_fl {x : Fl} {cs : List Value} : Rp.rep R H x cs ↔ ∃ vI vT vP vR, cs = [vI, .string (bs x.S), vT, vP, vR] ∧ Sl R H 1 vI x.I.length (STRL x.I) ∧ Sli R H x.T vT ∧ Sli R H x.P vP ∧ Sli R H x.R vR := by
  constructor
  · rintro ⟨a, b, rfl, ⟨v, rfl, ds, h2, h3⟩, c, d, rfl, h1, e, f, rfl, ⟨vT, rfl, hT⟩, g, i, rfl, ⟨vP, rfl, hP⟩, j, k, rfl, ⟨vR, rfl, hR⟩, h4⟩
    obtain rfl := h4
    obtain rfl := h1
    obtain rfl := rpl_txt.1 h3
    exact ⟨v, vT, vP, vR, rfl, h2, hT, hP, hR⟩
  · rintro ⟨v, vT, vP, vR, rfl, h, hT, hP, hR⟩
    exact ⟨[_], _, rfl, ⟨v, rfl, _, h, rpl_txt.2 rfl⟩, [_], _, rfl, rfl, [_], _, rfl, ⟨vT, rfl, hT⟩, [_], _, rfl, ⟨vP, rfl, hP⟩, [_], _, rfl, ⟨vR, rfl, hR⟩, rfl⟩
end

/-! ### lists that are made, and what they are made of -/
/-- What stays: all but what is still written. -/
def Stay (H : Heap) (L : Nat → Prop) : Nat → Prop := fun b => b < H.n ∧ ¬ L b
/-- Their blocks are two. -/
def Ds (v w : Value) : Prop := ∀ b, blkOf v = some b → blkOf w ≠ some b
theorem Ds.symm {v w : Value} (h : Ds v w) : Ds w v := fun b h1 h2 => h b h2 h1
theorem Acc.othr {H0 H H' : Heap} {sz n : Nat} {v w : Value} {cs : List Value} (h : Acc (all H0) H sz w n cs) (hd : Ds v w) (hk : Keep (fun b => b < H.n ∧ blkOf v ≠ some b) H H') : Acc (all H0) H' sz w n cs := by
  rcases h with ⟨rfl, h2, h3⟩ | ⟨b, rfl, h2, h3, h4, h5⟩
  · exact .inl ⟨rfl, h2, h3⟩
  · refine .inr ⟨b, rfl, h2, Nat.lt_of_lt_of_le h3 hk.1, ?_, h5⟩
    rw [hk.2 b ⟨h3, fun e => hd b e rfl⟩]; exact h4
/-- An append beside other things. -/
theorem Acc.appQ {H0 H : Heap} {sz by_ n m : Nat} {v x : Value} {cs ds : List Value} (h : Acc (all H0) H sz v n cs) (hn : H0.n ≤ H.n) (hx : addend sz x H = some (m, ds)) (hd : ds.length = m * sz) (hb : (n + m) * by_ ≤ mostBytes) :
    ∃ v' H', Eng.app sz by_ v x H = some (v', H') ∧ Acc (all H0) H' sz v' (n + m) (cs ++ ds) ∧ Keep (all H0) H H' ∧ Keep (fun b => b < H.n ∧ blkOf v ≠ some b) H H' ∧ (∀ b, blkOf v' = some b → blkOf v = some b ∨ H.n ≤ b) ∧
      (∀ {sz2 n2 : Nat} {w : Value} {es : List Value}, Acc (all H0) H sz2 w n2 es → Ds v w → Acc (all H0) H' sz2 w n2 es ∧ Ds v' w) := by
  have hQ : ∀ b, all H0 b → (b < H.n ∧ blkOf v ≠ some b) := fun b hb => ⟨Nat.lt_of_lt_of_le hb hn, fun e => (h.at e).1 hb⟩
  have h' : Acc (fun b => b < H.n ∧ blkOf v ≠ some b) H sz v n cs := h.weak fun b hb hq => hq.2 hb
  obtain ⟨v', H', g1, g2, g3⟩ := h'.app (by_ := by_) (fun b hb => hb.1) hx hd hb
  refine ⟨v', H', g1, g2.low hQ, g3.mono hQ, g3, fun b e => ?_, fun {sz2 n2 w es} hw hD => ⟨hw.othr hD g3, fun b e1 e2 => ?_⟩⟩
  · have hnot := (g2.at e).1
    by_cases h1 : blkOf v = some b
    · exact .inl h1
    · right
      rcases Nat.lt_or_ge b H.n with h2 | h2
      · exact absurd ⟨h2, h1⟩ hnot
      · exact h2
  · exact (g2.at e1).1 ⟨(hw.at e2).2, fun e3 => hD b e3 e2⟩
/-- A list under way: its own block is written still, what its elements are made of stays. -/
def AccR {α : Type} [Rp α] (H0 H : Heap) (L : Nat → Prop) (v : Value) (xs : List α) : Prop := ∃ cs, Acc (all H0) H (Rp.sz α) v xs.length cs ∧ RpL (Stay H L) H xs cs
section
variable {α : Type} [Rp α] {H0 H H' : Heap} {L L' : Nat → Prop} {v : Value} {xs : List α}
theorem AccR.nil : AccR H0 H L nilS ([] : List α) := ⟨[], Acc.nil, .nil⟩
/-- Something else is written, or made. -/
theorem AccR.move (h : AccR H0 H L v xs) (hk : Keep (Stay H L) H H') (hv : ∀ b, blkOf v = some b → H'.get b = H.get b) (hL : ∀ b, Stay H L b → Stay H' L' b) : AccR H0 H' L' v xs := by
  obtain ⟨cs, h1, h2⟩ := h
  refine ⟨cs, ?_, (h2.keep hk).mono hL⟩
  rcases h1 with h | ⟨b, rfl, g2, g3, g4, g5⟩
  · exact .inl h
  · exact .inr ⟨b, rfl, g2, Nat.lt_of_lt_of_le g3 hk.1, by rw [hv b rfl]; exact g4, g5⟩
/-- One more. -/
theorem AccR.add {by_ : Nat} {x : α} {c : List Value} (h : AccR H0 H L v xs) (hn : H0.n ≤ H.n) (hx : Rp.rep (Stay H L) H x c) (hb : (xs.length + 1) * by_ ≤ mostBytes) (hL : ∀ b, blkOf v = some b → L b) :
    ∃ v' H', Eng.app (Rp.sz α) by_ v (.slice (some ⟨H.n, 0, none⟩) 1 1) (H.push ⟨c, Rp.sz α, true⟩) = some (v', H') ∧ AccR H0 H' (fun b => L b ∨ blkOf v' = some b) v' (xs ++ [x]) ∧
      Keep (fun b => b < H.n ∧ blkOf v ≠ some b) H H' ∧ (∀ b, blkOf v' = some b → blkOf v = some b ∨ H.n ≤ b) := by
  obtain ⟨cs, h1, h2⟩ := h
  have hp : Keep (all H) H (H.push ⟨c, Rp.sz α, true⟩) := push_keep
  have hc : c.length = Rp.sz α := Rp.len hx
  obtain ⟨v', H', g1, g2, g3, g4, g5, g6⟩ := (h1.keep hp).appQ (by_ := by_) (Nat.le_trans hn hp.1) (addend_push (n := 1) (by rw [hc, Nat.one_mul])) (by rw [hc, Nat.one_mul]) hb
  have K : Keep (fun b => b < H.n ∧ blkOf v ≠ some b) H H' := (hp.mono fun b hb => hb.1).trans (g4.mono fun b hb => ⟨Nat.lt_of_lt_of_le hb.1 hp.1, hb.2⟩)
  have hfz : ∀ b, Stay H L b → b < H.n ∧ blkOf v ≠ some b := fun b hb => ⟨hb.1, fun e => hb.2 (hL b e)⟩
  have hnew : ∀ b, blkOf v' = some b → blkOf v = some b ∨ H.n ≤ b := fun b e => by
    rcases g5 b e with h | h
    · exact .inl h
    · right; exact Nat.le_trans hp.1 h
  refine ⟨v', H', g1, ⟨cs ++ c, by simpa using g2, ?_⟩, K, hnew⟩
  have key : ∀ b, Stay H L b → Stay H' (fun b => L b ∨ blkOf v' = some b) b := fun b hb => ⟨Nat.lt_of_lt_of_le hb.1 K.1, fun h => by
    rcases h with h | h
    · exact hb.2 h
    · rcases hnew b h with h | h
      · exact hb.2 (hL b h)
      · have := hb.1; omega⟩
  exact ((h2.append (RpL.single hx)).keep (K.mono hfz)).mono key
end
end Go.Eng
