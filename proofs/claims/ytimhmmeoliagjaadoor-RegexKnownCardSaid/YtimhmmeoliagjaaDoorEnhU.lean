import Derived.Test.YtimhmmeoliagjaaDoorEnhT
set_option linter.unusedVariables false
namespace Go.Eng
open Go

def Ev {α : Type} (R : Nat → Nat → Option α) (r : α) : Prop := ∃ N, ∀ n m, N ≤ n → N ≤ m → R n m = some r
section
variable {α : Type} {r : α}
theorem Ev.pure (r : α) : Ev (fun _ _ => some r) r := ⟨0, fun _ _ _ _ => rfl⟩
theorem Ev.bnd {A : Nat → Nat → Option (Value × Heap)} {k : Nat → Nat → Value → Heap → Option α} {v : Value} {H : Heap} (h : Ev A (v, H)) (h' : Ev (fun n m => k n m v H) r) : Ev (fun n m => Eng.bnd (A n m) (k n m)) r := by
  obtain ⟨N, h⟩ := h
  obtain ⟨M, h'⟩ := h'
  refine ⟨max N M, fun n m hn hm => ?_⟩
  simp only [h n m (by omega) (by omega), Eng.bnd]
  exact h' n m (by omega) (by omega)
theorem Ev.loop {R : Nat → Nat → Option α} (h : Ev R r) : Ev (fun n _ => R n n) r := by
  obtain ⟨N, h⟩ := h
  exact ⟨N, fun n m hn _ => h n n hn hn⟩
theorem Ev.step {R B : Nat → Nat → Option α} (hb : ∀ n m, R n (m + 1) = B n m) (h : Ev B r) : Ev R r := by
  obtain ⟨N, h⟩ := h
  refine ⟨N + 1, fun n m hn hm => ?_⟩
  obtain ⟨k, rfl⟩ : ∃ k, m = k + 1 := ⟨m - 1, by omega⟩
  rw [hb]
  exact h n k (by omega) (by omega)
theorem Ev.enter {R B : Nat → Option α} (hb : ∀ n, R (n + 1) = B n) (h : Ev (fun n _ => B n) r) : Ev (fun n _ => R n) r := by
  obtain ⟨N, h⟩ := h
  refine ⟨N + 1, fun n m hn hm => ?_⟩
  obtain ⟨k, rfl⟩ : ∃ k, n = k + 1 := ⟨n - 1, by omega⟩
  show R (k + 1) = some r
  rw [hb]
  exact h k k (by omega) (by omega)
theorem Ev.congr {R B : Nat → Nat → Option α} (hb : ∀ n m, R n m = B n m) (h : Ev B r) : Ev R r := by
  have : R = B := by funext n m; exact hb n m
  rw [this]; exact h
def Ev3 {α : Type} (R : Nat → Nat → Nat → Option α) (r : α) : Prop := ∃ N, ∀ n m k, N ≤ n → N ≤ m → N ≤ k → R n m k = some r
theorem Ev3.pure (r : α) : Ev3 (fun _ _ _ => some r) r := ⟨0, fun _ _ _ _ _ _ => rfl⟩
theorem Ev3.of {R : Nat → Nat → Option α} (h : Ev R r) : Ev3 (fun n m _ => R n m) r := by
  obtain ⟨N, h⟩ := h
  exact ⟨N, fun n m k hn hm _ => h n m hn hm⟩
theorem Ev3.step {R B : Nat → Nat → Nat → Option α} (hb : ∀ n m k, R n m (k + 1) = B n m k) (h : Ev3 B r) : Ev3 R r := by
  obtain ⟨N, h⟩ := h
  refine ⟨N + 1, fun n m k hn hm hk => ?_⟩
  obtain ⟨j, rfl⟩ : ∃ j, k = j + 1 := ⟨k - 1, by omega⟩
  rw [hb]
  exact h n m j (by omega) (by omega) (by omega)
theorem Ev3.bnd {A : Nat → Option (Value × Heap)} {k : Nat → Nat → Nat → Value → Heap → Option α} {v : Value} {H : Heap} (h : Ev (fun n _ => A n) (v, H)) (h' : Ev3 (fun n m j => k n m j v H) r) : Ev3 (fun n m j => Eng.bnd (A n) (k n m j)) r := by
  obtain ⟨N, h⟩ := h
  obtain ⟨M, h'⟩ := h'
  refine ⟨max N M, fun n m j hn hm hj => ?_⟩
  have h0 : A n = some (v, H) := h n n (by omega) (by omega)
  simp only [h0, Eng.bnd]
  exact h' n m j (by omega) (by omega) (by omega)
theorem Ev.other {R : Nat → Option α} (h : Ev (fun n _ => R n) r) : Ev (fun n _ => R n) r := h
end

theorem nr {α : Sort _} (a : α) : a = a := of_eq_true (eq_self a)

section
variable {α : Type} {v : Value} {H : Heap}
theorem bnd_some {k : Value → Heap → Option α} : bnd (some (v, H)) k = k v H := nr _
theorem bnd_up {k : Value → Heap → Option α} : bnd (up (some v) H) k = k v H := nr _
theorem iff_t {a b : Option α} : iff (.bool true) a b = a := nr _
theorem iff_f {a b : Option α} : iff (.bool false) a b = b := nr _
theorem chk_t {a : Option α} : chk true a = a := nr _
theorem gd_t {x : Option (Value × Heap)} : gd true x H = x := nr _
theorem gd_f {x : Option (Value × Heap)} : gd false x H = some (undef, H) := nr _
theorem wd_b {b w : Bool} : wd (.bool b) w = (b == w) := nr _
theorem pick_t {a b : Value} : pickV (.bool true) a b H = some (a, H) := nr _
theorem pick_f {a b : Value} : pickV (.bool false) a b H = some (b, H) := nr _
variable {P : Program} {t : TypeId} {k : IntKind} {a b : Int}
theorem b_lss : binB P .lss t (.int k a) (.int k b) = some (.bool (decide (a < b))) := by simp [binB, intB]
theorem b_leq : binB P .leq t (.int k a) (.int k b) = some (.bool (decide (a ≤ b))) := by simp [binB, intB]
theorem b_gtr : binB P .gtr t (.int k a) (.int k b) = some (.bool (decide (a > b))) := by simp [binB, intB]
theorem b_geq : binB P .geq t (.int k a) (.int k b) = some (.bool (decide (a ≥ b))) := by simp [binB, intB]
theorem b_eql : binB P .eql t (.int k a) (.int k b) = some (.bool (a == b)) := by simp [binB, intB]
theorem b_neq : binB P .neq t (.int k a) (.int k b) = some (.bool (a != b)) := by simp [binB, intB]
theorem b_add : binB P .add t (.int k a) (.int k b) = some (.int k (k.wrap (a + b))) := by simp [binB, intB]
theorem b_sub : binB P .sub t (.int k a) (.int k b) = some (.int k (k.wrap (a - b))) := by simp [binB, intB]
theorem b_mul : binB P .mul t (.int k a) (.int k b) = some (.int k (k.wrap (a * b))) := by simp [binB, intB]
theorem b_quo (h : b ≠ 0) : binB P .quo t (.int k a) (.int k b) = some (.int k (k.wrap (a.tdiv b))) := by simp [binB, intB, h]
theorem b_rem (h : b ≠ 0) : binB P .rem t (.int k a) (.int k b) = some (.int k (a.tmod b)) := by simp [binB, intB, h]
theorem b_or : binB P .or t (.int k a) (.int k b) = some (.int k (k.wrap (BitVec.ofInt k.bits a ||| BitVec.ofInt k.bits b).toNat)) := by simp [binB, intB]
theorem b_and : binB P .and t (.int k a) (.int k b) = some (.int k (k.wrap (BitVec.ofInt k.bits a &&& BitVec.ofInt k.bits b).toNat)) := by simp [binB, intB]
theorem b_shr {k' : IntKind} (h : 0 ≤ b) : binB P .shr t (.int k a) (.int k' b) = some (.int k (a.fdiv (2 ^ (min b.toNat k.bits)))) := by
  have : ¬ b < 0 := by omega
  simp [binB, shiftB, this]
theorem b_seql {x y : ByteArray} : binB P .eql t (.string x) (.string y) = some (.bool (x.toList == y.toList)) := by simp [binB, strB]
theorem b_sneq {x y : ByteArray} : binB P .neq t (.string x) (.string y) = some (.bool !(x.toList == y.toList)) := by simp [binB, strB]
theorem u_not {x : Bool} : unB .not (.bool x) = some (.bool !x) := nr _
end
theorem wrap_i64 {n : Int} (h1 : -9223372036854775808 ≤ n) (h2 : n < 9223372036854775808) : IntKind.i64.wrap n = n := by
  simp only [IntKind.wrap, IntKind.bits, IntKind.signed]
  simp
  omega
def Keep (R : Nat → Prop) (H H' : Heap) : Prop := H.n ≤ H'.n ∧ ∀ b, R b → H'.get b = H.get b
def Rb (R : Nat → Prop) (H : Heap) : Prop := ∀ b, R b → b < H.n
def all (H : Heap) : Nat → Prop := fun b => b < H.n
theorem Rb.all (H : Heap) : Rb (all H) H := fun _ h => h
theorem Rb.mono {R : Nat → Prop} {H H' : Heap} (h : Rb R H) (hn : H.n ≤ H'.n) : Rb R H' := fun b hb => Nat.lt_of_lt_of_le (h b hb) hn
theorem Keep.refl (R : Nat → Prop) (H : Heap) : Keep R H H := ⟨Nat.le_refl _, fun _ _ => rfl⟩
theorem Keep.trans {R : Nat → Prop} {a b c : Heap} (h : Keep R a b) (h' : Keep R b c) : Keep R a c := ⟨Nat.le_trans h.1 h'.1, fun x hx => (h'.2 x hx).trans (h.2 x hx)⟩
theorem Keep.mono {R R' : Nat → Prop} {a b : Heap} (h : Keep R a b) (hM : ∀ b, R' b → R b) : Keep R' a b := ⟨h.1, fun x hx => h.2 x (hM x hx)⟩
theorem push_lt {H : Heap} {k : Blk} {b : Nat} (h : b < H.n) : (H.push k).get b = H.get b := by
  unfold Heap.push; simp only; rw [if_neg (by omega)]
theorem push_self {H : Heap} {k : Blk} : (H.push k).get H.n = some k := by simp [Heap.push]
theorem push_n {H : Heap} {k : Blk} : (H.push k).n = H.n + 1 := rfl
theorem upd_ne {H : Heap} {k : Option Blk} {b c : Nat} (h : b ≠ c) : (H.upd c k).get b = H.get b := by simp [Heap.upd, h]
theorem upd_self {H : Heap} {k : Option Blk} {b : Nat} : (H.upd b k).get b = k := by simp [Heap.upd]
theorem upd_n {H : Heap} {k : Option Blk} {b : Nat} : (H.upd b k).n = H.n := rfl

theorem Keep.push {R : Nat → Prop} {H : Heap} {blk : Blk} (h : Rb R H) : Keep R H (H.push blk) := ⟨by simp [Heap.push], fun b hb => push_lt (h b hb)⟩
theorem Keep.upd {R : Nat → Prop} {b : Nat} {H : Heap} {k : Option Blk} (h : ¬ R b) : Keep R H (H.upd b k) := ⟨Nat.le_refl _, fun c hc => upd_ne fun he => h (he ▸ hc)⟩

def Sl (R : Nat → Prop) (H : Heap) (sz : Nat) (v : Value) (n : Nat) (cs : List Value) : Prop :=
  (v = .slice none 0 0 ∧ n = 0 ∧ cs = []) ∨ (∃ b o sp cap, v = .slice (some ⟨b, o, sp⟩) 0 cap ∧ R b ∧ n = 0 ∧ cs = []) ∨ ∃ b o sp cap blk, v = .slice (some ⟨b, o, sp⟩) n cap ∧ R b ∧ H.get b = some blk ∧ o + n * sz ≤ blk.cells.length ∧ n ≤ cap ∧ cut blk.cells o (n * sz) = cs
theorem Sl.nil {R : Nat → Prop} {H : Heap} {sz : Nat} : Sl R H sz (.slice none 0 0) 0 [] := .inl ⟨rfl, rfl, rfl⟩
theorem Sl.keep {R : Nat → Prop} {H H' : Heap} {sz n : Nat} {v : Value} {cs : List Value} (h : Sl R H sz v n cs) (hk : Keep R H H') : Sl R H' sz v n cs := by
  rcases h with h | h | ⟨b, o, sp, cap, blk, h1, h2, h3, h4, h5, h6⟩
  · exact .inl h
  · exact .inr (.inl h)
  · exact .inr (.inr ⟨b, o, sp, cap, blk, h1, h2, by rw [hk.2 b h2]; exact h3, h4, h5, h6⟩)
theorem Sl.mono {R R' : Nat → Prop} {H : Heap} {sz n : Nat} {v : Value} {cs : List Value} (h : Sl R H sz v n cs) (hR : ∀ b, R b → R' b) : Sl R' H sz v n cs := by
  rcases h with h | ⟨b, o, sp, cap, h1, h2, h3⟩ | ⟨b, o, sp, cap, blk, h1, h2, h3⟩
  · exact .inl h
  · exact .inr (.inl ⟨b, o, sp, cap, h1, hR b h2, h3⟩)
  · exact .inr (.inr ⟨b, o, sp, cap, blk, h1, hR b h2, h3⟩)
theorem cut_length {l : List Value} {o k : Nat} (h : o + k ≤ l.length) : (cut l o k).length = k := by
  simp only [cut, List.length_take, List.length_drop]; omega
theorem Sl.len {R : Nat → Prop} {H : Heap} {sz n : Nat} {v : Value} {cs : List Value} (h : Sl R H sz v n cs) : cs.length = n * sz := by
  rcases h with ⟨_, rfl, rfl⟩ | ⟨b, o, sp, cap, h1, h2, rfl, rfl⟩ | ⟨b, o, sp, cap, blk, h1, h2, h3, h4, _, rfl⟩
  · simp
  · simp
  · exact cut_length h4
theorem Sl.lenS {R : Nat → Prop} {H : Heap} {sz n : Nat} {v : Value} {cs : List Value} (h : Sl R H sz v n cs) : lenS v = some (.int .i64 n) := by
  rcases h with ⟨rfl, rfl, rfl⟩ | ⟨b, o, sp, cap, rfl, h2, rfl, rfl⟩ | ⟨b, o, sp, cap, blk, rfl, _⟩ <;> rfl
theorem Sl.addend {R : Nat → Prop} {H : Heap} {sz n : Nat} {v : Value} {cs : List Value} (h : Sl R H sz v n cs) : addend sz v H = some (n, cs) := by
  rcases h with ⟨rfl, rfl, rfl⟩ | ⟨b, o, sp, cap, rfl, h2, rfl, rfl⟩ | ⟨b, o, sp, cap, blk, rfl, _, h3, h4, _, rfl⟩
  · rfl
  · rfl
  · by_cases hn : n = 0
    · subst hn; simp [Eng.addend, cut]
    · simp only [Eng.addend, if_neg hn, h3, if_pos h4]
theorem Sl.atN {R : Nat → Prop} {H : Heap} {sz n : Nat} {v : Value} {cs : List Value} (h : Sl R H sz v n cs) {i : Nat} (hi : i < n) : ∃ b o, iAddrS sz v (.int .i64 i) = some (.pointer (some ⟨b, o, none⟩)) ∧ R b ∧
    (∀ (k : Nat) x, k < sz → cs[i * sz + k]? = some x → ldC (.pointer (some ⟨b, o + k, none⟩)) H = some (x, H)) ∧ ldA sz (.pointer (some ⟨b, o, none⟩)) H = some (.agg (cut cs (i * sz) sz).toArray, H) := by
  rcases h with ⟨rfl, rfl, rfl⟩ | ⟨b, o, sp, cap, rfl, h2, rfl, rfl⟩ | ⟨b, o, sp, cap, blk, rfl, h2, h3, h4, _, rfl⟩
  · omega
  · omega
  · have him : i * sz + sz ≤ n * sz := by rw [← Nat.succ_mul]; exact Nat.mul_le_mul_right sz hi
    refine ⟨b, o + i * sz, ?_, h2, fun k x hk hx => ?_, ?_⟩
    · simp only [iAddrS]
      rw [if_pos ⟨by omega, by omega⟩]
      simp
    · simp only [ldC, h3]
      simp only [cut] at hx
      rw [List.getElem?_take, if_pos (by omega), List.getElem?_drop] at hx
      rw [show o + i * sz + k = o + (i * sz + k) by omega, hx]
    · simp only [ldA, h3]
      rw [if_pos (by omega)]
      simp only [cut, List.drop_take, List.drop_drop, List.take_take]
      rw [Nat.min_eq_left (by omega)]
theorem Sl.at1 {R : Nat → Prop} {H : Heap} {n : Nat} {v : Value} {cs : List Value} (h : Sl R H 1 v n cs) {i : Nat} {x : Value} (hx : cs[i]? = some x) : ∃ p, iAddrS 1 v (.int .i64 i) = some p ∧ ldC p H = some (x, H) := by
  have hi : i < n := by
    have := (List.getElem?_eq_some_iff.1 hx).1
    rw [h.len] at this; omega
  obtain ⟨b, o, h1, _, h2, _⟩ := h.atN hi
  exact ⟨_, h1, h2 0 x (by omega) (by simpa using hx)⟩

def Acc (R : Nat → Prop) (H : Heap) (sz : Nat) (v : Value) (n : Nat) (cs : List Value) : Prop :=
  (v = .slice none 0 0 ∧ n = 0 ∧ cs = []) ∨ ∃ b, v = .slice (some ⟨b, 0, none⟩) n n ∧ ¬ R b ∧ b < H.n ∧ H.get b = some ⟨cs, sz, true⟩ ∧ cs.length = n * sz
theorem Acc.nil {R : Nat → Prop} {H : Heap} {sz : Nat} : Acc R H sz (.slice none 0 0) 0 [] := .inl ⟨rfl, rfl, rfl⟩
theorem Acc.len {R : Nat → Prop} {H : Heap} {sz n : Nat} {v : Value} {cs : List Value} (h : Acc R H sz v n cs) : cs.length = n * sz := by
  rcases h with ⟨_, rfl, rfl⟩ | ⟨b, _, _, _, _, h⟩
  · simp
  · exact h
theorem Acc.low {R R' : Nat → Prop} {H : Heap} {sz n : Nat} {v : Value} {cs : List Value} (h : Acc R H sz v n cs) (hM : ∀ b, R' b → R b) : Acc R' H sz v n cs := by
  rcases h with h | ⟨b, h1, h2, h3⟩
  · exact .inl h
  · exact .inr ⟨b, h1, fun hr => h2 (hM b hr), h3⟩
theorem Acc.more {R R' : Nat → Prop} {H : Heap} {sz n : Nat} {v : Value} {cs : List Value} (h : Acc R H sz v n cs) (hM : ∀ b, R' b → b < H.n → R b) : Acc R' H sz v n cs := by
  rcases h with h | ⟨b, h1, h2, h3, h4⟩
  · exact .inl h
  · exact .inr ⟨b, h1, fun hr => h2 (hM b hr h3), h3, h4⟩
theorem Acc.keep {R : Nat → Prop} {H H' : Heap} {sz n : Nat} {v : Value} {cs : List Value} (h : Acc R H sz v n cs) (hk : Keep (all H) H H') : Acc R H' sz v n cs := by
  rcases h with h | ⟨b, h1, h2, h3, h4, h5⟩
  · exact .inl h
  · exact .inr ⟨b, h1, h2, Nat.lt_of_lt_of_le h3 hk.1, by rw [hk.2 b h3]; exact h4, h5⟩
theorem Acc.sl {R : Nat → Prop} {H : Heap} {sz n : Nat} {v : Value} {cs : List Value} (h : Acc R H sz v n cs) : Sl (all H) H sz v n cs := by
  rcases h with h | ⟨b, h1, h2, h3, h4, h5⟩
  · exact .inl h
  · refine .inr (.inr ⟨b, 0, none, n, _, h1, h3, h4, by simp only; omega, Nat.le_refl _, ?_⟩)
    simp only [cut, List.drop_zero]
    rw [← h5, List.take_length]
theorem Acc.at1 {R : Nat → Prop} {H : Heap} {n : Nat} {v : Value} {cs : List Value} (h : Acc R H 1 v n cs) {i : Nat} {x : Value} (hx : cs[i]? = some x) : ∃ p, iAddrS 1 v (.int .i64 i) = some p ∧ ldC p H = some (x, H) := h.sl.at1 hx
theorem Acc.app {R : Nat → Prop} {H : Heap} {sz by_ n k : Nat} {v x : Value} {cs xs : List Value} (h : Acc R H sz v n cs) (hN : Rb R H) (hx : addend sz x H = some (k, xs)) (hxl : xs.length = k * sz) (hb : (n + k) * by_ ≤ mostBytes) :
    ∃ v' H', Eng.app sz by_ v x H = some (v', H') ∧ Acc R H' sz v' (n + k) (cs ++ xs) ∧ Keep R H H' := by
  unfold Eng.app
  rcases h with ⟨rfl, rfl, rfl⟩ | ⟨b, rfl, h2, h3, h4, h5⟩
  · simp only [hx]
    by_cases hk : k = 0
    · subst hk
      have : xs = [] := List.length_eq_zero_iff.1 (by simpa using hxl)
      subst this
      exact ⟨_, H, by simp, Acc.nil, Keep.refl _ _⟩
    · rw [if_neg hk, if_neg (by simpa using hb)]
      refine ⟨.slice (some ⟨H.n, 0, none⟩) k k, H.push ⟨xs, sz, true⟩, by simp, .inr ⟨H.n, by simp, fun h => absurd (hN _ h) (Nat.lt_irrefl _), by simp [Heap.push], push_self, by simpa using hxl⟩, Keep.push hN⟩
  · simp only [hx]
    by_cases hk : k = 0
    · subst hk
      have : xs = [] := List.length_eq_zero_iff.1 (by simpa using hxl)
      subst this
      exact ⟨.slice (some ⟨b, 0, none⟩) n n, H, by simp, .inr ⟨b, by simp, h2, h3, by simpa using h4, by simpa using h5⟩, Keep.refl _ _⟩
    · rw [if_neg hk, if_neg (by simpa using hb)]
      simp only [h4]
      refine ⟨.slice (some ⟨H.n, 0, none⟩) (n + k) (n + k), (H.upd b none).push ⟨cs ++ xs, sz, true⟩, by simp [h5], .inr ⟨H.n, rfl, fun h => absurd (hN _ h) (Nat.lt_irrefl _), by simp [Heap.push, Heap.upd], by simp [Heap.push, Heap.upd], by simp [h5, hxl, Nat.add_mul]⟩, ?_⟩
      refine (Keep.upd (k := none) h2).trans (Keep.push ?_)
      exact hN

end Go.Eng
