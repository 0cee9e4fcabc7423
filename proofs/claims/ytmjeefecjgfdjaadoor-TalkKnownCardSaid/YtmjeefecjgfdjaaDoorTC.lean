/- Lemmas of no program, once more. -/
import Derived.Test.YtmjeefecjgfdjaaDoorTB
set_option linter.unusedVariables false
set_option linter.unusedSimpArgs false
namespace Go.Eng
open Go Go.Proofs

abbrev ptr (b o : Nat) : Value := .pointer (some ⟨b, o, none⟩)
theorem fAddr_ptr {b o k : Nat} : fAddr k (ptr b o) = some (ptr b (o + k)) := nr _
theorem nilC_ptr {b o : Nat} {H : Heap} : nilC (ptr b o) H = some (ptr b o, H) := nr _
/-- What is written: bytes, and one cell more. -/
def okN (x : Int) : Bool := decide (0 ≤ x) && decide (x ≤ 9007199254740991)
def nb (x : Int) : List Nat := if okN x then vnum x.toNat else []
def nbs (xs : List Int) : List Nat := xs.flatMap nb
def I (xs : List Int) : List Value := xs.map (Value.int .i64)
theorem nb_len (x : Int) : (nb x).length ≤ 9 := by
  unfold nb
  split
  · rename_i h
    simp only [okN, Bool.and_eq_true, decide_eq_true_eq] at h
    exact vnum_len9 (by omega)
  · simp
theorem extr0 {a b : Value} {H : Heap} : extr 0 (.tuple #[a, b]) H = some (a, H) := nr _
theorem extr1 {a b : Value} {H : Heap} : extr 1 (.tuple #[a, b]) H = some (b, H) := nr _
theorem extr30 {a b c : Value} {H : Heap} : extr 0 (.tuple #[a, b, c]) H = some (a, H) := nr _
theorem extr31 {a b c : Value} {H : Heap} : extr 1 (.tuple #[a, b, c]) H = some (b, H) := nr _
/-- R, and what has been made since. -/
def plus (R : Nat → Prop) (H H' : Heap) : Nat → Prop := fun b => R b ∨ (H.n ≤ b ∧ b < H'.n)
theorem plus_le {R : Nat → Prop} {H H' : Heap} : ∀ b, R b → plus R H H' b := fun _ h => .inl h
theorem Rb.plus {R : Nat → Prop} {H H' : Heap} (h : Rb R H) (hn : H.n ≤ H'.n) : Rb (plus R H H') H' := fun b hb => by
  rcases hb with hb | hb
  · exact Nat.lt_of_lt_of_le (h b hb) hn
  · exact hb.2
theorem Acc.plus {R : Nat → Prop} {H H' : Heap} {sz n : Nat} {v : Value} {cs : List Value} (h : Acc (all H) H' sz v n cs) : Sl (plus R H H') H' sz v n cs := by
  rcases h with h | ⟨b, h1, h2, h3, h4, h5⟩
  · exact .inl h
  · refine .inr (.inr ⟨b, 0, none, n, _, h1, .inr ⟨Nat.le_of_not_lt h2, h3⟩, h4, by simp only; omega, Nat.le_refl _, ?_⟩)
    simp only [cut, List.drop_zero]
    rw [← h5, List.take_length]
theorem Ev.callC {f : FuncId} {args : List Value} {H : Heap} {v : Value} {H' : Heap} {k : Nat → Nat → Value → Heap → Option (Value × Heap)} {r : Value × Heap} (h : Cl f args H v H') (h' : Ev (fun n m => k n m v H') r) : Ev (fun n m => Eng.bnd (AC n f args H) (k n m)) r :=
  Ev.bnd (k := k) (A := fun n _ => AC n f args H) h h'
theorem Ev3.callC {f : FuncId} {args : List Value} {H : Heap} {v : Value} {H' : Heap} {k : Nat → Nat → Nat → Value → Heap → Option (Value × Heap)} {r : Value × Heap} (h : Cl f args H v H') (h' : Ev3 (fun n m j => k n m j v H') r) : Ev3 (fun n m j => Eng.bnd (AC n f args H) (k n m j)) r :=
  Ev3.bnd (k := k) (A := fun n => AC n f args H) h h'
/-- A string's bytes. -/
def sb (s : ByteArray) : List Nat := s.data.toList.map UInt8.toNat
set_option maxRecDepth 10000 in
theorem addend_str {s : ByteArray} {H : Heap} : addend 1 (.string s) H = some ((sb s).length, B (sb s)) := by
  have h1 : (sb s).length = s.size := by
    unfold sb
    rw [List.length_map]
    rfl
  have h2 : B (sb s) = s.data.toList.map fun c => Value.int .u8 c.toNat := by
    unfold sb B
    rw [List.map_map]
    rfl
  rw [h1, h2]
  rfl
theorem sb_len {s : ByteArray} : (sb s).length = s.size := by
  unfold sb
  rw [List.length_map]
  rfl
def strOf (d : List Nat) : ByteArray := ⟨(d.map UInt8.ofNat).toArray⟩
theorem sb_strOf {d : List Nat} (h : ∀ x ∈ d, x < 256) : sb (strOf d) = d := by
  unfold sb strOf
  simp only [List.map_map]
  conv => rhs; rw [← List.map_id d]
  apply List.map_congr_left
  intro x hx
  simp [UInt8.toNat_ofNat, Nat.mod_eq_of_lt (h x hx)]
theorem strOf_size {d : List Nat} : (strOf d).size = d.length := by
  show (d.map UInt8.ofNat).toArray.size = _
  simp
theorem bytes_B : ∀ (d : List Nat), (B d).mapM byteOf = some (d.map UInt8.ofNat)
  | [] => rfl
  | x :: d => by
    have := bytes_B d
    simp only [B] at this
    simp only [B, List.map_cons, List.mapM_cons, byteOf, Option.bind_eq_bind, Option.bind_some, this]
    simp
theorem toStr_sl {R : Nat → Prop} {H : Heap} {v : Value} {n : Nat} {d : List Nat} (h : Sl R H 1 v n (B d)) : toStr v H = some (.string (strOf d), H) := by
  rcases h with ⟨rfl, rfl, h⟩ | ⟨b, o, sp, cap, rfl, h2, rfl, h⟩ | ⟨b, o, sp, cap, blk, rfl, h2, h3, h4, _, h5⟩
  · have : d = [] := by cases d with | nil => rfl | cons a l => simp [B] at h
    subst this
    rfl
  · have : d = [] := by cases d with | nil => rfl | cons a l => simp [B] at h
    subst this
    rfl
  · by_cases hn : n = 0
    · subst hn
      have : d = [] := by cases d with | nil => rfl | cons a l => simp [B, cut] at h5
      subst this
      rfl
    · simp only [toStr, if_neg hn, h3]
      rw [if_pos (by omega)]
      rw [Nat.mul_one] at h5
      rw [h5, bytes_B]
      rfl
theorem Sl.blk {R : Nat → Prop} {H H' : Heap} {v : Value} {sz n : Nat} {cs : List Value} (h : Sl R H sz v n cs) (hk : Keep R H H') : sameBlk H H' (blkOf v) = true := by
  refine sameBlk_of fun c hc => ?_
  rcases h with ⟨rfl, rfl, rfl⟩ | ⟨b, o, sp, cap, rfl, h2, _⟩ | ⟨b, o, sp, cap, blk, rfl, h2, _⟩
  · simp [blkOf] at hc
  · simp [blkOf] at hc; subst hc; exact hk.2 b h2
  · simp [blkOf] at hc; subst hc; exact hk.2 b h2
theorem drop_at {α : Type} {l : List α} {i : Nat} (h : i < l.length) : ∃ x, l[i]? = some x ∧ l.drop i = x :: l.drop (i + 1) :=
  ⟨l[i], List.getElem?_eq_getElem h, List.drop_eq_getElem_cons h⟩
theorem B_at {l : List Nat} {i x : Nat} (h : l[i]? = some x) : (B l)[i]? = some (.int .u8 (x : Int)) := by simp [B, h]
theorem Sl.blen {R : Nat → Prop} {H : Heap} {v : Value} {n : Nat} {l : List Nat} (h : Sl R H 1 v n (B l)) : n = l.length := by have := h.len; simpa [B] using this.symm
theorem wd_u {w : Bool} : wd undef w = false := nr _
theorem b_beql {P : Program} {t : TypeId} {a b : Bool} (h : P.underlying t = some .bool) : binB P .eql t (.bool a) (.bool b) = some (.bool (a == b)) := by
  simp [binB, eqV, h]
theorem vnum_pref : ∀ (m n : Nat) (a b : List Nat), vnum m ++ a = vnum n ++ b → m = n ∧ a = b := by
  intro m
  induction m using Nat.strongRecOn with
  | _ m ih =>
    intro n a b h
    rw [vnum, vnum.eq_1 n] at h
    by_cases hm : m < 128 <;> by_cases hn : n < 128
    · rw [if_pos hm, if_pos hn] at h
      simp only [List.cons_append, List.nil_append, List.cons.injEq] at h
      exact h
    · rw [if_pos hm, if_neg hn] at h
      simp only [List.cons_append, List.nil_append, List.cons.injEq] at h
      omega
    · rw [if_neg hm, if_pos hn] at h
      simp only [List.cons_append, List.nil_append, List.cons.injEq] at h
      omega
    · rw [if_neg hm, if_neg hn] at h
      simp only [List.cons_append, List.cons.injEq] at h
      obtain ⟨h1, h2⟩ := h
      obtain ⟨h3, h4⟩ := ih (m / 128) (by omega) (n / 128) a b h2
      exact ⟨by omega, h4⟩
theorem nb_nat {m : Nat} (h : m ≤ 9007199254740991) : nb (m : Int) = vnum m := by
  have : okN (m : Int) = true := by simp [okN]; omega
  simp [nb, this]
theorem nb_pref {m n : Nat} (hm : m ≤ 9007199254740991) (hn : n ≤ 9007199254740991) {a b : List Nat} (h : nb (m : Int) ++ a = nb (n : Int) ++ b) : m = n ∧ a = b := by
  rw [nb_nat hm, nb_nat hn] at h
  exact vnum_pref m n a b h
theorem bt_tt : (true == true) = true := of_eq_true (eq_self _)
theorem bt_tf : (true == false) = false := of_eq_true (eq_self _)
theorem bt_ft : (false == true) = false := of_eq_true (eq_self _)
theorem bt_ff : (false == false) = true := of_eq_true (eq_self _)
theorem bt_bne (a : Int) : (a != a) = false := by simp
theorem extr2 {a b c : Value} {H : Heap} : extr 2 (.tuple #[a, b, c]) H = some (c, H) := nr _
theorem idx_lt {n i : Nat} (h : i < n) : ((i : Int) < (n : Int)) = True := by simp; omega
theorem idx_ge {n i : Nat} (h : n ≤ i) : ((i : Int) < (n : Int)) = False := by simp; omega
theorem idx_up {i : Nat} (h : i < 9223372036854775807) : IntKind.i64.wrap ((i : Int) + 1) = ((i + 1 : Nat) : Int) := by rw [wrap_i64 (by omega) (by omega)]; omega
theorem vnum_byte : ∀ (n x : Nat), x ∈ vnum n → x < 256 := by
  intro n
  induction n using Nat.strongRecOn with
  | _ n ih =>
    intro x hx
    rw [vnum] at hx
    split at hx
    · simp only [List.mem_singleton] at hx; omega
    · rcases List.mem_cons.1 hx with rfl | hx
      · omega
      · exact ih _ (by omega) x hx
theorem nb_byte (n : Int) : ∀ x ∈ nb n, x < 256 := fun x hx => by
  unfold nb at hx
  split at hx
  · exact vnum_byte _ _ hx
  · cases hx
theorem sb_byte (s : ByteArray) : ∀ x ∈ sb s, x < 256 := fun x hx => by
  unfold sb at hx
  obtain ⟨y, _, rfl⟩ := List.mem_map.1 hx
  exact y.toNat_lt
theorem dec_iff {p q : Prop} [Decidable p] [Decidable q] (h : p ↔ q) : (decide p == decide q) = true := by
  by_cases hp : p
  · simp [hp, h.1 hp]
  · have : ¬ q := fun hq => hp (h.2 hq)
    simp [hp, this]
/-- A block that is kept: its cells. -/
def Box (R : Nat → Prop) (H : Heap) (b : Nat) (cs : List Value) : Prop := R b ∧ ∃ sz own, H.get b = some ⟨cs, sz, own⟩
theorem Box.keep {R : Nat → Prop} {H H' : Heap} {b : Nat} {cs : List Value} (h : Box R H b cs) (hk : Keep R H H') : Box R H' b cs := by
  obtain ⟨h1, s, o, h2⟩ := h
  exact ⟨h1, s, o, by rw [hk.2 b h1]; exact h2⟩
theorem Box.mono {R R' : Nat → Prop} {H : Heap} {b : Nat} {cs : List Value} (h : Box R H b cs) (hR : ∀ b, R b → R' b) : Box R' H b cs := ⟨hR b h.1, h.2⟩
theorem Box.ld {R : Nat → Prop} {H : Heap} {b k : Nat} {cs : List Value} {v : Value} (h : Box R H b cs) (hv : cs[k]? = some v) : ldC (ptr b k) H = some (v, H) := by
  obtain ⟨h1, s, o, h2⟩ := h
  simp only [ldC, h2, hv]
theorem Box.ldA {R : Nat → Prop} {H : Heap} {b k n : Nat} {cs : List Value} (h : Box R H b cs) (hn : k + n ≤ cs.length) : Eng.ldA n (ptr b k) H = some (.agg (cut cs k n).toArray, H) := by
  obtain ⟨h1, s, o, h2⟩ := h
  simp only [Eng.ldA, h2, if_pos hn]
theorem Box.all {R : Nat → Prop} {H : Heap} {b n : Nat} {cs : List Value} (h : Box R H b cs) (hn : n = cs.length) : Eng.ldA n (ptr b 0) H = some (.agg cs.toArray, H) := by
  rw [h.ldA (by omega)]
  simp [cut, hn]
theorem Box.blk {R : Nat → Prop} {H H' : Heap} {b k : Nat} {cs : List Value} (h : Box R H b cs) (hk : Keep R H H') : sameBlk H H' (blkOf (ptr b k)) = true := sameBlk_of fun c hc => by
  simp [blkOf] at hc; subst hc; exact hk.2 b h.1
theorem Box.blkP {R : Nat → Prop} {H H' : Heap} {b k : Nat} {cs : List Value} {blk : Blk} (h : Box R H b cs) (hR : Rb R H) (hk : Keep R H H') : sameBlk (H.push blk) H' (blkOf (ptr b k)) = true := sameBlk_of fun c hc => by
  simp [blkOf] at hc; subst hc; rw [push_lt (hR _ h.1)]; exact hk.2 b h.1
theorem newV_box {H : Heap} {cs : List Value} (h : cs.all oneC = true) : newV cs H = some (ptr H.n 0, H.push ⟨cs, 1, true⟩) := by
  simp only [newV, h, if_true]
theorem push_box {R : Nat → Prop} {H : Heap} {blk : Blk} : Box (plus R H (H.push blk)) (H.push blk) H.n blk.cells := ⟨.inr ⟨Nat.le_refl _, by simp [push_n]⟩, _, _, push_self⟩
theorem push_boxA {H : Heap} {blk : Blk} : Box (all (H.push blk)) (H.push blk) H.n blk.cells := ⟨by simp [all, push_n], _, _, push_self⟩
theorem push_keep {H : Heap} {blk : Blk} : Keep (all H) H (H.push blk) := Keep.push (Rb.all H)
theorem upA {A B : Heap} (h : Keep (all A) A B) : ∀ b, all A b → all B b := fun b hb => Nat.lt_of_lt_of_le hb h.1
/-- A box that is written whole. -/
theorem push_st {H : Heap} {cs ds : List Value} {n : Nat} (hn : cs.length = n) (hd : ds.length = n) (h : ds.all oneC = true) : stV n (ptr H.n 0) (.agg ds.toArray) (H.push ⟨cs, 1, true⟩) = some (undef, (H.push ⟨cs, 1, true⟩).upd H.n (some ⟨ds, 1, true⟩)) := by
  subst hn
  have e : splice cs 0 ds = ds := by simp [splice, hd]
  have h' : ds.all Value.oneCell' = true := h
  simp only [stV, push_self, Value.cells, e]
  rw [if_pos]
  exact ⟨by simp [hd], h', by omega, trivial⟩
theorem push_upd {H : Heap} {a : Blk} {b : Blk} {R : Nat → Prop} (hR : Rb R H) : Keep R H ((H.push a).upd H.n (some b)) := ⟨by simp [upd_n, push_n], fun c hc => by
  have := hR c hc
  rw [upd_ne (by omega), push_lt this]⟩
theorem push_upd_box {H : Heap} {a b : Blk} {R : Nat → Prop} : Box (plus R H ((H.push a).upd H.n (some b))) ((H.push a).upd H.n (some b)) H.n b.cells := ⟨.inr ⟨Nat.le_refl _, by simp [upd_n, push_n]⟩, _, _, upd_self⟩
theorem Sli.plus {α : Type} [Rp α] {R : Nat → Prop} {H H' : Heap} {xs : List α} {v : Value} (h : Sli R H xs v) (hk : Keep R H H') : Sli (plus R H H') H' xs v := (h.keep hk).mono plus_le
theorem ldA_two {H : Heap} {b o : Nat} {x y : Value} (h1 : ldC (ptr b o) H = some (x, H)) (h2 : ldC (ptr b (o + 1)) H = some (y, H)) : Eng.ldA 2 (ptr b o) H = some (.agg [x, y].toArray, H) := by
  simp only [ldC] at h1 h2
  cases hb : H.get b with
  | none => rw [hb] at h1; cases h1
  | some blk =>
    rw [hb] at h1 h2
    simp only at h1 h2
    have e1 : blk.cells[o]? = some x := by
      cases hx : blk.cells[o]? with
      | none => rw [hx] at h1; cases h1
      | some z => rw [hx] at h1; simpa using h1
    have e2 : blk.cells[o + 1]? = some y := by
      cases hx : blk.cells[o + 1]? with
      | none => rw [hx] at h2; cases h2
      | some z => rw [hx] at h2; simpa using h2
    obtain ⟨l1, g1⟩ := List.getElem?_eq_some_iff.1 e1
    obtain ⟨l2, g2⟩ := List.getElem?_eq_some_iff.1 e2
    simp only [Eng.ldA, hb]
    rw [if_pos (by omega)]
    simp only [cut]
    rw [List.drop_eq_getElem_cons l1, List.drop_eq_getElem_cons l2, g1, g2]
    rfl

/-! ### kinds -/
def inI (n : Int) : Prop := -9223372036854775808 ≤ n ∧ n < 9223372036854775808
theorem bld2 {H : Heap} {x y : Value} (h : Value.oneCell' x = true) (hc : x.cells = #[x]) (h' : Value.oneCell' y = true) (hc' : y.cells = #[y]) {z : Value} :
    bldS 1 2 [z] [(0, 1, x), (1, 1, y)] H = some (.slice (some ⟨H.n, 0, none⟩) 2 2, H.push ⟨[x, y], 1, true⟩) := by
  simp [bldS, rep, fillC, hc, hc', splice, newS, h, h']
theorem lit1 {H : Heap} {a : Int} {z : Value} : bldS 1 1 [z] [(0, 1, .int .i64 a)] H = some (.slice (some ⟨H.n, 0, none⟩) [a].length [a].length, H.push ⟨I [a], 1, true⟩) := bld1 rfl rfl
theorem lit2 {H : Heap} {a b : Int} {z : Value} : bldS 1 2 [z] [(0, 1, .int .i64 a), (1, 1, .int .i64 b)] H = some (.slice (some ⟨H.n, 0, none⟩) [a, b].length [a, b].length, H.push ⟨I [a, b], 1, true⟩) := bld2 rfl rfl rfl rfl
theorem stV1_box {H : Heap} {b k s : Nat} {cs : List Value} {w : Value} (h : H.get b = some ⟨cs, s, true⟩) (hk : k < cs.length) (hc : w.cells = #[w]) (h1 : oneC w = true) : stV 1 (ptr b k) w H = some (undef, H.upd b (some ⟨cs.set k w, s, true⟩)) := by
  have e : splice cs k [w] = cs.set k w := by
    simp only [splice]
    rw [List.set_eq_take_append_cons_drop, if_pos hk]
    simp
  have h1' : Value.oneCell' w = true := h1
  simp only [stV, h, hc, e]
  rw [if_pos]
  exact ⟨rfl, by simp [h1'], by omega, trivial⟩
theorem Acc.gen {R Q : Nat → Prop} {H H' : Heap} {sz n : Nat} {v : Value} {cs : List Value} (h : Acc R H sz v n cs) (hk : Keep Q H H') (hq : ∀ b, ¬ R b → b < H.n → Q b) : Acc R H' sz v n cs := by
  rcases h with h | ⟨b, h1, h2, h3, h4, h5⟩
  · exact .inl h
  · exact .inr ⟨b, h1, h2, Nat.lt_of_lt_of_le h3 hk.1, by rw [hk.2 b (hq b h2 h3)]; exact h4, h5⟩
theorem Acc.read {R R' : Nat → Prop} {H : Heap} {sz n : Nat} {v : Value} {cs : List Value} (h : Acc R H sz v n cs) (hR : ∀ b, ¬ R b → b < H.n → R' b) : Sl R' H sz v n cs := by
  rcases h with h | ⟨b, h1, h2, h3, h4, h5⟩
  · exact .inl h
  · refine .inr (.inr ⟨b, 0, none, n, _, h1, hR b h2 h3, h4, by simp only; omega, Nat.le_refl _, ?_⟩)
    simp only [cut, List.drop_zero]
    rw [← h5, List.take_length]
theorem Acc.at {R : Nat → Prop} {H : Heap} {sz n b : Nat} {v : Value} {cs : List Value} (h : Acc R H sz v n cs) (hb : blkOf v = some b) : ¬ R b ∧ b < H.n := by
  rcases h with ⟨rfl, _⟩ | ⟨c, rfl, h2, h3, h4, h5⟩
  · cases hb
  · simp [blkOf] at hb; subst hb; exact ⟨h2, h3⟩
theorem Acc.oneC {R : Nat → Prop} {H : Heap} {sz n : Nat} {v : Value} {cs : List Value} (h : Acc R H sz v n cs) : Eng.oneC v = true ∧ v.cells = #[v] := by
  rcases h with ⟨rfl, _⟩ | ⟨c, rfl, _⟩ <;> exact ⟨rfl, rfl⟩
theorem Acc.weak {R R' : Nat → Prop} {H : Heap} {sz n : Nat} {v : Value} {cs : List Value} (h : Acc R H sz v n cs) (hR : ∀ b, blkOf v = some b → ¬ R' b) : Acc R' H sz v n cs := by
  rcases h with h | ⟨c, rfl, h2, h3, h4, h5⟩
  · exact .inl h
  · exact .inr ⟨c, rfl, hR c rfl, h3, h4, h5⟩
theorem mem_at {α : Type} {l : List α} {i : Nat} {x : α} (h : l[i]? = some x) : x ∈ l := List.mem_of_getElem? h
theorem Acc.read' {R : Nat → Prop} {H : Heap} {sz n : Nat} {v : Value} {cs : List Value} (h : Acc R H sz v n cs) : Sl (fun b => blkOf v = some b) H sz v n cs := by
  rcases h with h | ⟨b, h1, h2, h3, h4, h5⟩
  · exact .inl h
  · refine .inr (.inr ⟨b, 0, none, n, _, h1, by rw [h1]; rfl, h4, by simp only; omega, Nat.le_refl _, ?_⟩)
    simp only [cut, List.drop_zero]
    rw [← h5, List.take_length]
abbrev nilS : Value := .slice none 0 0

/-- One list is copied. -/
theorem Sl.up {H H' : Heap} {sz n : Nat} {v : Value} {cs : List Value} (h : Sl (all H) H sz v n cs) (k : Keep (all H) H H') : Sl (all H') H' sz v n cs := (h.keep k).mono (upA k)
theorem Sli.up {α : Type} [Rp α] {H H' : Heap} {xs : List α} {v : Value} (h : Sli (all H) H xs v) (k : Keep (all H) H H') : Sli (all H') H' xs v := (h.keep k).mono (upA k)
theorem Keep.tr {a b c : Heap} (h : Keep (all a) a b) (h' : Keep (all b) b c) : Keep (all a) a c := h.trans (h'.mono (upA h))
theorem Sl.take {R : Nat → Prop} {H : Heap} {n m : Nat} {v : Value} {cs : List Value} (h : Sl R H 1 v n cs) (hm : m ≤ n) : ∃ v', slcS 1 v none (some (.int .i64 (m : Int))) none = some v' ∧ Sl R H 1 v' m (cs.take m) := by
  rcases h with ⟨rfl, rfl, rfl⟩ | ⟨b, o, sp, cap, rfl, h2, rfl, rfl⟩ | ⟨b, o, sp, cap, blk, rfl, h2, h3, h4, h5, rfl⟩
  · obtain rfl : m = 0 := by omega
    exact ⟨.slice none 0 0, rfl, .inl ⟨rfl, rfl, rfl⟩⟩
  · obtain rfl : m = 0 := by omega
    exact ⟨.slice (some ⟨b, o, sp⟩) 0 cap, by simp [slcS, bound], .inr (.inl ⟨b, o, sp, cap, rfl, h2, rfl, rfl⟩)⟩
  · refine ⟨.slice (some ⟨b, o, sp⟩) m cap, ?_, .inr (.inr ⟨b, o, sp, cap, blk, rfl, h2, h3, by omega, by omega, ?_⟩)⟩
    · simp only [slcS, bound]
      rw [if_pos (by omega)]
      simp only [Int.toNat_natCast, Option.isNone_none, Bool.true_or, Nat.zero_le, true_and, and_true]
      rw [if_pos (by omega)]
      simp
    · simp only [cut, Nat.mul_one, List.take_take]
      rw [Nat.min_eq_left hm]
theorem sameBlk_refl {H : Heap} {b : Option Nat} : sameBlk H H b = true := sameBlk_of fun c _ => rfl
theorem b_bneq {P : Program} {t : TypeId} {a b : Bool} (h : P.underlying t = some .bool) : binB P .neq t (.bool a) (.bool b) = some (.bool !(a == b)) := by
  simp [binB, eqV, h]
theorem nbI_pref {x y : Int} (hx : okN x = true) (hy : okN y = true) {a b : List Nat} (h : nb x ++ a = nb y ++ b) : x = y ∧ a = b := by
  simp only [okN, Bool.and_eq_true, decide_eq_true_eq] at hx hy
  obtain ⟨m, rfl⟩ := Int.eq_ofNat_of_zero_le hx.1
  obtain ⟨n, rfl⟩ := Int.eq_ofNat_of_zero_le hy.1
  obtain ⟨h1, h2⟩ := nb_pref (by omega) (by omega) h
  exact ⟨by rw [h1], h2⟩
end Go.Eng
