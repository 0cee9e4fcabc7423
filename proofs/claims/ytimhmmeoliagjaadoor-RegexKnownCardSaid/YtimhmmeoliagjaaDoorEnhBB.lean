import Derived.Test.YtimhmmeoliagjaaDoorEnhT
import Derived.Test.YtimhmmeoliagjaaDoorEnhU
import Derived.Test.YtimhmmeoliagjaaDoorEnhW
import Derived.Test.YtimhmmeoliagjaaDoorEnhZ
import Derived.Test.YtimhmmeoliagjaaDoorEnhAA
set_option linter.unusedVariables false
set_option linter.unusedSimpArgs false
namespace Go.Eng
open Go

def B (l : List Nat) : List Value := l.map fun (i : Nat) => Value.int .u8 (i : Int)
theorem B_length (a : List Nat) : (B a).length = a.length := by simp [B]
theorem bld1 {H : Heap} {x : Value} (h : Value.oneCell' x = true) (hc : x.cells = #[x]) {z : Value} : bldS 1 1 [z] [(0, 1, x)] H = some (.slice (some ⟨H.n, 0, none⟩) 1 1, H.push ⟨[x], 1, true⟩) := by
  simp [bldS, rep, fillC, hc, splice, newS, h]
theorem cvI_u8 {H : Heap} {k : IntKind} {n : Int} : cvI .u8 (.int k n) H = some (.int .u8 (n % 256), H) := by
  simp [cvI, IntKind.wrap, IntKind.bits, IntKind.signed]
theorem addend_push {H : Heap} {cs : List Value} {sz n : Nat} (h : cs.length = n * sz) : addend sz (.slice (some ⟨H.n, 0, none⟩) n n) (H.push ⟨cs, sz, true⟩) = some (n, cs) := by
  by_cases hn : n = 0
  · subst hn
    have : cs = [] := List.length_eq_zero_iff.1 (by simpa using h)
    subst this
    rfl
  · simp only [addend, if_neg hn, push_self]
    rw [if_pos (by omega)]
    simp [cut, ← h]
theorem Acc.push {R : Nat → Prop} {H : Heap} {sz n : Nat} {v : Value} {cs : List Value} {blk : Blk} (h : Acc R H sz v n cs) : Acc R (H.push blk) sz v n cs := h.keep (Keep.push (Rb.all H))

abbrev ptr (b o : Nat) : Value := .pointer (some ⟨b, o, none⟩)
theorem fAddr_ptr {b o k : Nat} : fAddr k (ptr b o) = some (ptr b (o + k)) := nr _
theorem nilC_ptr {b o : Nat} {H : Heap} : nilC (ptr b o) H = some (ptr b o, H) := nr _
def I (xs : List Int) : List Value := xs.map (Value.int .i64)
theorem extr0 {a b : Value} {H : Heap} : extr 0 (.tuple #[a, b]) H = some (a, H) := nr _
theorem extr1 {a b : Value} {H : Heap} : extr 1 (.tuple #[a, b]) H = some (b, H) := nr _
theorem extr30 {a b c : Value} {H : Heap} : extr 0 (.tuple #[a, b, c]) H = some (a, H) := nr _
theorem extr31 {a b c : Value} {H : Heap} : extr 1 (.tuple #[a, b, c]) H = some (b, H) := nr _
def plus (R : Nat → Prop) (H H' : Heap) : Nat → Prop := fun b => R b ∨ (H.n ≤ b ∧ b < H'.n)
theorem plus_le {R : Nat → Prop} {H H' : Heap} : ∀ b, R b → plus R H H' b := fun _ h => .inl h
theorem Rb.plus {R : Nat → Prop} {H H' : Heap} (h : Rb R H) (hn : H.n ≤ H'.n) : Rb (plus R H H') H' := fun b hb => by
  rcases hb with hb | hb
  · exact Nat.lt_of_lt_of_le (h b hb) hn
  · exact hb.2
theorem Acc.plus {R : Nat → Prop} {H H' : Heap} {sz n : Nat} {v : Value} {cs : List Value} (h : Acc (all H) H' sz v n cs) : Sl (plus R H H') H' sz v n cs := by
  rcases h with h | ⟨b, h1, h2, h3, h4, h5⟩
  · exact .inl h
  · refine .inr (.inr ⟨b, 0, none, n, _, h1, .inr ⟨Nat.le_of_not_lt h2, h3⟩, h4, by simp only; omega, Nat.le_refl _, ?_⟩)
    simp only [cut, List.drop_zero]
    rw [← h5, List.take_length]
def sb (s : ByteArray) : List Nat := s.data.toList.map UInt8.toNat
def strOf (d : List Nat) : ByteArray := ⟨(d.map UInt8.ofNat).toArray⟩
theorem strOf_size {d : List Nat} : (strOf d).size = d.length := by
  show (d.map UInt8.ofNat).toArray.size = _
  simp
theorem bytes_B : ∀ (d : List Nat), (B d).mapM byteOf = some (d.map UInt8.ofNat)
  | [] => rfl
  | x :: d => by
    have := bytes_B d
    simp only [B] at this
    simp only [B, List.map_cons, List.mapM_cons, byteOf, Option.bind_eq_bind, Option.bind_some, this]
    simp
theorem toStr_sl {R : Nat → Prop} {H : Heap} {v : Value} {n : Nat} {d : List Nat} (h : Sl R H 1 v n (B d)) : toStr v H = some (.string (strOf d), H) := by
  rcases h with ⟨rfl, rfl, h⟩ | ⟨b, o, sp, cap, rfl, h2, rfl, h⟩ | ⟨b, o, sp, cap, blk, rfl, h2, h3, h4, _, h5⟩
  · have : d = [] := by cases d with | nil => rfl | cons a l => simp [B] at h
    subst this
    rfl
  · have : d = [] := by cases d with | nil => rfl | cons a l => simp [B] at h
    subst this
    rfl
  · by_cases hn : n = 0
    · subst hn
      have : d = [] := by cases d with | nil => rfl | cons a l => simp [B, cut] at h5
      subst this
      rfl
    · simp only [toStr, if_neg hn, h3]
      rw [if_pos (by omega)]
      rw [Nat.mul_one] at h5
      rw [h5, bytes_B]
      rfl
theorem Sl.blk {R : Nat → Prop} {H H' : Heap} {v : Value} {sz n : Nat} {cs : List Value} (h : Sl R H sz v n cs) (hk : Keep R H H') : sameBlk H H' (blkOf v) = true := by
  refine sameBlk_of fun c hc => ?_
  rcases h with ⟨rfl, rfl, rfl⟩ | ⟨b, o, sp, cap, rfl, h2, _⟩ | ⟨b, o, sp, cap, blk, rfl, h2, _⟩
  · simp [blkOf] at hc
  · simp [blkOf] at hc; subst hc; exact hk.2 b h2
  · simp [blkOf] at hc; subst hc; exact hk.2 b h2
theorem wd_u {w : Bool} : wd undef w = false := nr _
theorem bt_tt : (true == true) = true := of_eq_true (eq_self _)
theorem bt_tf : (true == false) = false := of_eq_true (eq_self _)
theorem bt_ft : (false == true) = false := of_eq_true (eq_self _)
theorem bt_ff : (false == false) = true := of_eq_true (eq_self _)
theorem bt_bne (a : Int) : (a != a) = false := by simp
theorem extr2 {a b c : Value} {H : Heap} : extr 2 (.tuple #[a, b, c]) H = some (c, H) := nr _
theorem idx_lt {n i : Nat} (h : i < n) : ((i : Int) < (n : Int)) = True := by simp; omega
theorem idx_ge {n i : Nat} (h : n ≤ i) : ((i : Int) < (n : Int)) = False := by simp; omega
theorem idx_up {i : Nat} (h : i < 9223372036854775807) : IntKind.i64.wrap ((i : Int) + 1) = ((i + 1 : Nat) : Int) := by rw [wrap_i64 (by omega) (by omega)]; omega
def Box (R : Nat → Prop) (H : Heap) (b : Nat) (cs : List Value) : Prop := R b ∧ ∃ sz own, H.get b = some ⟨cs, sz, own⟩
theorem Box.keep {R : Nat → Prop} {H H' : Heap} {b : Nat} {cs : List Value} (h : Box R H b cs) (hk : Keep R H H') : Box R H' b cs := by
  obtain ⟨h1, s, o, h2⟩ := h
  exact ⟨h1, s, o, by rw [hk.2 b h1]; exact h2⟩
theorem Box.mono {R R' : Nat → Prop} {H : Heap} {b : Nat} {cs : List Value} (h : Box R H b cs) (hR : ∀ b, R b → R' b) : Box R' H b cs := ⟨hR b h.1, h.2⟩
theorem Box.ld {R : Nat → Prop} {H : Heap} {b k : Nat} {cs : List Value} {v : Value} (h : Box R H b cs) (hv : cs[k]? = some v) : ldC (ptr b k) H = some (v, H) := by
  obtain ⟨h1, s, o, h2⟩ := h
  simp only [ldC, h2, hv]
theorem Box.ldA {R : Nat → Prop} {H : Heap} {b k n : Nat} {cs : List Value} (h : Box R H b cs) (hn : k + n ≤ cs.length) : Eng.ldA n (ptr b k) H = some (.agg (cut cs k n).toArray, H) := by
  obtain ⟨h1, s, o, h2⟩ := h
  simp only [Eng.ldA, h2, if_pos hn]
theorem Box.all {R : Nat → Prop} {H : Heap} {b n : Nat} {cs : List Value} (h : Box R H b cs) (hn : n = cs.length) : Eng.ldA n (ptr b 0) H = some (.agg cs.toArray, H) := by
  rw [h.ldA (by omega)]
  simp [cut, hn]
theorem Box.blk {R : Nat → Prop} {H H' : Heap} {b k : Nat} {cs : List Value} (h : Box R H b cs) (hk : Keep R H H') : sameBlk H H' (blkOf (ptr b k)) = true := sameBlk_of fun c hc => by
  simp [blkOf] at hc; subst hc; exact hk.2 b h.1
theorem newV_box {H : Heap} {cs : List Value} (h : cs.all oneC = true) : newV cs H = some (ptr H.n 0, H.push ⟨cs, 1, true⟩) := by
  simp only [newV, h, if_true]
theorem push_boxA {H : Heap} {cs : List Value} {sz : Nat} {ow : Bool} : Box (all (H.push ⟨cs, sz, ow⟩)) (H.push ⟨cs, sz, ow⟩) H.n cs := ⟨by simp [all, push_n], _, _, push_self⟩
theorem push_keep {H : Heap} {blk : Blk} : Keep (all H) H (H.push blk) := Keep.push (Rb.all H)
theorem upA {A B : Heap} (h : Keep (all A) A B) : ∀ b, all A b → all B b := fun b hb => Nat.lt_of_lt_of_le hb h.1
theorem push_st {H : Heap} {cs ds : List Value} {n : Nat} (hn : cs.length = n) (hd : ds.length = n) (h : ds.all oneC = true) : stV n (ptr H.n 0) (.agg ds.toArray) (H.push ⟨cs, 1, true⟩) = some (undef, (H.push ⟨cs, 1, true⟩).upd H.n (some ⟨ds, 1, true⟩)) := by
  subst hn
  have e : splice cs 0 ds = ds := by simp [splice, hd]
  have h' : ds.all Value.oneCell' = true := h
  simp only [stV, push_self, Value.cells, e]
  rw [if_pos]
  exact ⟨by simp [hd], h', by omega, Blk.w_mk⟩
theorem Sli.plus {α : Type} [Rp α] {R : Nat → Prop} {H H' : Heap} {xs : List α} {v : Value} (h : Sli R H xs v) (hk : Keep R H H') : Sli (plus R H H') H' xs v := (h.keep hk).mono plus_le
def inI (n : Int) : Prop := -9223372036854775808 ≤ n ∧ n < 9223372036854775808
theorem bld2 {H : Heap} {x y : Value} (h : Value.oneCell' x = true) (hc : x.cells = #[x]) (h' : Value.oneCell' y = true) (hc' : y.cells = #[y]) {z : Value} :
    bldS 1 2 [z] [(0, 1, x), (1, 1, y)] H = some (.slice (some ⟨H.n, 0, none⟩) 2 2, H.push ⟨[x, y], 1, true⟩) := by
  simp [bldS, rep, fillC, hc, hc', splice, newS, h, h']
theorem lit1 {H : Heap} {a : Int} {z : Value} : bldS 1 1 [z] [(0, 1, .int .i64 a)] H = some (.slice (some ⟨H.n, 0, none⟩) [a].length [a].length, H.push ⟨I [a], 1, true⟩) := bld1 rfl rfl
theorem lit2 {H : Heap} {a b : Int} {z : Value} : bldS 1 2 [z] [(0, 1, .int .i64 a), (1, 1, .int .i64 b)] H = some (.slice (some ⟨H.n, 0, none⟩) [a, b].length [a, b].length, H.push ⟨I [a, b], 1, true⟩) := bld2 rfl rfl rfl rfl
theorem stV1_box {H : Heap} {b k s : Nat} {cs : List Value} {w : Value} (h : H.get b = some ⟨cs, s, true⟩) (hk : k < cs.length) (hc : w.cells = #[w]) (h1 : oneC w = true) : stV 1 (ptr b k) w H = some (undef, H.upd b (some ⟨cs.set k w, s, true⟩)) := by
  have e : splice cs k [w] = cs.set k w := by
    simp only [splice]
    rw [List.set_eq_take_append_cons_drop, if_pos hk]
    simp
  have h1' : Value.oneCell' w = true := h1
  simp only [stV, h, hc, e]
  rw [if_pos]
  exact ⟨rfl, by simp [h1'], by omega, Blk.w_mk⟩
theorem Acc.gen {R Q : Nat → Prop} {H H' : Heap} {sz n : Nat} {v : Value} {cs : List Value} (h : Acc R H sz v n cs) (hk : Keep Q H H') (hq : ∀ b, ¬ R b → b < H.n → Q b) : Acc R H' sz v n cs := by
  rcases h with h | ⟨b, h1, h2, h3, h4, h5⟩
  · exact .inl h
  · exact .inr ⟨b, h1, h2, Nat.lt_of_lt_of_le h3 hk.1, by rw [hk.2 b (hq b h2 h3)]; exact h4, h5⟩
theorem Acc.read {R R' : Nat → Prop} {H : Heap} {sz n : Nat} {v : Value} {cs : List Value} (h : Acc R H sz v n cs) (hR : ∀ b, ¬ R b → b < H.n → R' b) : Sl R' H sz v n cs := by
  rcases h with h | ⟨b, h1, h2, h3, h4, h5⟩
  · exact .inl h
  · refine .inr (.inr ⟨b, 0, none, n, _, h1, hR b h2 h3, h4, by simp only; omega, Nat.le_refl _, ?_⟩)
    simp only [cut, List.drop_zero]
    rw [← h5, List.take_length]
theorem Acc.at {R : Nat → Prop} {H : Heap} {sz n b : Nat} {v : Value} {cs : List Value} (h : Acc R H sz v n cs) (hb : blkOf v = some b) : ¬ R b ∧ b < H.n := by
  rcases h with ⟨rfl, _⟩ | ⟨c, rfl, h2, h3, h4, h5⟩
  · cases hb
  · simp [blkOf] at hb; subst hb; exact ⟨h2, h3⟩
theorem Acc.oneC {R : Nat → Prop} {H : Heap} {sz n : Nat} {v : Value} {cs : List Value} (h : Acc R H sz v n cs) : Eng.oneC v = true ∧ v.cells = #[v] := by
  rcases h with ⟨rfl, _⟩ | ⟨c, rfl, _⟩ <;> exact ⟨rfl, rfl⟩
theorem Acc.weak {R R' : Nat → Prop} {H : Heap} {sz n : Nat} {v : Value} {cs : List Value} (h : Acc R H sz v n cs) (hR : ∀ b, blkOf v = some b → ¬ R' b) : Acc R' H sz v n cs := by
  rcases h with h | ⟨c, rfl, h2, h3, h4, h5⟩
  · exact .inl h
  · exact .inr ⟨c, rfl, hR c rfl, h3, h4, h5⟩
abbrev nilS : Value := .slice none 0 0

theorem Sl.up {H H' : Heap} {sz n : Nat} {v : Value} {cs : List Value} (h : Sl (all H) H sz v n cs) (k : Keep (all H) H H') : Sl (all H') H' sz v n cs := (h.keep k).mono (upA k)
theorem Sli.up {α : Type} [Rp α] {H H' : Heap} {xs : List α} {v : Value} (h : Sli (all H) H xs v) (k : Keep (all H) H H') : Sli (all H') H' xs v := (h.keep k).mono (upA k)
theorem Sl.take {R : Nat → Prop} {H : Heap} {n m : Nat} {v : Value} {cs : List Value} (h : Sl R H 1 v n cs) (hm : m ≤ n) : ∃ v', slcS 1 v none (some (.int .i64 (m : Int))) none = some v' ∧ Sl R H 1 v' m (cs.take m) := by
  rcases h with ⟨rfl, rfl, rfl⟩ | ⟨b, o, sp, cap, rfl, h2, rfl, rfl⟩ | ⟨b, o, sp, cap, blk, rfl, h2, h3, h4, h5, rfl⟩
  · obtain rfl : m = 0 := by omega
    exact ⟨.slice none 0 0, rfl, .inl ⟨rfl, rfl, rfl⟩⟩
  · obtain rfl : m = 0 := by omega
    exact ⟨.slice (some ⟨b, o, sp⟩) 0 cap, by simp [slcS, bound], .inr (.inl ⟨b, o, sp, cap, rfl, h2, rfl, rfl⟩)⟩
  · refine ⟨.slice (some ⟨b, o, sp⟩) m cap, ?_, .inr (.inr ⟨b, o, sp, cap, blk, rfl, h2, h3, by omega, by omega, ?_⟩)⟩
    · simp only [slcS, bound]
      rw [if_pos (by omega)]
      simp only [Int.toNat_natCast, Option.isNone_none, Bool.true_or, Nat.zero_le, true_and, and_true]
      rw [if_pos (by omega)]
      simp
    · simp only [cut, Nat.mul_one, List.take_take]
      rw [Nat.min_eq_left hm]
def ClP (P : Program) (gl : Bool) (E : Ext) (f : FuncId) (args : List Value) (H : Heap) (v : Value) (H' : Heap) : Prop := Ev (fun n _ => acall P gl E n f args H) (v, H')
theorem ClP.extern {P : Program} {gl : Bool} {E : Ext} {f : FuncId} {fn : Func} {args : List Value} {H H' : Heap} {v : Value} (hf : P.funcs[f]? = some fn) (hn : (fn.name == "runtime.NumGoroutine") = false) (hb : fn.body.isNone = true)
    (hx : ((fn.name == "internal/bytealg.IndexByte" || fn.name == "internal/bytealg.IndexByteString") && (Extern.findNext fn).isNone) = true) (h : idxX args H = some (v, H')) : ClP P gl E f args H v H' := by
  refine ⟨1, fun n m hn1 _ => ?_⟩
  obtain ⟨k, rfl⟩ : ∃ k, n = k + 1 := ⟨n - 1, by omega⟩
  have hb' : fn.body = none := by simpa using hb
  unfold acall
  simp only [hf, hn, hb', externX, hx, if_true]
  exact h
theorem Ev.callC {P : Program} {gl : Bool} {E : Ext} {f : FuncId} {args : List Value} {H : Heap} {v : Value} {H' : Heap} {k : Nat → Nat → Value → Heap → Option (Value × Heap)} {r : Value × Heap} (h : ClP P gl E f args H v H') (h' : Ev (fun n m => k n m v H') r) : Ev (fun n m => Eng.bnd (acall P gl E n f args H) (k n m)) r :=
  Ev.bnd (k := k) (A := fun n _ => acall P gl E n f args H) h h'
theorem Ev3.callC {P : Program} {gl : Bool} {E : Ext} {f : FuncId} {args : List Value} {H : Heap} {v : Value} {H' : Heap} {k : Nat → Nat → Nat → Value → Heap → Option (Value × Heap)} {r : Value × Heap} (h : ClP P gl E f args H v H') (h' : Ev3 (fun n m j => k n m j v H') r) : Ev3 (fun n m j => Eng.bnd (acall P gl E n f args H) (k n m j)) r :=
  Ev3.bnd (k := k) (A := fun n => acall P gl E n f args H) h h'
section
variable {R : Nat → Prop} {H : Heap} {n i j : Nat} {v : Value} {cs : List Value}
theorem Sl.drop (h : Sl R H 1 v n cs) {k : IntKind} (hi : i ≤ n) : ∃ v', slcS 1 v (some (.int k (i : Int))) none none = some v' ∧ Sl R H 1 v' (n - i) (cs.drop i) := by
  rcases h with ⟨rfl, rfl, rfl⟩ | ⟨b, o, sp, cap, rfl, h2, rfl, rfl⟩ | ⟨b, o, sp, cap, blk, rfl, h2, h3, h4, h5, rfl⟩
  · obtain rfl : i = 0 := by omega
    exact ⟨.slice none 0 0, rfl, .inl ⟨rfl, rfl, rfl⟩⟩
  · obtain rfl : i = 0 := by omega
    exact ⟨.slice (some ⟨b, o, sp⟩) 0 cap, by simp [slcS, bound], .inr (.inl ⟨b, o, sp, cap, rfl, h2, rfl, rfl⟩)⟩
  · refine ⟨.slice (some ⟨b, o + i * 1, sp⟩) (n - i) (cap - i), ?_, .inr (.inr ⟨b, o + i * 1, sp, cap - i, blk, rfl, h2, h3, by omega, by omega, ?_⟩)⟩
    · simp only [slcS, bound]
      rw [if_pos (by omega)]
      simp only [Int.toNat_natCast, Option.isNone_none, Bool.true_or, and_true]
      rw [if_pos (by omega)]
      simp
    · simp only [cut, Nat.mul_one, List.drop_take, List.drop_drop]
theorem Sl.part (h : Sl R H 1 v n cs) {k k' : IntKind} (hi : i ≤ j) (hj : j ≤ n) : ∃ v', slcS 1 v (some (.int k (i : Int))) (some (.int k' (j : Int))) none = some v' ∧ Sl R H 1 v' (j - i) ((cs.drop i).take (j - i)) := by
  rcases h with ⟨rfl, rfl, rfl⟩ | ⟨b, o, sp, cap, rfl, h2, rfl, rfl⟩ | ⟨b, o, sp, cap, blk, rfl, h2, h3, h4, h5, rfl⟩
  · obtain rfl : i = 0 := by omega
    obtain rfl : j = 0 := by omega
    exact ⟨.slice none 0 0, rfl, .inl ⟨rfl, rfl, rfl⟩⟩
  · obtain rfl : i = 0 := by omega
    obtain rfl : j = 0 := by omega
    exact ⟨.slice (some ⟨b, o, sp⟩) 0 cap, by simp [slcS, bound], .inr (.inl ⟨b, o, sp, cap, rfl, h2, rfl, rfl⟩)⟩
  · refine ⟨.slice (some ⟨b, o + i * 1, sp⟩) (j - i) (cap - i), ?_, .inr (.inr ⟨b, o + i * 1, sp, cap - i, blk, rfl, h2, h3, by omega, by omega, ?_⟩)⟩
    · simp only [slcS, bound]
      rw [if_pos (by omega), if_pos (by omega)]
      simp only [Int.toNat_natCast, Option.isNone_none, Bool.true_or, and_true]
      rw [if_pos (by omega)]
      simp
    · simp only [cut, Nat.mul_one, List.drop_take, List.drop_drop, List.take_take]
      rw [Nat.min_eq_left (by omega)]
end

theorem B_drop (l : List Nat) (i : Nat) : (B l).drop i = B (l.drop i) := by simp [B, List.map_drop]
theorem B_take (l : List Nat) (i : Nat) : (B l).take i = B (l.take i) := by simp [B, List.map_take]
abbrev By (H : Heap) (d : List Nat) (v : Value) : Prop := Sl (all H) H 1 v d.length (B d)
theorem By.from {R : Nat → Prop} {H : Heap} {d : List Nat} {v : Value} (h : Sl R H 1 v d.length (B d)) {k : IntKind} {i : Nat} (hi : i ≤ d.length) : ∃ v', slcS 1 v (some (.int k (i : Int))) none none = some v' ∧ Sl R H 1 v' (d.drop i).length (B (d.drop i)) := by
  obtain ⟨v', h1, h2⟩ := h.drop (k := k) hi
  exact ⟨v', h1, by rw [B_drop] at h2; simpa using h2⟩
theorem By.part {R : Nat → Prop} {H : Heap} {d : List Nat} {v : Value} (h : Sl R H 1 v d.length (B d)) {k k' : IntKind} {i j : Nat} (hi : i ≤ j) (hj : j ≤ d.length) : ∃ v', slcS 1 v (some (.int k (i : Int))) (some (.int k' (j : Int))) none = some v' ∧ Sl R H 1 v' ((d.drop i).take (j - i)).length (B ((d.drop i).take (j - i))) := by
  obtain ⟨v', h1, h2⟩ := h.part (k := k) (k' := k') hi hj
  exact ⟨v', h1, by rw [B_drop, B_take] at h2; simpa [Nat.min_eq_left (show j - i ≤ d.length - i by omega)] using h2⟩

theorem push_updE {H : Heap} {a b : Blk} : (H.push a).upd H.n (some b) = H.push b := by
  unfold Heap.push Heap.upd
  congr 1
  funext i
  by_cases h : i = H.n <;> simp [h]
theorem ldA_push {H : Heap} {cs : List Value} {n : Nat} (hn : n = cs.length) : Eng.ldA n (ptr H.n 0) (H.push ⟨cs, 1, true⟩) = some (.agg cs.toArray, H.push ⟨cs, 1, true⟩) := push_boxA.all hn
theorem stA_push {H : Heap} {cs ds : List Value} {n : Nat} (hn : cs.length = n) (hd : ds.length = n) (h : ds.all oneC = true) : stV n (ptr H.n 0) (.agg ds.toArray) (H.push ⟨cs, 1, true⟩) = some (undef, H.push ⟨ds, 1, true⟩) := by
  rw [push_st hn hd h, push_updE]
theorem Sl.oneC {R : Nat → Prop} {H : Heap} {sz n : Nat} {v : Value} {cs : List Value} (h : Sl R H sz v n cs) : Eng.oneC v = true ∧ v.cells = #[v] := by
  rcases h with ⟨rfl, _⟩ | ⟨b, o, sp, cap, rfl, _⟩ | ⟨b, o, sp, cap, blk, rfl, _⟩ <;> exact ⟨rfl, rfl⟩
def Rm (R : Nat → Prop) (H : Heap) (v : Value) (N : Nat) (ds : List Value) : Prop :=
  (N = 0 ∧ v = nilS ∧ ds = []) ∨ ∃ b rest, v = .slice (some ⟨b, 0, none⟩) ds.length N ∧ ¬ R b ∧ b < H.n ∧ H.get b = some ⟨ds ++ rest, 1, true⟩ ∧ (ds ++ rest).length = N
theorem Rm.app {R : Nat → Prop} {H : Heap} {v x : Value} {N n : Nat} {ds cs : List Value} (h : Rm R H v N ds) (hx : addend 1 x H = some (n, cs)) (hc : cs.length = n) (hb : ds.length + n ≤ N) (hN : N ≤ mostBytes) :
    ∃ v' H', Eng.app 1 1 v x H = some (v', H') ∧ Rm R H' v' N (ds ++ cs) ∧ Keep R H H' := by
  unfold Eng.app
  simp only [hx]
  by_cases hn : n = 0
  · subst hn
    have : cs = [] := List.length_eq_zero_iff.1 hc
    subst this
    rcases h with ⟨h1, rfl, h2⟩ | ⟨b, rest, rfl, h⟩
    · exact ⟨nilS, H, by simp, .inl ⟨h1, rfl, by simp [h2]⟩, Keep.refl _ _⟩
    · exact ⟨_, H, by simp; rfl, .inr ⟨b, rest, by simp, by simpa using h⟩, Keep.refl _ _⟩
  · rcases h with ⟨h1, rfl, h2⟩ | ⟨b, rest, rfl, h1, h2, h3, h4⟩
    · omega
    · simp only [List.length_append] at h4
      have hm : ¬ ¬ (ds.length + n) * 1 ≤ mostBytes := by omega
      have hs : splice (ds ++ rest) (0 + ds.length * 1) cs = ds ++ cs ++ rest.drop n := by
        simp only [splice, Nat.zero_add, Nat.mul_one, List.take_left, hc]
        rw [List.drop_append]
        simp
      refine ⟨.slice (some ⟨b, 0, none⟩) (ds ++ cs).length N, H.upd b (some ⟨ds ++ cs ++ rest.drop n, 1, true⟩), ?_, .inr ⟨b, rest.drop n, rfl, h1, h2, upd_self, by simp; omega⟩, Keep.upd h1⟩
      simp only [if_neg hn, if_neg hm, h3, Option.isSome_none, Bool.not_true, Bool.or_self, Bool.false_eq_true, if_false]
      rw [if_neg (by omega), if_pos (by simp only [List.length_append]; omega), hs]
      simp [hc]
theorem Rm.acc {R : Nat → Prop} {H : Heap} {v : Value} {N : Nat} {ds : List Value} (h : Rm R H v N ds) (hN : ds.length = N) : Acc R H 1 v N ds := by
  rcases h with ⟨h1, rfl, rfl⟩ | ⟨b, rest, rfl, h1, h2, h3, h4⟩
  · subst h1; exact Acc.nil
  · have : rest = [] := by
      simp only [List.length_append] at h4
      exact List.length_eq_zero_iff.1 (by omega)
    subst this
    rw [List.append_nil] at h3
    exact .inr ⟨b, by rw [hN], h1, h2, h3, by omega⟩
theorem Rm.keep {R Q : Nat → Prop} {H H' : Heap} {v : Value} {N : Nat} {ds : List Value} (h : Rm R H v N ds) (hk : Keep (all H) H H') : Rm R H' v N ds := by
  rcases h with h | ⟨b, rest, h1, h2, h3, h4, h5⟩
  · exact .inl h
  · exact .inr ⟨b, rest, h1, h2, Nat.lt_of_lt_of_le h3 hk.1, by rw [hk.2 b h3]; exact h4, h5⟩

def PS (R : Nat → Prop) (H : Heap) (vs : List Value) (ds : List (List Nat)) : Prop := vs.length = ds.length ∧ ∀ (i : Nat) (d : List Nat), ds[i]? = some d → ∃ v, vs[i]? = some v ∧ Sl R H 1 v d.length (B d)
theorem PS.keep {R : Nat → Prop} {H H' : Heap} {vs : List Value} {ds : List (List Nat)} (h : PS R H vs ds) (hk : Keep R H H') : PS R H' vs ds :=
  ⟨h.1, fun i d hd => by obtain ⟨v, h1, h2⟩ := h.2 i d hd; exact ⟨v, h1, h2.keep hk⟩⟩
theorem PS.mono {R R' : Nat → Prop} {H : Heap} {vs : List Value} {ds : List (List Nat)} (h : PS R H vs ds) (hR : ∀ b, R b → R' b) : PS R' H vs ds :=
  ⟨h.1, fun i d hd => by obtain ⟨v, h1, h2⟩ := h.2 i d hd; exact ⟨v, h1, h2.mono hR⟩⟩
theorem PS.two {R : Nat → Prop} {H : Heap} {v v' : Value} {d d' : List Nat} (h : Sl R H 1 v d.length (B d)) (h' : Sl R H 1 v' d'.length (B d')) : PS R H [v, v'] [d, d'] := by
  refine ⟨rfl, fun i x hx => ?_⟩
  rcases i with _ | _ | i
  · simp only [List.getElem?_cons_zero, Option.some.injEq] at hx; subst hx; exact ⟨v, rfl, h⟩
  · simp only [List.getElem?_cons_succ, List.getElem?_cons_zero, Option.some.injEq] at hx; subst hx; exact ⟨v', rfl, h'⟩
  · simp at hx
def U (l : List UInt8) : List Nat := l.map UInt8.toNat
theorem U_len (l : List UInt8) : (U l).length = l.length := by simp [U]
theorem U_byte (l : List UInt8) : ∀ x ∈ U l, x < 256 := fun x hx => by
  simp only [U, List.mem_map] at hx
  obtain ⟨c, _, rfl⟩ := hx
  exact c.toNat_lt
theorem ofStr_ok {l : List UInt8} {H : Heap} (h : l.length ≤ mostBytes) : ofStr (.string (bs l)) H = some (.slice (some ⟨H.n, 0, none⟩) (U l).length (U l).length, H.push ⟨B (U l), 1, true⟩) := by
  have e : ((bs l).data.toList.map fun c => Value.int .u8 (c.toNat : Int)) = B (U l) := by
    rw [bs_list]; simp [B, U]
  simp only [ofStr, bs_size, U_len]
  rw [if_pos h, e]
theorem push_Sl {R : Nat → Prop} {H : Heap} {d : List Nat} (hR : R H.n) : Sl R (H.push ⟨B d, 1, true⟩) 1 (.slice (some ⟨H.n, 0, none⟩) d.length d.length) d.length (B d) :=
  .inr (.inr ⟨H.n, 0, none, d.length, _, rfl, hR, push_self, by simp [B_length], by simp, by simp only [cut, List.drop_zero, Nat.mul_one]; rw [List.take_of_length_le (by simp [B])]⟩)
end Go.Eng
