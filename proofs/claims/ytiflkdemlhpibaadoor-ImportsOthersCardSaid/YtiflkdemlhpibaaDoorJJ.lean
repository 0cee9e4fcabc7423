/- Reach, of the program. -/
import Derived.Test.YtiflkdemlhpibaaDoorJG
import Derived.Test.YtiflkdemlhpibaaDoorIP2
set_option linter.unusedVariables false
set_option linter.unusedSimpArgs false
set_option linter.unusedSectionVars false
set_option maxRecDepth 100000
namespace Go.Eng
open Go Go.Proofs

/-! ### a queue of texts -/
def Qu (H0 H : Heap) (v : Value) (ps : List (List UInt8)) : Prop := ∃ b pre, v = .slice (some ⟨b, pre.length, none⟩) ps.length ps.length ∧ H0.n ≤ b ∧ b < H.n ∧ H.get b = some ⟨pre ++ STRL ps, 1, true⟩
section
variable {H0 H : Heap} {v : Value} {ps : List (List UInt8)}
theorem Qu.lenS (h : Qu H0 H v ps) : lenS v = some (.int .i64 (ps.length : Int)) := by
  obtain ⟨b, pre, rfl, _⟩ := h
  rfl
theorem Qu.keep {H' : Heap} (h : Qu H0 H v ps) (hn : H.n ≤ H'.n) (hk : ∀ q, blkOf v = some q → H'.get q = H.get q) : Qu H0 H' v ps := by
  obtain ⟨b, pre, rfl, h1, h2, h3⟩ := h
  exact ⟨b, pre, rfl, h1, Nat.lt_of_lt_of_le h2 hn, by rw [hk b rfl]; exact h3⟩
theorem Qu.first {p : List UInt8} (h : Qu H0 H v (p :: ps)) : ∃ a, iAddrS 1 v (.int .i64 0) = some a ∧ ldC a H = some (.string (bs p), H) := by
  obtain ⟨b, pre, rfl, h1, h2, h3⟩ := h
  refine ⟨ptr b pre.length, ?_, own_ld h3 (by simp)⟩
  simp only [iAddrS, List.length_cons]
  rw [if_pos (by omega)]
  simp
theorem Qu.next {p : List UInt8} (h : Qu H0 H v (p :: ps)) : ∃ v', slcS 1 v (some (.int .i64 1)) none none = some v' ∧ Qu H0 H v' ps ∧ blkOf v' = blkOf v := by
  obtain ⟨b, pre, rfl, h1, h2, h3⟩ := h
  refine ⟨.slice (some ⟨b, pre.length + 1, none⟩) ps.length ps.length, ?_, ⟨b, pre ++ [.string (bs p)], by simp, h1, h2, by simpa using h3⟩, rfl⟩
  simp only [slcS, bound, List.length_cons]
  rw [if_pos (by omega)]
  simp
theorem Qu.app (h : Qu H0 H v ps) {R : Nat → Prop} {w : Value} {xs : List (List UInt8)} (hs : Sl R H 1 w xs.length (STRL xs)) (hb : (ps.length + xs.length) * 16 ≤ mostBytes) :
    ∃ v' H', Eng.app 1 16 v w H = some (v', H') ∧ Qu H0 H' v' (ps ++ xs) ∧ H.n ≤ H'.n ∧ (∀ q, q < H.n → blkOf v ≠ some q → H'.get q = H.get q) ∧ (∀ q, blkOf v' = some q → blkOf v = some q ∨ H.n ≤ q) := by
  obtain ⟨b, pre, rfl, h1, h2, h3⟩ := h
  by_cases hn : xs.length = 0
  · have : xs = [] := List.length_eq_zero_iff.1 hn
    subst this
    refine ⟨_, H, ?_, ⟨b, pre, by rw [List.append_nil], h1, h2, by rw [List.append_nil]; exact h3⟩, Nat.le_refl _, fun _ _ _ => rfl, fun q hq => .inl hq⟩
    simp only [Eng.app, hs.addend, List.length_nil, if_true]
  · refine ⟨.slice (some ⟨H.n, 0, none⟩) (ps.length + xs.length) (ps.length + xs.length), (H.upd b none).push ⟨STRL ps ++ STRL xs, 1, true⟩, ?_, ⟨H.n, [], by simp, by omega, by simp [push_n, upd_n], ?_⟩, by simp [push_n, upd_n], fun q hq hv => ?_, fun q hq => ?_⟩
    · simp only [Eng.app, hs.addend, if_neg hn, h3]
      rw [if_neg (by simpa using hb)]
      simp
    · have e : (H.upd b none).n = H.n := rfl
      have := push_self (H := H.upd b none) (k := ⟨STRL ps ++ STRL xs, 1, true⟩)
      rw [e] at this
      rw [this]
      simp [STRL]
    · have hqb : q ≠ b := fun e => hv (by rw [e]; rfl)
      rw [push_lt (by rw [upd_n]; exact hq), upd_ne hqb]
    · right
      simp only [blkOf, Option.some.injEq] at hq
      omega
end

/-! ### numbers, sorted -/
theorem i64_I : ∀ zs : List Int, (I zs).mapM i64Of = some zs
  | [] => rfl
  | z :: zs => by
    have := i64_I zs
    simp only [I] at this
    simp only [I, List.map_cons, List.mapM_cons, i64Of, this, Option.bind_eq_bind, Option.bind_some, Option.pure_def]
theorem acall_extI {P : Program} {gl : Bool} {E : Ext} {f : FuncId} {fn : Func} {g : List Value → Heap → Option (Value × Heap)} (hf : P.funcs[f]? = some fn) (hn : (fn.name == "runtime.NumGoroutine") = false) (hb : fn.body.isSome = true) (h : E f = some g) (n : Nat) (args : List Value) (H : Heap) : acall P gl E (n + 1) f args H = g args H := by
  obtain ⟨c, hc⟩ := Option.isSome_iff_exists.1 hb
  unfold acall
  rw [hf]
  simp only [hn, hc, h]
theorem sort_ok {H0 H : Heap} {v : Value} {zs : List Int} (h : Acc (all H0) H 1 v zs.length (I zs)) (hb : zs.length ≤ 1000000000000) :
    ∃ H', Cl 23 [v] H (.tuple #[]) H' ∧ Acc (all H0) H' 1 v (sortI zs).length (I (sortI zs)) ∧ Keep (all H0) H H' := by
  have hm : mostBytes = 140737488355328 := rfl
  have key : ∀ H', srtX [v] H = some (.tuple #[], H') → Cl 23 [v] H (.tuple #[]) H' := fun H' hx => ⟨1, fun n m h1 _ => by
    obtain ⟨n, rfl⟩ : ∃ k, n = k + 1 := ⟨n - 1, by omega⟩
    exact (acall_extI Tryd.func23 (by kernel_rfl) (by kernel_rfl) (g := srtX) rfl n [v] H).trans hx⟩
  rw [sortI_len]
  rcases h with ⟨rfl, h2, h3⟩ | ⟨b, rfl, h2, h3, h4, h5⟩
  · have : zs = [] := List.length_eq_zero_iff.1 h2
    subst this
    exact ⟨H, key H rfl, .inl ⟨rfl, rfl, rfl⟩, Keep.refl _ _⟩
  · by_cases hz : zs.length = 0
    · have : zs = [] := List.length_eq_zero_iff.1 hz
      subst this
      exact ⟨H, key H rfl, .inr ⟨b, rfl, h2, h3, h4, h5⟩, Keep.refl _ _⟩
    · have e : splice (I zs) 0 (I (sortI zs)) = I (sortI zs) := by
        simp only [splice, List.take_zero, List.nil_append, Nat.zero_add]
        rw [List.drop_eq_nil_of_le (by simp [I, sortI_len]), List.append_nil]
      refine ⟨H.upd b (some ⟨I (sortI zs), 1, true⟩), key _ ?_, .inr ⟨b, rfl, h2, h3, upd_self, by simp [I, sortI_len]⟩, Keep.upd h2⟩
      simp only [srtX, if_neg hz, h4]
      rw [if_pos ⟨Blk.w_mk, by simp [I], by omega⟩]
      simp only [i64_I, e]

/-! ### Reach -/
section
variable {H0 : Heap} {B M S : Nat} {vf : Value} {l : List En}
/-- What has been made since stands elsewhere. -/
theorem Wk.move {H H' : Heap} {s : List Nat} {m : Nat} {nm : List UInt8} (h : Wk H0 H B M S vf nilS l ⟨s, m, []⟩ nm) (hn : H.n ≤ H'.n) (gB : H'.get B = H.get B) (gM : H'.get M = H.get M) (gS : H'.get S = H.get S) (K : Keep (all H0) H0 H') : Wk H0 H' B M S vf nilS l ⟨s, m, []⟩ nm := by
  obtain ⟨es, c, q1, q2, q3⟩ := h.map
  exact ⟨K, h.f, gB.trans h.box, ⟨es, c, gM.trans q1, q2, q3⟩, gS.trans h.st, h.sl, Acc.nil, ⟨h.lb.1, Nat.lt_of_lt_of_le h.lb.2 hn⟩, ⟨h.lm.1, Nat.lt_of_lt_of_le h.lm.2 hn⟩, ⟨h.ls.1, Nat.lt_of_lt_of_le h.ls.2 hn⟩, h.bm, h.bS, h.mS, h.ob, h.om, h.os⟩
/-- All that holds between two rounds. -/
structure Rnd (H0 H : Heap) (B M S : Nat) (vf vo vq : Value) (l : List En) (left : List (List UInt8)) (out : List Nat) : Prop where
  wk : ∃ st, Wk H0 H B M S vf nilS l ⟨st, 0, []⟩ [] ∧ ∀ k, k < l.length → st[k]? = some (if k ∈ out then 2 else 0)
  out : Acc (all H0) H 1 vo out.length (NI out)
  qu : Qu H0 H vq left
  ob : blkOf vo ≠ some B
  om : blkOf vo ≠ some M
  os : blkOf vo ≠ some S
  qb : blkOf vq ≠ some B
  qm : blkOf vq ≠ some M
  qs : blkOf vq ≠ some S
  oq : Ds vo vq
theorem reach_loop (hk : Eok l) {T : Nat} (hT : T ≤ 1000000000) : ∀ (n : Nat) (H : Heap) (vo vq : Value) (left : List (List UInt8)) (out : List Nat), todo l left out ≤ n → out.length + todo l left out ≤ T → Rnd H0 H B M S vf vo vq l left out →
    ∃ H' v, Ev (fun n m => f11_L0 real (AC n) n m vf (ptr B 0) vo vq H) (.tuple #[v, .int .i64 0], H') ∧ Keep (all H0) H0 H' ∧ Sl (all H') H' 1 v (sortI ((bfs l n left out).map fun (k : Nat) => (k : Int))).length (I (sortI ((bfs l n left out).map fun (k : Nat) => (k : Int)))) := by
  have hm : mostBytes = 140737488355328 := rfl
  have fin : ∀ (H : Heap) (vo vq : Value) (out : List Nat), out.length ≤ T → Rnd H0 H B M S vf vo vq l [] out → ∃ H' v, Ev (fun n m => f11_L0 real (AC n) n m vf (ptr B 0) vo vq H) (.tuple #[v, .int .i64 0], H') ∧ Keep (all H0) H0 H' ∧ Sl (all H') H' 1 v (sortI (out.map fun (k : Nat) => (k : Int))).length (I (sortI (out.map fun (k : Nat) => (k : Int)))) := by
    intro H vo vq out ho h
    have ha := h.out
    rw [NI_I, show out.length = (out.map fun (k : Nat) => (k : Int)).length by simp] at ha
    obtain ⟨H', c1, c2, c3⟩ := sort_ok ha (by simp; omega)
    obtain ⟨st, w, _⟩ := h.wk
    refine ⟨H', vo, ?_, w.keep.trans c3, c2.sl⟩
    have e0 : decide ((([] : List (List UInt8)).length : Int) > 0) = false := rfl
    refine Ev.step (fun n m => f11_L0.eq_2 _ _ _ _ _ _ _ _ _) ?_
    simp only [ruA, ruB, ruC, ruE, ruD, lenStr, Int.reduceBEq, Int.reduceBNe, h.qu.lenS, e0]
    refine Ev.callC c1 ?_
    exact Ev.pure _
  intro n
  induction n with
  | zero =>
    intro H vo vq left out ht hb h
    have : left = [] := by
      cases left with
      | nil => rfl
      | cons p left => simp only [todo, List.length_cons] at ht; omega
    subst this
    exact fin H vo vq out (by omega) h
  | succ n ih =>
    intro H vo vq left out ht hb h
    cases left with
    | nil => exact fin H vo vq out (by omega) h
    | cons p left =>
      obtain ⟨st, w, hst⟩ := h.wk
      have lk := w.lk p
      obtain ⟨a, a1, a2⟩ := h.qu.first
      have e0 : decide (((p :: left).length : Int) > 0) = true := decide_eq_true (by simp only [List.length_cons]; omega)
      have td := todo_pop (l := l) (p := p) (left := left) (out := out)
      cases hf : findN l p with
      | none =>
        rw [hf] at lk
        obtain ⟨vq', q1, q2, q3⟩ := h.qu.next
        obtain ⟨H', v, g1, g2, g3⟩ := ih H vo vq' left out (by omega) (by omega) ⟨h.wk, h.out, q2, h.ob, h.om, h.os, by rw [q3]; exact h.qb, by rw [q3]; exact h.qm, by rw [q3]; exact h.qs, fun b h1 h2 => h.oq b h1 (by rw [← q3]; exact h2)⟩
        refine ⟨H', v, ?_, g2, by simp only [bfs, hf]; exact g3⟩
        refine Ev.step (fun n m => f11_L0.eq_2 _ _ _ _ _ _ _ _ _) ?_
        simp only [ruA, ruB, ruC, ruE, ruD, lenStr, Int.reduceBEq, Int.reduceBNe, h.qu.lenS, e0, w.l1, a1, a2, keyB_str, if_true, lk, lkV_none, f11_J1, q1]
        exact g1
      | some k =>
        rw [hf] at lk
        have hkl := find_lt hf
        have ls := w.stl (hst k hkl)
        by_cases ho : k ∈ out
        · rw [if_pos ho] at ls
          obtain ⟨vq', q1, q2, q3⟩ := h.qu.next
          obtain ⟨H', v, g1, g2, g3⟩ := ih H vo vq' left out (by omega) (by omega) ⟨h.wk, h.out, q2, h.ob, h.om, h.os, by rw [q3]; exact h.qb, by rw [q3]; exact h.qm, by rw [q3]; exact h.qs, fun b h1 h2 => h.oq b h1 (by rw [← q3]; exact h2)⟩
          refine ⟨H', v, ?_, g2, by simp only [bfs, hf, if_pos ho]; exact g3⟩
          have e2 : (((2 : Nat) : Int) == 0) = false := rfl
          refine Ev.step (fun n m => f11_L0.eq_2 _ _ _ _ _ _ _ _ _) ?_
          simp only [ruA, ruB, ruC, ruE, ruD, lenStr, Int.reduceBEq, Int.reduceBNe, h.qu.lenS, e0, w.l1, a1, a2, keyB_str, if_true, lk, lkV_some, w.l2, own_at hkl, ls, e2, f11_J1, q1]
          exact g1
        · rw [if_neg ho] at ls
          have e2 : (((0 : Nat) : Int) == 0) = true := rfl
          have tn := todo_new (l := l) (p := p) (left := left) (out := out) hkl ho
          obtain ⟨e, he⟩ : ∃ e, l[k]? = some e := ⟨_, List.getElem?_eq_getElem hkl⟩
          have him : impN l k = e.I := by simp only [impN, he]
          have hI := hk.i e (List.mem_of_getElem? he)
          obtain ⟨H1, m1, m2⟩ := w.mark (v := 2) hkl
          have m1' : stV 1 (ptr S k) (.int .i64 2) H = some (undef, H1) := m1
          -- the heap after the mark
          have hH1 : H1 = H.upd S (some ⟨(NI st).set k (.int .i64 2), 1, true⟩) := by
            have x := stV1_box (k := k) (w := .int .i64 2) w.st (by simp [w.sl]; exact hkl) rfl rfl
            rw [m1'] at x
            injection x with x; injection x with _ x
          have n1 : H1.n = H.n := by rw [hH1]; rfl
          have g1 : ∀ q, q ≠ S → H1.get q = H.get q := fun q hq => by rw [hH1]; exact upd_ne hq
          have o1 : Acc (all H0) H1 1 vo out.length (NI out) := by rw [hH1]; exact h.out.past1 h.os
          have u1 : Qu H0 H1 vq (p :: left) := h.qu.keep (by omega) fun q hq => g1 q fun e => h.qs (by rw [← e]; exact hq)
          -- out
          have hp : Keep (all H1) H1 (H1.push ⟨[.int .i64 (k : Int)], 1, true⟩) := push_keep
          have b1 : bldS 1 1 [.int .i64 0] [(0, 1, .int .i64 (k : Int))] H1 = some (.slice (some ⟨H1.n, 0, none⟩) 1 1, H1.push ⟨[.int .i64 (k : Int)], 1, true⟩) := bld1 rfl rfl
          obtain ⟨vo', H2, c1, c2, c3, c4, c5, c6⟩ := (o1.keep hp).appQ (by_ := 8) (Nat.le_trans m2.keep.1 hp.1) (addend_push (sz := 1) (n := 1) (cs := [.int .i64 (k : Int)]) rfl) rfl (by omega)
          have P2 : (H1.push ⟨[.int .i64 (k : Int)], 1, true⟩).n = H1.n + 1 := push_n
          have n2 : H1.n ≤ H2.n := Nat.le_trans hp.1 c4.1
          have g2 : ∀ q, q < H1.n → blkOf vo ≠ some q → H2.get q = H1.get q := fun q hq hv => by rw [c4.2 q ⟨by omega, hv⟩, push_lt hq]
          have K2 : Keep (all H0) H0 H2 := (m2.keep.trans (hp.mono fun b hb => Nat.lt_of_lt_of_le hb m2.keep.1)).trans c3
          have hB : B < H1.n := m2.lb.2
          have hM : M < H1.n := m2.lm.2
          have hS : S < H1.n := m2.ls.2
          have nw : ∀ q, q < H1.n → blkOf vo ≠ some q → blkOf vo' ≠ some q := fun q hq h1 h2 => by
            rcases c5 q h2 with h | h
            · exact h1 h
            · omega
          have w2 : Wk H0 H2 B M S vf nilS l ⟨st.set k 2, 0, []⟩ [] := m2.move n2 (g2 B hB h.ob) (g2 M hM h.om) (g2 S hS h.os) K2
          obtain ⟨bq, preq, hvq, hq1, hq2, hq3⟩ := u1
          have u1 : Qu H0 H1 vq (p :: left) := ⟨bq, preq, hvq, hq1, hq2, hq3⟩
          have bqv : blkOf vq = some bq := by rw [hvq]; rfl
          have qo : blkOf vo ≠ some bq := fun e => h.oq bq e bqv
          have u2 : Qu H0 H2 vq (p :: left) := u1.keep n2 fun q hq => by
            rw [bqv] at hq; injection hq with hq; subst hq
            exact g2 _ hq2 qo
          -- the queue
          obtain ⟨b, o, wi, d1, d2, d3, d4, d5, _⟩ := en_at w.f he
          have d4' := ld_keep d4 d2 K2
          have sb : sameBlk (H1.push ⟨[.int .i64 (k : Int)], 1, true⟩) H2 (blkOf (ptr b (o + 1))) = true := sameBlk_of fun c hc => by
            simp only [blkOf, Option.some.injEq] at hc
            subst hc
            have hb0 : b < H0.n := d2
            exact c3.2 b d2
          obtain ⟨vq', H3, f1, f2, f3, f4, f5⟩ := u2.app (d5.keep K2) (by
            have : (p :: left).length ≤ todo l (p :: left) out := by simp only [todo]; omega
            omega)
          obtain ⟨vq2, q1, q2, q3⟩ := f2.next (p := p) (ps := left ++ e.I)
          have K3 : Keep (all H0) H0 H3 := K2.trans ⟨f3, fun q hq => f4 q (Nat.lt_of_lt_of_le hq K2.1) fun e => by
            rw [bqv] at e; injection e with e
            have : q < H0.n := hq
            omega⟩
          have w3 : Wk H0 H3 B M S vf nilS l ⟨st.set k 2, 0, []⟩ [] := w2.move f3 (f4 B (by omega) h.qb) (f4 M (by omega) h.qm) (f4 S (by omega) h.qs) K3
          have ds2 : Ds vo' vq := fun q h1 h2 => by
            rw [bqv] at h2; injection h2 with h2; subst h2
            exact nw _ hq2 qo h1
          have o3 : Acc (all H0) H3 1 vo' (out ++ [k]).length (NI (out ++ [k])) := by
            have : NI out ++ [.int .i64 (k : Int)] = NI (out ++ [k]) := by simp [NI]
            rw [this] at c2
            have e : out.length + 1 = (out ++ [k]).length := by simp
            rw [e] at c2
            rcases c2 with x | ⟨q, x1, x2, x3, x4, x5⟩
            · exact .inl x
            · exact .inr ⟨q, x1, x2, Nat.lt_of_lt_of_le x3 f3, by rw [f4 q x3 (fun e => ds2 q (by rw [x1]; rfl) e)]; exact x4, x5⟩
          have nwq : ∀ q, q < H2.n → blkOf vq ≠ some q → blkOf vq' ≠ some q := fun q hq h1 h2 => by
            rcases f5 q h2 with h | h
            · exact h1 h
            · omega
          obtain ⟨H', v, r1, r2, r3⟩ := ih H3 vo' vq2 (left ++ e.I) (out ++ [k]) (by rw [← him]; omega) (by rw [← him]; simp only [List.length_append, List.length_singleton]; omega) ⟨⟨_, w3, fun j hj => by
            have hks : k < st.length := by have : st.length = l.length := w.sl; omega
            rw [List.getElem?_set]
            split
            · rename_i hjk; subst hjk; simp [hks]
            · rename_i hjk
              rw [hst j hj]
              have : (j ∈ out ++ [k]) ↔ j ∈ out := by simp; intro e; exact absurd e.symm hjk
              simp only [this]⟩, o3, q2, nw B hB h.ob, nw M hM h.om, nw S hS h.os, by rw [q3]; exact nwq B (by omega) h.qb, by rw [q3]; exact nwq M (by omega) h.qm, by rw [q3]; exact nwq S (by omega) h.qs, fun q h1 h2 => by
            rw [q3] at h2
            rcases f5 q h2 with h | h
            · exact ds2 q h1 h
            · have := c2.at h1; omega⟩
          refine ⟨H', v, ?_, r2, by simp only [bfs, hf, if_neg ho, him]; exact r3⟩
          refine Ev.step (fun n m => f11_L0.eq_2 _ _ _ _ _ _ _ _ _) ?_
          simp only [ruA, ruB, ruC, ruE, ruD, lenStr, Int.reduceBEq, Int.reduceBNe, h.qu.lenS, e0, w.l1, a1, a2, keyB_str, if_true, lk, lkV_some, w.l2, own_at hkl, ls, e2, m1', b1, c1, d1, sb, d4', Bool.true_and, Bool.and_true, f1, f11_J1, q1]
          exact r1
end
/-- What a root reaches. -/
theorem reach_ok {H0 : Heap} {vf : Value} {l : List En} (hf : Sli (all H0) H0 l vf) (hk : Eok l) (root : List UInt8) (hT : todo l [root] [] ≤ 1000000000) :
    ∃ H' v, Cl 11 [.string (bs root), vf] H0 (.tuple #[v, .int .i64 (mayN l)]) H' ∧ Keep (all H0) H0 H' ∧
      ((mayN l ≠ 0 → Sl (all H') H' 1 v 0 (I [])) ∧ (mayN l = 0 → Sl (all H') H' 1 v (sortI ((bfs l (todo l [root] []) [root] []).map fun (k : Nat) => (k : Int))).length (I (sortI ((bfs l (todo l [root] []) [root] []).map fun (k : Nat) => (k : Int)))))) := by
  obtain ⟨H1, k1, b1, b2⟩ := begin_ok hf hk.n
  by_cases hm : mayN l = 0
  case neg =>
    refine ⟨H1, nilS, ?_, k1, fun _ => Sl.nil, fun h => absurd h hm⟩
    refine Ev.enter (fun n => f11_eq rfl n _ _ _) ?_
    have e : (mayN l != 0) = true := by simpa using hm
    simp only [f11, ruA, ruB, ruC, ruE, ruD, lenStr, Int.reduceBEq, Int.reduceBNe]
    refine Ev.callC (b1 hm) ?_
    simp only [ruA, ruB, ruC, ruE, ruD, lenStr, Int.reduceBEq, Int.reduceBNe, e]
    exact Ev.pure _
  case pos =>
    obtain ⟨B, M, S, c1, c2⟩ := b2 hm
    have e0 : ((0 : Int) != 0) = false := rfl
    have kp : Keep (all H1) H1 (H1.push ⟨[.string (bs root)], 1, true⟩) := push_keep
    have gp : (H1.push ⟨[.string (bs root)], 1, true⟩).get H1.n = some ⟨[.string (bs root)], 1, true⟩ := push_self
    have np : (H1.push ⟨[.string (bs root)], 1, true⟩).n = H1.n + 1 := push_n
    have bp : bldS 1 1 [.string ⟨#[]⟩] [(0, 1, .string (bs root))] H1 = some (.slice (some ⟨H1.n, 0, none⟩) 1 1, H1.push ⟨[.string (bs root)], 1, true⟩) := b1s
    generalize H1.push ⟨[.string (bs root)], 1, true⟩ = H2 at *
    have c2' : Wk H0 H1 B M S vf nilS l ⟨List.replicate l.length 0, 0, []⟩ [] := c2
    have w2 := c2'.move (by omega) (kp.2 B c2.lb.2) (kp.2 M c2.lm.2) (kp.2 S c2.ls.2) (k1.tr kp)
    have lb := c2.lb.2
    have lm := c2.lm.2
    have ls := c2.ls.2
    obtain ⟨H', v, r1, r2, r3⟩ := reach_loop hk hT (todo l [root] []) H2 nilS (.slice (some ⟨H1.n, 0, none⟩) 1 1) [root] [] (Nat.le_refl _) (by simp) ⟨⟨_, w2, fun k hk => by simp [hk]⟩, Acc.nil, ⟨H1.n, [], rfl, k1.1, by omega, gp⟩, by simp [blkOf], by simp [blkOf], by simp [blkOf], by simp [blkOf]; omega, by simp [blkOf]; omega, by simp [blkOf]; omega, fun q h1 => by simp [blkOf] at h1⟩
    have r1 := r1.loop
    refine ⟨H', v, ?_, r2, fun h => absurd hm h, fun _ => r3⟩
    rw [hm]
    refine Ev.enter (fun n => f11_eq rfl n _ _ _) ?_
    simp only [f11, ruA, ruB, ruC, ruE, ruD, lenStr, Int.reduceBEq, Int.reduceBNe]
    refine Ev.callC c1 ?_
    simp only [ruA, ruB, ruC, ruE, ruD, lenStr, Int.reduceBEq, Int.reduceBNe, e0, bp]
    exact r1
end Go.Eng
