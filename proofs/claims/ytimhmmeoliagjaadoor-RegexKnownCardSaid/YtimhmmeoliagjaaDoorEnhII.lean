import Derived.Test.YtimhmmeoliagjaaDoorEnhHH
import Derived.Test.YtimhmmeoliagjaaDoorEnhBB
import Derived.Test.YtimhmmeoliagjaaDoorEnhCC
set_option linter.unusedVariables false
namespace Go.Eng
open Go

noncomputable def acallP (P : Program) (gl : Bool) (E EP : Ext) (pan : FuncId → Bool) : Nat → CallF
  | 0, _, _, _ => none
  | n + 1, f, args, H =>
    if pan f = true then
      match P.funcs[f]? with
      | none => none
      | some fn =>
        match fn.name == "runtime.NumGoroutine", fn.body with
        | false, some c =>
          match EP f with
          | some g => g args H
          | none => if (okCode P gl c && panOk pan c) = true then acodeK realP P (acallP P gl E EP pan n) n (max args.length fn.ntmps) c (env0 args) H (fin P fn) else none
        | _, _ => none
    else acall P gl E (n + 1) f args H
def EPSound (P : Program) (gl : Bool) (EP : Ext) : Prop := ∀ f g, EP f = some g → ∀ (args : List Value) (H : Heap) (v : Value) (H' : Heap), g args H = some (v, H') →
  ∀ (m : Mp) (w : World) (args' : List Value), LRel m args args' → HRel m H w → MLow m H.n → GOK P gl m →
    (isP v = false → Calls P f args'.toArray w fun e w' => ∃ m' v', e = .returned v' ∧ VRel m' v v' ∧ Step m H w m' H' w') ∧
    ∀ t u, v = .iface t u → flat1 u = true ∧ Calls P f args'.toArray w fun e w' => ∃ m', e = .panicked [entry t u] ∧ Step m H w m' H' w'

section
variable {P : Program} {gl : Bool} {E EP : Ext} {pan : FuncId → Bool}
theorem acallP_off {n : Nat} {f : FuncId} {args : List Value} {H : Heap} (h : pan f = false) : acallP P gl E EP pan n f args H = acall P gl E n f args H := by
  cases n with
  | zero => rfl
  | succ n => simp [acallP, h]
theorem cut1_mono (hEM : ExtMono E) (n : Nat) : CMono (cut1 pan (acallP P gl E EP pan n)) := fun f args H v H' h => by
  unfold cut1 at h
  split at h
  · cases h
  · rename_i hp
    rw [acallP_off (by simpa using hp)] at h
    exact acall_mono hEM n f args H v H' h
theorem acallP_sound (hm : P.follows .mixedOrders = true) (hE : ExtSound P gl E) (hEM : ExtMono E) (hEP : EPSound P gl EP) : ∀ n, CSoundP P gl pan (acallP P gl E EP pan n)
  | 0 => fun f args H v H' h => by cases h
  | n + 1 => fun f args H v H' h m w args' ha hr hlow hg => by
    cases hpf : pan f with
    | false =>
      rw [acallP_off hpf] at h
      exact ⟨fun _ => acall_sound hm hE hEM (n + 1) f args H v H' h m w args' ha hr hlow hg, fun h => by cases h⟩
    | true =>
      simp only [acallP, hpf, if_true] at h
      split at h
      · cases h
      · rename_i fn hf
        split at h
        case h_2 => cases h
        rename_i c hname hb
        have hen : (callFunc f args'.toArray).run P w = .ok (.enter f args'.toArray) w := by
          have hn : ¬ fn.name = "runtime.NumGoroutine" := by simpa using hname
          simp [callFunc, hf, hn, hb]
        split at h
        · rename_i g hg'
          obtain ⟨q1, q2⟩ := hEP f g hg' args H v H' h m w args' ha hr hlow hg
          refine ⟨fun hp => .inl ⟨hen, q1 (hp.resolve_left (by simp))⟩, fun _ t u hv => ?_⟩
          obtain ⟨hu, q⟩ := q2 t u hv
          exact ⟨hu, hen, q⟩
        · split at h
          case isFalse => cases h
          rename_i hok
          rw [Bool.and_eq_true] at hok
          have hsz : ({ tmps := args'.toArray ++ Array.replicate (fn.ntmps - args'.toArray.size) undef, defers := [] } : Act).tmps.size = max args.length fn.ntmps := by
            simp [ha.1]; omega
          have hER : ERel m (env0 args) { tmps := args'.toArray ++ Array.replicate (fn.ntmps - args'.toArray.size) undef, defers := [] } := by
            intro t
            simp only [env0, Array.getD_eq_getD_getElem?, List.getD_eq_getElem?_getD]
            by_cases ht : t < args'.length
            · have ht' : t < args.length := by rw [ha.1]; exact ht
              rw [Array.getElem?_append_left (by simpa using ht)]
              simp only [List.getElem?_toArray, List.getElem?_eq_getElem ht, List.getElem?_eq_getElem ht', Option.getD_some]
              exact ha.2 t _ _ (List.getElem?_eq_getElem ht') (List.getElem?_eq_getElem ht)
            · have ht' : ¬ t < args.length := by rw [ha.1]; exact ht
              rw [List.getElem?_eq_none (Nat.le_of_not_lt ht'), Array.getElem?_append_right (by simpa using Nat.le_of_not_lt ht)]
              have : ((Array.replicate (fn.ntmps - args'.toArray.size) undef)[t - args'.toArray.size]?).getD undef = undef := by
                rw [Array.getElem?_replicate]; split <;> rfl
              rw [this]
              exact VRel.undef
          have hcode := acodeP_sound (acallP_sound hm hE hEM hEP n) (cut1_mono hEM n) hm c h hg hER hr hlow hok.1 hok.2 hsz
          have key : Calls P f args'.toArray w fun e w' => (∃ m' v', e = .returned v' ∧ VRel m' v v' ∧ Step m H w m' H' w') ∨ ∃ t u m', v = .iface t u ∧ flat1 u = true ∧ e = .panicked [entry t u] ∧ Step m H w m' H' w' := by
            refine calls_of_wp hf hb (Code.wp_mono (fun x a' w' hp => ?_) hcode)
            rcases hp with ⟨e, env', H1, m', rfl, h1, q1, q2, q3, q4, _⟩ | ⟨t, u, m', env', h0, hu, rfl, q1, q2, q3, q4, _⟩
            · cases e with
              | exit id => cases h1
              | normal =>
                obtain ⟨rfl, v', r1, r2⟩ := results_sound q1 q2.rel (show Eng.results P fn env' H1 = some (v, H') from h1)
                exact ⟨q4, v', r1, .inl ⟨m', v', rfl, r2, q2⟩⟩
              | ret =>
                obtain ⟨rfl, v', r1, r2⟩ := results_sound q1 q2.rel (show Eng.results P fn env' H1 = some (v, H') from h1)
                exact ⟨q4, v', r1, .inl ⟨m', v', rfl, r2, q2⟩⟩
            · exact ⟨q4, .inr ⟨t, u, m', h0, hu, rfl, q2⟩⟩
          refine ⟨fun hp => .inl ⟨hen, key.mono fun e w' h => ?_⟩, fun _ t u hv => ?_⟩
          · rcases h with h | ⟨t, u, m', hv, _⟩
            · exact h
            · have := hp.resolve_left (by simp)
              rw [hv] at this; cases this
          · subst hv
            obtain ⟨e0, w0, h0⟩ := calls_elim key
            refine ⟨?_, hen, key.mono fun e w' h => ?_⟩
            · rcases h0 with ⟨m', v', _, hv, _⟩ | ⟨t', u', m', hv, hu, _⟩
              · exact absurd hv.notP (by simp [isP])
              · injection hv with h1 h2; subst h2; exact hu
            · rcases h with ⟨m', v', _, hv, _⟩ | ⟨t', u', m', hv, hu, he, hs⟩
              · exact absurd hv.notP (by simp [isP])
              · injection hv with h1 h2; subst h1; subst h2; exact ⟨m', he, hs⟩

theorem aopsKP_mono {C : CallF} {N : Nat} (hC : CMono C) (all : List Oper) {kk : Env → Heap → Option (Value × Heap)} {r : Value × Heap} (hk : ∀ env H, kk env H = some r → Mono H r.2) : ∀ (l : List Oper) {env : Env} {H : Heap}, aopsK realP P C N all l env H kk = some r → Mono H r.2
  | [], env, H, h => hk env H h
  | o :: l, env, H, h => by
    simp only [aopsK] at h
    cases hp : plainOf o with
    | some x => rw [hp] at h; exact aopsKP_mono hC all hk l h
    | none =>
      simp only [hp, realP_b, bndP, opK_eq] at h
      split at h
      · rename_i v H1 hv
        have hm : Mono H H1 := by
          split at hv
          · exact aop_mono hC hv
          · simp only [Option.some.injEq, Prod.mk.injEq] at hv; rw [hv.2]; exact Mono.refl _
        split at h
        · simp only [Option.some.injEq] at h; subst h; exact hm
        · exact hm.trans (aopsKP_mono hC all hk l h)
      · cases h
theorem aopsDKP_mono {C : CallF} {N : Nat} (hC : CMono C) (all : List Oper) (bf : List Nat) {kk : Env → Heap → Option (Value × Heap)} {r : Value × Heap} (hk : ∀ env H, kk env H = some r → Mono H r.2) : ∀ (l : List Oper) {i : Nat} {acts : List (Nat × Bool × Heap × Heap)} {reads : List (Nat × Option Nat)} {env : Env} {H : Heap}, aopsDK realP P C N all bf l i acts reads env H kk = some r → Mono H r.2
  | [], _, _, _, env, H, h => hk env H h
  | o :: l, i, acts, reads, env, H, h => by
    have op : ∀ {k : Value → Heap → Option (Value × Heap)}, bndP (opK P C all o env H) k = some r → (∀ v H1, k v H1 = some r → Mono H1 r.2) → Mono H r.2 := fun {k} h hk => by
      simp only [bndP, opK_eq] at h
      split at h
      · rename_i v H1 hv
        have hm : Mono H H1 := by
          split at hv
          · exact aop_mono hC hv
          · simp only [Option.some.injEq, Prod.mk.injEq] at hv; rw [hv.2]; exact Mono.refl _
        split at h
        · simp only [Option.some.injEq] at h; subst h; exact hm
        · exact hm.trans (hk v H1 h)
      · cases h
    have ch : ∀ {b : Bool} {x : Option (Value × Heap)}, chk b x = some r → x = some r := fun {b x} h => by
      unfold chk at h
      split at h
      · exact h
      · cases h
    simp only [aopsDK, realP_b, realP_c] at h
    split at h
    · exact op (ch h) fun v H1 h => aopsDKP_mono hC all bf hk l h
    · exact op h fun v H1 h => aopsDKP_mono hC all bf hk l (ch h)
    · exact op h fun v H1 h => aopsDKP_mono hC all bf hk l h
    · split at h
      · exact aopsDKP_mono hC all bf hk l h
      · exact op h fun v H1 h => aopsDKP_mono hC all bf hk l h
theorem acodeKP_mono {C : CallF} {N fuel : Nat} (hC : CMono C) {r : Value × Heap} : ∀ (c : Code) {env : Env} {H : Heap} {kk : Kont (Value × Heap)}, acodeK realP P C fuel N c env H kk = some r → (∀ e env H, kk e env H = some r → Mono H r.2) → Mono H r.2 := by
  intro c
  induction c with
  | skip => intro env H kk h hk; exact hk _ _ _ h
  | exit id => intro env H kk h hk; exact hk _ _ _ h
  | ret => intro env H kk h hk; exact hk _ _ _ h
  | label l => intro env H kk h hk; exact hk _ _ _ h
  | region id ops draw =>
    intro env H kk h hk
    simp only [acodeK, aregionK] at h
    split at h
    · split at h
      · exact aopsDKP_mono hC _ _ (fun env H h => hk _ _ _ h) _ h
      · cases h
    · exact aopsKP_mono hC _ (fun env H h => hk _ _ _ h) _ h
  | seq x y ihx ihy =>
    intro env H kk h hk
    simp only [acodeK] at h
    refine ihx h fun e env H h => ?_
    cases e with
    | normal => exact ihy h hk
    | _ => exact hk _ _ _ h
  | cond c x y ihx ihy =>
    intro env H kk h hk
    simp only [acodeK, realP_i, iff] at h
    split at h
    · exact ihx h hk
    · exact ihy h hk
    · cases h
  | block id body ih =>
    intro env H kk h hk
    simp only [acodeK] at h
    refine ih h fun e env H h => ?_
    cases e with
    | exit i =>
      simp only [onBlock] at h
      split at h
      · exact hk _ _ _ h
      · exact hk _ _ _ h
    | normal => exact hk _ _ _ h
    | ret => exact hk _ _ _ h
  | loop body ih =>
    intro env H kk h hk
    simp only [acodeK] at h
    have key : ∀ (n : Nat) {env : Env} {H : Heap}, aloopK (acodeK realP P C fuel N body) n env H kk = some r → Mono H r.2 := by
      intro n
      induction n with
      | zero => intro env H h; cases h
      | succ n ihn =>
        intro env H h
        simp only [aloopK] at h
        refine ih h fun e env H h => ?_
        cases e with
        | normal => exact ihn h
        | _ => exact hk _ _ _ h
    exact key fuel h
  | scope body ih => intro env H kk h hk; simp only [acodeK] at h; exact ih h hk
  | _ => intro env H kk h hk; simp only [acodeK] at h; cases h
theorem acallP_mono (hEM : ExtMono E) (hPM : ExtMono EP) : ∀ n, CMono (acallP P gl E EP pan n)
  | 0 => fun f args H v H' h => by cases h
  | n + 1 => fun f args H v H' h => by
    cases hpf : pan f with
    | false => rw [acallP_off hpf] at h; exact acall_mono hEM (n + 1) f args H v H' h
    | true =>
      simp only [acallP, hpf, if_true] at h
      split at h
      · cases h
      · split at h
        case h_2 => cases h
        split at h
        · rename_i g hg
          exact hPM f g hg f args H v H' h
        · split at h
          · refine acodeKP_mono (acallP_mono hEM hPM n) _ h fun e env H1 h => ?_
            have fin : ∀ {fn : Func} {env : Env} {H1 : Heap}, Eng.results P fn env H1 = some (v, H') → H' = H1 := fun hr => by
              unfold Eng.results at hr
              simp only [Option.map_eq_some_iff, Prod.mk.injEq] at hr
              obtain ⟨_, _, _, rfl⟩ := hr
              rfl
            cases e with
            | normal => rw [fin h]; exact Mono.refl _
            | ret => rw [fin h]; exact Mono.refl _
            | exit id => cases h
          · cases h
theorem acallP_eq {n : Nat} {f : FuncId} {args : List Value} {H : Heap} {fn : Func} {c : Code} (hp : pan f = true) (hf : P.funcs[f]? = some fn) (hn : (fn.name == "runtime.NumGoroutine") = false) (hb : fn.body = some c) (hE : EP f = none) (hok : okCode P gl c = true) (hpo : panOk pan c = true) {N : Nat} (hN : max args.length fn.ntmps = N) :
    acallP P gl E EP pan (n + 1) f args H = acodeK realP P (acallP P gl E EP pan n) n N c (env0 args) H (fin P fn) := by
  subst hN
  simp [acallP, hp, hf, hn, hb, hE, hok, hpo]
theorem acallP_ext {n : Nat} {f : FuncId} {args : List Value} {H : Heap} {fn : Func} {c : Code} {g : List Value → Heap → Option (Value × Heap)} (hp : pan f = true) (hf : P.funcs[f]? = some fn) (hn : (fn.name == "runtime.NumGoroutine") = false) (hb : fn.body = some c) (hE : EP f = some g) :
    acallP P gl E EP pan (n + 1) f args H = g args H := by
  simp [acallP, hp, hf, hn, hb, hE]

abbrev ClQ (P : Program) (gl : Bool) (E EP : Ext) (pan : FuncId → Bool) (f : FuncId) (args : List Value) (H : Heap) (v : Value) (H' : Heap) : Prop := Ev (fun n _ => acallP P gl E EP pan n f args H) (v, H')
theorem ClQ.of {f : FuncId} {args : List Value} {H : Heap} {v : Value} {H' : Heap} (h : ClP P gl E f args H v H') (hp : pan f = false) : ClQ P gl E EP pan f args H v H' :=
  Ev.congr (fun n _ => acallP_off hp) h
theorem Ev.callQ {f : FuncId} {args : List Value} {H : Heap} {v : Value} {H' : Heap} {k : Nat → Nat → Value → Heap → Option (Value × Heap)} {r : Value × Heap} (h : ClQ P gl E EP pan f args H v H') (hv : isP v = false) (h' : Ev (fun n m => k n m v H') r) : Ev (fun n m => bndP (acallP P gl E EP pan n f args H) (k n m)) r := by
  obtain ⟨N, h⟩ := h
  obtain ⟨M, h'⟩ := h'
  refine ⟨max N M, fun n m hn hm => ?_⟩
  have h0 : acallP P gl E EP pan n f args H = some (v, H') := h n n (by omega) (by omega)
  simp only [h0, bndP, hv]
  exact h' n m (by omega) (by omega)
theorem Ev.panQ {f : FuncId} {args : List Value} {H : Heap} {v : Value} {H' : Heap} {k : Nat → Nat → Value → Heap → Option (Value × Heap)} (h : ClQ P gl E EP pan f args H v H') (hv : isP v = true) : Ev (fun n m => bndP (acallP P gl E EP pan n f args H) (k n m)) (v, H') := by
  obtain ⟨N, h⟩ := h
  refine ⟨N, fun n m hn hm => ?_⟩
  have h0 : acallP P gl E EP pan n f args H = some (v, H') := h n n hn hn
  simp only [h0, bndP, hv, if_true]
end
section
variable {k : Value → Heap → Option (Value × Heap)} {H : Heap}
theorem ruP : ((realP).b = bndP ∧ (realP).i = iff ∧ (realP).c = chk) ∧
    ((∀ (kk : IntKind) (n : Int) (H : Heap) (k : Value → Heap → Option (Value × Heap)), bndP (some (.int kk n, H)) k = k (.int kk n) H) ∧ (∀ (b : Bool) (H : Heap) (k : Value → Heap → Option (Value × Heap)), bndP (some (.bool b, H)) k = k (.bool b) H) ∧
     (∀ (s : ByteArray) (H : Heap) (k : Value → Heap → Option (Value × Heap)), bndP (some (.string s, H)) k = k (.string s) H) ∧ (∀ (a : Option Addr) (H : Heap) (k : Value → Heap → Option (Value × Heap)), bndP (some (.pointer a, H)) k = k (.pointer a) H)) ∧
    ((∀ (a : Option Addr) (n c : Nat) (H : Heap) (k : Value → Heap → Option (Value × Heap)), bndP (some (.slice a n c, H)) k = k (.slice a n c) H) ∧ (∀ (a : Array Value) (H : Heap) (k : Value → Heap → Option (Value × Heap)), bndP (some (.agg a, H)) k = k (.agg a) H) ∧
     (∀ (a : Array Value) (H : Heap) (k : Value → Heap → Option (Value × Heap)), bndP (some (.tuple a, H)) k = k (.tuple a) H) ∧ (∀ (H : Heap) (k : Value → Heap → Option (Value × Heap)), bndP (some (undef, H)) k = k undef H) ∧ (∀ (f : Fn) (a b : Array Value) (H : Heap) (k : Value → Heap → Option (Value × Heap)), bndP (some (.func f a b, H)) k = k (.func f a b) H)) ∧
    (∀ (v : Value) (H : Heap) (k : Value → Heap → Option (Value × Heap)), bndP (up (some v) H) k = bndP (some (v, H)) k) :=
  ⟨⟨realP_b, realP_i, realP_c⟩, ⟨fun _ _ _ _ => of_eq_true (eq_self _), fun _ _ _ => of_eq_true (eq_self _), fun _ _ _ => of_eq_true (eq_self _), fun _ _ _ => of_eq_true (eq_self _)⟩,
    ⟨fun _ _ _ _ _ => of_eq_true (eq_self _), fun _ _ _ => of_eq_true (eq_self _), fun _ _ _ => of_eq_true (eq_self _), fun _ _ => of_eq_true (eq_self _), fun _ _ _ _ _ => of_eq_true (eq_self _)⟩, fun _ _ _ => of_eq_true (eq_self _)⟩
theorem bndP_val {v : Value} (h : isP v = false) : bndP (some (v, H)) k = k v H := by simp [bndP, h]
end
end Go.Eng
