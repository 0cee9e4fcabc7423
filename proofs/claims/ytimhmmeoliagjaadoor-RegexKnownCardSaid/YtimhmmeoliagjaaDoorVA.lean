import Derived.Test.YtimhmmeoliagjaaDoorYY
set_option maxRecDepth 1000000
namespace Go.Eng
open Go

def okP (T : List Nat) (p : Rx → Bool) : Bool := match parseR T with | .ok t => p t | _ => false
theorem okP_elim {T : List Nat} {p : Rx → Bool} (h : okP T p = true) : ∃ t, parseR T = .ok t ∧ p t = true := by
  unfold okP at h
  split at h
  · exact ⟨_, by assumption, h⟩
  · cases h
def repN (l : List Nat) : Nat → List Nat
  | 0 => []
  | n + 1 => l ++ repN l n
def starN : Nat → Rx → Rx
  | 0, x => x
  | n + 1, x => .star (starN n x)
def plusN : Nat → Rx → Rx
  | 0, x => x
  | n + 1, x => .plus (plusN n x)
def levN : Nat → Rx
  | 0 => .set (ofS [97])
  | n + 1 => .plus (.alt (levN n) .nil)
theorem mt_starN {T : List Nat} {x : Rx} {i j : Nat} (h : Mt T x i j) : ∀ n, Mt T (starN n x) i j
  | 0 => h
  | n + 1 => .starS (mt_starN h n) (.star0 h.le.2)
theorem mt_plusN {T : List Nat} {x : Rx} {i j : Nat} (h : Mt T x i j) : ∀ n, Mt T (plusN n x) i j
  | 0 => h
  | n + 1 => .plus (mt_plusN h n) (.star0 h.le.2)
theorem mt_all {T : List Nat} {x : Rx} (h : ∀ i, i < T.length → Mt T x i (i + 1)) : ∀ d i, i + d = T.length → Mt T (.star x) i T.length
  | 0, i, hi => by obtain rfl : i = T.length := by omega
                   exact .star0 (Nat.le_refl _)
  | d + 1, i, hi => .starS (h i (by omega)) (mt_all h d (i + 1) (by omega))
theorem mt_a {n i : Nat} (h : i < n) : Mt (List.replicate n 97) (.set (ofS [97])) i (i + 1) := .set (c := 97) (by rw [List.getElem?_replicate, if_pos h]) (by decide +kernel)
theorem mt_0 {n i : Nat} (h : i < n) : Mt (List.replicate n 0) (.set (ofS [0])) i (i + 1) := .set (c := 0) (by rw [List.getElem?_replicate, if_pos h]) (by decide +kernel)
theorem lev_mt : ∀ n, Mt (List.replicate 4 97) (levN (n + 1)) 0 4
  | 0 => .plus (k := 1) (.altL (mt_a (by decide))) (mt_all (T := List.replicate 4 97) (fun i hi => .altL (mt_a (by simpa using hi))) 3 1 rfl)
  | n + 1 => .plus (.altL (lev_mt n)) (.star0 (by simp))
theorem kn1 : okP (repN [97] 128) (fun t => decide (t.size = 255) && decide ((prT t).length ≤ 1024)) = true := by kernel_rfl
theorem kn2 : parseR (repN [97] 129) = .big := by kernel_rfl
theorem kn3 : okP (repN [40] 511 ++ [97] ++ repN [41] 511) (fun _ => true) = true := by kernel_rfl
theorem kn4 : parseR (repN [97] 1025) = .big := by kernel_rfl
theorem kn5 : okP ([97] ++ repN [42] 255) (fun _ => true) = true := by kernel_rfl
theorem kn6 : parseR ([97] ++ repN [42] 256) = .big := by kernel_rfl
theorem kn7 : parseR (repN [97] 200 ++ [41]) = .bad 200 := by kernel_rfl
theorem kn8 : parseR ([40, 41] ++ repN [43] 200 ++ [97] ++ repN [42] 50) = .ok (.seq (plusN 200 .nil) (starN 50 (.set (ofS [97])))) := by kernel_rfl
theorem kn8s : (Rx.seq (plusN 200 .nil) (starN 50 (.set (ofS [97])))).size ≤ 256 := by decide +kernel
theorem kn8t : takesN ((Rx.seq (plusN 200 .nil) (starN 50 (.set (ofS [97])))).flat 0) [97, 97, 97] = true :=
  (takesN_iff (Nat.le_trans kn8s (by decide))).2 (.seq (k := 0) (mt_plusN (.nil (by decide)) 200) (mt_starN (x := .star (.set (ofS [97]))) (mt_all (T := List.replicate 3 97) (fun i hi => mt_a (by simpa using hi)) 3 0 rfl) 49))
theorem kn9 : parseR (repN [40] 60 ++ [97] ++ repN [124, 40, 41, 41, 43] 60) = .ok (levN 60) := by kernel_rfl
theorem kn9s : (levN 60).size ≤ 256 := by decide +kernel
theorem kn9t : takesN ((levN 60).flat 0) [97, 97, 97, 97] = true := (takesN_iff (Nat.le_trans kn9s (by decide))).2 (lev_mt 59)
theorem kn10 : parseR [92, 120, 48, 48, 42] = .ok (.star (.set (ofS [0]))) := by kernel_rfl
theorem kn10t : takesN ((Rx.star (.set (ofS [0]))).flat 0) (List.replicate 8192 0) = true :=
  (takesN_iff (by decide)).2 (mt_all (T := List.replicate 8192 0) (fun i hi => mt_0 (by rwa [List.length_replicate] at hi)) 8192 0 (by rw [List.length_replicate]))
theorem kn11 : parseR [97] = .ok (.set (ofS [97])) := by kernel_rfl
end Go.Eng
