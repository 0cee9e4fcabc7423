/- Files by numbers, plainly. -/
import Derived.Test.YtiflkdemlhpibaaDoorIP
import Derived.Test.YtiflkdemlhpibaaDoorEnhGG
set_option linter.unusedVariables false
set_option linter.unusedSimpArgs false
namespace Go.Eng

def bringN (i n : Int) : Int := if n ≤ 0 then 0 else if Int.tmod i n < 0 then Int.tmod i n + n else Int.tmod i n
theorem bring_in {i n : Int} (h : 0 < n) : 0 ≤ bringN i n ∧ bringN i n < n := by
  unfold bringN
  rw [if_neg (by omega)]
  have h1 := Int.tmod_lt_of_pos i h
  have h2 := Int.lt_tmod_of_pos i h
  split <;> omega
def fname (k : Nat) : List UInt8 := 102 :: dg2 k
def rowOf (l : List (List Int)) (i : Nat) : List Int := match l[i]? with | some x => x | none => []
def lets (n : Nat) (zs : List Int) : List (List UInt8) := (zs.take 6).map fun z => fname (bringN z ((n : Int) + 1)).toNat
def netN (l : List (List Int)) : List En := (List.range (min l.length 20)).map fun i => ⟨fname i, lets (min l.length 20) (rowOf l i)⟩
theorem netN_len (l : List (List Int)) : (netN l).length = min l.length 20 := by simp [netN]
theorem fname_inj : ∀ i, i < 21 → ∀ j, j < 21 → fname i = fname j → i = j := by decide
theorem netN_dist (l : List (List Int)) : Dist (netN l) := by
  unfold Dist netN
  rw [List.map_map]
  refine List.Nodup.sublist (List.Sublist.refl _) ?_
  unfold List.Nodup
  rw [List.pairwise_map]
  refine List.Pairwise.imp_of_mem (fun {a b} ha hb h e => ?_) List.nodup_range
  simp only [List.mem_range] at ha hb
  exact h (fname_inj a (by omega) b (by omega) e)
theorem netN_at {l : List (List Int)} {i : Nat} (h : i < min l.length 20) : (netN l)[i]? = some ⟨fname i, lets (min l.length 20) (rowOf l i)⟩ := by
  simp [netN, h]
end Go.Eng
