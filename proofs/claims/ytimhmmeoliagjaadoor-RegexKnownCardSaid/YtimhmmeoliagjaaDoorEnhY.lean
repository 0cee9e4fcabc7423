import Derived.Test.YtimhmmeoliagjaaDoorEnhF
import Derived.DeepKeys
import Derived.ChangeKeys
set_option linter.unusedVariables false
namespace Go.Eng
open Go

theorem keyLits_struct {P : Program} {t : TypeId} {fs : Array Field} {d : Nat} {cs : List Value} (h : P.underlying t = some (.struct fs)) :
    P.keyLits (d + 1) t cs = if cs.length = P.cellsOf t ∧ fs.all (·.name != "_") = true then (fs.toList.mapM fun f => P.keyLits d f.type ((cs.drop f.offset).take (P.cellsOf f.type))).map List.flatten else none := by
  rw [Program.keyLits.eq_def]
  simp only [h]
theorem eqA_of {q : Prop} [Decidable q] {P : Program} {t : TypeId} {m : Nat} {xs ys : List Value} {lx ly : List Lit} (hm : m ≤ 10000) (hk : P.keyTypeAt m t = true) (hu : (match P.underlying t with | some (.array _ _) | some (.struct _) => true | _ => false) = true)
    (hg : P.eqGuardType P.depth t = false) (hP : P.keyType t = true) (fx : xs.all flat1 = true) (fy : ys.all flat1 = true) (nx : xs.length = P.cellsOf t) (ny : ys.length = P.cellsOf t)
    (hx : P.keyLits (P.types.size + 1) t xs = some lx) (hy : P.keyLits (P.types.size + 1) t ys = some ly) (hq : lx = ly ↔ q) : eqA P t (.agg xs.toArray) (.agg ys.toArray) = some (decide q) := by
  have key : ∀ {zs : List Value} {l : List Lit}, zs.length = P.cellsOf t → P.keyLits (P.types.size + 1) t zs = some l → keyOf P t (.agg zs.toArray) = some (.string (keyBytes l)) := by
    intro zs l hz hl
    unfold keyOf
    have hf : Value.formed P t (.agg zs.toArray) = true := by
      unfold Value.formed
      revert hu
      cases P.underlying t with
      | none => intro h; cases h
      | some d => cases d <;> first | (intro h; cases h; done) | (intro _; simp [hz])
    revert hu
    cases hd : P.underlying t with
    | none => intro h; cases h
    | some d =>
      cases d <;> first | (intro h; cases h; done) | skip
      all_goals
        intro _
        simp only [hP, hf, Bool.and_self, if_true]
        show Option.map _ (P.keyLits (P.types.size + 1) t zs) = _
        rw [hl]; rfl
  obtain ⟨r, h1, h2⟩ := run_equal_deep (P := P) default hm hk hu (key nx hx) (key ny hy)
  unfold eqA
  have g : (flat (.agg xs.toArray) && flat (.agg ys.toArray) && !P.eqGuardType P.depth t) = true := by
    simp only [flat, hg, Bool.not_false, Bool.and_true, Bool.and_eq_true]
    exact ⟨by simpa using fx, by simpa using fy⟩
  rw [if_pos g, h1]
  simp only [Option.some.injEq]
  have h3 : r = true ↔ q := by
    rw [h2, ← hq]
    constructor
    · intro h
      simp only [Lit.string.injEq] at h
      exact keyLits_inj hx hy h
    · intro h; rw [h]
  cases hr : r with
  | true => simp [h3.1 hr]
  | false =>
    have : ¬ q := fun h => by rw [h3.2 h] at hr; cases hr
    simp [this]
end Go.Eng
