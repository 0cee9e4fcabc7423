import Derived.Test.YtimhmmeoliagjaaDoorEnhBB
namespace Go.Eng
open Go

theorem ruA {α : Type} : ((real : Seam α).b = bnd ∧ (real : Seam α).i = iff ∧ (real : Seam α).c = chk) ∧
    ((∀ a : Option α, chk true a = a) ∧ (∀ (v : Value) (H : Heap) (k : Value → Heap → Option α), bnd (some (v, H)) k = k v H) ∧ (∀ (v : Value) (H : Heap) (k : Value → Heap → Option α), bnd (up (some v) H) k = k v H)) ∧
    (∀ a b : Option α, iff (.bool true) a b = a) ∧ (∀ a b : Option α, iff (.bool false) a b = b) :=
  ⟨⟨real_b, real_i, real_c⟩, ⟨fun _ => chk_t, fun _ _ _ => bnd_some, fun _ _ _ => bnd_up⟩, fun _ _ => iff_t, fun _ _ => iff_f⟩
theorem ruB : ((∀ (x : Option (Value × Heap)) (H : Heap), gd true x H = x) ∧ (∀ (x : Option (Value × Heap)) (H : Heap), gd false x H = some (undef, H)) ∧ (∀ b w : Bool, wd (.bool b) w = (b == w)) ∧ (∀ w : Bool, wd undef w = false)) ∧
    ((∀ (a b : Value) (H : Heap), pickV (.bool true) a b H = some (a, H)) ∧ (∀ (a b : Value) (H : Heap), pickV (.bool false) a b H = some (b, H)) ∧ (∀ x : Bool, unB .not (.bool x) = some (.bool !x))) ∧
    (∀ (b o : Nat) (H : Heap), nilC (ptr b o) H = some (ptr b o, H)) ∧ (∀ b o k : Nat, fAddr k (ptr b o) = some (ptr b (o + k))) :=
  ⟨⟨fun _ _ => gd_t, fun _ _ => gd_f, fun _ _ => wd_b, fun _ => wd_u⟩, ⟨fun _ _ _ => pick_t, fun _ _ _ => pick_f, fun _ => u_not⟩, fun _ _ _ => nilC_ptr, fun _ _ _ => fAddr_ptr⟩
theorem ruC (P : Program) (t : TypeId) (k : IntKind) : ((∀ a b : Int, binB P .lss t (.int k a) (.int k b) = some (.bool (decide (a < b)))) ∧ (∀ a b : Int, binB P .leq t (.int k a) (.int k b) = some (.bool (decide (a ≤ b)))) ∧ (∀ a b : Int, binB P .gtr t (.int k a) (.int k b) = some (.bool (decide (a > b)))) ∧ (∀ a b : Int, binB P .geq t (.int k a) (.int k b) = some (.bool (decide (a ≥ b))))) ∧
    ((∀ a b : Int, binB P .eql t (.int k a) (.int k b) = some (.bool (a == b))) ∧ (∀ a b : Int, binB P .neq t (.int k a) (.int k b) = some (.bool (a != b)))) ∧
    (∀ a b : Int, binB P .add t (.int k a) (.int k b) = some (.int k (k.wrap (a + b)))) ∧ (∀ a b : Int, binB P .sub t (.int k a) (.int k b) = some (.int k (k.wrap (a - b)))) :=
  ⟨⟨fun _ _ => b_lss, fun _ _ => b_leq, fun _ _ => b_gtr, fun _ _ => b_geq⟩, ⟨fun _ _ => b_eql, fun _ _ => b_neq⟩, fun _ _ => b_add, fun _ _ => b_sub⟩
theorem ruE (P : Program) (t : TypeId) : (∀ x y : ByteArray, binB P .eql t (.string x) (.string y) = some (.bool (x.toList == y.toList))) ∧ (∀ x y : ByteArray, binB P .neq t (.string x) (.string y) = some (.bool !(x.toList == y.toList))) := ⟨fun _ _ => b_seql, fun _ _ => b_sneq⟩
theorem ruD : ((∀ (a b : Value) (H : Heap), extr 0 (.tuple #[a, b]) H = some (a, H)) ∧ (∀ (a b : Value) (H : Heap), extr 1 (.tuple #[a, b]) H = some (b, H)) ∧ (∀ (a b c : Value) (H : Heap), extr 2 (.tuple #[a, b, c]) H = some (c, H)) ∧ (∀ (a b c : Value) (H : Heap), extr 0 (.tuple #[a, b, c]) H = some (a, H)) ∧ (∀ (a b c : Value) (H : Heap), extr 1 (.tuple #[a, b, c]) H = some (b, H))) ∧
    ((true == true) = true ∧ (true == false) = false ∧ (false == true) = false ∧ (false == false) = true ∧ (∀ a : Int, (a != a) = false)) ∧ (!true) = false ∧ (!false) = true ∧ decide True = true ∧ decide False = false ∧ (∀ n : Nat, 0 + n = n) :=
  ⟨⟨fun _ _ _ => extr0, fun _ _ _ => extr1, fun _ _ _ _ => extr2, fun _ _ _ _ => extr30, fun _ _ _ _ => extr31⟩, ⟨bt_tt, bt_tf, bt_ft, bt_ff, bt_bne⟩, of_eq_true (eq_self _), of_eq_true (eq_self _), of_eq_true (by simp), of_eq_true (by simp), fun n => Nat.zero_add n⟩
end Go.Eng
