/- The loop over the primes: the drawn part of a round. -/
import Derived.Test.YtmajmmknpajcgaaSC
import Derived.Lib.Builder
set_option linter.unusedVariables false
set_option linter.unusedSimpArgs false
set_option maxRecDepth 100000
namespace Go.Proofs
open Go.RowKit Go.Shelf
attribute [local go_sem] Oper.semAt_some

structure SGood (b k : Nat) (W : World) : Prop where
  c1 : W.cell? ⟨b + 1, 0, none⟩ = some (.int .i64 2)
  c2 : W.cell? ⟨b + 2, 0, none⟩ = some (.slice (some ⟨b, 0, none⟩) 8 8)
  c3 : W.cell? ⟨b + 3, 0, none⟩ = some (.int .i64 (k : Int))
  cr : W.cell? ⟨b, k, none⟩ = some (.int .u32 0)
  fr : W.frozen? ⟨b, k, none⟩ = false
theorem SGood.drew {b k : Nat} {W : World} (h : SGood b k W) : SGood b k W.drew := ⟨h.c1, h.c2, h.c3, h.cr, h.fr⟩
theorem SGood.below {b k n : Nat} {W W' : World} (h : SGood b k W) (hb : Below n W W') (hn : b + 5 < n) : SGood b k W' :=
  ⟨(hb.cell (p := ⟨b + 1, 0, none⟩) (by show b + 1 < n; omega)).trans h.c1, (hb.cell (p := ⟨b + 2, 0, none⟩) (by show b + 2 < n; omega)).trans h.c2, (hb.cell (p := ⟨b + 3, 0, none⟩) (by show b + 3 < n; omega)).trans h.c3,
   (hb.cell (p := ⟨b, k, none⟩) (by show b < n; omega)).trans h.cr, (hb.frozen (p := ⟨b, k, none⟩) (by show b < n; omega)).trans h.fr⟩
def sR4 : Code := Code.region 4 #[{ dst := some 12, op := Op.load 60 (Operand.tmp 3), type := 60, pos := "sha.go:77", after := #[], guard := none }, { dst := some 13, op := Op.load 3 (Operand.tmp 4), type := 3, pos := "sha.go:77", after := #[], guard := none }, { dst := some 14, op := Op.load 3 (Operand.tmp 2), type := 3, pos := "sha.go:77", after := #[], guard := none }, { dst := some 15, op := Op.move (Operand.tmp 5), type := 3, pos := "sha.go:77", after := #[], guard := none }, { dst := some 16, op := Op.call { callee := Callee.value (Operand.func 11), args := #[Operand.tmp 14, Operand.tmp 15], argTypes := #[3, 3] }, type := 24, pos := "sha.go:77", after := #[{ on := 2, ground := Ground.data }, { on := 3, ground := Ground.data }], guard := none }, { dst := some 11, op := Op.move (Operand.tmp 16), type := 24, pos := "sha.go:77", after := #[{ on := 4, ground := Ground.data }], guard := none }, { dst := some 17, op := Op.extract (Operand.tmp 11) 0, type := 22, pos := "sha.go:77", after := #[{ on := 5, ground := Ground.data }], guard := none }, { dst := some 18, op := Op.extract (Operand.tmp 11) 1, type := 23, pos := "sha.go:77", after := #[{ on := 5, ground := Ground.data }, { on := 9, ground := Ground.gcOnly Departure.lateStores }], guard := none }, { dst := some 19, op := Op.indexAddr 60 (Operand.tmp 12) (Operand.tmp 13), type := 0, pos := "sha.go:77", after := #[{ on := 0, ground := Ground.data }, { on := 1, ground := Ground.data }, { on := 0, ground := Ground.phase }, { on := 1, ground := Ground.phase }, { on := 2, ground := Ground.phase }, { on := 3, ground := Ground.phase }, { on := 4, ground := Ground.phase }, { on := 5, ground := Ground.phase }, { on := 6, ground := Ground.phase }, { on := 7, ground := Ground.textOnly Departure.lateStores }], guard := none }, { dst := none, op := Op.store 22 (Operand.tmp 19) (Operand.tmp 17), type := 0, pos := "sha.go:77", after := #[{ on := 8, ground := Ground.data }, { on := 6, ground := Ground.data }, { on := 4, ground := Ground.chain }, { on := 0, ground := Ground.phase }, { on := 1, ground := Ground.phase }, { on := 2, ground := Ground.phase }, { on := 3, ground := Ground.phase }, { on := 4, ground := Ground.phase }, { on := 5, ground := Ground.phase }, { on := 6, ground := Ground.phase }, { on := 7, ground := Ground.textOnly Departure.lateStores }], guard := none }] true
set_option maxHeartbeats 40000000 in
theorem sRegion (l b k : Nat) (hk : k < 8) (W : World) (hG : SGood b k W) (hlt : b + 5 < W.heap.size) (Q : Exit → Act → World → Prop)
    (hQ : ∀ w', Below W.drew.heap.size W.drew w' → Q .normal { tmps := #[.int .i64 2, .slice (some ⟨b, 0, none⟩) 8 8, .pointer (some ⟨b + 1, 0, none⟩), .pointer (some ⟨b + 2, 0, none⟩), .pointer (some ⟨b + 3, 0, none⟩), .int .i64 (sNth k), .int .i64 (sNth k), .int .i64 (k : Int), .slice (some ⟨b, 0, none⟩) 8 8, .int .i64 8, .bool false, .tuple #[.int .u32 (sRt k), .int .i64 0], .slice (some ⟨b, 0, none⟩) 8 8, .int .i64 (k : Int), .int .i64 2, .int .i64 (sNth k), .tuple #[.int .u32 (sRt k), .int .i64 0], .int .u32 (sRt k), .int .i64 0, .pointer (some ⟨b, k, none⟩), undef, undef], defers := [] } (w'.setCell ⟨b, k, none⟩ (.int .u32 (sRt k)))) :
    sR4.wpIn (Fence.wide.inRound l) 5 Try.prog Q { tmps := #[.int .i64 2, .slice (some ⟨b, 0, none⟩) 8 8, .pointer (some ⟨b + 1, 0, none⟩), .pointer (some ⟨b + 2, 0, none⟩), .pointer (some ⟨b + 3, 0, none⟩), .int .i64 (sNth k), .int .i64 (sNth k), .int .i64 (k : Int), .slice (some ⟨b, 0, none⟩) 8 8, .int .i64 8, .bool false, undef, undef, undef, undef, undef, undef, undef, undef, undef, undef, undef], defers := [] } W := by
  have hmx : Try.prog.follows .mixedOrders = true := by kernel_rfl
  obtain ⟨c1, c2, c3, cr, fr⟩ := hG.drew
  unfold sR4
  gi_region_with_o (refine ⟨trivial, ?_⟩; gi_at_call 11; refine (CallsIn.inRound l (callsIn_wide.2 (sRoot_calls hk _))).mono ?_; rintro e w' ⟨rfl, hB⟩; obtain ⟨d1, d2, d3, dr, gr⟩ := hG.drew.below hB hlt)
  all_goals exact hQ _ hB
end Go.Proofs
