/- catacomblaw38.lives: the chapter's example is true. -/
import Derived.Test.YtffccceadkfbgaaWipe
import Derived.Test.YtffccceadkfbgaaRef26
namespace Go.Proofs.Ytffccceadkfbgaa
open Go.RowKit

def img64 : List UInt8 := [0, 0, 0, 0, 0, 0, 0, 0, 0, 0, 0, 0, 0, 0, 0, 0, 0, 7, 0, 0, 0, 0, 0, 0, 0, 0, 0, 0, 0, 0, 0, 0, 0, 0, 0, 0, 0, 0, 0, 0, 0, 0, 0, 0, 0, 0, 0, 0, 0, 0, 0, 0, 0, 0, 0, 0, 0, 0, 0, 0, 0, 0, 0, 0]
theorem img64_occs : occsAll img64 (be 8 (u64of 7)) = [10] := by decide +kernel
theorem img64_cells : ((zeros 64).setIfInBounds 17 (.int .u8 7)).toList = bcells img64 := by
  have : (zeros 64).toList = List.replicate 64 (.int .u8 0) := toList_madeCells_one _ _
  rw [Array.toList_setIfInBounds, this]
  rfl
theorem sl_lives (w : World) : Sl (w.alloc (.cells ((zeros 64).setIfInBounds 17 (.int .u8 7)) 5)) 1 (.slice (some ⟨w.heap.size, 0, none⟩) 64 64) img64.length (bcells img64) :=
  .inr ⟨w.heap.size, 0, 64, rfl, by decide, by rw [bcells_length]; rfl, fun j u hj => by
    rw [Nat.zero_add, cell_of_row _ w.heap.size j _ 5 (0, 0) (heap_alloc_new w _), ← Array.getElem?_toList, img64_cells]
    exact hj⟩

set_option maxHeartbeats 1000000 in
theorem lives_ok (w : World) (m : Int) (hm : w.cell? ⟨0, 0, none⟩ = some (.int .i64 m)) :
    Calls Try.prog 4 #[] w fun e w' => e = .returned (.bool true) ∧ Only none' w w' := by
  have mk := mk64 w
  have hz := zeros_cell w 64 17 (by omega)
  have O0 : Only none' w (w.alloc (.cells ((zeros 64).setIfInBounds 17 (.int .u8 7)) 5)) := (Only.refl _ _).alloc _
  have HT := traces_ok _ img64 7 _ (sl_lives w) m ((O0.cell (World.block_lt_of_cell? _ _ hm) (fun h => h)).trans hm) (by decide)
  rw [img64_occs] at HT
  have HT' := Lib.hid HT
  have O0' := Lib.hid O0
  clear HT O0 hm
  go_enter Try.func4, Try.ntmps4
  go_wp2_with (first
    | (go_at_call 6; refine HT'.out.mono ?_; rintro e w1 ⟨v, rfl, ho, hon, hf⟩; obtain ⟨g, c, rfl, _, _⟩ := ho.form (by decide); have h0 := ho.cellAt 0 (by decide); have h1 := ho.cellAt 1 (by decide); simp [pcells] at h0 h1; have mk2 := mk130 w1)
    | (go_at_call 8; refine (blank_ok _ _ (zeros_cell _ 130)).mono ?_; rintro e w2 ⟨rfl, hon2⟩))
  go_ret
  exact ⟨rfl, ((O0'.out.trans hon (fun _ _ h => h)).alloc _).trans hon2 (fun _ _ h => h)⟩
end Go.Proofs.Ytffccceadkfbgaa
