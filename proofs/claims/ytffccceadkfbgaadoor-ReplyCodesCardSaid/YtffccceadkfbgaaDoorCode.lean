/- reply: Code, Word. -/
import Derived.Test.YtffccceadkfbgaaDoorReply
namespace Go.Proofs.YtffccceadkfbgaaDoor
open Go.RowKit Go.Sort

def codeOf (e : Int) : Int :=
  if e = 0 then 200 else if e = 7 then 404 else if e = 8 ∨ e = 9 ∨ e = 14 ∨ e = 17 then 409 else if e = 10 then 429 else if e = 11 then 401 else if e = 12 then 413 else if e = 6 then 507 else if e = 13 then 503 else 400
def words : List (List UInt8) := [[111, 107], [97, 114, 103, 117, 109, 101, 110, 116], [102, 111, 114, 109], [114, 97, 110, 103, 101], [115, 104, 111, 114, 116], [116, 111, 114, 110], [102, 117, 108, 108], [110, 111, 110, 101], [115, 97, 109, 101], [104, 101, 108, 100], [113, 117, 111, 116, 97], [97, 117, 116, 104], [108, 111, 110, 103], [100, 111, 119, 110], [115, 116, 97, 116, 101], [110, 97, 109, 101], [98, 114, 111, 107, 101, 110], [111, 114, 100, 101, 114]]
def unknownW : List UInt8 := [117, 110, 107, 110, 111, 119, 110]
def wordOf (e : Int) : List UInt8 := if 0 ≤ e then words[e.toNat]?.getD unknownW else unknownW

theorem few (e : Int) (h : 0 ≤ e) (h' : e < 18) : e = 0 ∨ e = 1 ∨ e = 2 ∨ e = 3 ∨ e = 4 ∨ e = 5 ∨ e = 6 ∨ e = 7 ∨ e = 8 ∨ e = 9 ∨ e = 10 ∨ e = 11 ∨ e = 12 ∨ e = 13 ∨ e = 14 ∨ e = 15 ∨ e = 16 ∨ e = 17 := by omega

set_option maxRecDepth 10000 in
theorem code_c (e : Int) (w : World) : Calls Tryd.prog 14 #[.int .i64 e] w fun d w' => d = .returned (.int .i64 (codeOf e)) ∧ Only none' w w' := by
  by_cases h : 0 ≤ e ∧ e < 18
  · rcases few e h.1 h.2 with rfl | rfl | rfl | rfl | rfl | rfl | rfl | rfl | rfl | rfl | rfl | rfl | rfl | rfl | rfl | rfl | rfl | rfl
    all_goals
      go_enter Tryd.func14, Tryd.ntmps14
      go_wp2
      go_ret
      exact ⟨rfl, Only.refl _ _⟩
  · have hc : codeOf e = 400 := by unfold codeOf; repeat (rw [if_neg (by omega)])
    have a0 : (e == 0) = false := by simp; omega
    have a7 : (e == 7) = false := by simp; omega
    have a8 : (e == 8) = false := by simp; omega
    have a9 : (e == 9) = false := by simp; omega
    have a14 : (e == 14) = false := by simp; omega
    have a17 : (e == 17) = false := by simp; omega
    have a10 : (e == 10) = false := by simp; omega
    have a11 : (e == 11) = false := by simp; omega
    have a12 : (e == 12) = false := by simp; omega
    have a6 : (e == 6) = false := by simp; omega
    have a13 : (e == 13) = false := by simp; omega
    rw [hc]
    go_enter Tryd.func14, Tryd.ntmps14
    go_wp2
    go_ret
    exact ⟨rfl, Only.refl _ _⟩

set_option maxRecDepth 10000 in
set_option maxHeartbeats 4000000 in
theorem word_c (e : Int) (w : World) : Calls Tryd.prog 15 #[.int .i64 e] w fun d w' => d = .returned (.string ⟨(wordOf e).toArray⟩) ∧ Only none' w w' := by
  by_cases h : 0 ≤ e ∧ e < 18
  · rcases few e h.1 h.2 with rfl | rfl | rfl | rfl | rfl | rfl | rfl | rfl | rfl | rfl | rfl | rfl | rfl | rfl | rfl | rfl | rfl | rfl
    all_goals
      go_enter Tryd.func15, Tryd.ntmps15
      go_wp2
      go_ret
      exact ⟨rfl, (Only.refl _ _).alloc _⟩
  · have hw : wordOf e = unknownW := by
      unfold wordOf
      split
      · rw [List.getElem?_eq_none]; rfl
        simp [words]; omega
      · rfl
    have a0 : decide (e < 0) = true ∨ decide (e < 0) = false ∧ decide (18 ≤ e) = true := by simp; omega
    rw [hw]
    rcases a0 with a0 | ⟨a0, a1⟩
    all_goals
      go_enter Tryd.func15, Tryd.ntmps15
      go_wp2
      go_ret
      exact ⟨rfl, (Only.refl _ _).alloc _⟩
end Go.Proofs.YtffccceadkfbgaaDoor
