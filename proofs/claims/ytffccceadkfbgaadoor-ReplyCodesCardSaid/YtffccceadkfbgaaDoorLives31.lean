/- catacomblaw31.lives; json.Get of one pair. -/
import Derived.Test.YtffccceadkfbgaaDoorFail
import Derived.KernelRfl
namespace Go.Proofs.YtffccceadkfbgaaDoor
open Go.RowKit Go.Sort

theorem jc_leaf (d : Nat) (w : World) (k : Int) (b : Bool) (n : Int) (t : ByteArray) (h0 : -9223372036854775808 ≤ n) (h1 : n ≤ 9223372036854775807) : JC (d + 1) w [.int .i64 k, .bool b, .int .i64 n, .string t, .slice none 0 0, .slice none 0 0] (.mk k b n t [] []) :=
  ⟨_, _, rfl, h0, h1, ⟨[], ⟨rfl, fun i a b h => by simp at h⟩, .inl ⟨rfl, rfl, rfl⟩⟩, ⟨[], ⟨rfl, fun i a b h => by simp at h⟩, .inl ⟨rfl, rfl, rfl⟩⟩⟩
theorem jc_one (w : World) (B c : Nat) (hc : 1 ≤ c) (nm t : ByteArray) (h : Cells7 B (.string nm) (.int .i64 3) (.bool false) (.int .i64 0) (.string t) (.slice none 0 0) (.slice none 0 0) w) :
    JC 2 w [.int .i64 5, .bool false, .int .i64 0, .string ⟨#[]⟩, .slice none 0 0, .slice (some ⟨B, 0, none⟩) 1 c] (.mk 5 false 0 ⟨#[]⟩ [] [(nm, .mk 3 false 0 t [] [])]) := by
  obtain ⟨h0, h1, h2, h3, h4, h5, h6⟩ := h
  refine ⟨_, _, rfl, by decide, by decide, ⟨[], ⟨rfl, fun i a b h => by simp at h⟩, .inl ⟨rfl, rfl, rfl⟩⟩, ⟨[[.string nm, .int .i64 3, .bool false, .int .i64 0, .string t, .slice none 0 0, .slice none 0 0]], ⟨rfl, fun i a b ha hb => ?_⟩, .inr ⟨B, 0, c, rfl, hc, rfl, fun j u hj => ?_⟩⟩⟩
  · match i, ha, hb with
    | 0, ha, hb =>
      simp at ha hb; subst ha hb
      exact ⟨_, rfl, jc_leaf 0 w _ _ _ _ (by decide) (by decide)⟩
    | i + 1, ha, _ => simp at ha
  · simp only [List.flatten_cons, List.flatten_nil, List.append_nil] at hj
    match j, hj with
    | 0, hj => simp at hj; subst hj; exact h0
    | 1, hj => simp at hj; subst hj; exact h1
    | 2, hj => simp at hj; subst hj; exact h2
    | 3, hj => simp at hj; subst hj; exact h3
    | 4, hj => simp at hj; subst hj; exact h4
    | 5, hj => simp at hj; subst hj; exact h5
    | 6, hj => simp at hj; subst hj; exact h6
    | j + 7, hj => simp at hj

def quotaL : List UInt8 := [123, 34, 101, 114, 114, 111, 114, 34, 58, 34, 113, 117, 111, 116, 97, 34, 125]
theorem quota_text : J.pr 2 (.mk 5 false 0 ⟨#[]⟩ [] [(⟨#[101, 114, 114, 111, 114]⟩, .mk 3 false 0 ⟨#[113, 117, 111, 116, 97]⟩ [] [])]) = quotaL := by rfl

set_option maxRecDepth 10000 in
set_option maxHeartbeats 1000000 in
theorem lives_c (w : World) (hp : pow10 w) : Calls Tryd.prog 5 #[] w fun e w' => e = .returned (.bool true) ∧ Only none' w w' := by
  have HF := Lib.hid (show ∀ w, Calls Tryd.prog 12 #[.int .i64 10] w fun d w' => ∃ B, d = .returned (.agg #[.int .i64 429, .int .i64 5, .bool false, .int .i64 0, .string ⟨#[]⟩, .slice none 0 0, .slice (some ⟨B, 0, none⟩) 1 1]) ∧ Cells7 B (.string ⟨#[101, 114, 114, 111, 114]⟩) (.int .i64 3) (.bool false) (.int .i64 0) (.string ⟨#[113, 117, 111, 116, 97]⟩) (.slice none 0 0) (.slice none 0 0) w' ∧ Only none' w w' from fun w => failed_c 10 w)
  replace hp := Lib.hid hp
  go_enter Tryd.func5, Tryd.ntmps5
  go_wp2_with (go_at_call 12; refine (HF.out _).mono ?_; rintro d w1 ⟨B, rfl, hc, o1⟩; replace hc := Lib.hid hc; replace o1 := Lib.hid o1)
  have h2 := hc.out.keep ((Only.refl none' w1).alloc (.cells #[.int .i64 429, .int .i64 5, .bool false, .int .i64 0, .string ⟨#[]⟩, .slice none 0 0, .slice (some ⟨B, 0, none⟩) 1 1] 40))
  have o2 := o1.out.alloc (.cells #[.int .i64 429, .int .i64 5, .bool false, .int .i64 0, .string ⟨#[]⟩, .slice none 0 0, .slice (some ⟨B, 0, none⟩) 1 1] 40)
  have HP := prints 2 _ _ _ (jc_one _ _ 1 (Nat.le_refl _) _ _ h2) (pow10_keep hp.out o2) (by rw [quota_text]; decide)
  rw [quota_text] at HP
  refine HP.mono ?_
  rintro d w3 ⟨rfl, o3⟩
  replace o3 := Lib.hid (o2.trans o3 (fun _ _ h => h))
  clear o2 h2 HP
  simp only [quotaL]
  go_wp2
  go_ret
  exact ⟨rfl, o3.out⟩
end Go.Proofs.YtffccceadkfbgaaDoor
