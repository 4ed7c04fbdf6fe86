/- json.Get of one pair, its name told; catacomblaw31.ReplyCodes: the walk. -/
import Derived.Test.YtffccceadkfbgaaDoorLaw31
import Derived.BigQuiet
namespace Go.Proofs.YtffccceadkfbgaaDoor
open Go.RowKit Go.Sort

set_option maxRecDepth 10000 in
set_option maxHeartbeats 1000000 in
theorem get_c (B : Nat) (nm t : ByteArray) (w : World) (hc : Cells7 B (.string nm) (.int .i64 3) (.bool false) (.int .i64 0) (.string t) (.slice none 0 0) (.slice none 0 0) w) :
    Calls Tryd.prog 13 #[.agg #[.int .i64 5, .bool false, .int .i64 0, .string ⟨#[]⟩, .slice none 0 0, .slice (some ⟨B, 0, none⟩) 1 1], .string nm] w fun e w' => e = .returned (.tuple #[.agg #[.int .i64 3, .bool false, .int .i64 0, .string t, .slice none 0 0, .slice none 0 0], .bool true]) ∧ Only none' w w' := by
  obtain ⟨c0, c1, c2, c3, c4, c5, c6⟩ := hc
  have hl : B < w.heap.size := World.block_lt_of_cell? _ _ c0
  go_enter Tryd.func13, Tryd.ntmps13
  go_wp2_with fail
  have O2 := (only_alloc w (.cells #[.int .i64 5, .bool false, .int .i64 0, .string ⟨#[]⟩, .slice none 0 0, .slice (some ⟨B, 0, none⟩) 1 1] 26)).trans (only_alloc _ (.cells #[.int .i64 0, .bool false, .int .i64 0, .string ⟨#[]⟩, .slice none 0 0, .slice none 0 0] 26)) (fun _ _ h => h)
  have O2' := Lib.hid O2
  have hz : (w.alloc (.cells #[.int .i64 5, .bool false, .int .i64 0, .string ⟨#[]⟩, .slice none 0 0, .slice (some ⟨B, 0, none⟩) 1 1] 26)).heap.size = w.heap.size + 1 := by simp
  have Z2 := six_new (w.alloc (.cells #[.int .i64 5, .bool false, .int .i64 0, .string ⟨#[]⟩, .slice none 0 0, .slice (some ⟨B, 0, none⟩) 1 1] 26)) (.int .i64 0) (.bool false) (.int .i64 0) (.string ⟨#[]⟩) (.slice none 0 0) (.slice none 0 0) 26
  have F2 := Warm.new (w.alloc (.cells #[.int .i64 5, .bool false, .int .i64 0, .string ⟨#[]⟩, .slice none 0 0, .slice (some ⟨B, 0, none⟩) 1 1] 26)) #[.int .i64 0, .bool false, .int .i64 0, .string ⟨#[]⟩, .slice none 0 0, .slice none 0 0] 26
  rw [hz] at Z2 F2
  obtain ⟨c0, c1, c2, c3, c4, c5, c6⟩ := Cells7.keep O2 ⟨c0, c1, c2, c3, c4, c5, c6⟩
  have hC : w.heap.size < w.heap.size + 1 := Nat.lt_succ_self _
  have hBC : w.heap.size + 1 ≠ B := by omega
  generalize World.alloc _ _ = W2 at *
  generalize hC1 : w.heap.size + 1 = C1 at *
  have f0 := F2.2 0
  have f1 := F2.2 1
  have f2 := F2.2 2
  have f3 := F2.2 3
  have f4 := F2.2 4
  have f5 := F2.2 5
  obtain ⟨z0, z1, z2, z3, z4, z5⟩ := Z2
  have hlt := F2.1
  clear F2 O2 hz
  refine wp_loop_once ?_
  go_wp2_with fail
  refine bodyPost_ret (v := .tuple #[.agg #[.int .i64 3, .bool false, .int .i64 0, .string t, .slice none 0 0, .slice none 0 0], .bool true]) ?_ rfl ⟨rfl, ?_⟩
  · simp [results, Tryd.results13, go_sem, *]
  have hb : ∀ p : Addr, p.block = C1 → p.block < w.heap.size → none' p.block := fun p e h => by omega
  refine (Only.setCell (Only.setCell (Only.setCell (Only.setCell (Only.setCell (Only.setCell O2'.out (hb _ rfl) _) (hb _ rfl) _) (hb _ rfl) _) (hb _ rfl) _) (hb _ rfl) _) (hb _ rfl) _).alloc _

theorem words_at (k : Nat) (h : k < 18) : ∃ x, words[k]? = some x ∧ wordOf k = x := by
  have hl : k < words.length := h
  refine ⟨words[k], List.getElem?_eq_getElem hl, ?_⟩
  simp [wordOf, List.getElem?_eq_getElem hl]
def codesL : List Int := [200, 400, 400, 400, 400, 400, 507, 404, 409, 409, 429, 401, 413, 503, 409, 400, 400, 409]
theorem codes_at (k : Nat) (h : k < 18) : codesL[k]? = some (codeOf k) := by
  rcases few k (by omega) (by omega) with h | h | h | h | h | h | h | h | h | h | h | h | h | h | h | h | h | h
  all_goals (obtain rfl : k = _ := Int.ofNat.inj h; rfl)
theorem out_code (e : Int) (h : ¬ (0 ≤ e ∧ e < 18)) : codeOf e = 400 ∧ wordOf e = unknownW := by
  constructor
  · unfold codeOf; repeat (rw [if_neg (by omega)])
  · unfold wordOf
    split
    · rw [List.getElem?_eq_none]; rfl
      simp [words]; omega
    · rfl
def wordsV : List Value := words.map fun x => .string ⟨x.toArray⟩
def codesV : List Value := codesL.map fun n => .int .i64 n

set_option maxRecDepth 10000 in
set_option maxHeartbeats 1000000 in
theorem codes_c (e : Int) (w : World) (hp : pow10 w) : Calls Tryd.prog 4 #[.int .i64 e] w fun d w' => d = .returned (.bool true) ∧ Only none' w w' := by
  have HL := Lib.hid (fun w' (h : Only none' w w') => lives_c w' (pow10_keep hp h))
  have HF := Lib.hid (failed_c e)
  have HC := Lib.hid (code_c e)
  have HW := Lib.hid (word_c e)
  have HG := Lib.hid get_c
  by_cases h : 0 ≤ e ∧ e < 18
  · obtain ⟨k, rfl⟩ : ∃ k : Nat, e = k := ⟨e.toNat, by omega⟩
    obtain ⟨x, hx, hw⟩ := words_at k (by omega)
    have hc := codes_at k (by omega)
    generalize codeOf k = c at *
    generalize wordOf k = s at *
    subst hw
    have t0 : decide (0 ≤ (k : Int)) = true := by simp
    have t1 : decide ((k : Int) < 18) = true := by simp; omega
    go_enter Tryd.func4, Tryd.ntmps4
    go_wp2_with fail
    go_at_call 5
    refine (HL.out _ (Only.refl _ _)).mono ?_
    rintro e w1 ⟨rfl, o1⟩
    replace o1 := Lib.hid o1
    go_wp2_with fail
    have A1 := Cs.new w1 wordsV 9
    have oA := only_alloc w1 (.cells wordsV.toArray 9)
    have zA : (w1.alloc (.cells wordsV.toArray 9)).heap.size = w1.heap.size + 1 := by simp
    have A2 := Cs.new (w1.alloc (.cells wordsV.toArray 9)) codesV 3
    have oB := only_alloc (w1.alloc (.cells wordsV.toArray 9)) (.cells codesV.toArray 3)
    rw [zA] at A2
    have a1 := (A1.keep oB) k (.string ⟨s.toArray⟩) (by rw [wordsV, List.getElem?_map, hx]; rfl)
    have a2 := A2 k (.int .i64 c) (by rw [codesV, List.getElem?_map, hc]; rfl)
    have o2 := Lib.hid (o1.out.trans (oA.trans oB (fun _ _ h => h)) (fun _ _ h => h))
    clear A1 oA zA A2 oB
    simp only [wordsV, codesV, words, codesL, List.map] at a1 a2 o2
    generalize w1.heap.size + 1 = B2 at *
    generalize w1.heap.size = B1 at *
    generalize World.alloc _ _ = W2 at *
    rw [Nat.zero_add] at a1 a2
    have hk : k < 18 := h.2 |> Int.ofNat_lt.1
    clear o1 h hx hc
    go_quiet (fail)
    have o3 := Lib.hid (o2.out.drewN nq)
    clear a1 a2 o2
    generalize W2.drewN nq = W3 at *
    go_wp2_with fail
    go_at_call 12
    refine (HF.out _).mono ?_
    rintro d w4 ⟨B, rfl, hc, o4⟩
    replace hc := Lib.hid hc
    replace o4 := Lib.hid (o3.out.trans o4 (fun _ _ h => h))
    go_wp2_with fail
    have r4 : (w4.alloc (.cells #[.int .i64 c, .int .i64 5, .bool false, .int .i64 0, .string ⟨#[]⟩, .slice none 0 0, .slice (some ⟨B, 0, none⟩) 1 1] 40)).cell? ⟨w4.heap.size, 0, none⟩ = some (.int .i64 c) := by simp
    have hc5 := hc.out.keep (only_alloc w4 (.cells #[.int .i64 c, .int .i64 5, .bool false, .int .i64 0, .string ⟨#[]⟩, .slice none 0 0, .slice (some ⟨B, 0, none⟩) 1 1] 40))
    have o5 := Lib.hid (o4.out.alloc (.cells #[.int .i64 c, .int .i64 5, .bool false, .int .i64 0, .string ⟨#[]⟩, .slice none 0 0, .slice (some ⟨B, 0, none⟩) 1 1] 40))
    generalize w4.heap.size = R at *
    generalize w4.alloc _ = W5 at *
    clear hc o4 o3
    go_at_call 13
    refine (HG.out _ _ _ _ hc5).mono ?_
    rintro d w6 ⟨rfl, o6⟩
    have hRl := World.block_lt_of_cell? _ _ r4
    have r6 := (o6.cell (p := ⟨R, 0, none⟩) hRl (fun h => h)).trans r4
    replace o6 := Lib.hid (o5.out.trans o6 (fun _ _ h => h))
    clear o5 hc5 r4
    go_wp2_with fail
    have v7 := six_new w6 (.int .i64 3) (.bool false) (.int .i64 0) (.string ⟨s.toArray⟩) (.slice none 0 0) (.slice none 0 0) 26
    have o7 := Lib.hid (o6.out.alloc (.cells #[.int .i64 3, .bool false, .int .i64 0, .string ⟨s.toArray⟩, .slice none 0 0, .slice none 0 0] 26))
    have r7 := ((only_alloc w6 (.cells #[.int .i64 3, .bool false, .int .i64 0, .string ⟨s.toArray⟩, .slice none 0 0, .slice none 0 0] 26)).cell (p := ⟨R, 0, none⟩) (World.block_lt_of_cell? _ _ r6) (fun h => h)).trans r6
    generalize w6.heap.size = V at *
    generalize w6.alloc _ = W7 at *
    clear o6 r6
    go_at_call 14
    refine (HC.out _).mono ?_
    rintro d w8 ⟨rfl, o8⟩
    have v8 := keep6 o8 v7
    have r8 := (o8.cell (p := ⟨R, 0, none⟩) (World.block_lt_of_cell? _ _ r7) (fun h => h)).trans r7
    replace o8 := Lib.hid (o7.out.trans o8 (fun _ _ h => h))
    clear o7 v7 r7
    go_wp2_with fail
    go_at_call 15
    refine (HW.out _).mono ?_
    rintro d w9 ⟨rfl, o9⟩
    obtain ⟨v0, v1, v2, v3, v4, v5⟩ := keep6 o9 v8
    have r9 := (o9.cell (p := ⟨R, 0, none⟩) (World.block_lt_of_cell? _ _ r8) (fun h => h)).trans r8
    replace o9 := Lib.hid (o8.out.trans o9 (fun _ _ h => h))
    clear o8 v8 r8
    go_wp2
    go_ret
    exact ⟨rfl, o9.out⟩
  · obtain ⟨hc, hw⟩ := out_code e h
    rw [hc] at HC HF
    rw [hw] at HW HF
    simp only [unknownW] at HW HF
    have a0 : decide (0 ≤ e) = false ∨ decide (0 ≤ e) = true ∧ decide (e < 18) = false := by simp; omega
    clear hc hw h
    rcases a0 with a0 | ⟨a0, a1⟩
    · go_enter Tryd.func4, Tryd.ntmps4
      go_wp2_with fail
      go_at_call 5
      refine (HL.out _ (Only.refl _ _)).mono ?_
      rintro d w1 ⟨rfl, o1⟩
      replace o1 := Lib.hid o1
      go_wp2_with fail
      have o3 := Lib.hid (o1.out.trans ((only_alloc w1 (.cells wordsV.toArray 9)).trans (only_alloc _ (.cells codesV.toArray 3)) (fun _ _ h => h)) (fun _ _ h => h))
      simp only [wordsV, codesV, words, codesL, List.map] at o3
      generalize w1.heap.size + 1 = B2 at *
      generalize w1.heap.size = B1 at *
      generalize World.alloc _ _ = W3 at *
      clear o1
      go_at_call 12
      refine (HF.out _).mono ?_
      rintro d w4 ⟨B, rfl, hc, o4⟩
      replace hc := Lib.hid hc
      replace o4 := Lib.hid (o3.out.trans o4 (fun _ _ h => h))
      go_wp2_with fail
      have r4 : (w4.alloc (.cells #[.int .i64 400, .int .i64 5, .bool false, .int .i64 0, .string ⟨#[]⟩, .slice none 0 0, .slice (some ⟨B, 0, none⟩) 1 1] 40)).cell? ⟨w4.heap.size, 0, none⟩ = some (.int .i64 400) := by simp
      have hc5 := hc.out.keep (only_alloc w4 (.cells #[.int .i64 400, .int .i64 5, .bool false, .int .i64 0, .string ⟨#[]⟩, .slice none 0 0, .slice (some ⟨B, 0, none⟩) 1 1] 40))
      have o5 := Lib.hid (o4.out.alloc (.cells #[.int .i64 400, .int .i64 5, .bool false, .int .i64 0, .string ⟨#[]⟩, .slice none 0 0, .slice (some ⟨B, 0, none⟩) 1 1] 40))
      generalize w4.heap.size = R at *
      generalize w4.alloc _ = W5 at *
      clear hc o4 o3
      go_at_call 13
      refine (HG.out _ _ _ _ hc5).mono ?_
      rintro d w6 ⟨rfl, o6⟩
      have hRl := World.block_lt_of_cell? _ _ r4
      have r6 := (o6.cell (p := ⟨R, 0, none⟩) hRl (fun h => h)).trans r4
      replace o6 := Lib.hid (o5.out.trans o6 (fun _ _ h => h))
      clear o5 hc5 r4
      go_wp2_with fail
      have v7 := six_new w6 (.int .i64 3) (.bool false) (.int .i64 0) (.string ⟨#[117, 110, 107, 110, 111, 119, 110]⟩) (.slice none 0 0) (.slice none 0 0) 26
      have o7 := Lib.hid (o6.out.alloc (.cells #[.int .i64 3, .bool false, .int .i64 0, .string ⟨#[117, 110, 107, 110, 111, 119, 110]⟩, .slice none 0 0, .slice none 0 0] 26))
      have r7 := ((only_alloc w6 (.cells #[.int .i64 3, .bool false, .int .i64 0, .string ⟨#[117, 110, 107, 110, 111, 119, 110]⟩, .slice none 0 0, .slice none 0 0] 26)).cell (p := ⟨R, 0, none⟩) (World.block_lt_of_cell? _ _ r6) (fun h => h)).trans r6
      generalize w6.heap.size = V at *
      generalize w6.alloc _ = W7 at *
      clear o6 r6
      go_at_call 14
      refine (HC.out _).mono ?_
      rintro d w8 ⟨rfl, o8⟩
      have v8 := keep6 o8 v7
      have r8 := (o8.cell (p := ⟨R, 0, none⟩) (World.block_lt_of_cell? _ _ r7) (fun h => h)).trans r7
      replace o8 := Lib.hid (o7.out.trans o8 (fun _ _ h => h))
      clear o7 v7 r7
      go_wp2_with fail
      go_at_call 15
      refine (HW.out _).mono ?_
      rintro d w9 ⟨rfl, o9⟩
      obtain ⟨v0, v1, v2, v3, v4, v5⟩ := keep6 o9 v8
      have r9 := (o9.cell (p := ⟨R, 0, none⟩) (World.block_lt_of_cell? _ _ r8) (fun h => h)).trans r8
      replace o9 := Lib.hid (o8.out.trans o9 (fun _ _ h => h))
      clear o8 v8 r8
      go_wp2
      go_ret
      exact ⟨rfl, o9.out⟩
    · go_enter Tryd.func4, Tryd.ntmps4
      go_wp2_with fail
      go_at_call 5
      refine (HL.out _ (Only.refl _ _)).mono ?_
      rintro d w1 ⟨rfl, o1⟩
      replace o1 := Lib.hid o1
      go_wp2_with fail
      have o3 := Lib.hid (o1.out.trans ((only_alloc w1 (.cells wordsV.toArray 9)).trans (only_alloc _ (.cells codesV.toArray 3)) (fun _ _ h => h)) (fun _ _ h => h))
      simp only [wordsV, codesV, words, codesL, List.map] at o3
      generalize w1.heap.size + 1 = B2 at *
      generalize w1.heap.size = B1 at *
      generalize World.alloc _ _ = W3 at *
      clear o1
      go_at_call 12
      refine (HF.out _).mono ?_
      rintro d w4 ⟨B, rfl, hc, o4⟩
      replace hc := Lib.hid hc
      replace o4 := Lib.hid (o3.out.trans o4 (fun _ _ h => h))
      go_wp2_with fail
      have r4 : (w4.alloc (.cells #[.int .i64 400, .int .i64 5, .bool false, .int .i64 0, .string ⟨#[]⟩, .slice none 0 0, .slice (some ⟨B, 0, none⟩) 1 1] 40)).cell? ⟨w4.heap.size, 0, none⟩ = some (.int .i64 400) := by simp
      have hc5 := hc.out.keep (only_alloc w4 (.cells #[.int .i64 400, .int .i64 5, .bool false, .int .i64 0, .string ⟨#[]⟩, .slice none 0 0, .slice (some ⟨B, 0, none⟩) 1 1] 40))
      have o5 := Lib.hid (o4.out.alloc (.cells #[.int .i64 400, .int .i64 5, .bool false, .int .i64 0, .string ⟨#[]⟩, .slice none 0 0, .slice (some ⟨B, 0, none⟩) 1 1] 40))
      generalize w4.heap.size = R at *
      generalize w4.alloc _ = W5 at *
      clear hc o4 o3
      go_at_call 13
      refine (HG.out _ _ _ _ hc5).mono ?_
      rintro d w6 ⟨rfl, o6⟩
      have hRl := World.block_lt_of_cell? _ _ r4
      have r6 := (o6.cell (p := ⟨R, 0, none⟩) hRl (fun h => h)).trans r4
      replace o6 := Lib.hid (o5.out.trans o6 (fun _ _ h => h))
      clear o5 hc5 r4
      go_wp2_with fail
      have v7 := six_new w6 (.int .i64 3) (.bool false) (.int .i64 0) (.string ⟨#[117, 110, 107, 110, 111, 119, 110]⟩) (.slice none 0 0) (.slice none 0 0) 26
      have o7 := Lib.hid (o6.out.alloc (.cells #[.int .i64 3, .bool false, .int .i64 0, .string ⟨#[117, 110, 107, 110, 111, 119, 110]⟩, .slice none 0 0, .slice none 0 0] 26))
      have r7 := ((only_alloc w6 (.cells #[.int .i64 3, .bool false, .int .i64 0, .string ⟨#[117, 110, 107, 110, 111, 119, 110]⟩, .slice none 0 0, .slice none 0 0] 26)).cell (p := ⟨R, 0, none⟩) (World.block_lt_of_cell? _ _ r6) (fun h => h)).trans r6
      generalize w6.heap.size = V at *
      generalize w6.alloc _ = W7 at *
      clear o6 r6
      go_at_call 14
      refine (HC.out _).mono ?_
      rintro d w8 ⟨rfl, o8⟩
      have v8 := keep6 o8 v7
      have r8 := (o8.cell (p := ⟨R, 0, none⟩) (World.block_lt_of_cell? _ _ r7) (fun h => h)).trans r7
      replace o8 := Lib.hid (o7.out.trans o8 (fun _ _ h => h))
      clear o7 v7 r7
      go_wp2_with fail
      go_at_call 15
      refine (HW.out _).mono ?_
      rintro d w9 ⟨rfl, o9⟩
      obtain ⟨v0, v1, v2, v3, v4, v5⟩ := keep6 o9 v8
      have r9 := (o9.cell (p := ⟨R, 0, none⟩) (World.block_lt_of_cell? _ _ r8) (fun h => h)).trans r8
      replace o9 := Lib.hid (o8.out.trans o9 (fun _ _ h => h))
      clear o8 v8 r8
      go_wp2
      go_ret
      exact ⟨rfl, o9.out⟩
end Go.Proofs.YtffccceadkfbgaaDoor
