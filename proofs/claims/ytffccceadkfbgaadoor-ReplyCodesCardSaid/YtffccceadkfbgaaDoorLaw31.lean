/- catacomblaw31.ReplyValues: the walk. -/
import Derived.Test.YtffccceadkfbgaaDoorLives31
namespace Go.Proofs.YtffccceadkfbgaaDoor
open Go.RowKit Go.Sort

/-- A block's cells from its beginning on. -/
def Cs (B : Nat) (xs : List Value) (w : World) : Prop := ∀ j u, xs[j]? = some u → w.cell? ⟨B, 0 + j, none⟩ = some u
theorem Cs.keep {W w' : World} (ho : Only none' W w') {B : Nat} {xs : List Value} (h : Cs B xs W) : Cs B xs w' := fun j u hj => by
  have h1 := h j u hj
  rw [ho.cell (p := ⟨B, 0 + j, none⟩) (World.block_lt_of_cell? _ _ h1) (fun h => h)]; exact h1
theorem Cs.new (w : World) (xs : List Value) (t : TypeId) : Cs w.heap.size xs (w.alloc (.cells xs.toArray t)) := fun j u hj => by
  have : (w.alloc (.cells xs.toArray t)).cell? ⟨w.heap.size, 0 + j, none⟩ = xs[j]? := by simp
  rw [this]; exact hj

def jv (n : Int) (s : ByteArray) : J := .mk 5 false 0 ⟨#[]⟩ [] [(⟨#[97]⟩, .mk 4 false 0 ⟨#[]⟩ [.mk 2 false n ⟨#[]⟩ [] [], .mk 3 false 0 s [] []] []), (⟨#[98]⟩, .mk 4 false 0 ⟨#[]⟩ [] [])]
def rowCs (n : Int) (s : ByteArray) : List Value := [.int .i64 2, .bool false, .int .i64 n, .string ⟨#[]⟩, .slice none 0 0, .slice none 0 0, .int .i64 3, .bool false, .int .i64 0, .string s, .slice none 0 0, .slice none 0 0]
def pairCs (B : Nat) : List Value := [.string ⟨#[97]⟩, .int .i64 4, .bool false, .int .i64 0, .string ⟨#[]⟩, .slice (some ⟨B, 0, none⟩) 2 2, .slice none 0 0, .string ⟨#[98]⟩, .int .i64 4, .bool false, .int .i64 0, .string ⟨#[]⟩, .slice none 0 0, .slice none 0 0]

theorem all2_two {α β : Type} {R : α → β → Prop} {a b : α} {x y : β} (h : R a x) (k : R b y) : All2 R [a, b] [x, y] :=
  ⟨rfl, fun i u v hu hv => match i, hu, hv with
    | 0, hu, hv => by simp at hu hv; subst hu hv; exact h
    | 1, hu, hv => by simp at hu hv; subst hu hv; exact k
    | i + 2, hu, _ => by simp at hu⟩
theorem all2_no {α β : Type} {R : α → β → Prop} : All2 R ([] : List α) ([] : List β) := ⟨rfl, fun i u v hu _ => by simp at hu⟩

theorem jc_jv (w : World) (n : Int) (s : ByteArray) (h0 : -9223372036854775808 ≤ n) (h1 : n ≤ 9223372036854775807) (A B : Nat) (hA : Cs A (rowCs n s) w) (hB : Cs B (pairCs A) w) :
    JC 3 w [.int .i64 5, .bool false, .int .i64 0, .string ⟨#[]⟩, .slice none 0 0, .slice (some ⟨B, 0, none⟩) 2 2] (jv n s) := by
  refine ⟨_, _, rfl, by decide, by decide, ⟨[], all2_no, .inl ⟨rfl, rfl, rfl⟩⟩, ⟨[[.string ⟨#[97]⟩, .int .i64 4, .bool false, .int .i64 0, .string ⟨#[]⟩, .slice (some ⟨A, 0, none⟩) 2 2, .slice none 0 0], [.string ⟨#[98]⟩, .int .i64 4, .bool false, .int .i64 0, .string ⟨#[]⟩, .slice none 0 0, .slice none 0 0]], all2_two ⟨_, rfl, ?_⟩ ⟨_, rfl, ?_⟩, .inr ⟨B, 0, 2, rfl, Nat.le_refl _, rfl, hB⟩⟩⟩
  · exact ⟨_, _, rfl, by decide, by decide, ⟨[[.int .i64 2, .bool false, .int .i64 n, .string ⟨#[]⟩, .slice none 0 0, .slice none 0 0], [.int .i64 3, .bool false, .int .i64 0, .string s, .slice none 0 0, .slice none 0 0]], all2_two (jc_leaf 0 w _ _ _ _ h0 h1) (jc_leaf 0 w _ _ _ _ (by decide) (by decide)), .inr ⟨A, 0, 2, rfl, Nat.le_refl _, rfl, hA⟩⟩, ⟨[], all2_no, .inl ⟨rfl, rfl, rfl⟩⟩⟩
  · exact jc_leaf 1 w _ _ _ _ (by decide) (by decide)

theorem six_new (w : World) (x0 x1 x2 x3 x4 x5 : Value) (t : TypeId) : (w.alloc (.cells #[x0, x1, x2, x3, x4, x5] t)).cell? ⟨w.heap.size, 0, none⟩ = some x0 ∧ (w.alloc (.cells #[x0, x1, x2, x3, x4, x5] t)).cell? ⟨w.heap.size, 1, none⟩ = some x1 ∧ (w.alloc (.cells #[x0, x1, x2, x3, x4, x5] t)).cell? ⟨w.heap.size, 2, none⟩ = some x2 ∧ (w.alloc (.cells #[x0, x1, x2, x3, x4, x5] t)).cell? ⟨w.heap.size, 3, none⟩ = some x3 ∧ (w.alloc (.cells #[x0, x1, x2, x3, x4, x5] t)).cell? ⟨w.heap.size, 4, none⟩ = some x4 ∧ (w.alloc (.cells #[x0, x1, x2, x3, x4, x5] t)).cell? ⟨w.heap.size, 5, none⟩ = some x5 :=
  ⟨by simp, by simp, by simp, by simp, by simp, by simp⟩
theorem only_alloc (w : World) (o : Obj) : Only none' w (w.alloc o) := (Only.refl none' w).alloc o

theorem quoteL_len (l : List UInt8) : (quoteL l).length ≤ 2 + 6 * l.length := by
  rw [quoteL_eq, List.length_append]
  have := quoteTo_length l l.length
  simp only [List.length_cons, List.length_nil]
  omega
theorem jv_len (n : Int) (s : ByteArray) (h0 : -9223372036854775808 ≤ n) (h1 : n ≤ 9223372036854775807) (hs : s.size ≤ 100) : (J.pr 3 (jv n s)).length ≤ 1000000000 := by
  have a := Lib.itoa_length_le n h0 h1
  have b := quoteL_len s.data.toList
  have c : s.data.toList.length = s.size := Array.length_toList
  have d := quoteL_len [97]
  have e := quoteL_len [98]
  simp only [jv, J.pr, Lib.join, List.map, List.length_append, List.length_cons, List.length_nil, List.foldl, List.intercalate, List.intersperse, List.flatten] at *
  simp at *
  omega

/-- The values that are made behind the first: they read as it does. -/
theorem two_jv (w : World) (n : Int) (s : ByteArray) (A B : Nat) (hA : Cs A (rowCs n s) w) (hB : Cs B (pairCs A) w) (h0 : -9223372036854775808 ≤ n) (h1 : n ≤ 9223372036854775807) (t1 t2 t3 t4 : TypeId) :
    ∀ W, W = (((w.alloc (.cells #[.int .i64 5, .bool false, .int .i64 0, .string ⟨#[]⟩, .slice none 0 0, .slice (some ⟨B, 0, none⟩) 2 2] t1)).alloc (.cells (rowCs n s).toArray t2)).alloc (.cells (pairCs (w.heap.size + 1)).toArray t3)).alloc (.cells #[.int .i64 5, .bool false, .int .i64 0, .string ⟨#[]⟩, .slice none 0 0, .slice (some ⟨w.heap.size + 2, 0, none⟩) 2 2] t4) →
    TwoAt w w.heap.size (w.heap.size + 3) (.int .i64 5, .bool false, .int .i64 0, .string ⟨#[]⟩, .slice none 0 0, .slice (some ⟨B, 0, none⟩) 2 2) (.int .i64 5, .bool false, .int .i64 0, .string ⟨#[]⟩, .slice none 0 0, .slice (some ⟨w.heap.size + 2, 0, none⟩) 2 2) W ∧
    JC 3 W [.int .i64 5, .bool false, .int .i64 0, .string ⟨#[]⟩, .slice none 0 0, .slice (some ⟨B, 0, none⟩) 2 2] (jv n s) ∧
    JC 3 W [.int .i64 5, .bool false, .int .i64 0, .string ⟨#[]⟩, .slice none 0 0, .slice (some ⟨w.heap.size + 2, 0, none⟩) 2 2] (jv n s) := by
  have s0 := six_new w (.int .i64 5) (.bool false) (.int .i64 0) (.string ⟨#[]⟩) (.slice none 0 0) (.slice (some ⟨B, 0, none⟩) 2 2) t1
  have o1 := only_alloc w (.cells #[.int .i64 5, .bool false, .int .i64 0, .string ⟨#[]⟩, .slice none 0 0, .slice (some ⟨B, 0, none⟩) 2 2] t1)
  have z1 : (w.alloc (.cells #[.int .i64 5, .bool false, .int .i64 0, .string ⟨#[]⟩, .slice none 0 0, .slice (some ⟨B, 0, none⟩) 2 2] t1)).heap.size = w.heap.size + 1 := by simp
  generalize w.alloc (.cells #[.int .i64 5, .bool false, .int .i64 0, .string ⟨#[]⟩, .slice none 0 0, .slice (some ⟨B, 0, none⟩) 2 2] t1) = a1 at *
  have c2 := Cs.new a1 (rowCs n s) t2
  have o2 := only_alloc a1 (.cells (rowCs n s).toArray t2)
  have z2 : (a1.alloc (.cells (rowCs n s).toArray t2)).heap.size = w.heap.size + 2 := by simp [z1]
  rw [z1] at c2
  generalize a1.alloc (.cells (rowCs n s).toArray t2) = a2 at *
  have c3 := Cs.new a2 (pairCs (w.heap.size + 1)) t3
  have o3 := only_alloc a2 (.cells (pairCs (w.heap.size + 1)).toArray t3)
  have z3 : (a2.alloc (.cells (pairCs (w.heap.size + 1)).toArray t3)).heap.size = w.heap.size + 3 := by simp [z2]
  rw [z2] at c3
  generalize a2.alloc (.cells (pairCs (w.heap.size + 1)).toArray t3) = a3 at *
  have s4 := six_new a3 (.int .i64 5) (.bool false) (.int .i64 0) (.string ⟨#[]⟩) (.slice none 0 0) (.slice (some ⟨w.heap.size + 2, 0, none⟩) 2 2) t4
  have o4 := only_alloc a3 (.cells #[.int .i64 5, .bool false, .int .i64 0, .string ⟨#[]⟩, .slice none 0 0, .slice (some ⟨w.heap.size + 2, 0, none⟩) 2 2] t4)
  rw [z3] at s4
  rintro W rfl
  have o24 := o2.trans (o3.trans o4 (fun _ _ h => h)) (fun _ _ h => h)
  have o14 := o1.trans o24 (fun _ _ h => h)
  have o34 := o3.trans o4 (fun _ _ h => h)
  exact ⟨⟨keep6 o24 s0, s4, o14⟩, jc_jv _ n s h0 h1 A B (hA.keep o14) (hB.keep o14), jc_jv _ n s h0 h1 _ _ (c2.keep o34) (c3.keep o4)⟩

set_option maxRecDepth 10000 in
set_option maxHeartbeats 1000000 in
theorem values_c (n : Int) (s : ByteArray) (w : World) (h0 : -9223372036854775808 ≤ n) (h1 : n ≤ 9223372036854775807) (hp : pow10 w) : Calls Tryd.prog 3 #[.int .i64 n, .string s] w fun e w' => e = .returned (.bool true) ∧ Only none' w w' := by
  have HL := Lib.hid (fun w' (h : Only none' w w') => lives_c w' (pow10_keep hp h))
  have HR := Lib.hid row_c
  have HT := Lib.hid text_c
  have HN := Lib.hid num_c
  have HG := Lib.hid thing_c
  have HJ := Lib.hid (fun w A B hA hB => two_jv w n s A B hA hB h0 h1)
  have HM := Lib.hid (fun w' (h : Only none' w w') => pow10_keep hp h)
  have HL9 := Lib.hid (fun hs => jv_len n s h0 h1 hs)
  clear h0 h1 hp
  by_cases hs : s.size ≤ 100
  · have ha : decide (100 < (s.size : Int)) = false := by simp; omega
    replace hs := Lib.hid hs
    go_enter Tryd.func3, Tryd.ntmps3
    go_wp2_with fail
    go_at_call 5
    refine (HL.out _ (Only.refl _ _)).mono ?_
    rintro e w1 ⟨rfl, o1⟩
    replace o1 := Lib.hid o1
    go_wp2_with fail
    go_at_call 8
    refine (HN.out _ _).mono ?_
    rintro e w2 ⟨rfl, o2⟩
    replace o2 := Lib.hid (o1.out.trans o2 (fun _ _ h => h))
    clear o1
    simp only [jnum]
    go_wp2_with fail
    go_at_call 9
    refine (HT.out _ _).mono ?_
    rintro e w3 ⟨rfl, o3⟩
    replace o3 := Lib.hid (o2.out.trans o3 (fun _ _ h => h))
    clear o2
    simp only [jtext]
    go_wp2_with fail
    have c3 := Lib.hid (Cs.new w3 (rowCs n s) 26)
    have o4 := Lib.hid (o3.out.alloc (.cells (rowCs n s).toArray 26))
    simp only [rowCs] at c3 o4
    generalize w3.alloc _ = W4 at *
    generalize w3.heap.size = A at *
    go_at_call 7
    refine (HR.out _ _ _ _).mono ?_
    rintro e w5 ⟨rfl, o5⟩
    replace c3 := Lib.hid (c3.out.keep o5)
    replace o5 := Lib.hid (o4.out.trans o5 (fun _ _ h => h))
    clear o4 o3
    simp only [jrow]
    go_wp2_with fail
    go_at_call 7
    refine (HR.out _ _ _ _).mono ?_
    rintro e w6 ⟨rfl, o6⟩
    replace c3 := Lib.hid (c3.out.keep o6)
    replace o6 := Lib.hid (o5.out.trans o6 (fun _ _ h => h))
    clear o5
    simp only [jrow]
    go_wp2_with fail
    have d7 := Lib.hid (Cs.new w6 (pairCs A) 32)
    have o7 := Lib.hid (o6.out.alloc (.cells (pairCs A).toArray 32))
    replace c3 := Lib.hid (c3.out.keep (only_alloc w6 (.cells (pairCs A).toArray 32)))
    simp only [pairCs] at d7 o7 c3
    generalize w6.alloc _ = W7 at *
    generalize w6.heap.size = B at *
    go_at_call 6
    refine (HG.out _ _ _ _).mono ?_
    rintro e w8 ⟨rfl, o8⟩
    replace c3 := Lib.hid (c3.out.keep o8)
    replace d7 := Lib.hid (d7.out.keep o8)
    replace o8 := Lib.hid (o7.out.trans o8 (fun _ _ h => h))
    clear o7 o6
    simp only [jthing]
    go_wp2_with fail
    have H := Lib.hid (HJ.out w8 A B c3.out d7.out 26 26 32 26 _ rfl)
    simp only [rowCs, pairCs] at H
    generalize w8.heap.size + 3 = C1 at *
    generalize w8.heap.size + 2 = C0 at *
    generalize w8.heap.size = C at *
    generalize World.alloc _ _ = W9 at *
    obtain ⟨hT, j1, j2⟩ := H.out
    have hl := HL9.out hs.out
    have HT9 := hT
    obtain ⟨⟨x0, x1, x2, x3, x4, x5⟩, ⟨y0, y1, y2, y3, y4, y5⟩, hO⟩ := hT
    have m8 := o8.out
    have H1 : ∀ W, TwoAt w8 C C1 (.int .i64 5, .bool false, .int .i64 0, .string ⟨#[]⟩, .slice none 0 0, .slice (some ⟨B, 0, none⟩) 2 2) (.int .i64 5, .bool false, .int .i64 0, .string ⟨#[]⟩, .slice none 0 0, .slice (some ⟨C0, 0, none⟩) 2 2) W → Only none' W9 W → Calls Tryd.prog 10 #[.agg #[.int .i64 5, .bool false, .int .i64 0, .string ⟨#[]⟩, .slice none 0 0, .slice (some ⟨B, 0, none⟩) 2 2]] W fun e w' => e = .returned (.string ⟨(J.pr 3 (jv n s)).toArray⟩) ∧ Only none' W9 w' ∧ TwoAt w8 C C1 (.int .i64 5, .bool false, .int .i64 0, .string ⟨#[]⟩, .slice none 0 0, .slice (some ⟨B, 0, none⟩) 2 2) (.int .i64 5, .bool false, .int .i64 0, .string ⟨#[]⟩, .slice none 0 0, .slice (some ⟨C0, 0, none⟩) 2 2) w' :=
      fun W hW h9 => (prints 3 _ _ W (j1.keep h9) (HM.out _ (m8.trans hW.2.2 (fun _ _ h => h))) hl).mono fun e w' ⟨he, ho⟩ => ⟨he, h9.trans ho (fun _ _ h => h), hW.keep ho⟩
    have H2 : ∀ W, TwoAt w8 C C1 (.int .i64 5, .bool false, .int .i64 0, .string ⟨#[]⟩, .slice none 0 0, .slice (some ⟨B, 0, none⟩) 2 2) (.int .i64 5, .bool false, .int .i64 0, .string ⟨#[]⟩, .slice none 0 0, .slice (some ⟨C0, 0, none⟩) 2 2) W → Only none' W9 W → Calls Tryd.prog 10 #[.agg #[.int .i64 5, .bool false, .int .i64 0, .string ⟨#[]⟩, .slice none 0 0, .slice (some ⟨C0, 0, none⟩) 2 2]] W fun e w' => e = .returned (.string ⟨(J.pr 3 (jv n s)).toArray⟩) ∧ Only none' W9 w' ∧ TwoAt w8 C C1 (.int .i64 5, .bool false, .int .i64 0, .string ⟨#[]⟩, .slice none 0 0, .slice (some ⟨B, 0, none⟩) 2 2) (.int .i64 5, .bool false, .int .i64 0, .string ⟨#[]⟩, .slice none 0 0, .slice (some ⟨C0, 0, none⟩) 2 2) w' :=
      fun W hW h9 => (prints 3 _ _ W (j2.keep h9) (HM.out _ (m8.trans hW.2.2 (fun _ _ h => h))) hl).mono fun e w' ⟨he, ho⟩ => ⟨he, h9.trans ho (fun _ _ h => h), hW.keep ho⟩
    have H3 : ∀ W, TwoAt w8 C C1 (.int .i64 5, .bool false, .int .i64 0, .string ⟨#[]⟩, .slice none 0 0, .slice (some ⟨B, 0, none⟩) 2 2) (.int .i64 5, .bool false, .int .i64 0, .string ⟨#[]⟩, .slice none 0 0, .slice (some ⟨C0, 0, none⟩) 2 2) W → Only none' W9 W → Calls Tryd.prog 11 #[.agg #[.int .i64 5, .bool false, .int .i64 0, .string ⟨#[]⟩, .slice none 0 0, .slice (some ⟨B, 0, none⟩) 2 2], .agg #[.int .i64 5, .bool false, .int .i64 0, .string ⟨#[]⟩, .slice none 0 0, .slice (some ⟨C0, 0, none⟩) 2 2]] W fun e w' => e = .returned (.bool true) ∧ Only none' W9 w' ∧ TwoAt w8 C C1 (.int .i64 5, .bool false, .int .i64 0, .string ⟨#[]⟩, .slice none 0 0, .slice (some ⟨B, 0, none⟩) 2 2) (.int .i64 5, .bool false, .int .i64 0, .string ⟨#[]⟩, .slice none 0 0, .slice (some ⟨C0, 0, none⟩) 2 2) w' :=
      fun W hW h9 => (same_ok 3 3 _ _ _ _ W (j1.keep h9) (j2.keep h9) (HM.out _ (m8.trans hW.2.2 (fun _ _ h => h))) hl hl).mono fun e w' ⟨he, ho⟩ => ⟨by rw [he, beq_self_eq_true], h9.trans ho (fun _ _ h => h), hW.keep ho⟩
    have o9 := Lib.hid (m8.trans hO (fun _ _ h => h))
    replace H1 := Lib.hid H1
    replace H2 := Lib.hid H2
    replace H3 := Lib.hid H3
    generalize J.pr 3 (jv n s) = r at *
    have hrr : (r == r) = true := by simp
    clear j1 j2 hl m8 H HL9 c3 d7 o8 HJ HM HL HR HT HN HG hO
    go_region_held3 (fun w' => (w'.cell? ⟨C, 0, none⟩ = some (.int .i64 5) ∧ w'.cell? ⟨C, 1, none⟩ = some (.bool false) ∧ w'.cell? ⟨C, 2, none⟩ = some (.int .i64 0) ∧ w'.cell? ⟨C, 3, none⟩ = some (.string ⟨#[]⟩) ∧ w'.cell? ⟨C, 4, none⟩ = some (.slice none 0 0) ∧ w'.cell? ⟨C, 5, none⟩ = some (.slice (some ⟨B, 0, none⟩) 2 2)) ∧ w'.cell? ⟨C1, 0, none⟩ = some (.int .i64 5) ∧ w'.cell? ⟨C1, 1, none⟩ = some (.bool false) ∧ w'.cell? ⟨C1, 2, none⟩ = some (.int .i64 0) ∧ w'.cell? ⟨C1, 3, none⟩ = some (.string ⟨#[]⟩) ∧ w'.cell? ⟨C1, 4, none⟩ = some (.slice none 0 0) ∧ w'.cell? ⟨C1, 5, none⟩ = some (.slice (some ⟨C0, 0, none⟩) 2 2))
      (first
        | go_keep
        | (refine ⟨⟨?_, ?_, ?_, ?_, ?_, ?_⟩, ?_, ?_, ?_, ?_, ?_, ?_⟩ <;> assumption))
      (first
        | (go_at_call_of 10 B; refine (H1.out W9.drew (HT9.keep (Only.refl _ _).drew) (Only.refl _ _).drew).mono ?_; rintro e w1 ⟨rfl, ho1, ⟨d0, d1, d2, d3, d4, d5⟩, ⟨e0, e1, e2, e3, e4, e5⟩, ho2⟩)
        | (go_at_call_of 10 C0; refine (H2.out w1 ⟨⟨d0, d1, d2, d3, d4, d5⟩, ⟨e0, e1, e2, e3, e4, e5⟩, ho2⟩ ho1).mono ?_; rintro e w2 ⟨rfl, ho3, ⟨f0, f1, f2, f3, f4, f5⟩, ⟨g0, g1, g2, g3, g4, g5⟩, ho4⟩)
        | (go_at_call 11; refine (H3.out w2 ⟨⟨f0, f1, f2, f3, f4, f5⟩, ⟨g0, g1, g2, g3, g4, g5⟩, ho4⟩ ho3).mono ?_; rintro e w3 ⟨rfl, ho5, ⟨f0, f1, f2, f3, f4, f5⟩, ⟨g0, g1, g2, g3, g4, g5⟩, ho6⟩))
    go_wp2
    go_ret
    exact ⟨rfl, o9.out.trans ho5 (fun _ _ h => h)⟩
  · have ha : decide (100 < (s.size : Int)) = true := by simp; omega
    clear HL9
    go_enter Tryd.func3, Tryd.ntmps3
    go_wp2_with fail
    go_at_call 5
    refine (HL.out _ (Only.refl _ _)).mono ?_
    rintro e w1 ⟨rfl, o1⟩
    replace o1 := Lib.hid o1
    go_wp2_with fail
    go_at_call 5
    refine (HL.out _ o1.out).mono ?_
    rintro e w2 ⟨rfl, o2⟩
    replace o2 := Lib.hid (o1.out.trans o2 (fun _ _ h => h))
    go_wp2
    go_ret
    exact ⟨rfl, o2.out⟩
end Go.Proofs.YtffccceadkfbgaaDoor
