/- reply: Num, Text, Row, Thing; json.Same. -/
import Derived.Test.YtffccceadkfbgaaDoorPrint
namespace Go.Proofs.YtffccceadkfbgaaDoor
open Go.RowKit Go.Sort

def jnum (n : Int) : Value := .agg #[.int .i64 2, .bool false, .int .i64 n, .string ⟨#[]⟩, .slice none 0 0, .slice none 0 0]
def jtext (s : ByteArray) : Value := .agg #[.int .i64 3, .bool false, .int .i64 0, .string s, .slice none 0 0, .slice none 0 0]
def jrow (v : Value) : Value := .agg #[.int .i64 4, .bool false, .int .i64 0, .string ⟨#[]⟩, v, .slice none 0 0]
def jthing (v : Value) : Value := .agg #[.int .i64 5, .bool false, .int .i64 0, .string ⟨#[]⟩, .slice none 0 0, v]

theorem num_c (n : Int) (w : World) : Calls Tryd.prog 8 #[.int .i64 n] w fun e w' => e = .returned (jnum n) ∧ Only none' w w' := by
  go_enter Tryd.func8, Tryd.ntmps8
  go_wp2
  exact bodyPost_ret (v := jnum n) (by simp [results, Tryd.results8, go_sem, jnum]) rfl ⟨rfl, (Only.refl _ _).alloc _⟩
theorem text_c (s : ByteArray) (w : World) : Calls Tryd.prog 9 #[.string s] w fun e w' => e = .returned (jtext s) ∧ Only none' w w' := by
  go_enter Tryd.func9, Tryd.ntmps9
  go_wp2
  exact bodyPost_ret (v := jtext s) (by simp [results, Tryd.results9, go_sem, jtext]) rfl ⟨rfl, (Only.refl _ _).alloc _⟩
theorem row_c (p : Option Addr) (n c : Nat) (w : World) : Calls Tryd.prog 7 #[.slice p n c] w fun e w' => e = .returned (jrow (.slice p n c)) ∧ Only none' w w' := by
  go_enter Tryd.func7, Tryd.ntmps7
  go_wp2
  exact bodyPost_ret (v := jrow (.slice p n c)) (by simp [results, Tryd.results7, go_sem, jrow]) rfl ⟨rfl, (Only.refl _ _).alloc _⟩
theorem thing_c (p : Option Addr) (n c : Nat) (w : World) : Calls Tryd.prog 6 #[.slice p n c] w fun e w' => e = .returned (jthing (.slice p n c)) ∧ Only none' w w' := by
  go_enter Tryd.func6, Tryd.ntmps6
  go_wp2
  exact bodyPost_ret (v := jthing (.slice p n c)) (by simp [results, Tryd.results6, go_sem, jthing]) rfl ⟨rfl, (Only.refl _ _).alloc _⟩

/-- Two values' cells in blocks of their own. -/
def TwoAt (w : World) (B C : Nat) (x y : Value × Value × Value × Value × Value × Value) (w' : World) : Prop :=
  (w'.cell? ⟨B, 0, none⟩ = some x.1 ∧ w'.cell? ⟨B, 1, none⟩ = some x.2.1 ∧ w'.cell? ⟨B, 2, none⟩ = some x.2.2.1 ∧ w'.cell? ⟨B, 3, none⟩ = some x.2.2.2.1 ∧ w'.cell? ⟨B, 4, none⟩ = some x.2.2.2.2.1 ∧ w'.cell? ⟨B, 5, none⟩ = some x.2.2.2.2.2) ∧
  (w'.cell? ⟨C, 0, none⟩ = some y.1 ∧ w'.cell? ⟨C, 1, none⟩ = some y.2.1 ∧ w'.cell? ⟨C, 2, none⟩ = some y.2.2.1 ∧ w'.cell? ⟨C, 3, none⟩ = some y.2.2.2.1 ∧ w'.cell? ⟨C, 4, none⟩ = some y.2.2.2.2.1 ∧ w'.cell? ⟨C, 5, none⟩ = some y.2.2.2.2.2) ∧ Only none' w w'
theorem keep6 {W w' : World} (ho : Only none' W w') {B : Nat} {x0 x1 x2 x3 x4 x5 : Value} (h : W.cell? ⟨B, 0, none⟩ = some x0 ∧ W.cell? ⟨B, 1, none⟩ = some x1 ∧ W.cell? ⟨B, 2, none⟩ = some x2 ∧ W.cell? ⟨B, 3, none⟩ = some x3 ∧ W.cell? ⟨B, 4, none⟩ = some x4 ∧ W.cell? ⟨B, 5, none⟩ = some x5) :
    w'.cell? ⟨B, 0, none⟩ = some x0 ∧ w'.cell? ⟨B, 1, none⟩ = some x1 ∧ w'.cell? ⟨B, 2, none⟩ = some x2 ∧ w'.cell? ⟨B, 3, none⟩ = some x3 ∧ w'.cell? ⟨B, 4, none⟩ = some x4 ∧ w'.cell? ⟨B, 5, none⟩ = some x5 := by
  obtain ⟨h0, h1, h2, h3, h4, h5⟩ := h
  have hB : B < W.heap.size := World.block_lt_of_cell? _ _ h0
  refine ⟨?_, ?_, ?_, ?_, ?_, ?_⟩
  · rw [ho.cell (p := ⟨B, 0, none⟩) hB (fun h => h)]; exact h0
  · rw [ho.cell (p := ⟨B, 1, none⟩) hB (fun h => h)]; exact h1
  · rw [ho.cell (p := ⟨B, 2, none⟩) hB (fun h => h)]; exact h2
  · rw [ho.cell (p := ⟨B, 3, none⟩) hB (fun h => h)]; exact h3
  · rw [ho.cell (p := ⟨B, 4, none⟩) hB (fun h => h)]; exact h4
  · rw [ho.cell (p := ⟨B, 5, none⟩) hB (fun h => h)]; exact h5
theorem TwoAt.keep {w : World} {B C : Nat} {x y : Value × Value × Value × Value × Value × Value} {W w' : World} (h : TwoAt w B C x y W) (ho : Only none' W w') : TwoAt w B C x y w' :=
  ⟨keep6 ho h.1, keep6 ho h.2.1, h.2.2.trans ho (fun _ _ h => h)⟩

theorem two_at (w : World) (a0 a1 a2 a3 a4 a5 b0 b1 b2 b3 b4 b5 : Value) :
    TwoAt w w.heap.size (w.heap.size + 1) (a0, a1, a2, a3, a4, a5) (b0, b1, b2, b3, b4, b5) ((w.alloc (.cells #[a0, a1, a2, a3, a4, a5] 26)).alloc (.cells #[b0, b1, b2, b3, b4, b5] 26)) := by
  have e : (w.alloc (.cells #[a0, a1, a2, a3, a4, a5] 26)).heap.size = w.heap.size + 1 := by simp
  refine ⟨keep6 ((Only.refl _ _).alloc _) ⟨by simp, by simp, by simp, by simp, by simp, by simp⟩, ?_, ((Only.refl _ _).alloc _).alloc _⟩
  rw [← e]
  generalize w.alloc (.cells #[a0, a1, a2, a3, a4, a5] 26) = W
  exact ⟨by simp, by simp, by simp, by simp, by simp, by simp⟩

set_option maxRecDepth 10000 in
set_option maxHeartbeats 4000000 in
theorem same_ok (d1 d2 : Nat) (j1 j2 : J) (cs1 cs2 : List Value) (w : World) (h1 : JC d1 w cs1 j1) (h2 : JC d2 w cs2 j2) (hp : pow10 w) (l1 : (J.pr d1 j1).length ≤ 1000000000) (l2 : (J.pr d2 j2).length ≤ 1000000000) :
    Calls Tryd.prog 11 #[.agg cs1.toArray, .agg cs2.toArray] w fun e w' => e = .returned (.bool (J.pr d1 j1 == J.pr d2 j2)) ∧ Only none' w w' := by
  obtain ⟨k1, b1, n1, t1, p1, m1, c1, q1, o1, g1, rfl⟩ := h1.shape
  obtain ⟨k2, b2, n2, t2, p2, m2, c2, q2, o2, g2, rfl⟩ := h2.shape
  have H1 : ∀ B C W, TwoAt w B C (.int .i64 k1, .bool b1, .int .i64 n1, .string t1, .slice p1 m1 c1, .slice q1 o1 g1) (.int .i64 k2, .bool b2, .int .i64 n2, .string t2, .slice p2 m2 c2, .slice q2 o2 g2) W → Calls Tryd.prog 10 #[.agg #[.int .i64 k1, .bool b1, .int .i64 n1, .string t1, .slice p1 m1 c1, .slice q1 o1 g1]] W fun e w' => e = .returned (.string ⟨(J.pr d1 j1).toArray⟩) ∧ Only none' W w' ∧ TwoAt w B C (.int .i64 k1, .bool b1, .int .i64 n1, .string t1, .slice p1 m1 c1, .slice q1 o1 g1) (.int .i64 k2, .bool b2, .int .i64 n2, .string t2, .slice p2 m2 c2, .slice q2 o2 g2) w' :=
    fun B C W hW => (prints d1 j1 _ W (h1.keep hW.2.2) (pow10_keep hp hW.2.2) l1).mono fun e w' ⟨he, ho⟩ => ⟨he, ho, hW.keep ho⟩
  have H2 : ∀ B C W, TwoAt w B C (.int .i64 k1, .bool b1, .int .i64 n1, .string t1, .slice p1 m1 c1, .slice q1 o1 g1) (.int .i64 k2, .bool b2, .int .i64 n2, .string t2, .slice p2 m2 c2, .slice q2 o2 g2) W → Calls Tryd.prog 10 #[.agg #[.int .i64 k2, .bool b2, .int .i64 n2, .string t2, .slice p2 m2 c2, .slice q2 o2 g2]] W fun e w' => e = .returned (.string ⟨(J.pr d2 j2).toArray⟩) ∧ Only none' W w' ∧ TwoAt w B C (.int .i64 k1, .bool b1, .int .i64 n1, .string t1, .slice p1 m1 c1, .slice q1 o1 g1) (.int .i64 k2, .bool b2, .int .i64 n2, .string t2, .slice p2 m2 c2, .slice q2 o2 g2) w' :=
    fun B C W hW => (prints d2 j2 _ W (h2.keep hW.2.2) (pow10_keep hp hW.2.2) l2).mono fun e w' ⟨he, ho⟩ => ⟨he, ho, hW.keep ho⟩
  replace H1 := Lib.hid H1
  replace H2 := Lib.hid H2
  clear h1 h2 hp l1 l2
  generalize J.pr d1 j1 = r1 at *
  generalize J.pr d2 j2 = r2 at *
  go_enter Tryd.func11, Tryd.ntmps11
  go_wp2_with fail
  have hT0 := two_at w (.int .i64 k1) (.bool b1) (.int .i64 n1) (.string t1) (.slice p1 m1 c1) (.slice q1 o1 g1) (.int .i64 k2) (.bool b2) (.int .i64 n2) (.string t2) (.slice p2 m2 c2) (.slice q2 o2 g2)
  generalize hB1 : w.heap.size = B1 at *
  generalize hC1 : B1 + 1 = C1 at *
  generalize ((w.alloc _).alloc _) = W2 at *
  obtain ⟨⟨x0, x1, x2, x3, x4, x5⟩, ⟨y0, y1, y2, y3, y4, y5⟩, hO⟩ := hT0
  go_region_held3 (fun w' => (w'.cell? ⟨B1, 0, none⟩ = some (.int .i64 k1) ∧ w'.cell? ⟨B1, 1, none⟩ = some (.bool b1) ∧ w'.cell? ⟨B1, 2, none⟩ = some (.int .i64 n1) ∧ w'.cell? ⟨B1, 3, none⟩ = some (.string t1) ∧ w'.cell? ⟨B1, 4, none⟩ = some (.slice p1 m1 c1) ∧ w'.cell? ⟨B1, 5, none⟩ = some (.slice q1 o1 g1)) ∧ w'.cell? ⟨C1, 0, none⟩ = some (.int .i64 k2) ∧ w'.cell? ⟨C1, 1, none⟩ = some (.bool b2) ∧ w'.cell? ⟨C1, 2, none⟩ = some (.int .i64 n2) ∧ w'.cell? ⟨C1, 3, none⟩ = some (.string t2) ∧ w'.cell? ⟨C1, 4, none⟩ = some (.slice p2 m2 c2) ∧ w'.cell? ⟨C1, 5, none⟩ = some (.slice q2 o2 g2))
    (first
      | go_keep
      | (refine ⟨⟨?_, ?_, ?_, ?_, ?_, ?_⟩, ?_, ?_, ?_, ?_, ?_, ?_⟩ <;> assumption))
    (first
      | (go_at_call_of 10 k1; refine (H1.out B1 C1 W2.drew ⟨⟨x0, x1, x2, x3, x4, x5⟩, ⟨y0, y1, y2, y3, y4, y5⟩, hO.drew⟩).mono ?_; rintro e w1 ⟨rfl, ho1, ⟨d0, d1, d2', d3, d4, d5⟩, ⟨e0, e1, e2, e3, e4, e5⟩, ho2⟩)
      | (go_at_call_of 10 k2; refine (H2.out B1 C1 w1 ⟨⟨d0, d1, d2', d3, d4, d5⟩, ⟨e0, e1, e2, e3, e4, e5⟩, ho2⟩).mono ?_; rintro e w2 ⟨rfl, ho3, ⟨f0, f1, f2, f3, f4, f5⟩, ⟨g0', g1', g2', g3', g4', g5'⟩, ho4⟩))
  go_wp2
  go_ret
  exact ⟨rfl, hO.drew.trans (ho1.trans ho3 (fun _ _ h => h)) (fun _ _ h => h)⟩
end Go.Proofs.YtffccceadkfbgaaDoor
