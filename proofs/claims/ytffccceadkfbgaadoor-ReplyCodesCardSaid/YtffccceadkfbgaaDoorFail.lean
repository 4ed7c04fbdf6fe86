/- reply.Failed; json.Get. -/
import Derived.Test.YtffccceadkfbgaaDoorCode
namespace Go.Proofs.YtffccceadkfbgaaDoor
open Go.RowKit Go.Sort

def Cells7 (B : Nat) (x0 x1 x2 x3 x4 x5 x6 : Value) (w' : World) : Prop := w'.cell? ⟨B, 0, none⟩ = some x0 ∧ w'.cell? ⟨B, 1, none⟩ = some x1 ∧ w'.cell? ⟨B, 2, none⟩ = some x2 ∧ w'.cell? ⟨B, 3, none⟩ = some x3 ∧ w'.cell? ⟨B, 4, none⟩ = some x4 ∧ w'.cell? ⟨B, 5, none⟩ = some x5 ∧ w'.cell? ⟨B, 6, none⟩ = some x6
theorem Cells7.keep {W w' : World} (ho : Only none' W w') {B : Nat} {x0 x1 x2 x3 x4 x5 x6 : Value} (h : Cells7 B x0 x1 x2 x3 x4 x5 x6 W) : Cells7 B x0 x1 x2 x3 x4 x5 x6 w' := by
  obtain ⟨h0, h1, h2, h3, h4, h5, h6⟩ := h
  have hB : B < W.heap.size := World.block_lt_of_cell? _ _ h0
  have e : ∀ i, w'.cell? ⟨B, i, none⟩ = W.cell? ⟨B, i, none⟩ := fun i => ho.cell (p := ⟨B, i, none⟩) hB (fun h => h)
  exact ⟨(e 0).trans h0, (e 1).trans h1, (e 2).trans h2, (e 3).trans h3, (e 4).trans h4, (e 5).trans h5, (e 6).trans h6⟩
theorem Cells7.new (w : World) (x0 x1 x2 x3 x4 x5 x6 : Value) (t : TypeId) : Cells7 w.heap.size x0 x1 x2 x3 x4 x5 x6 (w.alloc (.cells #[x0, x1, x2, x3, x4, x5, x6] t)) :=
  ⟨by simp, by simp, by simp, by simp, by simp, by simp, by simp⟩

theorem cell_set_far {w : World} {p q : Addr} {u : Value} (h : q.block ≠ p.block) : (w.setCell p u).cell? q = w.cell? q := World.cell?_of_block (Below.heap_setCell w p u q.block h)

/-- No place of the block is frozen. -/
def Warm (B : Nat) (w : World) : Prop := B < w.heap.size ∧ ∀ i, w.frozen? ⟨B, i, none⟩ = false
theorem Warm.new (w : World) (xs : Array Value) (t : TypeId) : Warm w.heap.size (w.alloc (.cells xs t)) := ⟨by simp, fun i => by simp⟩
theorem Warm.keep {W w' : World} (ho : Only none' W w') {B : Nat} (h : Warm B W) : Warm B w' := ⟨Nat.lt_of_lt_of_le h.1 ho.size, fun i => (ho.frozen (p := ⟨B, i, none⟩) h.1 (fun h => h)).trans (h.2 i)⟩

set_option maxRecDepth 10000 in
set_option maxHeartbeats 400000 in
theorem failed_c (e : Int) (w : World) : Calls Tryd.prog 12 #[.int .i64 e] w fun d w' => ∃ B, d = .returned (.agg #[.int .i64 (codeOf e), .int .i64 5, .bool false, .int .i64 0, .string ⟨#[]⟩, .slice none 0 0, .slice (some ⟨B, 0, none⟩) 1 1]) ∧ Cells7 B (.string ⟨#[101, 114, 114, 111, 114]⟩) (.int .i64 3) (.bool false) (.int .i64 0) (.string ⟨(wordOf e).toArray⟩) (.slice none 0 0) (.slice none 0 0) w' ∧ Only none' w w' := by
  have HC := Lib.hid (code_c e)
  have HW := Lib.hid (word_c e)
  have HT := Lib.hid (text_c ⟨(wordOf e).toArray⟩)
  have HG := Lib.hid thing_c
  generalize codeOf e = c at *
  generalize wordOf e = s at *
  go_enter Tryd.func12, Tryd.ntmps12
  have S0 := Lib.hid (Cells7.new w (.int .i64 0) (.int .i64 0) (.bool false) (.int .i64 0) (.string ⟨#[]⟩) (.slice none 0 0) (.slice none 0 0) 40)
  have O0 := Lib.hid ((Only.refl none' w).alloc (.cells #[.int .i64 0, .int .i64 0, .bool false, .int .i64 0, .string ⟨#[]⟩, .slice none 0 0, .slice none 0 0] 40))
  have F0 := Lib.hid (Warm.new w #[.int .i64 0, .int .i64 0, .bool false, .int .i64 0, .string ⟨#[]⟩, .slice none 0 0, .slice none 0 0] 40)
  go_wp2_with fail
  generalize w.alloc _ = W0 at *
  generalize hB0 : w.heap.size = B0 at *
  go_wp2_with
    (first
      | (go_at_call 14
         refine (HC.out _).mono ?_
         rintro d w1 ⟨rfl, o1⟩)
      | (go_at_call 15
         refine (HW.out _).mono ?_
         rintro d w2 ⟨rfl, o2⟩)
      | (go_at_call 9
         refine (HT.out _).mono ?_
         rintro d w3 ⟨rfl, o3⟩
         have S3 := Cells7.keep (o1.trans (o2.trans o3 (fun _ _ h => h)) (fun _ _ h => h)) S0.out
         have N3 := Cells7.new w3 (.string ⟨#[101, 114, 114, 111, 114]⟩) (.int .i64 3) (.bool false) (.int .i64 0) (.string ⟨s.toArray⟩) (.slice none 0 0) (.slice none 0 0) 32
         have L3 := World.block_lt_of_cell? _ _ S3.1
         have F3 := Lib.hid (Warm.keep (o1.trans (o2.trans o3 (fun _ _ h => h)) (fun _ _ h => h)) F0.out)
         have O3 := Lib.hid (O0.out.trans (o1.trans (o2.trans o3 (fun _ _ h => h)) (fun _ _ h => h)) (fun _ _ h => h))
         replace S3 := Lib.hid S3
         replace N3 := Lib.hid N3
         simp only [jtext])
      | fail)
  have O4 := Lib.hid (O3.out.alloc (.cells #[.string ⟨#[101, 114, 114, 111, 114]⟩, .int .i64 3, .bool false, .int .i64 0, .string ⟨s.toArray⟩, .slice none 0 0, .slice none 0 0] 32))
  have S4 := Lib.hid (S3.out.keep ((Only.refl none' w3).alloc (.cells #[.string ⟨#[101, 114, 114, 111, 114]⟩, .int .i64 3, .bool false, .int .i64 0, .string ⟨s.toArray⟩, .slice none 0 0, .slice none 0 0] 32)))
  have F4 := Lib.hid (F3.out.keep ((Only.refl none' w3).alloc (.cells #[.string ⟨#[101, 114, 114, 111, 114]⟩, .int .i64 3, .bool false, .int .i64 0, .string ⟨s.toArray⟩, .slice none 0 0, .slice none 0 0] 32)))
  generalize w3.alloc _ = W4 at *
  generalize hB1 : w3.heap.size = B1 at *
  clear S3 O3 o1 o2 o3
  go_at_call 6
  refine (HG.out _ _ _ _).mono ?_
  rintro d w5 ⟨rfl, o5⟩
  obtain ⟨s0, s1, s2, s3, s4, s5, s6⟩ := S4.out.keep o5
  have N5 := Lib.hid (N3.out.keep o5)
  have O5 := Lib.hid (O4.out.trans o5 (fun _ _ h => h))
  simp only [jthing]
  have F5 := (F4.out.keep o5).2
  have f0 := F5 0
  have f1 := F5 1
  have f2 := F5 2
  have f3 := F5 3
  have f4 := F5 4
  have f5 := F5 5
  have f6 := F5 6
  clear F5 F4 F3 F0
  clear S4 N3 O4 o5
  go_wp2_with fail
  have hne : B0 ≠ B1 := Nat.ne_of_lt L3
  have hsz : w5.heap.size > B0 := World.block_lt_of_cell? _ _ s0
  refine bodyPost_ret (v := .agg #[.int .i64 c, .int .i64 5, .bool false, .int .i64 0, .string ⟨#[]⟩, .slice none 0 0, .slice (some ⟨B1, 0, none⟩) 1 1]) (by simp [results, Tryd.results12, go_sem, *]) rfl ⟨B1, rfl, ?_, ?_⟩
  · obtain ⟨n0, n1, n2, n3, n4, n5, n6⟩ := N5.out
    refine ⟨?_, ?_, ?_, ?_, ?_, ?_, ?_⟩ <;> (repeat rw [cell_set_far (Ne.symm hne)]) <;> assumption
  · have hb : ∀ p : Addr, p.block = B0 → p.block < w.heap.size → none' p.block := fun p e h => by omega
    refine Only.setCell (Only.setCell (Only.setCell (Only.setCell (Only.setCell (Only.setCell (Only.setCell O5.out (hb _ rfl) _) (hb _ rfl) _) (hb _ rfl) _) (hb _ rfl) _) (hb _ rfl) _) (hb _ rfl) _) (hb _ rfl) _
end Go.Proofs.YtffccceadkfbgaaDoor
