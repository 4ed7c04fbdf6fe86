/- json.quote: a text in quotes. -/
import Derived.Test.YtffccceadkfbgaaDoorHex
import Derived.Lib.UnsafeStr
namespace Go.Proofs.YtffccceadkfbgaaDoor
open Go.RowKit

def qch (c : UInt8) : List UInt8 := if c.toNat = 34 ∨ c.toNat = 92 then [92, c] else if c.toNat < 32 ∨ 126 < c.toNat then [92, 117, 48, 48, hexd (c.toNat / 16), hexd (c.toNat % 16)] else [c]
def quoteL (s : List UInt8) : List UInt8 := [34] ++ s.flatMap qch ++ [34]
def quoteTo (s : List UInt8) (k : Nat) : List UInt8 := [34] ++ (s.take k).flatMap qch

theorem qch_length (c : UInt8) : (qch c).length ≤ 6 := by unfold qch; split <;> (try split) <;> simp
theorem quoteTo_length (s : List UInt8) (k : Nat) : (quoteTo s k).length ≤ 1 + 6 * s.length := by
  have : ∀ l : List UInt8, (l.flatMap qch).length ≤ 6 * l.length := fun l => by
    induction l with
    | nil => simp
    | cons a t ih => have := qch_length a; rw [List.flatMap_cons, List.length_append, List.length_cons]; omega
  have h := this (s.take k)
  rw [List.length_take] at h
  rw [quoteTo, List.length_append, List.length_singleton]; omega
theorem quoteTo_snoc (s : List UInt8) (k : Nat) (h : k < s.length) : quoteTo s (k + 1) = quoteTo s k ++ qch s[k] := by
  rw [quoteTo, List.take_succ_eq_append_getElem h, List.flatMap_append]
  simp [quoteTo]

theorem sl_one (w : World) (c : UInt8) : Sl (w.alloc (.cells #[.int .u8 (c.toNat : Int)] 5)) 1 (.slice (some ⟨w.heap.size, 0, none⟩) 1 1) [c].length ([c].map fun b => .int .u8 (b.toNat : Int)) :=
  .inr ⟨w.heap.size, 0, 1, rfl, by simp, by simp, fun j u hj => by
    match j, hj with
    | 0, hj => simp at hj; subst hj; simp⟩
/-- A builder stays where no block that was there is written. -/
theorem isB_keep {T E B b : Nat} {bs : List Value} {w w' : World} (h : Lib.IsBuilder T E B b bs w) (ho : Only none' w w') : Lib.IsBuilder T E B b bs w' := by
  rcases h with ⟨hB, v, hb, hown, hne⟩ | ⟨hB, v, hb, hown, hne⟩
  · exact .inl ⟨hB, v, (ho.block b (lt_of_block hb) (fun h => h)).trans hb, ho.owns hown (fun _ _ h => h), hne⟩
  · exact .inr ⟨hB, v, (ho.block b (lt_of_block hb) (fun h => h)).trans hb, ho.owns hown (fun _ _ h => h), hne⟩

theorem quoteL_eq (s : List UInt8) : quoteL s = quoteTo s s.length ++ [34] := by simp [quoteL, quoteTo]
theorem bcl_append (a b : List UInt8) : Lib.byteCells (a ++ b) = Lib.byteCells a ++ Lib.byteCells b := by simp [Lib.byteCells]
theorem uni_size (c : UInt8) : ((⟨#[92, 117, 48, 48]⟩ : ByteArray) ++ ⟨(hexL [c]).toArray⟩).size = 6 := by rw [ByteArray.size_append]; simp [ByteArray.size, hexL]
theorem uni_cells (c : UInt8) : Lib.strCells ((⟨#[92, 117, 48, 48]⟩ : ByteArray) ++ ⟨(hexL [c]).toArray⟩) = Lib.byteCells [92, 117, 48, 48, hexd (c.toNat / 16), hexd (c.toNat % 16)] := by
  simp [Lib.strCells, Lib.byteCells, ByteArray.data_append, hexL]

def QRel (l : List UInt8) (w : World) (i : Value) (wr : World) : Prop :=
  ∃ k : Nat, k ≤ l.length ∧ i = .int .i64 k ∧ Lib.IsBuilder 55 5 w.heap.size w.heap.size (Lib.byteCells (quoteTo l k)) wr ∧ Only none' w wr

theorem QRel.next {l : List UInt8} {w w' : World} {k : Nat} {q : List UInt8} (hlt : k < l.length) (hs : quoteTo l (k + 1) = quoteTo l k ++ q) (hb : Lib.IsBuilder 55 5 w.heap.size w.heap.size (Lib.byteCells (quoteTo l k ++ q)) w') (ho : Only none' w w') (j : Int) (hj : j = (k : Int) + 1) : QRel l w (.int .i64 j) w' :=
  ⟨k + 1, by omega, by rw [hj]; simp, by rw [hs]; exact hb, ho⟩

set_option maxRecDepth 10000 in
set_option maxHeartbeats 2000000 in
theorem quote_ok (s : ByteArray) (w : World) (hl : s.size ≤ 1000000000) :
    Calls Tryd.prog 18 #[.string s] w fun e w' => e = .returned (.string ⟨(quoteL s.data.toList).toArray⟩) ∧ Only none' w w' := by
  have hb0 := Lib.hid (builder_new w)
  have hsz : s.data.toList.length = s.size := Array.length_toList
  have Hsz := Lib.hid hsz
  clear hsz
  go_enter Tryd.func18, Tryd.ntmps18
  go_wp2_with fail
  refine (bWriteByte w.heap.size w.heap.size _ _ _ hb0.out (by rw [bcl_length, List.length_nil]; omega) ((Only.refl none' w).alloc _).size).mono ?_
  rintro e w1 ⟨rfl, hb1, ho1⟩
  have Hb1 := Lib.hid hb1
  clear hb1 hb0
  have O1 : Only none' w w1 := ((Only.refl none' w).alloc _).thenBelow ho1 (Nat.le_refl _)
  clear ho1
  go_wp2_with fail
  go_loopw [9] (fun i wr => QRel s.data.toList w i wr) (fun i _ => s.size - (intOf i).toNat)
  case atStart => exact ⟨0, by omega, rfl, Hb1.out, O1⟩
  case round =>
    obtain ⟨k, hk, rfl, hbu, hon⟩ := hrel
    have hk' : k ≤ s.size := by rw [← Hsz.out]; exact hk
    clear Hb1 O1 hk
    have Hb := Lib.hid hbu
    clear hbu
    by_cases hlt : k < s.size
    · have hlt' := Lib.hid (show k < s.data.toList.length by rw [Hsz.out]; exact hlt)
      have Hs := quoteTo_snoc s.data.toList k hlt'.out
      have hq : s.data.toList[k]'hlt'.out = (s[k]'hlt) := by simp; rfl
      rw [hq] at Hs
      have Hs := Lib.hid Hs
      have hqlt := (s[k]'hlt).toNat_lt
      have hlen := quoteTo_length s.data.toList k
      rw [Hsz.out] at hlen
      have Hlen := Lib.hid (show (Lib.byteCells (quoteTo s.data.toList k)).length + 20 ≤ 140737488355328 by rw [bcl_length]; omega)
      clear hq hlen
      by_cases h1 : (s[k]'hlt).toNat = 34 ∨ (s[k]'hlt).toNat = 92
      · have Hq := Lib.hid (show qch (s[k]'hlt) = [92, (s[k]'hlt)] by simp [qch, h1])
        rcases h1 with h1 | h1
        · have hc : (s[k]'hlt) = 34 := UInt8.toNat_inj.1 h1
          have h1' : ((s[k]'hlt).toNat : Int) = 34 := by omega
          have Hc := Lib.hid hc
          clear h1 hc
          go_wp2_with fail
          refine (bWriteByte w.heap.size w.heap.size _ _ _ Hb.out (by have := Hlen.out; omega) hon.size).mono ?_
          rintro e w1 ⟨rfl, hb2, ho1⟩
          go_wp2_with fail
          refine (bWriteByte w.heap.size w.heap.size _ _ _ hb2 (by have := Hlen.out; simp; omega) (by have := hon.size; have := ho1.size; omega)).mono ?_
          rintro e w2 ⟨rfl, hb3, ho2⟩
          go_wp2_with fail
          exact ⟨QRel.next hlt'.out Hs.out (by rw [Hq.out, Hc.out, show [(92 : UInt8), 34] = [92] ++ [34] from rfl, ← List.append_assoc, bcl_snoc, bcl_snoc]; exact hb3) ((hon.thenBelow ho1 (Nat.le_refl _)).thenBelow ho2 (Nat.le_refl _)) _ rfl, by simp [intOf]; omega⟩
        · have hc : (s[k]'hlt) = 92 := UInt8.toNat_inj.1 h1
          have h1' : ((s[k]'hlt).toNat : Int) = 92 := by omega
          have Hc := Lib.hid hc
          clear h1 hc
          go_wp2_with fail
          refine (bWriteByte w.heap.size w.heap.size _ _ _ Hb.out (by have := Hlen.out; omega) hon.size).mono ?_
          rintro e w1 ⟨rfl, hb2, ho1⟩
          go_wp2_with fail
          refine (bWriteByte w.heap.size w.heap.size _ _ _ hb2 (by have := Hlen.out; simp; omega) (by have := hon.size; have := ho1.size; omega)).mono ?_
          rintro e w2 ⟨rfl, hb3, ho2⟩
          go_wp2_with fail
          exact ⟨QRel.next hlt'.out Hs.out (by rw [Hq.out, Hc.out, show [(92 : UInt8), 92] = [92] ++ [92] from rfl, ← List.append_assoc, bcl_snoc, bcl_snoc]; exact hb3) ((hon.thenBelow ho1 (Nat.le_refl _)).thenBelow ho2 (Nat.le_refl _)) _ rfl, by simp [intOf]; omega⟩
      · have e1 : (((s[k]'hlt).toNat : Int) == 34) = false := beq_eq_false_iff_ne.2 (by omega)
        have e2 : (((s[k]'hlt).toNat : Int) == 92) = false := beq_eq_false_iff_ne.2 (by omega)
        by_cases h2 : (s[k]'hlt).toNat < 32 ∨ 126 < (s[k]'hlt).toNat
        · have Hq := Lib.hid (show qch (s[k]'hlt) = [92, 117, 48, 48, hexd ((s[k]'hlt).toNat / 16), hexd ((s[k]'hlt).toNat % 16)] by simp [qch, h1, h2])
          by_cases h3 : ((s[k]'hlt).toNat : Int) < 32
          · skip
            clear h1 h2
            go_wp2_with fail
            refine (text_ok _ [s[k]'hlt] _ (sl_one wr (s[k]'hlt)) (by simp)).mono ?_
            rintro e w1 ⟨rfl, ho1⟩
            have O2 : Only none' w w1 := (hon.alloc _).trans ho1 (fun _ _ h => h)
            have Hb2 := Lib.hid (isB_keep Hb.out (((Only.refl none' wr).alloc _).trans ho1 (fun _ _ h => h)))
            go_wp2_with fail
            refine (bWriteString w.heap.size w.heap.size _ _ _ Hb2.out (by rw [uni_size]; have := Hlen.out; omega) O2.size).mono ?_
            rintro e w2 ⟨rfl, hb3, ho3⟩
            go_wp2_with fail
            exact ⟨QRel.next hlt'.out Hs.out (by rw [Hq.out, bcl_append, ← uni_cells]; exact hb3) (O2.thenBelow ho3 (Nat.le_refl _)) _ rfl, by simp [intOf]; omega⟩
          · have h4 : (126 : Int) < ((s[k]'hlt).toNat : Int) := by omega
            clear h1 h2
            go_wp2_with fail
            refine (text_ok _ [s[k]'hlt] _ (sl_one wr (s[k]'hlt)) (by simp)).mono ?_
            rintro e w1 ⟨rfl, ho1⟩
            have O2 : Only none' w w1 := (hon.alloc _).trans ho1 (fun _ _ h => h)
            have Hb2 := Lib.hid (isB_keep Hb.out (((Only.refl none' wr).alloc _).trans ho1 (fun _ _ h => h)))
            go_wp2_with fail
            refine (bWriteString w.heap.size w.heap.size _ _ _ Hb2.out (by rw [uni_size]; have := Hlen.out; omega) O2.size).mono ?_
            rintro e w2 ⟨rfl, hb3, ho3⟩
            go_wp2_with fail
            exact ⟨QRel.next hlt'.out Hs.out (by rw [Hq.out, bcl_append, ← uni_cells]; exact hb3) (O2.thenBelow ho3 (Nat.le_refl _)) _ rfl, by simp [intOf]; omega⟩
        · have Hq := Lib.hid (show qch (s[k]'hlt) = [(s[k]'hlt)] by simp [qch, h1, h2])
          have h3 : ¬ ((s[k]'hlt).toNat : Int) < 32 := by omega
          have h4 : ¬ (126 : Int) < ((s[k]'hlt).toNat : Int) := by omega
          clear h1 h2
          go_wp2_with fail
          refine (bWriteByte w.heap.size w.heap.size _ _ _ Hb.out (by have := Hlen.out; omega) hon.size).mono ?_
          rintro e w1 ⟨rfl, hb2, ho1⟩
          go_wp2_with fail
          exact ⟨QRel.next hlt'.out Hs.out (by rw [Hq.out, bcl_snoc]; exact hb2) (hon.thenBelow ho1 (Nat.le_refl _)) _ rfl, by simp [intOf]; omega⟩
    · have hkk := Lib.hid (show s.size = k by omega)
      have hkk' := Lib.hid (Hsz.out.trans hkk.out)
      go_wp2_with fail
      have hlen := quoteTo_length s.data.toList k
      rw [Hsz.out] at hlen
      refine (bWriteByte w.heap.size w.heap.size _ _ _ Hb.out (by rw [bcl_length]; omega) hon.size).mono ?_
      rintro e w1 ⟨rfl, hb2, ho1⟩
      have Hb2 := Lib.hid hb2
      clear hb2 hlen
      go_wp2_with fail
      refine (Tryd.Builder_String_any w.heap.size w.heap.size (quoteL s.data.toList) _ (by rw [quoteL_eq, hkk'.out, bcl_snoc]; exact Hb2.out) (by have := hon.size; have := ho1.size; omega)).mono ?_
      rintro e w2 ⟨rfl, ho2⟩
      go_wp2_with fail
      go_ret
      exact ⟨rfl, (hon.thenBelow ho1 (Nat.le_refl _)).thenBelow ho2 (Nat.le_refl _)⟩
end Go.Proofs.YtffccceadkfbgaaDoor
