/- Contracts of hex: sign, Text. -/
import Derived.Test.YtffccceadkfbgaaDoorProg
import Derived.Test.YtffccceadkfbgaaDoorMem
import Derived.Test.YtffccceadkfbgaaDoorShelf
import Derived.Test.YtffccceadkfbgaaDoorBld
import Derived.LoopTactic
import Derived.KernelRfl
import Derived.Laws.BytesArg
namespace Go.Proofs.YtffccceadkfbgaaDoor
open Go.RowKit

def hexd (x : Nat) : UInt8 := if x < 10 then UInt8.ofNat (48 + x) else UInt8.ofNat (87 + x)
def hexL (l : List UInt8) : List UInt8 := l.flatMap fun x => [hexd (x.toNat / 16), hexd (x.toNat % 16)]

theorem Only.thenBelow {w wr w' : World} {b : Nat} (h : Only none' w wr) (hb : Below b wr w') (hle : w.heap.size ≤ b) : Only none' w w' :=
  ⟨hb.os.trans h.os, hb.tape.trans h.tape, hb.output.trans h.output, Nat.le_trans h.size hb.size, fun k hk hs => (hb.block k (by omega)).trans (h.block k hk hs)⟩

theorem hexd_int (x : Nat) (h : x < 16) : ((hexd x).toNat : Int) = if (x : Int) < 10 then 48 + (x : Int) else 87 + (x : Int) := by
  unfold hexd
  split
  · rw [if_pos (by omega), UInt8.toNat_ofNat']; omega
  · rw [if_neg (by omega), UInt8.toNat_ofNat']; omega

theorem sign_ok (x : Int) (w : World) (h0 : 0 ≤ x) (h1 : x < 16) : Calls Tryd.prog 32 #[.int .u8 x] w fun e w' => e = .returned (.int .u8 ((hexd x.toNat).toNat : Int)) ∧ w = w' := by
  have hd := Lib.hid (hexd_int x.toNat (by omega))
  by_cases h : x < 10
  · go_enter Tryd.func32, Tryd.ntmps32
    go_wp2
    go_ret
    exact ⟨ret_int (by rw [hd.out, if_pos (by omega)]; omega), rfl⟩
  · go_enter Tryd.func32, Tryd.ntmps32
    go_wp2
    go_ret
    exact ⟨ret_int (by rw [hd.out, if_neg (by omega)]; omega), rfl⟩

theorem builder_new (w : World) : Lib.IsBuilder 55 5 w.heap.size w.heap.size (Lib.byteCells []) (w.alloc (.cells #[.pointer none, .slice none 0 0] 55)) :=
  .inl ⟨Nat.le_refl _, .slice none 0 0, heap_alloc_new w _, World.ownsRow_nil _ _ _ _, by simp [Value.ownBlock]⟩

theorem bcl_length (l : List UInt8) : (Lib.byteCells l).length = l.length := by simp [Lib.byteCells]
theorem bcl_snoc (l : List UInt8) (c : UInt8) : Lib.byteCells (l ++ [c]) = Lib.byteCells l ++ [.int .u8 (c.toNat : Int)] := by simp [Lib.byteCells]
theorem ret_str {a b : List UInt8} (h : a = b) : Ending.returned (.string ⟨a.toArray⟩) = .returned (.string ⟨b.toArray⟩) := by rw [h]

def HxRel (l : List UInt8) (w : World) (i : Value) (wr : World) : Prop :=
  ∃ k : Nat, k ≤ l.length ∧ i = .int .i64 k ∧ Lib.IsBuilder 55 5 w.heap.size w.heap.size (Lib.byteCells (hexL (l.take k))) wr ∧ Only none' w wr

theorem hexL_snoc (l : List UInt8) (k : Nat) (h : k < l.length) : hexL (l.take (k + 1)) = hexL (l.take k) ++ [hexd (l[k].toNat / 16)] ++ [hexd (l[k].toNat % 16)] := by
  rw [List.take_succ_eq_append_getElem h, hexL, List.flatMap_append]
  simp [hexL]
theorem hexL_length (l : List UInt8) : (hexL l).length = 2 * l.length := by
  induction l with
  | nil => rfl
  | cons a t ih =>
    have : hexL (a :: t) = [hexd (a.toNat / 16), hexd (a.toNat % 16)] ++ hexL t := rfl
    rw [this, List.length_append, ih]; simp; omega

set_option maxHeartbeats 1000000 in
theorem text_ok (v : Value) (l : List UInt8) (w : World) (h : Sl w 1 v l.length (l.map fun b => .int .u8 (b.toNat : Int))) (hl : l.length ≤ 1000000000) :
    Calls Tryd.prog 24 #[v] w fun e w' => e = .returned (.string ⟨(hexL l).toArray⟩) ∧ Only none' w w' := by
  have hb0 := Lib.hid (builder_new w)
  obtain ⟨p, c, rfl, _⟩ := h.shape
  have H := Lib.hid h
  clear h
  go_enter Tryd.func24, Tryd.ntmps24
  go_wp2_with fail
  go_loopw [8] (fun i wr => HxRel l w i wr) (fun i _ => l.length - (intOf i).toNat)
  case atStart => exact ⟨0, by omega, rfl, hb0.out, (Only.refl _ _).alloc _⟩
  case round =>
    obtain ⟨k, hk, rfl, hbu, hon⟩ := hrel
    clear hb0
    have Hb := Lib.hid hbu
    clear hbu
    by_cases hlt : k < l.length
    · rcases H.out.keep hon (fun _ _ h => h) with ⟨_, _, hz⟩ | ⟨b, o, c', hv, _, _, hx⟩
      · omega
      injection hv with hv1 hv2 hv3
      subst hv1
      have hc := hx k (.int .u8 (l[k].toNat : Int)) (by simp [hlt])
      have hlen : (hexL (l.take k)).length ≤ 2 * l.length := by rw [hexL_length, List.length_take]; omega
      have hblt : b < w.heap.size := by
        rcases H.out with ⟨_, _, hz⟩ | ⟨b', o', c'', hv, _, _, hx'⟩
        · omega
        · injection hv with hv1 _ _
          injection hv1 with hv1
          injection hv1 with hv1 _ _
          subst hv1
          exact World.block_lt_of_cell? _ _ (hx' k _ (by simp [hlt] : _ = some (Value.int .u8 (l[k].toNat : Int))))
      have Hs := Lib.hid (hexL_snoc l k hlt)
      have hq := l[k].toNat_lt
      clear hx hv2 hv3
      generalize l[k] = q at *
      go_wp2_with (go_at_call 32; refine (sign_ok _ _ (by omega) (by omega)).mono ?_; rintro e w' ⟨rfl, rfl⟩)
      refine (bWriteByte w.heap.size w.heap.size _ _ _ Hb.out (by rw [bcl_length]; omega) hon.size).mono ?_
      rintro e w1 ⟨rfl, hb1, ho1⟩
      have hs1 := ho1.size
      have hc1 := (ho1.cell (p := ⟨b, o + k, none⟩) hblt).trans hc
      go_wp2_with (go_at_call 32; refine (sign_ok _ _ (by omega) (by omega)).mono ?_; rintro e w' ⟨rfl, rfl⟩)
      refine (bWriteByte w.heap.size w.heap.size _ _ _ hb1 (by simp [bcl_length]; omega) (by have := hon.size; omega)).mono ?_
      rintro e w2 ⟨rfl, hb2, ho2⟩
      go_wp2
      exact ⟨⟨k + 1, by omega, by go_num, by rw [Hs.out, bcl_snoc, bcl_snoc]; exact hb2, (hon.thenBelow ho1 (Nat.le_refl _)).thenBelow ho2 (Nat.le_refl _)⟩, by simp [intOf]; omega⟩
    · have hkk := Lib.hid (show l.length = k by omega)
      go_wp2_with (go_at_call 25; refine (Tryd.Builder_String_any w.heap.size w.heap.size _ _ Hb.out hon.size).mono ?_; rintro e w1 ⟨rfl, ho1⟩)
      go_ret
      exact ⟨ret_str (by rw [← hkk.out, List.take_length]), hon.thenBelow ho1 (Nat.le_refl _)⟩
end Go.Proofs.YtffccceadkfbgaaDoor
