/- Contracts of wipe: places. -/
import Derived.Test.YtffccceadkfbgaaOct
import Derived.Test.YtffccceadkfbgaaShelf
import Derived.Lib.IndexMore
import Derived.Deep.OwnRows
namespace Go.Proofs.Ytffccceadkfbgaa
open Go.RowKit

theorem bytesOf_nat (l : List UInt8) : Lib.bytesOf (l.map fun x => (x.toNat : Int)) = l := by
  simp [Lib.bytesOf, Function.comp_def]

theorem cells_getD {w : World} {b o : Nat} {l : List UInt8} (h3 : ∀ j u, (bcells l)[j]? = some u → w.cell? ⟨b, o + j, none⟩ = some u) (i : Nat) (hi : i < l.length) :
    w.cell? ((⟨b, o, none⟩ : Addr).add i) = some (.int .u8 ((l.map fun x => (x.toNat : Int)).getD i 0)) := by
  rw [add_at, h3 i (.int .u8 (l[i].toNat : Int)) (by simp [bcells, hi])]
  simp [hi]

/-- bytes.Index of any bytes and of some that aren't none. -/
theorem index_ok (v1 v2 : Value) (l1 l2 : List UInt8) (w : World) (h1 : Sl w 1 v1 l1.length (bcells l1)) (h2 : Sl w 1 v2 l2.length (bcells l2)) (hne : l2 ≠ []) (m : Int) (hm : w.cell? ⟨0, 0, none⟩ = some (.int .i64 m))
    (hl1 : l1.length ≤ 1000000) (hl2 : l2.length ≤ 1000000) :
    Calls Try.prog 16 #[v1, v2] w fun e w' => e = .returned (.int .i64 (Lib.index l1 l2)) ∧ ∃ q, w' = w.drewN q := by
  have hpos : 0 < l2.length := List.length_pos_iff.2 hne
  rcases h2 with ⟨_, _, h⟩ | ⟨b2, o2, c2, rfl, hc2, hl2', hx2⟩
  · omega
  rcases h1 with ⟨rfl, _, h⟩ | ⟨b1, o1, c1, rfl, hc1, hl1', hx1⟩
  · have e : l1 = [] := List.eq_nil_of_length_eq_zero h
    subst e
    refine (Try.bytes_Index_nil _ l2.length c2 w (by omega) (fun h1 => ?_)).mono ?_
    · match l2, h1 with
      | [c], _ => exact ⟨b2, o2, (c.toNat : Int), rfl, hx2 0 _ rfl⟩
    · rintro e w' ⟨rfl, rfl⟩
      refine ⟨?_, 0, rfl⟩
      rw [if_neg (by omega)]
      cases l2 with
      | nil => cases hne rfl
      | cons a t => rfl
  · have := Try.bytes_Index_at ⟨b1, o1, none⟩ ⟨b2, o2, none⟩ l1.length c1 l2.length c2 (l1.map fun x => (x.toNat : Int)) (l2.map fun x => (x.toNat : Int)) m w (by simp) (by simp)
      (fun x hx => by obtain ⟨u, _, rfl⟩ := List.mem_map.1 hx; have := u.toNat_lt; omega) (fun x hx => by obtain ⟨u, _, rfl⟩ := List.mem_map.1 hx; have := u.toNat_lt; omega)
      (cells_getD hx1) (cells_getD hx2) hc1 (by omega) (by omega) hm
    rw [bytesOf_nat, bytesOf_nat] at this
    exact this

/-- Where a part stands ahead of place k. -/
def occs (img part : List UInt8) (k : Nat) : List Nat := (List.range k).filter fun i => Lib.occAt img part i
def icells (l : List Nat) : List Value := l.map fun (i : Nat) => .int .i64 (i : Int)

theorem occAt_drop (s sub : List UInt8) (k j : Nat) : Lib.occAt (s.drop k) sub j = Lib.occAt s sub (k + j) := by simp [Lib.occAt, List.drop_drop]

theorem occs_add (img part : List UInt8) (k r : Nat) (h : ∀ j, j < r → Lib.occAt (img.drop k) part j = false) : occs img part (k + r) = occs img part k := by
  induction r with
  | zero => rfl
  | succ r ih =>
    rw [← Nat.add_assoc, occs, List.range_succ, List.filter_append, List.filter_cons, ← occAt_drop, h r (by omega)]
    simpa [occs] using ih (fun j hj => h j (by omega))
theorem occs_hit (img part : List UInt8) (k : Nat) (h : Lib.occAt img part k = true) : occs img part (k + 1) = occs img part k ++ [k] := by
  simp [occs, List.range_succ, h]

theorem info_int : (Try.prog.info? 3).map (fun i => (i.zero, i.size, i.bytes)) = some (some (.int .i64 0), 1, 8) := by kernel_rfl
theorem und_ints : Try.prog.underlying 38 = some (.slice 3) := by kernel_rfl

theorem src_oneint (w : World) (u : Value) (h1 : u.oneCell' = true) {E : TypeId} : Src Try.prog 1 38 (.slice (some ⟨w.heap.size, 0, none⟩) 1 1) 1 [u] (w.alloc (.cells #[u] E)) :=
  Src.ofSlice _ und_ints ⟨w.heap.size, 0, none⟩ 1 1 [u] rfl (by intro j u' hj; match j, hj with | 0, hj => simp at hj; subst hj; simp [Addr.add]) (by intro u' hu; simp at hu; subst hu; exact h1)

/-- The loop of places: all ahead of place k were found. -/
def PlRel (img part : List UInt8) (w : World) (out at_ : Value) (wr : World) : Prop :=
  ∃ k n : Nat, k ≤ img.length ∧ at_ = .int .i64 k ∧ n = (occs img part k).length ∧ n ≤ k ∧ wr.ownsRow 0 3 1 out n (icells (occs img part k)) ∧ Only none' w wr ∧ ∀ b, out.ownBlock = some b → w.heap.size ≤ b

theorem occs_le (img part : List UInt8) (k : Nat) : (occs img part k).length ≤ k := by
  have := List.length_filter_le (fun i => Lib.occAt img part i) (List.range k)
  simpa [occs] using this

theorem PlRel.next {img part : List UInt8} {w wr w2 : World} {out v2 : Value} {o : Obj} {q : Nat} (k r n : Nat) (hr : k + r < img.length) (hn : n = (occs img part k).length) (hocc : Lib.occAt (img.drop k) part r = true) (hno : Lib.NoOcc (img.drop k) part r)
    (hon : Only none' w wr) (hfr : ∀ b, out.ownBlock = some b → w.heap.size ≤ b) (x : Int) (hx : x = (k : Int) + r)
    (ho : w2.ownsRow 0 3 1 v2 (n + 1) (icells (occs img part k) ++ [.int .i64 x])) (hg : ((wr.drewN q).alloc o).grownBy w2 out.ownBlock) (hf2 : ∀ b, v2.ownBlock = some b → out.ownBlock = some b ∨ ((wr.drewN q).alloc o).heap.size ≤ b) (j : Int) (hj : j = (k : Int) + (r + 1)) :
    PlRel img part w v2 (.int .i64 j) w2 := by
  subst hj hn hx
  have e : occs img part (k + r + 1) = occs img part k ++ [k + r] := by
    rw [occs_hit _ _ _ (by rw [← occAt_drop]; exact hocc), occs_add _ _ _ _ hno]
  refine ⟨k + r + 1, (occs img part k).length + 1, by omega, by simp; omega, by rw [e]; simp, by have := occs_le img part (k + r + 1); rw [e] at this; simpa using this, by rw [e]; simpa [icells] using ho, ((hon.drewN q).alloc o).grown hg (fun b hb e => ?_), fun b hb => ?_⟩
  · have := hfr b e; omega
  · have h1 := hon.size
    have h2 : ((wr.drewN q).alloc o).heap.size = wr.heap.size + 1 := by simp [World.drewN]
    rcases hf2 b hb with h | h
    · exact hfr b h
    · omega

theorem places_nil (v1 : Value) (c : Nat) (p : Option Addr) (w : World) :
    Calls Try.prog 10 #[v1, .slice p 0 c] w fun e w' => e = .returned (.slice none 0 0) ∧ w = w' := by
  go_enter Try.func10, Try.ntmps10
  go_wp2
  go_ret
  exact ⟨rfl, rfl⟩

set_option maxHeartbeats 2000000 in
theorem places_ok (v1 v2 : Value) (img part : List UInt8) (w : World) (h1 : Sl w 1 v1 img.length (bcells img)) (h2 : Sl w 1 v2 part.length (bcells part)) (hne : part ≠ []) (m : Int) (hm : w.cell? ⟨0, 0, none⟩ = some (.int .i64 m))
    (hl1 : img.length ≤ 1000000) (hl2 : part.length ≤ 1000000) :
    Calls Try.prog 10 #[v1, v2] w (Cloned w 3 1 (occs img part img.length).length (icells (occs img part img.length))) := by
  have hpos : 0 < part.length := List.length_pos_iff.2 hne
  obtain ⟨b2, o2, c2, hv2⟩ : ∃ b o c, v2 = .slice (some ⟨b, o, none⟩) part.length c := by
    rcases h2 with ⟨_, _, h⟩ | ⟨b2, o2, c2, rfl, _⟩
    · omega
    · exact ⟨b2, o2, c2, rfl⟩
  subst hv2
  have H1 := Lib.hid h1
  have H2 := Lib.hid h2
  have Hm := Lib.hid hm
  clear h1 h2 hm
  have hl0 : ((part.length : Int) == 0) = false := beq_eq_false_iff_ne.2 (by omega)
  go_enter Try.func10, Try.ntmps10
  go_wp2
  clear hl0
  go_loopw [5, 6] (fun o a wr => PlRel img part w o a wr) (fun _ a _ => img.length - (intOf a).toNat)
  case atStart => exact ⟨0, 0, by omega, rfl, rfl, by omega, World.ownsRow_nil _ _ _ _, Only.refl _ _, by simp [Value.ownBlock]⟩
  case round =>
    obtain ⟨k, n, hk, rfl, hn, hnk, hown, hon, hfr⟩ := hrel
    have HI : ∀ v, Sl wr 1 v (img.drop k).length (bcells (img.drop k)) → Calls Try.prog 16 #[v, .slice (some ⟨b2, o2, none⟩) part.length c2] wr (fun e w' => e = .returned (.int .i64 (Lib.index (img.drop k) part)) ∧ ∃ q, w' = wr.drewN q) :=
      fun v hv => index_ok v _ (img.drop k) part wr hv (H2.out.keep hon (fun _ _ h => h)) hne m ((hon.cell (World.block_lt_of_cell? _ _ Hm.out) (fun h => h)).trans Hm.out) (by simp; omega) hl2
    have hroom : ∀ r : Nat, Lib.index (img.drop k) part = r → k + r < img.length := fun r hr => by
      have := Lib.index_room (img.drop k) part (by omega)
      rw [hr, List.length_drop] at this
      omega
    -- the call at the slice from place k on
    have HC : ∀ v, Sl wr 1 v (img.drop k).length (bcells (img.drop k)) → (∃ r : Nat, k + r < img.length ∧ Lib.occAt (img.drop k) part r = true ∧ Lib.NoOcc (img.drop k) part r ∧ Calls Try.prog 16 #[v, .slice (some ⟨b2, o2, none⟩) part.length c2] wr (fun e w' => e = .returned (.int .i64 (r : Int)) ∧ ∃ q, w' = wr.drewN q)) ∨
        ((occs img part img.length = occs img part k) ∧ Calls Try.prog 16 #[v, .slice (some ⟨b2, o2, none⟩) part.length c2] wr (fun e w' => e = .returned (.int .i64 (-1)) ∧ ∃ q, w' = wr.drewN q)) := fun v hv => by
      have h := HI v hv
      rcases Lib.index_spec (img.drop k) part with ⟨hi, hno⟩ | ⟨r, hi, hrl, hocc, hno⟩
      · rw [hi] at h
        refine .inr ⟨?_, h⟩
        have := occs_add img part k (img.length - k) (fun j hj => hno j (by rw [List.length_drop]; omega))
        rwa [show k + (img.length - k) = img.length by omega] at this
      · have := hroom r hi
        rw [hi] at h
        exact .inl ⟨r, this, hocc, hno, h⟩
    clear HI hroom
    have Ho := Lib.hid hown
    have Hn := Lib.hid hn
    have Hf := Lib.hid hfr
    clear hown hn hfr
    have H1 := H1.out
    rcases H1 with ⟨rfl, _, hz⟩ | ⟨b, o, c, rfl, hc, hl, hx⟩
    · have : k = 0 := by omega
      subst this
      have hd : img = [] := List.eq_nil_of_length_eq_zero hz
      rcases HC (.slice none 0 0) (.inl ⟨rfl, by simp [hd, bcells], by simp [hd]⟩) with ⟨r, hr, _⟩ | ⟨heq, hcall⟩
      · omega
      · have Hc := Lib.hid hcall
        have He := Lib.hid heq
        clear hcall heq HC hd hl1 hz
        go_wp2_with (go_at_call 16; refine Hc.out.mono ?_; rintro e w' ⟨rfl, q, rfl⟩)
        go_ret
        exact ⟨_, rfl, by rw [He.out, ← Hn.out]; exact Ho.out, hon.drewN q, Hf.out⟩
    · by_cases hck : c = k
      · have hlk : img.length = k := by omega
        rcases HC (.slice (some ⟨b, o, none⟩) (img.length - k) 0) (.inr ⟨b, o, 0, by rw [List.length_drop], by rw [List.length_drop]; omega, by rw [bcells_length]; omega, fun j u hj => by obtain ⟨this, _⟩ := List.getElem?_eq_some_iff.1 hj; rw [bcells_length, List.length_drop] at this; omega⟩) with ⟨r, hr, _⟩ | ⟨heq, hcall⟩
        · omega
        · have Hc := Lib.hid hcall
          have He := Lib.hid heq
          have Hl := Lib.hid hlk
          clear hcall heq HC hl1 hx hl hlk
          go_wp2_with (go_at_call 16; refine Hc.out.mono ?_; rintro e w' ⟨rfl, q, rfl⟩)
          go_ret
          exact ⟨_, rfl, by rw [He.out, ← Hn.out]; exact Ho.out, hon.drewN q, Hf.out⟩
      · rcases HC (.slice (some ⟨b, o + k, none⟩) (img.length - k) (c - k)) (.inr ⟨b, o + k, c - k, by rw [List.length_drop], by rw [List.length_drop]; omega, by rw [bcells_length]; omega, fun j u hj => by
            have h3 := hx (k + j) u (by rw [← hj]; simp [bcells])
            rw [← Nat.add_assoc] at h3
            exact (hon.cell (World.block_lt_of_cell? _ _ h3) (fun h => h)).trans h3⟩) with ⟨r, hr, hocc, hno, hcall⟩ | ⟨heq, hcall⟩
        · have Hc := Lib.hid hcall
          have Hocc := Lib.hid hocc
          have Hno := Lib.hid hno
          clear hcall HC hx hl hocc hno
          go_wp2_with (first
            | (go_at_call 16; refine Hc.out.mono ?_; rintro e w' ⟨rfl, q, rfl⟩)
            | (at_builtin; refine wpList_app _ rfl (.tmp 19) (.tmp 23) 38 38 rfl 3 (.int .i64 0) 1 8 info_int und_ints rfl _ n _ rfl (World.ownsRow.alloc (w := wr.drewN q) Ho.out _) _ 1 [_] rfl (src_oneint (wr.drewN q) _ rfl) (by unfold maxLen; omega) (by omega) ?_; intro v3 w3 ho hg hf2))
          go_roundw
          case rel => exact PlRel.next (q := q) k r n hr Hn.out Hocc.out Hno.out hon Hf.out _ rfl ho hg hf2 _ rfl
          case measure => simp [intOf]; omega
        · have Hc := Lib.hid hcall
          have He := Lib.hid heq
          clear hcall heq HC hl1 hx hl
          go_wp2_with (go_at_call 16; refine Hc.out.mono ?_; rintro e w' ⟨rfl, q, rfl⟩)
          go_ret
          exact ⟨_, rfl, by rw [He.out, ← Hn.out]; exact Ho.out, hon.drewN q, Hf.out⟩

/-- Where a part stands; a part of no bytes nowhere. -/
def occsAll (img part : List UInt8) : List Nat := if part = [] then [] else occs img part img.length

theorem places_any (v1 v2 : Value) (img part : List UInt8) (w : World) (h1 : Sl w 1 v1 img.length (bcells img)) (h2 : Sl w 1 v2 part.length (bcells part)) (m : Int) (hm : w.cell? ⟨0, 0, none⟩ = some (.int .i64 m))
    (hl1 : img.length ≤ 1000000) (hl2 : part.length ≤ 1000000) :
    Calls Try.prog 10 #[v1, v2] w (Cloned w 3 1 (occsAll img part).length (icells (occsAll img part))) := by
  by_cases hne : part = []
  · subst hne
    obtain ⟨p, c, rfl, _⟩ := h2.shape
    refine (places_nil v1 c p w).mono ?_
    rintro e w' ⟨rfl, rfl⟩
    exact ⟨_, rfl, World.ownsRow_nil _ _ _ _, Only.refl _ _, by simp [Value.ownBlock]⟩
  · have := places_ok v1 v2 img part w h1 h2 hne m hm hl1 hl2
    simpa [occsAll, hne] using this

theorem holds_ok (v1 v2 : Value) (img part : List UInt8) (w : World) (h1 : Sl w 1 v1 img.length (bcells img)) (h2 : Sl w 1 v2 part.length (bcells part)) (m : Int) (hm : w.cell? ⟨0, 0, none⟩ = some (.int .i64 m))
    (hl1 : img.length ≤ 1000000) (hl2 : part.length ≤ 1000000) :
    Calls Try.prog 7 #[v1, v2] w fun e w' => e = .returned (.int .i64 ((occsAll img part).length : Int)) ∧ Only none' w w' := by
  have Hp := Lib.hid (places_any v1 v2 img part w h1 h2 m hm hl1 hl2)
  go_enter Try.func7, Try.ntmps7
  go_wp2_with (go_at_call 10; refine Hp.out.mono ?_; rintro e w' ⟨v, rfl, ho, hon, hf⟩; obtain ⟨p, c, rfl, _⟩ := (Sl.ofOwn ho).shape)
  go_ret
  exact ⟨rfl, hon⟩

def pcells (l : List Nat) : List Value := l.flatMap fun (i : Nat) => [.int .i64 ((i : Int) / 64), .int .i64 ((i : Int) % 64)]
theorem info_place : (Try.prog.info? 28).map (fun i => (i.zero, i.size, i.bytes)) = some (some (.agg #[.int .i64 0, .int .i64 0]), 2, 16) := by kernel_rfl
theorem und_places : Try.prog.underlying 25 = some (.slice 28) := by kernel_rfl

theorem wr_new (w : World) : Wr (w.alloc (.cells #[.slice none 0 0] 36)) w.heap.size (.slice none 0 0) [] :=
  ⟨heap_alloc_new w _, World.ownsRow_nil _ _ _ _, by simp [Value.ownBlock]⟩

theorem pcells_snoc (L : List Nat) (k : Nat) (h : k < L.length) : pcells (L.take (k + 1)) = pcells (L.take k) ++ [.int .i64 ((L[k] : Int) / 64), .int .i64 ((L[k] : Int) % 64)] := by
  rw [List.take_succ_eq_append_getElem h, pcells, List.flatMap_append]
  rfl

def TrRel (L : List Nat) (w : World) (out i : Value) (wr : World) : Prop :=
  ∃ k : Nat, k ≤ L.length ∧ i = .int .i64 k ∧ wr.ownsRow 0 28 2 out k (pcells (L.take k)) ∧ Only none' w wr ∧ ∀ b, out.ownBlock = some b → w.heap.size ≤ b

theorem occsAll_le (img part : List UInt8) : ∀ i ∈ occsAll img part, i < img.length := by
  unfold occsAll
  split
  · simp
  · intro i hi
    have := (List.mem_filter.1 hi).1
    simpa using this
theorem occsAll_length (img part : List UInt8) : (occsAll img part).length ≤ img.length := by
  unfold occsAll
  split
  · simp
  · exact occs_le _ _ _

set_option maxHeartbeats 2000000 in
theorem traces_ok (v1 : Value) (img : List UInt8) (x : Int) (w : World) (h1 : Sl w 1 v1 img.length (bcells img)) (m : Int) (hm : w.cell? ⟨0, 0, none⟩ = some (.int .i64 m))
    (hl1 : img.length ≤ 100000) :
    Calls Try.prog 6 #[v1, .int .i64 x] w (Cloned w 28 2 (occsAll img (be 8 (u64of x))).length (pcells (occsAll img (be 8 (u64of x))))) := by
  have hw0 := Lib.hid (wr_new w)
  have H1 := Lib.hid h1
  have Hm := Lib.hid hm
  clear h1 hm
  go_enter Try.func6, Try.ntmps6
  go_wp2_with (first
    | (go_at_call 9; refine (int_ok w.heap.size _ [] x _ hw0.out (by simp)).mono ?_; rintro e w1 ⟨rfl, vw, hw1, ho1, hf1⟩; have O1 : Only none' w w1 := ((Only.refl none' w).alloc _).trans ho1 (fun k hk h => by rcases h with rfl | h; exact absurd hk (Nat.lt_irrefl _); cases h))
    | (go_at_call 11; refine (bytes_ok _ _ _ _ hw1 (by simp [be])).mono ?_; rintro e w2 ⟨vb, rfl, hb, hob, hfb⟩; have O2 : Only none' w w2 := O1.trans hob (fun _ _ h => h))
    | (go_at_call 10; refine (places_any v1 vb img (be 8 (u64of x)) _ (H1.out.keep O2 (fun _ _ h => h)) (Sl.ofOwn hb) m ((O2.cell (World.block_lt_of_cell? _ _ Hm.out) (fun h => h)).trans Hm.out) (by omega) (by simp [be])).mono ?_; rintro e w3 ⟨vp, rfl, hp, hop, hfp⟩; obtain ⟨p, c, rfl, _⟩ := (Sl.ofOwn hp).shape))
  have hlen := occsAll_length img (be 8 (u64of x))
  have hle := occsAll_le img (be 8 (u64of x))
  clear hw0
  generalize occsAll img (be 8 (u64of x)) = L at *
  have O3 : Only none' w w3 := O2.trans hop (fun _ _ h => h)
  have Hle := Lib.hid hle
  clear hle hw1 ho1 hf1 O1 hb hob hfb O2 hop hfp
  have hsl := Lib.hid (Sl.ofOwn hp)
  clear hp
  go_loopw [6, 19] (fun o i wr => TrRel L w3 o i wr) (fun _ i _ => L.length - (intOf i).toNat)
  case atStart => exact ⟨0, by omega, rfl, World.ownsRow_nil _ _ _ _, Only.refl _ _, by simp [Value.ownBlock]⟩
  case round =>
    obtain ⟨k, hk, rfl, hown, hon, hfr⟩ := hrel
    have Ho := Lib.hid hown
    have Hf := Lib.hid hfr
    clear hown hfr
    by_cases hlt : k < L.length
    · have hwr := hsl.out.keep hon (fun _ _ h => h)
      rcases hwr with ⟨_, _, hz⟩ | ⟨b, o, c', hv, _, _, hx⟩
      · omega
      · have hc := hx k (.int .i64 (L[k] : Int)) (by simp [icells, hlt])
        have hL := Hle.out L[k] (List.getElem_mem hlt)
        injection hv with hv1 hv2 hv3
        subst hv1
        have Hk := Lib.hid (pcells_snoc L k hlt)
        clear hx hv2 hv3
        generalize L[k] = q at *
        go_wp2_with (at_builtin; refine wpList_app _ rfl (.tmp 23) (.tmp 29) 25 25 rfl 28 (.agg #[.int .i64 0, .int .i64 0]) 2 16 info_place und_places rfl _ k _ rfl (Ho.out.alloc _) _ 1 _ rfl (src_new und_places wr [.int .i64 ((q : Int) / 64), .int .i64 ((q : Int) % 64)] rfl (by intro u hu; simp at hu; rcases hu with rfl | rfl <;> rfl)) (by unfold maxLen; omega) (by omega) ?_; intro v4 w4 ho hg hf2)
        go_roundw
        case rel =>
          refine ⟨k + 1, by omega, by go_num, by rw [Hk.out]; exact ho, (hon.alloc _).grown hg (fun b hb e => by have := Hf.out b e; omega), fun b hb => ?_⟩
          rcases hf2 b hb with h | h
          · exact Hf.out b h
          · have := hon.size; simp at h; omega
        case measure => simp [intOf]; omega
    · have hkk := Lib.hid (show L.length = k by omega)
      go_wp2
      go_ret
      exact ⟨_, rfl, by rw [hkk.out]; have := Ho.out; rwa [← hkk.out, List.take_length, hkk.out] at this, O3.trans hon (fun _ _ h => h), fun b hb => Nat.le_trans O3.size (Hf.out b hb)⟩

theorem whole_130 (p : Option Addr) (c : Nat) (w : World) : Calls Try.prog 12 #[.slice p 130 c] w fun e w' => e = .returned (.int .i64 2) ∧ w = w' := by
  go_enter Try.func12, Try.ntmps12
  go_wp2
  go_ret
  exact ⟨rfl, rfl⟩
theorem sector0 (b : Nat) (w : World) : Calls Try.prog 14 #[.slice (some ⟨b, 0, none⟩) 130 130, .int .i64 0] w fun e w' => e = .returned (.slice (some ⟨b, 0, none⟩) 64 130) ∧ w = w' := by
  go_enter Try.func14, Try.ntmps14
  go_wp2
  go_ret
  exact ⟨rfl, rfl⟩
theorem sector1 (b : Nat) (w : World) : Calls Try.prog 14 #[.slice (some ⟨b, 0, none⟩) 130 130, .int .i64 1] w fun e w' => e = .returned (.slice (some ⟨b, 64, none⟩) 64 66) ∧ w = w' := by
  go_enter Try.func14, Try.ntmps14
  go_wp2
  go_ret
  exact ⟨rfl, rfl⟩
/-- n bytes 0. -/
def zeros (n : Nat) : Array Value := madeCells #[.int .u8 0] n
theorem zeros_at (n j : Nat) (h : j < n) : (zeros n)[j]? = some (.int .u8 0) := by
  have := toList_madeCells_one (.int .u8 0) n
  rw [zeros, ← Array.getElem?_toList, this]
  simp [h]
theorem mk_bytes (n : Nat) (h : n ≤ 1000000) (w : World) : (Instr.makeSlice 22 (.int .i64 (n : Int)) (.int .i64 (n : Int))).run Try.prog w = .ok (.slice (some ⟨w.heap.size, 0, none⟩) n n) (w.alloc (.cells (zeros n) 5)) :=
  run_make_row' 22 5 (.int .u8 0) 1 und_bytes info8 rfl .i64 .i64 n (by omega) (by omega) w
theorem zeros_cell (w : World) (n j : Nat) (h : j < n) : (w.alloc (.cells (zeros n) 5)).cell? ⟨w.heap.size, j, none⟩ = some (.int .u8 0) := by
  rw [cell_of_row _ w.heap.size j (zeros n) 5 (0, 0) (heap_alloc_new w _)]
  exact zeros_at n j h

theorem getD_rep {n i : Nat} (h : i < n) : (List.replicate n (0 : Int)).getD i 0 = 0 := by
  simp only [List.getD, List.getElem?_replicate, if_pos h, Option.getD_some]
theorem mk64 (w : World) : (Instr.makeSlice 22 (.int .i64 64) (.int .i64 64)).run Try.prog w = .ok (.slice (some ⟨w.heap.size, 0, none⟩) 64 64) (w.alloc (.cells (zeros 64) 5)) := mk_bytes 64 (by omega) w
theorem mk130 (w : World) : (Instr.makeSlice 22 (.int .i64 130) (.int .i64 130)).run Try.prog w = .ok (.slice (some ⟨w.heap.size, 0, none⟩) 130 130) (w.alloc (.cells (zeros 130) 5)) := mk_bytes 130 (by omega) w

theorem equal_zero (b o c b2 o2 c2 : Nat) (w : World) (h1 : ∀ j, j < 64 → w.cell? ⟨b, o + j, none⟩ = some (.int .u8 0)) (h2 : ∀ j, j < 64 → w.cell? ⟨b2, o2 + j, none⟩ = some (.int .u8 0)) :
    Calls Try.prog 13 #[.slice (some ⟨b, o, none⟩) 64 c, .slice (some ⟨b2, o2, none⟩) 64 c2] w fun e w' => e = .returned (.bool true) ∧ w = w' := by
  refine (Try.bytes_Equal_all (some ⟨b, o, none⟩) (some ⟨b2, o2, none⟩) 64 c 64 c2 (List.replicate 64 0) (List.replicate 64 0) w (by simp) (by simp)
    (fun _ => ⟨b, o, rfl, fun i hi => by rw [h1 i hi, getD_rep hi]⟩) (fun _ => ⟨b2, o2, rfl, fun i hi => by rw [h2 i hi, getD_rep hi]⟩)).mono ?_
  rintro e w' ⟨rfl, rfl⟩
  exact ⟨ret_bool (by simp), rfl⟩

theorem blank_ok (b : Nat) (w : World) (h : ∀ j, j < 130 → w.cell? ⟨b, j, none⟩ = some (.int .u8 0)) :
    Calls Try.prog 8 #[.slice (some ⟨b, 0, none⟩) 130 130] w fun e w' => e = .returned (.int .i64 2) ∧ Only none' w w' := by
  have mk := mk64 w
  have hb := World.block_lt_of_cell? _ _ (h 0 (by omega))
  have HS : ∀ o, o + 64 ≤ 130 → ∀ c c2, Calls Try.prog 13 #[.slice (some ⟨b, o, none⟩) 64 c, .slice (some ⟨w.heap.size, 0, none⟩) 64 c2] (w.alloc (.cells (zeros 64) 5)) fun e w' => e = .returned (.bool true) ∧ (w.alloc (.cells (zeros 64) 5)) = w' := fun o ho c c2 =>
    equal_zero b o c w.heap.size 0 c2 _ (fun j hj => by rw [((Only.refl none' w).alloc _).cell (p := ⟨b, o + j, none⟩) hb (fun h => h)]; exact h (o + j) (by omega)) (fun j hj => by rw [Nat.zero_add]; exact zeros_cell w 64 j hj)
  have H0 := Lib.hid (HS 0 (by omega) 130 64)
  have H1 := Lib.hid (HS 64 (by omega) 66 64)
  have Ho := Lib.hid ((Only.refl none' w).alloc (.cells (zeros 64) 5))
  clear HS h hb
  go_enter Try.func8, Try.ntmps8
  go_wp2_with (go_at_call 12; refine (whole_130 _ _ _).mono ?_; rintro e w' ⟨rfl, rfl⟩)
  clear mk
  generalize hW : w.alloc (.cells (zeros 64) 5) = W at *
  have HW := Lib.hid hW
  clear hW
  go_loop [3, 9] (fun n i => ∃ k : Nat, k ≤ 2 ∧ i = .int .i64 k ∧ n = .int .i64 k) (fun _ i => 2 - (intOf i).toNat)
  case atStart => exact ⟨0, by omega, rfl, rfl⟩
  case round =>
    obtain ⟨k, hk, rfl, rfl⟩ := hrel
    rcases (show k = 0 ∨ k = 1 ∨ k = 2 by omega) with rfl | rfl | rfl
    · go_wp2_with (first
        | (go_at_call 14; refine (sector0 _ _).mono ?_; rintro e w' ⟨rfl, rfl⟩)
        | (go_at_call 13; refine H0.out.mono ?_; rintro e w' ⟨rfl, rfl⟩))
      go_round
      case rel => exact ⟨1, by omega, rfl, rfl⟩
      case measure => simp [intOf]
    · go_wp2_with (first
        | (go_at_call 14; refine (sector1 _ _).mono ?_; rintro e w' ⟨rfl, rfl⟩)
        | (go_at_call 13; refine H1.out.mono ?_; rintro e w' ⟨rfl, rfl⟩))
      go_round
      case rel => exact ⟨2, by omega, rfl, rfl⟩
      case measure => simp [intOf]
    · go_wp2
      go_ret
      exact ⟨rfl, Ho.out⟩
end Go.Proofs.Ytffccceadkfbgaa
