/- Contracts of octet: a Writer's bytes. -/
import Derived.Test.YtffccceadkfbgaaProg
import Derived.Test.YtffccceadkfbgaaMem
import Derived.Test.YtffccceadkfbgaaA1
import Derived.LoopTactic
import Derived.KernelRfl
import Derived.Deep.QuietTactic
import Derived.BigQuiet
import Derived.Lib.LazyBuf
namespace Go.Proofs.Ytffccceadkfbgaa
open Go.RowKit

def bcells (l : List UInt8) : List Value := l.map fun b => .int .u8 (b.toNat : Int)
theorem bcells_length (l : List UInt8) : (bcells l).length = l.length := by simp [bcells]
theorem one_bcells (l : List UInt8) : ∀ u ∈ bcells l, u.oneCell' = true := fun u hu => by obtain ⟨_, _, rfl⟩ := List.mem_map.1 hu; rfl
theorem bcells_append (a b : List UInt8) : bcells (a ++ b) = bcells a ++ bcells b := by simp [bcells]

/-- The writer at block pb has the bytes bs; v: its slice. -/
structure Wr (w : World) (pb : Nat) (v : Value) (bs : List UInt8) : Prop where
  blk : w.heap[pb]? = some (.cells #[v] 36 (0, 0))
  own : w.ownsRow 0 5 1 v bs.length (bcells bs)
  ne : v.ownBlock ≠ some pb
def wrF (pb : Nat) (v : Value) : Nat → Prop := fun k => k = pb ∨ v.ownBlock = some k

theorem info8 : (Try.prog.info? 5).map (fun i => (i.zero, i.size, i.bytes)) = some (some (.int .u8 0), 1, 1) := by kernel_rfl
theorem und_bytes : Try.prog.underlying 22 = some (.slice 5) := by kernel_rfl

/-- The lowest n bytes of a number, the highest first. -/
def be : Nat → Nat → List UInt8
  | 0, _ => []
  | n + 1, x => UInt8.ofNat (x / 256 ^ n) :: be n x

/-- A step of a writer: these bytes are behind. -/
def WrStep (pb : Nat) (v : Value) (bs more : List UInt8) (r : Value) (w : World) (e : Ending) (w' : World) : Prop :=
  e = .returned r ∧ ∃ v', Wr w' pb v' (bs ++ more) ∧ Only (wrF pb v) w w' ∧ ∀ k, v'.ownBlock = some k → v.ownBlock = some k ∨ w.heap.size ≤ k

/-- The loop of Num: m bytes are still to come. -/
def NumRel (pb : Nat) (v : Value) (bs : List UInt8) (N x : Nat) (w : World) (i : Value) (wr : World) : Prop :=
  ∃ m : Nat, ∃ bb : List UInt8, ∃ v', m ≤ N ∧ i = .int .i64 ((m : Int) - 1) ∧ bb ++ be m x = bs ++ be N x ∧ Wr wr pb v' bb ∧ Only (wrF pb v) w wr ∧ (∀ k, v'.ownBlock = some k → v.ownBlock = some k ∨ w.heap.size ≤ k)

theorem Wr.cell {w : World} {pb : Nat} {v : Value} {bs : List UInt8} (h : Wr w pb v bs) : w.cell? ⟨pb, 0, none⟩ = some v := cell_of_one h.blk
theorem Wr.free {w : World} {pb : Nat} {v : Value} {bs : List UInt8} (h : Wr w pb v bs) : w.frozen? ⟨pb, 0, none⟩ = false := free_of_one h.blk
theorem Wr.lt {w : World} {pb : Nat} {v : Value} {bs : List UInt8} (h : Wr w pb v bs) : pb < w.heap.size := lt_of_block h.blk

theorem Wr.next {wr wm w2 : World} {pb : Nat} {v v2 : Value} {bs : List UInt8} (more : List UInt8) {m : Nat} (hwr : Wr wr pb v bs) (hm : Only none' wr wm) (hml : m = more.length)
    (hown : w2.ownsRow 0 5 1 v2 (bs.length + m) (bcells bs ++ bcells more)) (hg : wm.grownBy w2 v.ownBlock) (hfr : ∀ k, v2.ownBlock = some k → v.ownBlock = some k ∨ wm.heap.size ≤ k) :
    Wr (w2.setCell ⟨pb, 0, none⟩ v2) pb v2 (bs ++ more) ∧ Only (wrF pb v) wr (w2.setCell ⟨pb, 0, none⟩ v2) ∧ ∀ k, v2.ownBlock = some k → v.ownBlock = some k ∨ wr.heap.size ≤ k := by
  subst hml
  have hpb := hwr.lt
  have hne : v2.ownBlock ≠ some pb := fun e => by
    rcases hfr pb e with h | h
    · exact hwr.ne h
    · have := hm.size; omega
  have hb2 : w2.heap[pb]? = some (.cells #[v] 36 (0, 0)) := by
    rw [hg.block pb (Nat.lt_of_lt_of_le hpb hm.size) (fun e => hwr.ne e.symm), hm.block pb hpb (fun h => h)]
    exact hwr.blk
  refine ⟨⟨one_setCell hb2, ?_, hne⟩, ?_, fun k hk => ?_⟩
  · rw [bcells_append, List.length_append]
    exact ownsRow_setCell_other hown hne _
  · exact ((hm.mono (fun _ _ h => h.elim)).grown hg (fun k _ e => .inr e)).setCell (fun _ => .inl rfl) _
  · rcases hfr k hk with h | h
    · exact .inl h
    · exact .inr (Nat.le_trans hm.size h)

theorem Wr.mid {wr wm w2 : World} {pb : Nat} {v : Value} {bs : List UInt8} (hwr : Wr wr pb v bs) (hm : Only none' wr wm) (hg : wm.grownBy w2 v.ownBlock) : w2.cell? ⟨pb, 0, none⟩ = some v ∧ w2.frozen? ⟨pb, 0, none⟩ = false := by
  have hpb := hwr.lt
  have hb2 : w2.heap[pb]? = some (.cells #[v] 36 (0, 0)) := by
    rw [hg.block pb (Nat.lt_of_lt_of_le hpb hm.size) (fun e => hwr.ne e.symm), hm.block pb hpb (fun h => h)]
    exact hwr.blk
  exact ⟨cell_of_one hb2, free_of_one hb2⟩

theorem NumRel.next {pb : Nat} {v : Value} {bs : List UInt8} {N x : Nat} {w wr w2 : World} {bb : List UInt8} {v' v2 : Value} {o : Obj} (m : Nat) (c : Int) (hm : m + 1 ≤ N) (hpre : bb ++ be (m + 1) x = bs ++ be N x) (hwr : Wr wr pb v' bb)
    (honly : Only (wrF pb v) w wr) (hnew : ∀ k, v'.ownBlock = some k → v.ownBlock = some k ∨ w.heap.size ≤ k) (hc : c = ((x / 256 ^ m % 256 : Nat) : Int))
    (ho : w2.ownsRow 0 5 1 v2 (bb.length + 1) (bcells bb ++ [.int .u8 c])) (hg : (wr.alloc o).grownBy w2 v'.ownBlock) (hfr : ∀ k, v2.ownBlock = some k → v'.ownBlock = some k ∨ (wr.alloc o).heap.size ≤ k) (j : Int) (hj : j = (m : Int) - 1) :
    NumRel pb v bs N x w (.int .i64 j) (w2.setCell ⟨pb, 0, none⟩ v2) := by
  subst hj
  obtain ⟨h1, h2, h3⟩ := hwr.next [UInt8.ofNat (x / 256 ^ m)] ((Only.refl _ _).alloc o) rfl (by simpa [bcells, hc] using ho) hg hfr
  refine ⟨m, bb ++ [UInt8.ofNat (x / 256 ^ m)], v2, by omega, rfl, by rw [← hpre]; simp [be], h1, honly.trans h2 ?_, fun k hk => ?_⟩
  · rintro k hk (rfl | h)
    · exact .inl rfl
    · rcases hnew k h with h' | h'
      · exact .inr h'
      · omega
  · rcases h3 k hk with h' | h'
    · exact hnew k h'
    · exact .inr (Nat.le_trans honly.size h')

theorem src_one (w : World) (u : Value) (h1 : u.oneCell' = true) {E : TypeId} : Src Try.prog 1 22 (.slice (some ⟨w.heap.size, 0, none⟩) 1 1) 1 [u] (w.alloc (.cells #[u] E)) :=
  Src.ofSlice _ und_bytes ⟨w.heap.size, 0, none⟩ 1 1 [u] rfl (by intro j u' hj; match j, hj with | 0, hj => simp at hj; subst hj; simp [Addr.add]) (by intro u' hu; simp at hu; subst hu; exact h1)

theorem u8_int (x : Nat) (c : Int) (h : c = ((x % 256 : Nat) : Int)) : (Value.int .u8 c) = .int .u8 ((UInt8.ofNat x).toNat : Int) := by rw [h]; simp

set_option maxHeartbeats 4000000 in
theorem num_ok (pb : Nat) (v : Value) (bs : List UInt8) (x : Nat) (w : World) (h : Wr w pb v bs) (hx : x < 18446744073709551616) (hb : bs.length ≤ 1000000) :
    Calls Try.prog 15 #[.pointer (some ⟨pb, 0, none⟩), .int .u64 (x : Int), .int .i64 8] w (WrStep pb v bs (be 8 x) (.int .i64 0) w) := by
  have hw := width_any (x : Int) w (by omega) (by omega)
  have hst : NumRel pb v bs 8 x w (.int .i64 7) w := ⟨8, bs, v, by omega, by simp, by simp, h, Only.refl _ _, fun k hk => .inl hk⟩
  go_enter Try.func15, Try.ntmps15
  go_wp2_with (first
    | (go_at_call 18; refine (width8 _).mono ?_; rintro e w' ⟨rfl, rfl⟩)
    | (go_at_call 19; refine hw.mono ?_; rintro e w' ⟨⟨n, rfl, hn, _⟩, rfl⟩))
  clear hw
  go_loopw [7] (fun i wr => NumRel pb v bs 8 x w i wr) (fun i _ => (intOf i + 1).toNat)
  case atStart => exact hst
  case round =>
    obtain ⟨m, bb, v', hm, rfl, hpre, hwr, honly, hnew⟩ := hrel
    clear hst h hx
    have hc := hwr.cell
    have hf := hwr.free
    rcases (show m = 0 ∨ m = 1 ∨ m = 2 ∨ m = 3 ∨ m = 4 ∨ m = 5 ∨ m = 6 ∨ m = 7 ∨ m = 8 by omega) with rfl | rfl | rfl | rfl | rfl | rfl | rfl | rfl | rfl
    · have Hp := Lib.hid hpre
      clear hpre
      go_wp2
      go_ret
      have hpre := Hp.out
      simp only [be, List.append_nil] at hpre
      subst hpre
      exact ⟨rfl, v', hwr, honly, hnew⟩
    all_goals
      have hpl : bb.length ≤ 1000008 := by have := congrArg List.length hpre; simp only [List.length_append, show (be 8 x).length = 8 by simp [be]] at this; omega
      have Hp := Lib.hid hpre
      have Hm := Lib.hid hm
      have Hn := Lib.hid hnew
      clear hpre hm hnew
      go_wp2_with (at_builtin; refine wpList_app _ rfl (.tmp 32) (.tmp 39) 22 22 rfl 5 (.int .u8 0) 1 1 info8 und_bytes rfl v' _ _ rfl (hwr.own.alloc _) _ 1 [_] rfl (src_one _ _ rfl) (by unfold maxLen; simp; omega) (by simp; omega) ?_; intro v2 w2 ho hg hfr; obtain ⟨g2, c2, rfl, _, _⟩ := ho.form (by omega); obtain ⟨hk1, hk2⟩ := hwr.mid ((Only.refl _ _).alloc _) hg)
    · exact ⟨NumRel.next 0 _ Hm.out Hp.out hwr honly Hn.out (by simp) ho hg hfr _ (by simp), by simp [intOf]⟩
    · exact ⟨NumRel.next 1 _ Hm.out Hp.out hwr honly Hn.out (by simp) ho hg hfr _ (by simp), by simp [intOf]⟩
    · exact ⟨NumRel.next 2 _ Hm.out Hp.out hwr honly Hn.out (by simp) ho hg hfr _ (by simp), by simp [intOf]⟩
    · exact ⟨NumRel.next 3 _ Hm.out Hp.out hwr honly Hn.out (by simp) ho hg hfr _ (by simp), by simp [intOf]⟩
    · exact ⟨NumRel.next 4 _ Hm.out Hp.out hwr honly Hn.out (by simp) ho hg hfr _ (by simp), by simp [intOf]⟩
    · exact ⟨NumRel.next 5 _ Hm.out Hp.out hwr honly Hn.out (by simp) ho hg hfr _ (by simp), by simp [intOf]⟩
    · exact ⟨NumRel.next 6 _ Hm.out Hp.out hwr honly Hn.out (by simp) ho hg hfr _ (by simp), by simp [intOf]⟩
    · exact ⟨NumRel.next 7 _ Hm.out Hp.out hwr honly Hn.out (by simp) ho hg hfr _ (by simp), by simp [intOf]⟩

/-- A signed number as 64 bits. -/
def u64of (x : Int) : Nat := (x % 18446744073709551616).toNat

theorem u64of_lt (x : Int) : u64of x < 18446744073709551616 := by unfold u64of; omega
theorem u64of_wrap (x : Int) : (u64of x : Int) = IntKind.u64.wrap x := by
  have : IntKind.u64.wrap x = x % 18446744073709551616 := rfl
  rw [this]; unfold u64of; omega

theorem WrStep.void {pb : Nat} {v : Value} {bs more : List UInt8} {r r' : Value} {w w' : World} {e : Ending} (h : WrStep pb v bs more r w e w') : WrStep pb v bs more r' w (.returned r') w' := ⟨rfl, h.2⟩

theorem int_ok (pb : Nat) (v : Value) (bs : List UInt8) (x : Int) (w : World) (h : Wr w pb v bs) (hb : bs.length ≤ 1000000) :
    Calls Try.prog 9 #[.pointer (some ⟨pb, 0, none⟩), .int .i64 x] w (WrStep pb v bs (be 8 (u64of x)) (.tuple #[]) w) := by
  have hn := num_ok pb v bs (u64of x) w h (u64of_lt x) hb
  rw [u64of_wrap] at hn
  have Hn := Lib.hid hn
  clear hn
  go_enter Try.func9, Try.ntmps9
  go_wp2_with (go_at_call 15; refine Hn.out.mono ?_; rintro e w' ⟨rfl, hs⟩)
  go_end0
  exact ⟨rfl, hs⟩

/-- What Clone gives: the same cells in memory of its own. -/
def Cloned (w : World) (E size n : Nat) (xs : List Value) (e : Ending) (w' : World) : Prop :=
  ∃ v, e = .returned v ∧ w'.ownsRow 0 E size v n xs ∧ Only none' w w' ∧ ∀ k, v.ownBlock = some k → w.heap.size ≤ k

theorem clone_bytes (v : Value) (l : List UInt8) (w : World) (h : Sl w 1 v l.length (bcells l)) (hl : l.length ≤ 140737488355328) :
    Calls Try.prog 17 #[v] w (Cloned w 5 1 l.length (bcells l)) := by
  have q : ∀ (w : World) (a : Option Addr) (n c : Nat), (binOp .eql 22 (.slice a n c) (.slice none 0 0)).run Try.prog w = .ok (.bool a.isNone) w := fun w a n c => run_eql_slice_nil w _ _ a n c und_bytes
  have hsrc := fun o => (h.keep ((Only.refl none' w).alloc o) (fun _ _ h => h)).src und_bytes (one_bcells l)
  rcases h with ⟨rfl, h1, h2⟩ | ⟨b, o, c, rfl, h1, h2, h3⟩
  · go_enter Try.func17, Try.ntmps17
    go_wp2_with fail
    go_ret
    exact ⟨.slice none 0 0, rfl, by rw [h1, h2]; exact World.ownsRow_nil _ _ _ _, Only.refl _ _, by simp [Value.ownBlock]⟩
  · clear h1 h2 h3
    go_enter Try.func17, Try.ntmps17
    go_wp2_with (at_builtin; refine wpList_app _ rfl (.tmp 5) (.tmp 6) 22 22 rfl 5 (.int .u8 0) 1 1 info8 und_bytes rfl _ 0 [] rfl (World.ownsRow_made w #[] 0 (Nat.zero_le _) (by simp [maxLen]) rfl) _ _ _ rfl (hsrc _) (by unfold maxLen; omega) (by omega) ?_; intro v2 w2 ho hg hfr)
    go_ret
    refine ⟨v2, rfl, by simpa using ho, ((Only.refl none' w).alloc _).grown hg (fun k hk e => ?_), fun k hk => ?_⟩
    · have e' : w.heap.size = k := Option.some.inj e
      omega
    · rcases hfr k hk with h | h
      · have e' : w.heap.size = k := Option.some.inj h
        omega
      · simp at h; omega

theorem bytes_ok (pb : Nat) (v : Value) (bs : List UInt8) (w : World) (h : Wr w pb v bs) (hb : bs.length ≤ 1000000) :
    Calls Try.prog 11 #[.pointer (some ⟨pb, 0, none⟩)] w (Cloned w 5 1 bs.length (bcells bs)) := by
  have hc := h.cell
  have hn := clone_bytes v bs w (Sl.ofOwn h.own) (by omega)
  have Hn := Lib.hid hn
  clear hn
  go_enter Try.func11, Try.ntmps11
  go_wp2_with (go_at_call 17; refine Hn.out.mono ?_; rintro e w' ⟨v1, rfl, hs⟩)
  go_ret
  exact ⟨v1, rfl, hs⟩

def bstr (l : List UInt8) : ByteArray := ⟨l.toArray⟩
theorem bstr_append (a b : List UInt8) : bstr a ++ bstr b = bstr (a ++ b) := by
  apply ByteArray.ext
  simp [bstr]
theorem bstr_size (l : List UInt8) : (bstr l).size = l.length := by simp [bstr, ByteArray.size]
theorem bstr_toList (l : List UInt8) : (bstr l).data.toList = l := by simp [bstr]
theorem und_string : Try.prog.underlying 9 = some .string := by kernel_rfl
theorem und_u8 : Try.prog.underlying 5 = some (.int .u8) := by kernel_rfl

theorem conv_bytes (w : World) (v : Value) (l : List UInt8) (h : Sl w 1 v l.length (bcells l)) : (convert 22 9 v).run Try.prog w = .ok (.string (bstr l)) w := by
  rcases h with ⟨rfl, h1, h2⟩ | ⟨b, o, c, rfl, h1, h2, h3⟩
  · have : l = [] := List.eq_nil_of_length_eq_zero h2
    subst this
    exact run_convert_bytes_nil w 22 5 und_bytes und_u8 0 0 9 und_string
  · have := run_convert_bytes_arg (P := Try.prog) w 22 5 und_bytes und_u8 b o l.length c (l.map fun x => (x.toNat : Int)) (by simp) (fun i hi => by
      have hl : i < l.length := hi
      have := h3 i (.int .u8 (l[i].toNat : Int)) (by simp [bcells, hl])
      rw [this]; simp [hl]) 9 und_string
    rw [this]
    congr 2
    simp [strOfNums, bstr, Function.comp_def]
theorem conv_one (w : World) (c : Int) (h0 : 0 ≤ c) (h1 : c < 256) : (convert 22 9 (.slice (some ⟨w.heap.size, 0, none⟩) 1 1)).run Try.prog (w.alloc (.cells #[.int .u8 c] 5)) = .ok (.string (bstr [UInt8.ofNat c.toNat])) (w.alloc (.cells #[.int .u8 c] 5)) := by
  refine conv_bytes _ _ [UInt8.ofNat c.toNat] (.inr ⟨w.heap.size, 0, 1, rfl, by simp, by simp [bcells], fun j u hj => ?_⟩)
  have hc : ((c.toNat % 256 : Nat) : Int) = c := by omega
  match j, hj with
  | 0, hj => simp [bcells] at hj; subst hj; simp; omega
end Go.Proofs.Ytffccceadkfbgaa
