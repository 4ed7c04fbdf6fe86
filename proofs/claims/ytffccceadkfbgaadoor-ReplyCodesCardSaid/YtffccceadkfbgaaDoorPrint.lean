/- json.Print: a value's text. -/
import Derived.Test.YtffccceadkfbgaaDoorQuote
import Derived.Lib.ItoaLen
import Derived.Lib.AppendIntMem
import Derived.Lib.Join
import Derived.Deep.RegionHeld3
namespace Go.Proofs.YtffccceadkfbgaaDoor
open Go.RowKit Go.Sort

/-- A value, as data. -/
inductive J where
  | mk (kind : Int) (b : Bool) (n : Int) (t : ByteArray) (row : List J) (thing : List (ByteArray × J))

/-- Its text, so deep. -/
def J.pr : Nat → J → List UInt8
  | 0, _ => []
  | d + 1, .mk kind b n t row thing =>
    if kind = 1 then Lib.formatBool b else if kind = 2 then Lib.itoa n else if kind = 3 then quoteL t.data.toList
    else if kind = 4 then [91] ++ Lib.join (row.map (J.pr d)) [44] ++ [93]
    else if kind = 5 then [123] ++ Lib.join (thing.map fun p => quoteL p.1.data.toList ++ [58] ++ J.pr d p.2) [44] ++ [125]
    else [110, 117, 108, 108]

/-- Two rows, one by one. -/
def All2 {α β : Type} (R : α → β → Prop) (xs : List α) (ys : List β) : Prop := xs.length = ys.length ∧ ∀ (i : Nat) (a : α) (b : β), xs[i]? = some a → ys[i]? = some b → R a b
theorem All2.imp {α β : Type} {R S : α → β → Prop} {xs : List α} {ys : List β} (h : All2 R xs ys) (hi : ∀ a b, R a b → S a b) : All2 S xs ys := ⟨h.1, fun i a b ha hb => hi a b (h.2 i a b ha hb)⟩
theorem All2.at {α β : Type} {R : α → β → Prop} {xs : List α} {ys : List β} (h : All2 R xs ys) (i : Nat) (hi : i < ys.length) : ∃ a, xs[i]? = some a ∧ R a ys[i] := by
  have hi' : i < xs.length := by rw [h.1]; exact hi
  exact ⟨xs[i], List.getElem?_eq_getElem hi', h.2 i _ _ (List.getElem?_eq_getElem hi') (List.getElem?_eq_getElem hi)⟩
theorem All2.all {α β : Type} {R : α → β → Prop} {xs : List α} {ys : List β} {Q : α → Prop} (h : All2 R xs ys) (hi : ∀ a b, R a b → Q a) : ∀ a ∈ xs, Q a := fun a ha => by
  obtain ⟨i, hi', rfl⟩ := List.getElem_of_mem ha
  have hb : i < ys.length := by rw [← h.1]; exact hi'
  exact hi _ _ (h.2 i _ _ (List.getElem?_eq_getElem hi') (List.getElem?_eq_getElem hb))

/-- How a value lies in memory: its six cells; so deep. -/
def JC : Nat → World → List Value → J → Prop
  | 0, _, _, _ => False
  | d + 1, w, cs, .mk kind b n t row thing => ∃ rv tv, cs = [.int .i64 kind, .bool b, .int .i64 n, .string t, rv, tv] ∧ -9223372036854775808 ≤ n ∧ n ≤ 9223372036854775807 ∧
      (∃ css : List (List Value), All2 (JC d w) css row ∧ Sl w 6 rv row.length css.flatten) ∧
      (∃ css : List (List Value), All2 (fun cs p => ∃ cs', cs = .string p.1 :: cs' ∧ JC d w cs' p.2) css thing ∧ Sl w 7 tv thing.length css.flatten)

theorem JC.keep {w w' : World} (ho : Only none' w w') : ∀ {d : Nat} {cs : List Value} {j : J}, JC d w cs j → JC d w' cs j
  | 0, _, _, h => h.elim
  | d + 1, _, .mk .., ⟨rv, tv, h1, h2, h3, ⟨c1, h4, h5⟩, ⟨c2, h6, h7⟩⟩ =>
    ⟨rv, tv, h1, h2, h3, ⟨c1, h4.imp fun _ _ h => JC.keep ho h, h5.keep ho (fun _ _ h => h)⟩, ⟨c2, h6.imp fun _ _ ⟨c, e, h⟩ => ⟨c, e, JC.keep ho h⟩, h7.keep ho (fun _ _ h => h)⟩⟩

theorem JC.six : ∀ {d : Nat} {w : World} {cs : List Value} {j : J}, JC d w cs j → cs.length = 6
  | 0, _, _, _, h => h.elim
  | d + 1, _, _, .mk .., ⟨_, _, h, _⟩ => by rw [h]; rfl

/-- The cells of the k-th of things of a size. -/
theorem flatten_at {n : Nat} : ∀ {css : List (List Value)}, (∀ c ∈ css, c.length = n) → ∀ (k : Nat) (c : List Value), css[k]? = some c → ∀ i, i < n → css.flatten[k * n + i]? = c[i]?
  | [], _, k, c, h, _, _ => by simp at h
  | c0 :: t, hl, k, c, h, i, hi => by
    have h0 : c0.length = n := hl c0 (by simp)
    match k, h with
    | 0, h =>
      simp at h; subst h
      rw [List.flatten_cons, List.getElem?_append_left (by omega)]; simp
    | k + 1, h =>
      have := flatten_at (fun c hc => hl c (List.mem_cons_of_mem _ hc)) k c (by simpa using h) i hi
      rw [List.flatten_cons, List.getElem?_append_right (by rw [h0, Nat.add_mul]; omega), h0, ← this]
      congr 1
      rw [Nat.add_mul]; omega

def pow10 (w : World) : Prop := Lib.TabIs Tryd.prog w "internal/strconv.uint64pow10" .u64 Lib.pow10Tab
theorem pow10_keep {w w' : World} (h : pow10 w) (ho : Only none' w w') : pow10 w' := Lib.tabBelow_of_tabIs h w' (ho.below (Nat.le_refl _) (fun _ _ h => h))

theorem only_grow (w : World) (k : Nat) (os : Array Obj) : Only none' w (grow (w.drewN k) os) :=
  ⟨rfl, rfl, rfl, by simp [grow, World.drewN], fun i hi _ => by simp only [grow, World.drewN]; exact Array.getElem?_append_left hi⟩

/-- What Print comes to. -/
def Prints (d : Nat) : Prop := ∀ (j : J) (cs : List Value) (w : World), JC d w cs j → pow10 w → (J.pr d j).length ≤ 1000000000 →
  Calls Tryd.prog 10 #[.agg cs.toArray] w fun e w' => e = .returned (.string ⟨(J.pr d j).toArray⟩) ∧ Only none' w w'

theorem print_bool (b : Bool) (n : Int) (t : ByteArray) (rv tv : Value) (w : World) : Calls Tryd.prog 10 #[.agg #[.int .i64 1, .bool b, .int .i64 n, .string t, rv, tv]] w fun e w' => e = .returned (.string ⟨(Lib.formatBool b).toArray⟩) ∧ Only none' w w' := by
  go_enter Tryd.func10, Tryd.ntmps10
  go_wp2_with (go_at_call 16; refine (Tryd.strconv_FormatBool _ _).mono ?_; rintro e w1 ⟨rfl, rfl⟩)
  go_ret
  exact ⟨rfl, (Only.refl _ _).alloc _⟩
theorem print_num (b : Bool) (n : Int) (t : ByteArray) (rv tv : Value) (w : World) (hp : pow10 w) (h0 : -9223372036854775808 ≤ n) (h1 : n ≤ 9223372036854775807) : Calls Tryd.prog 10 #[.agg #[.int .i64 2, .bool b, .int .i64 n, .string t, rv, tv]] w fun e w' => e = .returned (.string ⟨(Lib.itoa n).toArray⟩) ∧ Only none' w w' := by
  have Hp := Lib.hid hp
  have H0 := Lib.hid h0
  have H1 := Lib.hid h1
  clear hp h0 h1
  go_enter Tryd.func10, Tryd.ntmps10
  go_wp2_with (go_at_call 17; refine (Tryd.strconv_FormatInt_10 n H0.out H1.out _ (pow10_keep Hp.out ((Only.refl _ _).alloc _))).mono ?_; rintro e w1 ⟨rfl, k, os, rfl⟩)
  go_ret
  exact ⟨rfl, ((Only.refl none' w).alloc _).trans (only_grow _ _ _) (fun _ _ h => h)⟩
theorem print_text (b : Bool) (n : Int) (t : ByteArray) (rv tv : Value) (w : World) (hl : t.size ≤ 1000000000) : Calls Tryd.prog 10 #[.agg #[.int .i64 3, .bool b, .int .i64 n, .string t, rv, tv]] w fun e w' => e = .returned (.string ⟨(quoteL t.data.toList).toArray⟩) ∧ Only none' w w' := by
  go_enter Tryd.func10, Tryd.ntmps10
  go_wp2_with (go_at_call 18; refine (quote_ok t _ hl).mono ?_; rintro e w1 ⟨rfl, ho⟩)
  go_ret
  exact ⟨rfl, ((Only.refl none' w).alloc _).trans ho (fun _ _ h => h)⟩
theorem print_null (k : Int) (b : Bool) (n : Int) (t : ByteArray) (rv tv : Value) (w : World) (h1 : k ≠ 1) (h2 : k ≠ 2) (h3 : k ≠ 3) (h4 : k ≠ 4) (h5 : k ≠ 5) : Calls Tryd.prog 10 #[.agg #[.int .i64 k, .bool b, .int .i64 n, .string t, rv, tv]] w fun e w' => e = .returned (.string ⟨#[110, 117, 108, 108]⟩) ∧ Only none' w w' := by
  have e1 := beq_eq_false_iff_ne.2 h1
  have e2 := beq_eq_false_iff_ne.2 h2
  have e3 := beq_eq_false_iff_ne.2 h3
  have e4 := beq_eq_false_iff_ne.2 h4
  have e5 := beq_eq_false_iff_ne.2 h5
  clear h1 h2 h3 h4 h5
  go_enter Tryd.func10, Tryd.ntmps10
  go_wp2_with fail
  go_ret
  exact ⟨rfl, (Only.refl _ _).alloc _⟩

theorem JC.shape : ∀ {d : Nat} {w : World} {cs : List Value} {j : J}, JC d w cs j → ∃ k b n t p1 n1 c1 p2 n2 c2, cs = [.int .i64 k, .bool b, .int .i64 n, .string t, .slice p1 n1 c1, .slice p2 n2 c2]
  | 0, _, _, _, h => h.elim
  | d + 1, _, _, .mk .., ⟨rv, tv, h, _, _, ⟨_, _, h1⟩, ⟨_, _, h2⟩⟩ => by
    obtain ⟨p1, c1, rfl, _⟩ := h1.shape
    obtain ⟨p2, c2, rfl, _⟩ := h2.shape
    exact ⟨_, _, _, _, _, _, _, _, _, _, h⟩

def strs (l : List (List UInt8)) : List Value := l.map fun s => .string ⟨s.toArray⟩
theorem strs_snoc (l : List (List UInt8)) (k : Nat) (h : k < l.length) : strs (l.take (k + 1)) = strs (l.take k) ++ [.string ⟨l[k].toArray⟩] := by
  rw [List.take_succ_eq_append_getElem h, strs, strs, List.map_append]; rfl
theorem info_str : (Tryd.prog.info? 9).map (fun i => (i.zero, i.size, i.bytes)) = some (some (.string ⟨#[]⟩), 1, 16) := by kernel_rfl
theorem und_strs : Tryd.prog.underlying 37 = some (.slice 9) := by kernel_rfl

theorem join_ok (v : Value) (l : List (List UInt8)) (w : World) (h : Sl w 1 v l.length (strs l)) (hl : (Lib.join l [44]).length ≤ 1000000000) (hn : l.length ≤ 1000000001) :
    Calls Tryd.prog 19 #[v, .string ⟨#[44]⟩] w fun e w' => e = .returned (.string ⟨(Lib.join l [44]).toArray⟩) ∧ Only none' w w' := by
  rcases h with ⟨rfl, h1, h2⟩ | ⟨b, o, c, rfl, h1, h2, h3⟩
  · have : l = [] := List.eq_nil_of_length_eq_zero h2
    subst this
    refine (Tryd.strings_Join_none none 0 ⟨#[44]⟩ w).mono ?_
    rintro e w' ⟨rfl, rfl⟩
    exact ⟨rfl, Only.refl _ _⟩
  · by_cases h0 : l = []
    · subst h0
      refine (Tryd.strings_Join_none (some ⟨b, o, none⟩) c ⟨#[44]⟩ w).mono ?_
      rintro e w' ⟨rfl, rfl⟩
      exact ⟨rfl, Only.refl _ _⟩
    · have hpos : 0 < l.length := List.length_pos_iff.2 h0
      have hb : b < w.heap.size := World.block_lt_of_cell? _ _ (h3 0 (.string ⟨l[0].toArray⟩) (by simp [strs, hpos]))
      have e : (l.map fun s => (⟨s.toArray⟩ : ByteArray)).map (·.data.toList) = l := by simp [Function.comp_def]
      have := Tryd.strings_Join b o c (l.map fun s => (⟨s.toArray⟩ : ByteArray)) ⟨#[44]⟩ w (fun j x hj => h3 j (.string x) (by
        rw [List.getElem?_map] at hj
        simp only [strs, List.getElem?_map]
        cases hq : l[j]? with
        | none => simp [hq] at hj
        | some q => simp [hq] at hj ⊢; exact hj)) hb (by simp; omega) (by simp; omega) (by rw [e]; simp; omega)
      rw [e, List.length_map] at this
      refine this.mono ?_
      rintro e w' ⟨rfl, hb'⟩
      exact ⟨rfl, .ofBelow hb' (fun k hk h => by omega)⟩

theorem ret_ba {a b : ByteArray} (h : a = b) : Ending.returned (.string a) = .returned (.string b) := by rw [h]
theorem cat3 (a b c : List UInt8) : (⟨a.toArray⟩ : ByteArray) ++ ⟨b.toArray⟩ ++ ⟨c.toArray⟩ = ⟨(a ++ b ++ c).toArray⟩ := by apply ByteArray.ext; simp

def PrRel (outs : List (List UInt8)) (w : World) (l i : Value) (wr : World) : Prop :=
  ∃ k : Nat, k ≤ outs.length ∧ i = .int .i64 k ∧ wr.ownsRow 0 9 1 l k (strs (outs.take k)) ∧ Only none' w wr ∧ ∀ b, l.ownBlock = some b → w.heap.size ≤ b

theorem join_length_le (l : List (List UInt8)) : (∀ x ∈ l, x.length ≤ (Lib.join l [44]).length) ∧ l.length ≤ (Lib.join l [44]).length + 1 := by
  induction l with
  | nil => simp [Lib.join]
  | cons a t ih =>
    cases t with
    | nil => simp [Lib.join, List.intercalate]
    | cons b r =>
      have e : (Lib.join (a :: b :: r) [44]).length = a.length + 1 + (Lib.join (b :: r) [44]).length := by
        simp [Lib.join, List.intercalate]; omega
      obtain ⟨h1, h2⟩ := ih
      refine ⟨fun x hx => ?_, ?_⟩
      · rcases List.mem_cons.1 hx with rfl | hx
        · omega
        · have := h1 x hx; omega
      · simp only [List.length_cons] at h2 ⊢; omega

set_option maxRecDepth 10000 in
set_option maxHeartbeats 2000000 in
theorem print_row (d : Nat) (ih : Prints d) (b : Bool) (n : Int) (t : ByteArray) (row : List J) (rv tv : Value) (w : World) (css : List (List Value)) (hcs : All2 (JC d w) css row) (hsl : Sl w 6 rv row.length css.flatten) (hp : pow10 w)
    (hlen : (Lib.join (row.map (J.pr d)) [44]).length ≤ 1000000000) :
    Calls Tryd.prog 10 #[.agg #[.int .i64 4, .bool b, .int .i64 n, .string t, rv, tv]] w fun e w' => e = .returned (.string ⟨([91] ++ Lib.join (row.map (J.pr d)) [44] ++ [93]).toArray⟩) ∧ Only none' w w' := by
  obtain ⟨p, c, rfl, _⟩ := hsl.shape
  have Hsl := Lib.hid hsl
  have Hcs := Lib.hid hcs
  have Hp := Lib.hid hp
  obtain ⟨hel, hcount⟩ := join_length_le (row.map (J.pr d))
  rw [List.length_map] at hcount
  have Hel := Lib.hid hel
  have Hlen := Lib.hid hlen
  have hrl : row.length ≤ 1000000001 := by omega
  clear hsl hcs hp hel hlen hcount
  go_enter Tryd.func10, Tryd.ntmps10
  go_wp2_with fail
  go_loopw [3, 31] (fun l i wr => PrRel (row.map (J.pr d)) w l i wr) (fun _ i _ => row.length - (intOf i).toNat)
  case atStart => exact ⟨0, by omega, rfl, World.ownsRow_nil _ _ _ _, (Only.refl _ _).alloc _, by simp [Value.ownBlock]⟩
  case round =>
    obtain ⟨k, hk, rfl, hown, hon, hfr⟩ := hrel
    rw [List.length_map] at hk
    have Ho := Lib.hid hown
    have Hf := Lib.hid hfr
    clear hown hfr
    by_cases hlt : k < row.length
    · obtain ⟨cs, hck, hjc⟩ := Hcs.out.at k hlt
      rcases Hsl.out.keep hon (fun _ _ h => h) with ⟨_, _, hz⟩ | ⟨b', o, c', hv, _, _, hx⟩
      · omega
      injection hv with hv1 hv2 hv3
      subst hv1
      obtain ⟨k', b1, n1, t1, p1, l1, c1, p2, l2, c2, rfl⟩ := hjc.shape
      have hcell := fun i hi => flatten_at (n := 6) (Hcs.out.all (Q := fun c => c.length = 6) (fun _ _ h => JC.six h)) k _ hck i hi
      have q0 := hx _ _ ((hcell 0 (by omega)).trans rfl)
      have q1 := hx _ _ ((hcell 1 (by omega)).trans rfl)
      have q2 := hx _ _ ((hcell 2 (by omega)).trans rfl)
      have q3 := hx _ _ ((hcell 3 (by omega)).trans rfl)
      have q4 := hx _ _ ((hcell 4 (by omega)).trans rfl)
      have q5 := hx _ _ ((hcell 5 (by omega)).trans rfl)
      simp only [← Nat.add_assoc, Nat.add_zero] at q0 q1 q2 q3 q4 q5
      clear hcell hx hv2 hv3
      have hk2 : k < (row.map (J.pr d)).length := by rw [List.length_map]; exact hlt
      have Hs := strs_snoc (row.map (J.pr d)) k hk2
      rw [List.getElem_map] at Hs
      replace Hs := Lib.hid Hs
      have HI := Lib.hid (ih row[k] _ _ (hjc.keep (hon.alloc (.cells #[.int .i64 k', .bool b1, .int .i64 n1, .string t1, .slice p1 l1 c1, .slice p2 l2 c2] 26))) (pow10_keep Hp.out (hon.alloc _)) (Nat.le_trans (Hel.out _ (List.mem_map_of_mem (List.getElem_mem hlt))) Hlen.out))
      clear hjc hck
      go_wp2_with (first
        | (go_at_call 10; refine HI.out.mono ?_; rintro e w1 ⟨rfl, ho1⟩; have O1 : Only none' w w1 := (hon.alloc _).trans ho1 (fun _ _ h => h); have Ho1 := (((Only.refl none' wr).alloc _).trans ho1 (fun _ _ h => h)).owns Ho.out (fun _ _ h => h))
        | (at_builtin; refine wpList_app _ rfl (.tmp 35) (.tmp 38) 37 37 rfl 9 (.string ⟨#[]⟩) 1 16 info_str und_strs rfl _ k _ rfl (Ho1.alloc _) _ 1 _ rfl (src_new und_strs w1 [_] rfl (by intro u hu; simp at hu; subst hu; rfl)) (by unfold maxLen; omega) (by omega) ?_; intro v4 w4 ho hg hf2))
      go_roundw
      case rel =>
        refine ⟨k + 1, by rw [List.length_map]; omega, by go_num, by rw [Hs.out]; exact ho, (O1.alloc _).grown hg (fun b hb e => by have := Hf.out b e; omega), fun b hb => ?_⟩
        rcases hf2 b hb with h | h
        · exact Hf.out b h
        · have := O1.size; simp at h; omega
      case measure => simp [intOf]; omega
    · obtain rfl : k = row.length := by omega
      have HJ := Lib.hid (join_ok _ (row.map (J.pr d)) wr (by
        have := Sl.ofOwn Ho.out
        rw [List.take_of_length_le (by rw [List.length_map]; exact Nat.le_refl _)] at this
        rw [List.length_map]
        exact this) Hlen.out (by rw [List.length_map]; omega))
      have hj := Hlen.out
      clear Hel Hlen
      generalize hjl : Lib.join (row.map (J.pr d)) [44] = jl at *
      have Hjl := Lib.hid hjl
      clear hjl
      go_wp2_with (go_at_call 19; refine HJ.out.mono ?_; rintro e w1 ⟨rfl, ho1⟩)
      go_ret
      exact ⟨ret_ba ((cat3 [91] jl [93]).trans (by rw [← Hjl.out]; rfl)), hon.trans ho1 (fun _ _ h => h)⟩

theorem quoteL_ge (s : List UInt8) : s.length ≤ (quoteL s).length := by
  have : ∀ l : List UInt8, l.length ≤ (l.flatMap qch).length := fun l => by
    induction l with
    | nil => simp
    | cons a t ih =>
      have h1 : 1 ≤ (qch a).length := by unfold qch; split <;> (try split) <;> simp
      rw [List.flatMap_cons, List.length_append, List.length_cons]; omega
  have := this s
  simp only [quoteL, List.length_append]; omega
theorem cell_far' {w w' : World} {o : Obj} {row : Option Nat} (hg : (w.alloc o).grownBy w' row) {B i : Nat} {v : Value} (h : w.cell? ⟨B, i, none⟩ = some v) (hne : row ≠ some B) : w'.cell? ⟨B, i, none⟩ = some v :=
  hg.cell (by rw [((Only.refl none' w).alloc o).cell (p := ⟨B, i, none⟩) (World.block_lt_of_cell? _ _ h) (fun h => h)]; exact h) (fun e => hne e.symm)
/-- A pair's cells in a block of its own, and what was there ahead. -/
def PairAt (w : World) (B : Nat) (nm : ByteArray) (k : Int) (b : Bool) (n : Int) (t : ByteArray) (rv tv : Value) (w' : World) : Prop :=
  w'.cell? ⟨B, 0, none⟩ = some (.string nm) ∧ w'.cell? ⟨B, 1, none⟩ = some (.int .i64 k) ∧ w'.cell? ⟨B, 2, none⟩ = some (.bool b) ∧ w'.cell? ⟨B, 3, none⟩ = some (.int .i64 n) ∧ w'.cell? ⟨B, 4, none⟩ = some (.string t) ∧ w'.cell? ⟨B, 5, none⟩ = some rv ∧ w'.cell? ⟨B, 6, none⟩ = some tv ∧ Only none' w w'
theorem PairAt.keep {w : World} {B : Nat} {nm : ByteArray} {k : Int} {b : Bool} {n : Int} {t : ByteArray} {rv tv : Value} {W w' : World} (h : PairAt w B nm k b n t rv tv W) (ho : Only none' W w') : PairAt w B nm k b n t rv tv w' := by
  obtain ⟨h0, h1, h2, h3, h4, h5, h6, h7⟩ := h
  have hB : B < W.heap.size := World.block_lt_of_cell? _ _ h0
  refine ⟨?_, ?_, ?_, ?_, ?_, ?_, ?_, h7.trans ho (fun _ _ h => h)⟩
  · rw [ho.cell (p := ⟨B, 0, none⟩) hB (fun h => h)]; exact h0
  · rw [ho.cell (p := ⟨B, 1, none⟩) hB (fun h => h)]; exact h1
  · rw [ho.cell (p := ⟨B, 2, none⟩) hB (fun h => h)]; exact h2
  · rw [ho.cell (p := ⟨B, 3, none⟩) hB (fun h => h)]; exact h3
  · rw [ho.cell (p := ⟨B, 4, none⟩) hB (fun h => h)]; exact h4
  · rw [ho.cell (p := ⟨B, 5, none⟩) hB (fun h => h)]; exact h5
  · rw [ho.cell (p := ⟨B, 6, none⟩) hB (fun h => h)]; exact h6

/-- What a pair of a thing is printed as. -/
def pairL (d : Nat) (p : ByteArray × J) : List UInt8 := quoteL p.1.data.toList ++ [58] ++ J.pr d p.2

set_option maxRecDepth 10000 in
set_option maxHeartbeats 4000000 in
theorem print_thing (d : Nat) (ih : Prints d) (b : Bool) (n : Int) (t : ByteArray) (row : List (ByteArray × J)) (rv tv : Value) (w : World) (css : List (List Value)) (hcs : All2 (fun cs (p : ByteArray × J) => ∃ cs', cs = .string p.1 :: cs' ∧ JC d w cs' p.2) css row) (hsl : Sl w 7 tv row.length css.flatten) (hp : pow10 w)
    (hlen : (Lib.join (row.map (pairL d)) [44]).length ≤ 1000000000) :
    Calls Tryd.prog 10 #[.agg #[.int .i64 5, .bool b, .int .i64 n, .string t, rv, tv]] w fun e w' => e = .returned (.string ⟨([123] ++ Lib.join (row.map (pairL d)) [44] ++ [125]).toArray⟩) ∧ Only none' w w' := by
  obtain ⟨p, c, rfl, _⟩ := hsl.shape
  have Hsl := Lib.hid hsl
  have Hcs := Lib.hid hcs
  have Hp := Lib.hid hp
  obtain ⟨hel, hcount⟩ := join_length_le (row.map (pairL d))
  rw [List.length_map] at hcount
  have Hel := Lib.hid hel
  have Hlen := Lib.hid hlen
  have hrl : row.length ≤ 1000000001 := by omega
  clear hsl hcs hp hel hlen hcount
  go_enter Tryd.func10, Tryd.ntmps10
  go_wp2_with fail
  go_loopw [6, 50] (fun l i wr => PrRel (row.map (pairL d)) w l i wr) (fun _ i _ => row.length - (intOf i).toNat)
  case atStart => exact ⟨0, by omega, rfl, World.ownsRow_nil _ _ _ _, (Only.refl _ _).alloc _, by simp [Value.ownBlock]⟩
  case round =>
    obtain ⟨k, hk, rfl, hown, hon, hfr⟩ := hrel
    rw [List.length_map] at hk
    have Ho := Lib.hid hown
    have Hf := Lib.hid hfr
    clear hown hfr
    by_cases hlt : k < row.length
    · obtain ⟨cs0, hck, cs, hcs0, hjc⟩ := Hcs.out.at k hlt
      subst hcs0
      rcases Hsl.out.keep hon (fun _ _ h => h) with ⟨_, _, hz⟩ | ⟨b', o, c', hv, _, _, hx⟩
      · omega
      injection hv with hv1 hv2 hv3
      subst hv1
      obtain ⟨k', b1, n1, t1, p1, l1, c1, p2, l2, c2, rfl⟩ := hjc.shape
      have hcell := fun i hi => flatten_at (n := 7) (Hcs.out.all (Q := fun c => c.length = 7) (fun _ _ ⟨_, e, h⟩ => by rw [e, List.length_cons, JC.six h])) k _ hck i hi
      have q0 := hx _ _ ((hcell 0 (by omega)).trans rfl)
      have q1 := hx _ _ ((hcell 1 (by omega)).trans rfl)
      have q2 := hx _ _ ((hcell 2 (by omega)).trans rfl)
      have q3 := hx _ _ ((hcell 3 (by omega)).trans rfl)
      have q4 := hx _ _ ((hcell 4 (by omega)).trans rfl)
      have q5 := hx _ _ ((hcell 5 (by omega)).trans rfl)
      have q6 := hx _ _ ((hcell 6 (by omega)).trans rfl)
      simp only [← Nat.add_assoc, Nat.add_zero] at q0 q1 q2 q3 q4 q5 q6
      clear hcell hx hv2 hv3
      have hk2 : k < (row.map (pairL d)).length := by rw [List.length_map]; exact hlt
      have Hs := strs_snoc (row.map (pairL d)) k hk2
      rw [List.getElem_map] at Hs
      replace Hs := Lib.hid Hs
      have hpl : (pairL d row[k]).length ≤ 1000000000 := Nat.le_trans (Hel.out _ (List.mem_map_of_mem (List.getElem_mem hlt))) Hlen.out
      clear hck
      -- the region's two calls
      generalize hB : wr.heap.size = B1 at *
      have HQ : ∀ W, PairAt w B1 row[k].1 k' b1 n1 t1 (.slice p1 l1 c1) (.slice p2 l2 c2) W → Calls Tryd.prog 18 #[.string row[k].1] W fun e w' => e = .returned (.string ⟨(quoteL row[k].1.data.toList).toArray⟩) ∧ Only none' W w' ∧ PairAt w B1 row[k].1 k' b1 n1 t1 (.slice p1 l1 c1) (.slice p2 l2 c2) w' := fun W hW =>
        (quote_ok _ W (by
          have h1 : (quoteL row[k].1.data.toList).length ≤ (pairL d row[k]).length := by simp only [pairL, List.length_append]; omega
          have h2 : row[k].1.data.toList.length ≤ (quoteL row[k].1.data.toList).length := quoteL_ge _
          have h3 : row[k].1.data.toList.length = row[k].1.size := Array.length_toList
          omega)).mono fun e w' ⟨he, ho⟩ => ⟨he, ho, hW.keep ho⟩
      have HP : ∀ W, PairAt w B1 row[k].1 k' b1 n1 t1 (.slice p1 l1 c1) (.slice p2 l2 c2) W → Calls Tryd.prog 10 #[.agg #[.int .i64 k', .bool b1, .int .i64 n1, .string t1, .slice p1 l1 c1, .slice p2 l2 c2]] W fun e w' => e = .returned (.string ⟨(J.pr d row[k].2).toArray⟩) ∧ Only none' W w' ∧ PairAt w B1 row[k].1 k' b1 n1 t1 (.slice p1 l1 c1) (.slice p2 l2 c2) w' := fun W hW =>
        (ih row[k].2 _ W (hjc.keep hW.2.2.2.2.2.2.2) (pow10_keep Hp.out hW.2.2.2.2.2.2.2) (by
          have h1 : (J.pr d row[k].2).length ≤ (pairL d row[k]).length := by simp only [pairL, List.length_append]; omega
          omega)).mono fun e w' ⟨he, ho⟩ => ⟨he, ho, hW.keep ho⟩
      subst hB
      replace HQ := Lib.hid HQ
      replace HP := Lib.hid HP
      have Hpair := Lib.hid (show pairL d row[k] = quoteL row[k].1.data.toList ++ [58] ++ J.pr d row[k].2 from rfl)
      have hl1 : (quoteL row[k].1.data.toList).length ≤ 1000000000 := by have := congrArg List.length Hpair.out; simp only [List.length_append] at this; omega
      have hl2 : (J.pr d row[k].2).length ≤ 1000000000 := by have := congrArg List.length Hpair.out; simp only [List.length_append] at this; omega
      clear hjc hpl
      generalize row[k].1 = nm at *
      generalize J.pr d row[k].2 = pr at *
      generalize hqu : quoteL nm.data.toList = qu at *
      clear hqu
      go_wp2_with fail
      have S0 : PairAt w wr.heap.size nm k' b1 n1 t1 (.slice p1 l1 c1) (.slice p2 l2 c2) (wr.alloc (.cells #[.string nm, .int .i64 k', .bool b1, .int .i64 n1, .string t1, .slice p1 l1 c1, .slice p2 l2 c2] 32)) :=
        ⟨by simp, by simp, by simp, by simp, by simp, by simp, by simp, hon.alloc _⟩
      have HoW := Lib.hid (Ho.out.alloc (.cells #[.string nm, .int .i64 k', .bool b1, .int .i64 n1, .string t1, .slice p1 l1 c1, .slice p2 l2 c2] 32))
      generalize wr.alloc (.cells #[.string nm, .int .i64 k', .bool b1, .int .i64 n1, .string t1, .slice p1 l1 c1, .slice p2 l2 c2] 32) = W2 at *
      have hne : u6.ownBlock ≠ some wr.heap.size := fun e => by have := Ho.out.lt _ e; omega
      generalize wr.heap.size = B1 at *
      have r1 : ∀ W, (Op.stringOp .add ⟨qu.toArray⟩ ⟨#[58]⟩).run Tryd.prog W = .ok (.string (⟨qu.toArray⟩ ++ ⟨#[58]⟩)) W := fun W => run_string_add_sum _ _ _ (by simp [ByteArray.size]; omega)
      have r2 : ∀ W, (Op.stringOp .add (⟨qu.toArray⟩ ++ ⟨#[58]⟩) ⟨pr.toArray⟩).run Tryd.prog W = .ok (.string (⟨qu.toArray⟩ ++ ⟨#[58]⟩ ++ ⟨pr.toArray⟩)) W := fun W => run_string_add_sum _ _ _ (by rw [ByteArray.size_append]; simp [ByteArray.size]; omega)
      clear q0 q1 q2 q3 q4 q5 q6 Ho hon Hsl Hcs Hp Hel Hlen
      obtain ⟨s0, s1, s2, s3, s4, s5, s6, s7⟩ := S0
      go_region_held3 (fun w' => w'.cell? ⟨B1, 0, none⟩ = some (.string nm) ∧ w'.cell? ⟨B1, 1, none⟩ = some (.int .i64 k') ∧ w'.cell? ⟨B1, 2, none⟩ = some (.bool b1) ∧ w'.cell? ⟨B1, 3, none⟩ = some (.int .i64 n1) ∧ w'.cell? ⟨B1, 4, none⟩ = some (.string t1) ∧ w'.cell? ⟨B1, 5, none⟩ = some (.slice p1 l1 c1) ∧ w'.cell? ⟨B1, 6, none⟩ = some (.slice p2 l2 c2))
        (first
          | go_keep
          | (refine ⟨?_, ?_, ?_, ?_, ?_, ?_, ?_⟩ <;> assumption)
          | (exact ⟨cell_far' hgrow d0 hne, cell_far' hgrow d1 hne, cell_far' hgrow d2 hne, cell_far' hgrow d3 hne, cell_far' hgrow d4 hne, cell_far' hgrow d5 hne, cell_far' hgrow d6 hne⟩))
        (first
          | (go_at_call 18; refine (HQ.out W2.drew ⟨s0, s1, s2, s3, s4, s5, s6, s7.drew⟩).mono ?_; rintro e w1 ⟨rfl, ho1, a0, a1, a2, a3, a4, a5, a6, a7⟩)
          | (go_at_call 10; refine (HP.out w1 ⟨a0, a1, a2, a3, a4, a5, a6, a7⟩).mono ?_; rintro e w2 ⟨rfl, ho2, d0, d1, d2, d3, d4, d5, d6, d7⟩; have hB2 := World.block_lt_of_cell? _ _ d0; clear a0 a1 a2 a3 a4 a5 a6)
          | (refine step_app _ rfl (.tmp 54) (.tmp 63) 37 37 rfl 9 (.string ⟨#[]⟩) 1 16 info_str und_strs rfl _ k _ rfl ((ho2.owns (ho1.owns HoW.out (fun _ _ h => h)) (fun _ _ h => h)).alloc _) _ 1 _ rfl (src_new und_strs w2 [_] rfl (by intro u hu; simp at hu; subst hu; rfl)) (by unfold maxLen; omega) (by omega) ?_; intro v4 w4 ho hgrow hf2))
      have O1 : Only none' w w2 := s7.drew.trans (ho1.trans ho2 (fun _ _ h => h)) (fun _ _ h => h)
      go_wp2
      go_roundw
      case rel =>
        refine ⟨k + 1, by rw [List.length_map]; omega, by go_num, by rw [Hs.out, Hpair.out, ← cat3]; exact ho, (O1.alloc _).grown hgrow (fun b hb e => by have := Hf.out b e; omega), fun b hb => ?_⟩
        rcases hf2 b hb with h | h
        · exact Hf.out b h
        · have := O1.size; simp at h; omega
      case measure => simp [intOf]; omega
    · obtain rfl : k = row.length := by omega
      have HJ := Lib.hid (join_ok _ (row.map (pairL d)) wr (by
        have := Sl.ofOwn Ho.out
        rw [List.take_of_length_le (by rw [List.length_map]; exact Nat.le_refl _)] at this
        rw [List.length_map]
        exact this) Hlen.out (by rw [List.length_map]; omega))
      have hj := Hlen.out
      clear Hel Hlen
      generalize hjl : Lib.join (row.map (pairL d)) [44] = jl at *
      have Hjl := Lib.hid hjl
      clear hjl
      go_wp2_with (go_at_call 19; refine HJ.out.mono ?_; rintro e w1 ⟨rfl, ho1⟩)
      go_ret
      exact ⟨ret_ba ((cat3 [123] jl [125]).trans (by rw [← Hjl.out]; rfl)), hon.trans ho1 (fun _ _ h => h)⟩

theorem prints : ∀ d, Prints d
  | 0 => fun _ _ _ h _ _ => h.elim
  | d + 1 => fun j cs w h hp hlen => by
    match j, h with
    | .mk kind b n t row thing, ⟨rv, tv, hcs, h0, h1, ⟨c1, h2, h3⟩, ⟨c2, h4, h5⟩⟩ =>
      subst hcs
      simp only [J.pr] at hlen ⊢
      by_cases e1 : kind = 1
      · subst e1; simp only [if_true]; exact print_bool b n t rv tv w
      by_cases e2 : kind = 2
      · subst e2; rw [if_neg (by decide)]; simp only [if_true]; exact print_num b n t rv tv w hp h0 h1
      by_cases e3 : kind = 3
      · subst e3
        rw [if_neg (by decide), if_neg (by decide), if_pos rfl] at hlen ⊢
        exact print_text b n t rv tv w (by have := quoteL_ge t.data.toList; have h3 : t.data.toList.length = t.size := Array.length_toList; omega)
      by_cases e4 : kind = 4
      · subst e4
        rw [if_neg (by decide), if_neg (by decide), if_neg (by decide), if_pos rfl] at hlen ⊢
        exact print_row d (prints d) b n t row rv tv w c1 h2 h3 hp (by simp only [List.length_append] at hlen; omega)
      by_cases e5 : kind = 5
      · subst e5
        rw [if_neg (by decide), if_neg (by decide), if_neg (by decide), if_neg (by decide), if_pos rfl] at hlen ⊢
        exact print_thing d (prints d) b n t thing rv tv w c2 h4 h5 hp (by simp only [List.length_append] at hlen; exact Nat.le_trans (Nat.le_trans (Nat.le_add_left _ _) (Nat.le_add_right _ _)) hlen)
      · rw [if_neg e1, if_neg e2, if_neg e3, if_neg e4, if_neg e5]
        exact print_null kind b n t rv tv w e1 e2 e3 e4 e5
end Go.Proofs.YtffccceadkfbgaaDoor
