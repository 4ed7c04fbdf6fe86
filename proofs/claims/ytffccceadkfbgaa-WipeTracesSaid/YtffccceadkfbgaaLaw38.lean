/- catacomblaw38.WipeTraces: the walk. -/
import Derived.Test.YtffccceadkfbgaaLives38
namespace Go.Proofs.Ytffccceadkfbgaa
open Go.RowKit

theorem bstr_list (l : List UInt8) : (bstr l).toList = l := by
  have h := Lib.strOfNums_toList (l.map fun x => (x.toNat : Int))
  rw [bytesOf_nat] at h
  rw [← h]
  congr 1
  simp [strOfNums, bstr, Function.comp_def]

theorem occAt_take (img p : List UInt8) (k : Nat) (h : k + p.length ≤ img.length) : ((bstr ((img.drop k).take p.length)).toList == (bstr p).toList) = Lib.occAt img p k := by
  rw [bstr_list, bstr_list, Lib.occAt, Bool.eq_iff_iff, beq_iff_eq, List.isPrefixOf_iff_prefix, List.prefix_iff_eq_take]
  exact eq_comm
theorem occAt_short (img p : List UInt8) (k : Nat) (h : ¬ k + p.length ≤ img.length) (hk : k ≤ img.length) : Lib.occAt img p k = false := by
  rw [Lib.occAt, Bool.eq_false_iff]
  intro hh
  have := (List.isPrefixOf_iff_prefix.1 hh).length_le
  rw [List.length_drop] at this
  omega
theorem occs_at (img p : List UInt8) (k n : Nat) (hk : k < n) (h : Lib.occAt img p k = true) : ∃ rest, occs img p n = occs img p k ++ k :: rest := by
  obtain ⟨d, rfl⟩ : ∃ d, n = k + 1 + d := ⟨n - k - 1, by omega⟩
  induction d with
  | zero => exact ⟨[], by rw [Nat.add_zero, occs_hit _ _ _ h]⟩
  | succ d ih =>
    obtain ⟨rest, hr⟩ := ih (by omega)
    refine ⟨rest ++ [k + 1 + d].filter fun i => Lib.occAt img p i, ?_⟩
    rw [← Nat.add_assoc, occs, List.range_succ, List.filter_append]
    have : (List.range (k + 1 + d)).filter (fun i => Lib.occAt img p i) = _ := hr
    rw [this]; simp
theorem occs_no (img p : List UInt8) (k : Nat) (h : Lib.occAt img p k = false) : occs img p (k + 1) = occs img p k := by simp [occs, List.range_succ, h]

theorem pcells_length (l : List Nat) : (pcells l).length = l.length * 2 := by
  induction l with
  | nil => rfl
  | cons a t ih =>
    have : pcells (a :: t) = [.int .i64 ((a : Int) / 64), .int .i64 ((a : Int) % 64)] ++ pcells t := rfl
    rw [this, List.length_append, ih]; simp; omega
theorem pcells_at (a : List Nat) (k : Nat) (t : List Nat) : (pcells (a ++ k :: t))[a.length * 2]? = some (.int .i64 ((k : Int) / 64)) ∧ (pcells (a ++ k :: t))[a.length * 2 + 1]? = some (.int .i64 ((k : Int) % 64)) := by
  have : pcells (a ++ k :: t) = pcells a ++ ([.int .i64 ((k : Int) / 64), .int .i64 ((k : Int) % 64)] ++ pcells t) := by simp [pcells]
  rw [this]
  constructor
  · rw [List.getElem?_append_right (by rw [pcells_length]; omega), pcells_length]; simp
  · rw [List.getElem?_append_right (by rw [pcells_length]; omega), pcells_length]; simp

theorem occsAll_cnt (img p : List UInt8) : (occsAll img p).length = if p = [] then 0 else (occs img p img.length).length := by
  unfold occsAll; split <;> simp [*]

/-- How many of a part's places are ahead of k; of a part of no bytes none. -/
def cnt (img p : List UInt8) (k : Nat) : Nat := if p = [] then 0 else (occs img p k).length

def LwRel (img part : List UInt8) (X : List UInt8) (w : World) (at_ n i : Value) (wr : World) : Prop :=
  ∃ k : Nat, k ≤ img.length ∧ i = .int .i64 k ∧ at_ = .int .i64 ((occs img X k).length : Nat) ∧ n = .int .i64 (cnt img part k : Nat) ∧ Only none' w wr

set_option maxRecDepth 100000 in
set_option maxHeartbeats 8000000 in
theorem law_walk (v0 v2 : Value) (img part : List UInt8) (x : Int) (w : World) (h0 : Sl w 1 v0 img.length (bcells img)) (h2 : Sl w 1 v2 part.length (bcells part)) (m : Int) (hm : w.cell? ⟨0, 0, none⟩ = some (.int .i64 m)) (hi : img.length ≤ 1000) (hp : part.length ≤ 60) :
    Calls Try.prog 3 #[v0, .int .i64 x, v2] w fun e w' => e = .returned (.bool true) ∧ Only none' w w' := by
  obtain ⟨p0, c0, hv0, _⟩ := h0.shape
  obtain ⟨p2, c2, hv2, _⟩ := h2.shape
  subst hv0 hv2
  have H0 := Lib.hid h0
  have H2 := Lib.hid h2
  have Hm := Lib.hid hm
  have hX : (be 8 (u64of x)).length = 8 := by simp [be]
  have HX := Lib.hid hX
  clear h0 h2 hm hX
  have hd1 : decide ((1000 : Int) < img.length) = false := by simp; omega
  have hd2 : decide ((60 : Int) < part.length) = false := by simp; omega
  go_enter Try.func3, Try.ntmps3
  go_wp2_with (first
    | (go_at_call 4; refine (lives_ok w m Hm.out).mono ?_; rintro e w1 ⟨rfl, O1⟩)
    | (go_at_call 5; refine (ref26_int x _).mono ?_; rintro e w2 ⟨rfl, O2'⟩; have O2 : Only none' w w2 := O1.trans O2' (fun _ _ h => h))
    | (go_at_call 6; refine (traces_ok _ img x _ (H0.out.keep O2 (fun _ _ h => h)) m ((O2.cell (World.block_lt_of_cell? _ _ Hm.out) (fun h => h)).trans Hm.out) (by omega)).mono ?_; rintro e w3 ⟨vl, rfl, hl, hol, hfl⟩; obtain ⟨pl, cl, rfl, _⟩ := (Sl.ofOwn hl).shape; have O3 : Only none' w w3 := O2.trans hol (fun _ _ h => h)))
  clear hd1 hd2
  generalize hXX : be 8 (u64of x) = X at *
  have Hl := Lib.hid (Sl.ofOwn hl)
  have hl0 : Hid (∀ g o', pl = some ⟨g, o', none⟩ → o' = 0) := fun g o' e => by
    rcases hl.2 with ⟨h, _⟩ | ⟨g', _, _, h, _⟩ <;> injection h with h1 <;> rw [e] at h1
    · cases h1
    · injection h1 with h1; injection h1
  clear hl hol hfl O1 O2' O2 hXX
  go_loopw [9, 10, 32] (fun a n i wr => LwRel img part X w3 a n i wr) (fun _ _ i _ => img.length - (intOf i).toNat)
  case atStart => exact ⟨0, by omega, rfl, by simp [occs], by simp [cnt, occs], Only.refl _ _⟩
  case round =>
    obtain ⟨k, hk, rfl, rfl, rfl, hon⟩ := hrel
    have Ow := O3.trans hon (fun _ _ h => h)
    have hcl : (cnt img part k : Int) ≤ 1000 := by
      have := occs_le img part k
      unfold cnt; split <;> omega
    have hol : ((occs img X k).length : Int) ≤ 1000 := by have := occs_le img X k; omega
    by_cases hlt : k < img.length
    · rcases H0.out.keep Ow (fun _ _ h => h) with ⟨_, _, hz⟩ | ⟨b, o, c', hv, hc, _, hx⟩
      · omega
      injection hv with hv1 hv2 hv3
      subst hv1 hv3
      clear hv2
      have hck : ¬ c0 = k := by omega
      have Hcp := Lib.hid (fun q => conv_bytes (wr.drewN q) _ part (H2.out.keep (Ow.drewN q) (fun _ _ h => h)))
      have cv : ∀ n, k + n ≤ img.length → ∀ q, (convert 22 9 (.slice (some ⟨b, o + k, none⟩) n (c0 - k))).run Try.prog (wr.drewN q) = .ok (.string (bstr ((img.drop k).take n))) (wr.drewN q) := fun n hn q => by
          have hl : ((img.drop k).take n).length = n := by simp; omega
          have := conv_bytes (wr.drewN q) (.slice (some ⟨b, o + k, none⟩) ((img.drop k).take n).length (c0 - k)) ((img.drop k).take n) (.inr ⟨b, o + k, c0 - k, rfl, by omega, by simp [bcells_length], fun j u hj => by
            have h3 := hx (k + j) u (by
              rw [← hj]
              obtain ⟨hj', _⟩ := List.getElem?_eq_some_iff.1 hj
              rw [bcells_length] at hj'
              simp [bcells, List.getElem?_take, show j < n by omega])
            rwa [← Nat.add_assoc] at h3⟩)
          rwa [hl] at this
      clear hx
      have HL : Lib.occAt img X k = true → ∃ g, pl = some ⟨g, 0, none⟩ ∧ (occs img X k).length < (occsAll img X).length ∧ wr.cell? ⟨g, (occs img X k).length * 2, none⟩ = some (.int .i64 ((k : Int) / 64)) ∧ wr.cell? ⟨g, (occs img X k).length * 2 + 1, none⟩ = some (.int .i64 ((k : Int) % 64)) := fun hb => by
        obtain ⟨rest, hr⟩ := occs_at img X k img.length hlt hb
        have hall : occsAll img X = occs img X k ++ k :: rest := by rw [occsAll, if_neg (fun e => by rw [e] at HX; cases HX.out), hr]
        obtain ⟨p0, p1⟩ := pcells_at (occs img X k) k rest
        rw [← hall] at p0 p1
        have hlen : (occs img X k).length < (occsAll img X).length := by rw [hall]; simp
        rcases Hl.out.keep hon (fun _ _ h => h) with ⟨_, _, hz⟩ | ⟨g, o', c', hv, _, _, hx⟩
        · omega
        · injection hv with hv1 hv2 hv3
          have q0 := hx _ _ p0
          have q1 := hx _ _ p1
          obtain rfl : o' = 0 := hl0.out g o' hv1
          rw [Nat.zero_add] at q0 q1
          exact ⟨g, hv1, hlen, q0, q1⟩
      have Hcv := Lib.hid cv
      clear cv
      have HA : (k + 8 ≤ img.length ∧ Lib.occAt img X k = false) ∨ (k + 8 ≤ img.length ∧ Lib.occAt img X k = true) ∨ ¬ k + 8 ≤ img.length := by
        cases Lib.occAt img X k <;> by_cases h : k + 8 ≤ img.length <;> simp [h]
      refine HA.elim ?g1 (fun HB => HB.elim ?g2 ?g3)
      case' g1 =>
        rintro ⟨h8, hb⟩
        clear HA
        have cv8 := Hcv.out 8 h8 0
        rw [World.drewN_zero] at cv8
        have e8 := occAt_take img X k (by rw [HX.out]; omega)
        rw [HX.out, hb] at e8
        have Ha := Lib.hid (occs_no img X k hb)
        clear hb HL
        go_wp2_with fail
        rw [← Ha.out]
        clear cv8 e8
      case' g2 =>
        rintro ⟨h8, hbt⟩
        clear HA HB
        have cv8 := Hcv.out 8 h8 0
        rw [World.drewN_zero] at cv8
        have e8 := occAt_take img X k (by rw [HX.out]; omega)
        rw [HX.out, hbt] at e8
        obtain ⟨g, hg, hat, hc0, hc1⟩ := HL hbt
        have hat' : decide ((occsAll img X).length ≤ (occs img X k).length) = false := by simp; omega
        subst hg
        have Ha := Lib.hid (occs_hit img X k hbt)
        clear hbt HL
        go_wp2_with fail
        rw [show (((occs img X k).length : Nat) : Int) + 1 = ((occs img X (k + 1)).length : Int) by rw [Ha.out]; simp]
        clear cv8 e8 hat hat' hc0 hc1
      case' g3 =>
        intro h8
        clear HA HB
        have Ha := Lib.hid (occs_no img X k (occAt_short img X k (by rw [HX.out]; omega) hk))
        clear HL
        go_wp2_with fail
        rw [← Ha.out]
      all_goals
        clear Ha h8
        by_cases hpe : part = []
        · have Hc : Hid (cnt img part (k + 1) = cnt img part k) := by show _ = _; simp [cnt, hpe]
          subst hpe
          go_quiet (fail)
          go_wp2
          go_roundw
          case rel => exact ⟨k + 1, by omega, by go_num, rfl, by rw [Hc.out], hon.drewN _⟩
          case measure => simp [intOf]; omega
        · have hp0 : 0 < part.length := List.length_pos_iff.2 hpe
          have hd : decide ((0 : Int) < (part.length : Int)) = true := by simp; omega
          have hpos : (0 : Int) < (part.length : Int) := by omega
          by_cases hkp : k + part.length ≤ img.length
          · have cvk := fun q => Hcv.out part.length hkp q
            have cvp := Hcp.out
            have ek := occAt_take img part k hkp
            have hkp' : (k : Int) + (part.length : Int) ≤ (img.length : Int) := by omega
            cases hb : Lib.occAt img part k
            · rw [hb] at ek
              have Hc : Hid (cnt img part (k + 1) = cnt img part k) := by show _ = _; simp [cnt, hpe, occs_no img part k hb]
              clear hb hpe
              go_quiet (fail)
              go_wp2
              go_roundw
              case rel => exact ⟨k + 1, by omega, by go_num, rfl, by rw [Hc.out], hon.drewN _⟩
              case measure => simp [intOf]; omega
            · rw [hb] at ek
              have Hc : Hid ((cnt img part (k + 1) : Int) = (cnt img part k : Int) + 1) := by show _ = _; simp [cnt, hpe, occs_hit img part k hb]
              clear hb hpe
              go_quiet (fail)
              go_wp2
              go_roundw
              case rel => exact ⟨k + 1, by omega, by go_num, rfl, by rw [Hc.out], hon.drewN _⟩
              case measure => simp [intOf]; omega
          · have hkp' : decide ((k : Int) + (part.length : Int) ≤ (img.length : Int)) = false := by simp; omega
            have Hc : Hid (cnt img part (k + 1) = cnt img part k) := by show _ = _; simp [cnt, hpe, occs_no img part k (occAt_short img part k hkp hk)]
            clear hpe
            go_quiet (fail)
            go_wp2
            go_roundw
            case rel => exact ⟨k + 1, by omega, by go_num, rfl, by rw [Hc.out], hon.drewN _⟩
            case measure => simp [intOf]; omega
    · obtain rfl : k = img.length := by omega
      have e1 : (occs img X img.length).length = (occsAll img X).length := by rw [occsAll, if_neg (fun e => by rw [e] at HX; cases HX.out)]
      have e2 : cnt img part img.length = (occsAll img part).length := by rw [occsAll_cnt]; rfl
      have HH := Lib.hid (holds_ok _ _ img part wr (H0.out.keep Ow (fun _ _ h => h)) (H2.out.keep Ow (fun _ _ h => h)) m ((Ow.cell (World.block_lt_of_cell? _ _ Hm.out) (fun h => h)).trans Hm.out) (by omega) (by omega))
      rw [e1, e2]
      clear e1 e2 hcl hol hl0
      go_wp2_with (go_at_call 7; refine HH.out.mono ?_; rintro e w4 ⟨rfl, o4⟩)
      go_ret
      exact ⟨rfl, Ow.trans o4 (fun _ _ h => h)⟩

theorem law_big (p0 p2 : Option Addr) (n0 c0 n2 c2 : Nat) (x : Int) (w : World) (m : Int) (hm : w.cell? ⟨0, 0, none⟩ = some (.int .i64 m)) (h : 1000 < n0 ∨ 60 < n2) :
    Calls Try.prog 3 #[.slice p0 n0 c0, .int .i64 x, .slice p2 n2 c2] w fun e w' => e = .returned (.bool true) ∧ Only none' w w' := by
  have Hm := Lib.hid hm
  clear hm
  by_cases h1 : 1000 < n0
  · have hd1 : decide ((1000 : Int) < n0) = true := by simp; omega
    go_enter Try.func3, Try.ntmps3
    go_wp2_with fail
    refine (lives_ok w m Hm.out).mono ?_
    rintro e w1 ⟨rfl, O1⟩
    go_wp2_with fail
    refine (lives_ok w1 m ((O1.cell (World.block_lt_of_cell? _ _ Hm.out) (fun h => h)).trans Hm.out)).mono ?_
    rintro e w2 ⟨rfl, O2⟩
    go_wp2_with fail
    go_ret
    exact ⟨rfl, O1.trans O2 (fun _ _ h => h)⟩
  · have h2 : 60 < n2 := by omega
    have hd1 : decide ((1000 : Int) < n0) = false := by simp; omega
    have hd2 : decide ((60 : Int) < n2) = true := by simp; omega
    go_enter Try.func3, Try.ntmps3
    go_wp2_with fail
    refine (lives_ok w m Hm.out).mono ?_
    rintro e w1 ⟨rfl, O1⟩
    go_wp2_with fail
    refine (lives_ok w1 m ((O1.cell (World.block_lt_of_cell? _ _ Hm.out) (fun h => h)).trans Hm.out)).mono ?_
    rintro e w2 ⟨rfl, O2⟩
    go_wp2_with fail
    go_ret
    exact ⟨rfl, O1.trans O2 (fun _ _ h => h)⟩
end Go.Proofs.Ytffccceadkfbgaa
