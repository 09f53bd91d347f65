/- The walk of dockyardlaw19.ChunkWhole. -/
import Derived.Test.YtkkgnehpokeffaaPiece
import Derived.Test.YtkkgnehpokeffaaSwitchWalk
import Derived.Deep.LoopGhost
namespace Go.Proofs.Ytkkgnehpokeffaa.Chunk
open Go.RowKit Go.Proofs.Ytkkgnehpokeffaa.Mem Go.Proofs.Ytkkgnehpokeffaa.SlBytes

theorem Has.below {w w' : World} {g k : Nat} {l : List Int} (h : Has w g l k) (hb : Below w.heap.size w w') : Has w' g l k := by
  obtain ⟨i, t, wh, is, D, c0, hG, hst⟩ := h
  exact ⟨i, t, wh, is, D, c0, hG.below hb, hst⟩
theorem Has.data {w : World} {g k : Nat} {l : List Int} (h : Has w g l k) (hk : k ≤ 1048576) : Calls Try.prog 10 #[.pointer (some ⟨g, 0, none⟩)] w (Made w k (bcs (l.take k))) := by
  obtain ⟨i, t, wh, is, D, c0, hG, hst⟩ := h
  exact Chunk.data g i t wh is D k c0 _ w hG (by omega)

theorem Has.lt {w : World} {g k : Nat} {l : List Int} (h : Has w g l k) : g < w.heap.size := by
  obtain ⟨_, _, _, _, _, _, hG, _⟩ := h
  exact hG.1.lt

theorem has_new (w : World) (l : List Int) : Has (w.alloc (.cells #[.int .u64 0, .int .u64 0, .int .u64 0, .bool false, .slice none 0 0] 43)) w.heap.size l 0 :=
  ⟨0, 0, 0, false, none, 0, gth_new w, .inl ⟨rfl, rfl⟩⟩

/-- Is the number at place i there, and not negative? -/
def lateB (lt : List Int) (i : Nat) : Bool := match lt[i]? with
  | some x => decide (0 ≤ x)
  | none => false
theorem lateB_none {lt : List Int} {i : Nat} (h : lt.length ≤ i) : lateB lt i = false := by unfold lateB; rw [List.getElem?_eq_none h]
theorem lateB_some {lt : List Int} {i : Nat} {x : Int} (h : lt[i]? = some x) : lateB lt i = decide (0 ≤ x) := by unfold lateB; rw [h]
theorem lateB_true {lt : List Int} {i : Nat} (h : lateB lt i = true) : ∃ k : Nat, lt[i]? = some (k : Int) := by
  unfold lateB at h
  cases e : lt[i]? with
  | none => rw [e] at h; cases h
  | some x =>
    rw [e] at h
    have h0 : 0 ≤ x := by simpa using h
    obtain ⟨k, rfl⟩ := Int.eq_ofNat_of_zero_le h0
    exact ⟨k, rfl⟩

set_option maxRecDepth 100000 in
set_option maxHeartbeats 1600000 in
theorem whole_main (A B : Option Addr) (c m d : Nat) (l lt : List Int) (w : World) (hn0 : l.length ≤ 1048576) (hS : Sl w 1 A l.length (bcs l)) (hS2 : Sl w 1 B m (lt.map (Value.int .i64))) (hw : ∀ x ∈ lt, (Lit.int .i64 x).wf = true)
    (hT : ∀ (k : Nat) w, Sl w 1 A l.length (bcs l) → Calls Try.prog 12 #[.slice A l.length c, .int .u64 (k : Nat)] w (Made w (min (l.length - k) 4096) (bcs ((l.drop k).take 4096))))
    (_hm : m ≤ 140737488355328) :
    Calls Try.prog 4 #[.slice A l.length c, .slice B m d] w fun e w' => e = .returned (.bool true) ∧ Below w.heap.size w w' := by
  have hn : (l.length : Int) ≤ 1048576 := by omega
  have hn' : l.length ≤ 1048576 := hn0
  have HT := Lib.hid hT
  have HS := Lib.hid hS
  have HS2 := Lib.hid hS2
  have HW := Lib.hid hw
  clear hT hS hS2 hw hn0
  go_enter Try.func4, Try.ntmps4
  go_wp2_with (go_at_call 7; refine (new _).mono ?_; rintro e w' ⟨rfl, rfl⟩)
  refine (alive _).mono ?_
  rintro e w1 ⟨rfl, hb1⟩
  have hz1 : w.heap.size + 1 ≤ w1.heap.size := by have := hb1.size; simp at this; omega
  have HB1 : Hid (Below w.heap.size w w1) := ((Below.refl _ _).alloc (Nat.le_refl _) _).trans (hb1.mono (by simp))
  have HG1 := Lib.hid ((has_new w l).below hb1)
  clear hb1
  go_wp2_with fail
  go_loopw [6, 7] (fun va vi wr => ∃ a i : Nat, va = .int .u64 a ∧ vi = .int .i64 i ∧ Hid (Below w.heap.size w wr) ∧ Hid (Has wr w.heap.size l a) ∧ 4096 * i ≤ a ∧ a ≤ l.length) (fun _ vi _ => 1048576 - (intOf vi).toNat)
  case atStart => exact ⟨0, 0, rfl, rfl, HB1, HG1, by omega, by omega⟩
  case round =>
    obtain ⟨a, i, rfl, rfl, HBr, HGr, hi, ha⟩ := hrel
    have hsz := HBr.out.size
    have hq : (l.length : Int) / 4096 + 1 ≤ 300 := by omega
    have hq2 : (i : Int) ≤ (l.length : Int) / 4096 + 1 := by omega
    have hlm0 : lt.length = m := by simpa using HS2.out.1
    have hlm := Lib.hid hlm0
    clear hlm0
    go_upto_region 8 with fail
    go_cut [50] (fun v wx => v = .bool (lateB lt i) ∧ wx = wr)
    case first =>
      by_cases him : i < m
      · have hx : lt[i]? = some (lt[i]'(by rw [hlm.out]; exact him)) := List.getElem?_eq_getElem _
        obtain ⟨x, hx'⟩ : ∃ x, lt[i]'(by rw [hlm.out]; exact him) = x := ⟨_, rfl⟩
        rw [hx'] at hx
        obtain ⟨b, o, rfl, hcell⟩ := (HS2.out.below HBr.out).at_ (j := i) (u := .int .i64 x) (by rw [List.getElem?_map, hx]; rfl)
        have hlb := Lib.hid (lateB_some hx)
        clear hx hx'
        by_cases h0 : 0 ≤ x
        · go_wp2_with fail
          go_meet
          exact ⟨by rw [hlb.out, decide_eq_true h0], rfl⟩
        · have hlb2 : Hid (lateB lt i = false) := by rw [hlb.out, decide_eq_false h0]; exact rfl
          have h0' : x < 0 := by omega
          go_wp2_with fail
          go_meet
          exact ⟨by rw [hlb2.out], rfl⟩
      · have e := Lib.hid (lateB_none (lt := lt) (i := i) (by rw [hlm.out]; omega))
        go_wp2_with fail
        go_meet
        exact ⟨by rw [e.out], rfl⟩
    case rest =>
      obtain ⟨rfl, hwc⟩ := hcut
      subst hwc
      obtain ⟨bb, hbb⟩ : ∃ bb, lateB lt i = bb := ⟨_, rfl⟩
      have HBB := Lib.hid hbb
      rw [hbb]
      clear hbb
      go_upto_if 50 with fail
      go_cut [6] (fun v wx => ∃ a1 : Nat, v = .int .u64 a1 ∧ a ≤ a1 ∧ a1 ≤ l.length ∧ Hid (Below w.heap.size w wx) ∧ Hid (Has wx w.heap.size l a1))
      case first =>
        cases bb with
        | false =>
          go_wp2_with fail
          go_meet
          exact ⟨a, rfl, Nat.le_refl _, ha, HBr, HGr⟩
        | true =>
          obtain ⟨k, hk⟩ := lateB_true HBB.out
          have hkb : (k : Int) ≤ 9223372036854775807 := by
            have := HW.out k (List.mem_of_getElem? hk)
            simp [Lit.wf, IntKind.min, IntKind.max, IntKind.bits, IntKind.signed] at this
            omega
          have him : i < m := by have := (List.getElem?_eq_some_iff.1 hk).1; rw [hlm.out] at this; exact this
          obtain ⟨b, o, rfl, hcell⟩ := (HS2.out.below HBr.out).at_ (j := i) (u := .int .i64 k) (by rw [List.getElem?_map, hk]; rfl)
          clear hk HBB
          go_wp2_with fail
          refine (HT.out k wc (HS.out.below HBr.out)).mono ?_
          rintro e w2 ⟨v, rfl, hown, hbel⟩
          obtain ⟨A2, c2, rfl, _, _, _, hsl, hblk⟩ := Sl.of_own hown
          have HNE := Lib.hid (own_ne (g := w.heap.size) hown hblk HGr.out.lt)
          have hz2 : wc.heap.size ≤ w2.heap.size := hbel.size
          have HB2 : Hid (Below w.heap.size w w2) := HBr.out.trans (hbel.mono HBr.out.size)
          have HG2 := Lib.hid (HGr.out.below hbel)
          have HP := Lib.hid hsl
          have hcell2 : w2.cell? ⟨b, o + i, none⟩ = some (.int .i64 k) := (hbel.cell (p := ⟨b, o + i, none⟩) (block_lt hcell)).trans hcell
          clear hown hbel hsl hblk HBr HGr hcell
          by_cases hkn : k ≤ l.length
          · have hkn' : (k : Int) ≤ (l.length : Int) := by omega
            go_wp2_with fail
            refine (piece w.heap.size l a k A2 _ c2 w2 (by omega) ha hkn HG2.out rfl HP.out HNE.out).mono ?_
            obtain ⟨a1, he⟩ : ∃ a1, after l.length a k = a1 := ⟨_, rfl⟩
            rw [he]
            have hal : a ≤ a1 := by rw [← he]; unfold after; split <;> omega
            clear he
            rintro e w3 ⟨rfl, hhas, hgr, hle⟩
            have HB3 : Hid (Below w.heap.size w w3) := HB2.out.grown hgr HB2.out.size (fun k hk => by injection hk with hk; omega)
            have HG3 := Lib.hid hhas
            clear hhas hgr HB2 HG2 HP HNE hcell2
            go_wp2_with fail
            go_meet
            exact ⟨a1, rfl, hal, hle, HB3, HG3⟩
          · have hkn' : (l.length : Int) < (k : Int) := by omega
            go_wp2_with fail
            go_meet
            exact ⟨a, rfl, Nat.le_refl _, ha, HB2, HG2⟩
      case rest =>
        obtain ⟨a1, rfl, ha1, ha2, HB2, HG2⟩ := hcut
        clear HBr HGr
        go_wp2_with fail
        refine (HT.out a1 _ (HS.out.below HB2.out)).mono ?_
        rintro e w2 ⟨v, rfl, hown, hbel⟩
        obtain ⟨A2, c2, rfl, _, _, _, hsl, hblk⟩ := Sl.of_own hown
        have hszc := HB2.out.size
        have HNE := Lib.hid (own_ne (g := w.heap.size) hown hblk HG2.out.lt)
        have HB3 : Hid (Below w.heap.size w w2) := HB2.out.trans (hbel.mono HB2.out.size)
        have HG3 := Lib.hid (HG2.out.below hbel)
        have HP := Lib.hid hsl
        clear hown hbel hsl hblk HB2 HG2
        go_wp2_with fail
        refine (piece w.heap.size l a1 a1 A2 _ c2 w2 (by omega) ha2 ha2 HG3.out rfl HP.out HNE.out).mono ?_
        obtain ⟨a2, he⟩ : ∃ a2, after l.length a1 a1 = a2 := ⟨_, rfl⟩
        rw [he]
        have hal : a1 ≤ a2 ∧ (a2 = l.length ∨ a2 = a1 + 4096) := by rw [← he]; unfold after; rw [if_pos rfl]; omega
        clear he
        rintro e w3 ⟨rfl, hhas, hgr, hle⟩
        have HB4 : Hid (Below w.heap.size w w3) := HB3.out.grown hgr HB3.out.size (fun k hk => by injection hk with hk; omega)
        have HG4 := Lib.hid hhas
        clear hhas hgr HB3 HG3 HP HNE
        obtain ⟨hal1, hal2⟩ := hal
        have HAL := Lib.hid hal2
        clear hal2
        by_cases hall : a2 = l.length
        · subst hall
          clear HAL
          go_wp2_with fail
          have hs0 := run_string_of (P := Try.prog) w3.drew 27 5 Try.underlying27 Try.underlying5 A l.length c l ((HS.out.below HB4.out).drew) 9 Try.underlying9
          go_region_with (go_at_call 10; refine (Has.data (w := w3.drew) (g := w.heap.size) (k := l.length) (l := l) HG4.out hn').mono ?_; rintro e w4 ⟨v, rfl, hown, hbel⟩; obtain ⟨A4, c4, rfl, _, _, _, hsl, _⟩ := Sl.of_own hown; have hs1 := run_string_of (P := Try.prog) w4 27 5 Try.underlying27 Try.underlying5 A4 _ c4 _ hsl 9 Try.underlying9; rw [List.take_of_length_le (Nat.le_refl _)] at hs1; have hs2 := run_string_of (P := Try.prog) w4 27 5 Try.underlying27 Try.underlying5 A l.length c l ((HS.out.below HB4.out).drew.below hbel) 9 Try.underlying9; have HB5 : Hid (Below w.heap.size w w4) := HB4.out.drew.trans (hbel.mono HB4.out.size); clear hown hbel hsl)
          all_goals
            go_wp2
            go_ret
            exact ⟨rfl, HB5.out⟩
        · have hne : ((a2 : Int) == (l.length : Int)) = false := beq_eq_false_iff_ne.2 (by omega)
          go_wp2_with fail
          go_roundw
          case rel => exact ⟨a2, i + 1, rfl, by go_num, HB4, HG4, by have := HAL.out; omega, hle⟩
          case measure => simp [intOf]; omega

set_option maxHeartbeats 800000 in
theorem whole_idle (A B : Option Addr) (n c m d : Nat) (w : World) (_hn : n ≤ 140737488355328) (h : (1048576 : Int) < n) :
    Calls Try.prog 4 #[.slice A n c, .slice B m d] w fun e w' => e = .returned (.bool true) ∧ Below w.heap.size w w' := by
  go_enter Try.func4, Try.ntmps4
  go_wp2_with (go_at_call 7; refine (new _).mono ?_; rintro e w' ⟨rfl, rfl⟩)
  refine (alive _).mono ?_
  rintro e w1 ⟨rfl, hb1⟩
  go_wp2_with fail
  refine (alive _).mono ?_
  rintro e w2 ⟨rfl, hb2⟩
  go_wp2
  go_ret
  exact ⟨rfl, after_two hb1 hb2⟩

theorem walk_whole (A B : Option Addr) (n c m d : Nat) (l lt : List Int) (w : World) (hS : Sl w 1 A n (bcs l)) (hS2 : Sl w 1 B m (lt.map (Value.int .i64))) (hw : ∀ x ∈ lt, (Lit.int .i64 x).wf = true) (hnc : n ≤ c) (hc : c ≤ maxLen)
    (hb : n * 1 ≤ 140737488355328) (hb2 : m * 8 ≤ 140737488355328) (hN : A = none → n = 0 ∧ c = 0) :
    Calls Try.prog 4 #[.slice A n c, .slice B m d] w fun e w' => e = .returned (.bool true) ∧ Below w.heap.size w w' := by
  unfold maxLen at hc
  obtain rfl : l.length = n := by have := hS.1; rw [bcs_len] at this; omega
  by_cases h : l.length ≤ 1048576
  · exact whole_main A B c m d l lt w h hS hS2 hw (fun k w hs => cut A l.length c k l w hs hnc hc (by omega) hN) (by omega)
  · exact whole_idle A B l.length c m d w (by omega) (by omega)

end Go.Proofs.Ytkkgnehpokeffaa.Chunk
