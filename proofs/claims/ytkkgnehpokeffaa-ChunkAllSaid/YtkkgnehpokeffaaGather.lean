/- Contracts of package chunk's functions: New, Take, Data, Drop, Cut. -/
import Derived.Test.YtkkgnehpokeffaaSlBytes
import Derived.Laws.StructEq
import Derived.Deep.QuietTactic
import Derived.BigQuiet
import Derived.Deep.DeepCutAuto
namespace Go.Proofs.Ytkkgnehpokeffaa.Chunk
open Go.RowKit Go.Proofs.Ytkkgnehpokeffaa.Mem Go.Proofs.Ytkkgnehpokeffaa.SlBytes

/-- The Gather at block g: what is being reassembled (index, term, whole, is), and the bytes present. -/
def Gth (w : World) (g : Nat) (i t wh : Int) (is : Bool) (D : Option Addr) (n c : Nat) (l : List Int) : Prop :=
  Blk w g 43 #[.int .u64 i, .int .u64 t, .int .u64 wh, .bool is, .slice D n c] ∧ Sl w 1 D n (bcs l) ∧ (D = none → n = 0 ∧ c = 0) ∧ D.map (·.block) ≠ some g

theorem new (w : World) : Calls Try.prog 7 #[] w fun e w' => e = .returned (.pointer (some ⟨w.heap.size, 0, none⟩)) ∧ w' = w.alloc (.cells #[.int .u64 0, .int .u64 0, .int .u64 0, .bool false, .slice none 0 0] 43) := by
  go_enter Try.func7, Try.ntmps7
  go_wp2
  go_ret
  exact ⟨rfl, rfl⟩

theorem eq41 (d : Nat) (w : World) (x0 y0 x1 y1 x2 y2 : Int) (x3 y3 : Bool) :
    (Op.equalIn (d + 2) 41 (.agg #[.int .u64 x0, .int .u64 x1, .int .u64 x2, .bool x3]) (.agg #[.int .u64 y0, .int .u64 y1, .int .u64 y2, .bool y3])).run Try.prog w = .ok (x0 == y0 && (x1 == y1 && (x2 == y2 && x3 == y3))) w := by
  have hS : Try.prog.underlying 41 = some (.struct (Try.prog.fieldsOf 41)) := by kernel_rfl
  have hp : Try.prog.stoodInHeld 41 = false := by kernel_rfl
  rw [run_equalIn_agg w (d + 1) 41 _ _ hS hp]
  simp only [Program.fieldsOf, Try.underlying41]
  go_simp
  by_cases h0 : x0 = y0 <;> by_cases h1 : x1 = y1 <;> by_cases h2 : x2 = y2 <;> by_cases h3 : x3 = y3 <;> simp [h0, h1, h2, h3]

set_option maxHeartbeats 400000 in
theorem data (g : Nat) (i t wh : Int) (is : Bool) (D : Option Addr) (n c : Nat) (l : List Int) (w : World) (h : Gth w g i t wh is D n c l) (hb : n ≤ 140737488355328) :
    Calls Try.prog 10 #[.pointer (some ⟨g, 0, none⟩)] w (Made w n (bcs l)) := by
  obtain ⟨hB, hS, hN, _⟩ := h
  have c4 : w.cell? ⟨g, 4, none⟩ = some (.slice D n c) := by rw [hB.cell]; rfl
  have HC := Lib.hid (clone D n c (bcs l) w hS (bcs_one l) (by omega) hN)
  clear hB hS hN
  go_enter Try.func10, Try.ntmps10
  go_wp2_with fail
  refine HC.out.mono ?_
  rintro e w1 ⟨v, rfl, hown, hbel⟩
  have HO := Lib.hid hown
  have HB := Lib.hid hbel
  clear hown hbel
  go_wp2
  go_ret
  exact ⟨_, rfl, HO.out, HB.out⟩

set_option maxHeartbeats 400000 in
theorem drop (g : Nat) (i t wh : Int) (is : Bool) (D : Option Addr) (n c : Nat) (l : List Int) (w : World) (h : Gth w g i t wh is D n c l) :
    Calls Try.prog 11 #[.pointer (some ⟨g, 0, none⟩)] w fun e w' => e = .returned (.tuple #[]) ∧ Gth w' g 0 0 0 false none 0 0 [] ∧ w.grownBy w' (some g) := by
  obtain ⟨hB, hS, hN, _⟩ := h
  have c0 : w.cell? ⟨g, 0, none⟩ = some (.int .u64 i) := by rw [hB.cell]; rfl
  have c1 : w.cell? ⟨g, 1, none⟩ = some (.int .u64 t) := by rw [hB.cell]; rfl
  have c2 : w.cell? ⟨g, 2, none⟩ = some (.int .u64 wh) := by rw [hB.cell]; rfl
  have c3 : w.cell? ⟨g, 3, none⟩ = some (.bool is) := by rw [hB.cell]; rfl
  have c4 : w.cell? ⟨g, 4, none⟩ = some (.slice D n c) := by rw [hB.cell]; rfl
  have f0 := hB.frozen 0
  have f1 := hB.frozen 1
  have f2 := hB.frozen 2
  have f3 := hB.frozen 3
  have f4 := hB.frozen 4
  have HB := Lib.hid hB
  clear hB hS hN
  go_enter Try.func11, Try.ntmps11
  go_wp2
  go_end0
  refine ⟨rfl, ⟨?_, Sl.nil _ _ _, fun _ => ⟨rfl, rfl⟩, by simp⟩, ?_⟩
  · have hh := ((((HB.out.set_ 0 (.int .u64 0)).set_ 1 (.int .u64 0)).set_ 2 (.int .u64 0)).set_ 3 (.bool false)).set_ 4 (.slice none 0 0)
    simp only [List.setIfInBounds_toArray, List.set_cons_zero, List.set_cons_succ] at hh
    exact hh
  · exact grown_set (p := ⟨g, 4, none⟩) (grown_set (p := ⟨g, 3, none⟩) (grown_set (p := ⟨g, 2, none⟩) (grown_set (p := ⟨g, 1, none⟩) (grown_set (p := ⟨g, 0, none⟩) (World.grownBy.refl w _) (.inl rfl) _) (.inl rfl) _) (.inl rfl) _) (.inl rfl) _) (.inl rfl) _

attribute [local go_sem high] eq41

/-- A piece is refused. -/
def Bad (wh off : Int) (m : Nat) : Prop := 1048576 < wh ∨ 4096 < m ∨ wh < off ∨ wh - off < m

set_option maxHeartbeats 400000 in
theorem take_bad (p : Option Addr) (i t wh off : Int) (A : Option Addr) (m c : Nat) (w : World) (hw0 : 0 ≤ wh) (hw : wh < 18446744073709551616) (hm : m ≤ 140737488355328) (h : Bad wh off m) :
    Calls Try.prog 9 #[.pointer p, .int .u64 i, .int .u64 t, .int .u64 wh, .int .u64 off, .slice A m c] w fun e w' => e = .returned (.tuple #[.int .u64 0, .bool false, .int .i64 190]) ∧ w' = w := by
  by_cases h1 : 1048576 < wh
  · clear h hw
    go_enter Try.func9, Try.ntmps9
    go_wp2
    go_ret3
    exact ⟨rfl, rfl⟩
  · have h1' : wh ≤ 1048576 := by omega
    by_cases h2 : 4096 < (m : Int)
    · clear h hw h1
      go_enter Try.func9, Try.ntmps9
      go_wp2
      go_ret3
      exact ⟨rfl, rfl⟩
    · have h2' : (m : Int) ≤ 4096 := by omega
      by_cases h3 : wh < off
      · clear h hw h1 h2
        go_enter Try.func9, Try.ntmps9
        go_wp2
        go_ret3
        exact ⟨rfl, rfl⟩
      · have h3' : off ≤ wh := by omega
        have h4 : wh - off < (m : Int) := by unfold Bad at h; omega
        clear h hw h1 h2 h3
        go_enter Try.func9, Try.ntmps9
        go_wp2
        go_ret3
        exact ⟨rfl, rfl⟩

/-- What Take leaves where the piece is taken up or ignored: the bytes present are l'. -/
def Took (w : World) (g : Nat) (i t wh : Int) (D : Option Addr) (l' : List Int) (e : Ending) (w' : World) : Prop :=
  ∃ D' n' c', e = .returned (.tuple #[.int .u64 (n' : Nat), .bool (((n' : Nat) : Int) == wh), .int .i64 0]) ∧ Gth w' g i t wh true D' n' c' l' ∧ w.grownBy w' (some g) ∧ (D' = D ∨ D' = none ∨ ∀ b, D'.map (·.block) = some b → w.heap.size ≤ b ∧ b < w'.heap.size)

set_option maxHeartbeats 800000 in
theorem take_same_ign (g : Nat) (i t wh off : Int) (D : Option Addr) (n k : Nat) (l : List Int) (A : Option Addr) (m c : Nat) (w : World) (hw0 : 0 ≤ wh) (ho0 : 0 ≤ off)
    (h1 : wh ≤ 1048576) (h2 : (m : Int) ≤ 4096) (h3 : off ≤ wh) (h4 : (m : Int) ≤ wh - off) (h : Gth w g i t wh true D n k l) (hn : n ≤ 1048576) (hoff : off ≠ n) :
    Calls Try.prog 9 #[.pointer (some ⟨g, 0, none⟩), .int .u64 i, .int .u64 t, .int .u64 wh, .int .u64 off, .slice A m c] w (Took w g i t wh D l) := by
  obtain ⟨hB, hS, hN, hne⟩ := h
  have c0 : w.cell? ⟨g, 0, none⟩ = some (.int .u64 i) := by rw [hB.cell]; rfl
  have c1 : w.cell? ⟨g, 1, none⟩ = some (.int .u64 t) := by rw [hB.cell]; rfl
  have c2 : w.cell? ⟨g, 2, none⟩ = some (.int .u64 wh) := by rw [hB.cell]; rfl
  have c3 : w.cell? ⟨g, 3, none⟩ = some (.bool true) := by rw [hB.cell]; rfl
  have c4 : w.cell? ⟨g, 4, none⟩ = some (.slice D n k) := by rw [hB.cell]; rfl
  have hlt := hB.lt
  have hb0 : (off == ((n : Nat) : Int)) = false := beq_eq_false_iff_ne.2 hoff
  have HB := Lib.hid hB
  have HS := Lib.hid hS
  have HN := Lib.hid hN
  clear hB hS hN hoff
  go_enter Try.func9, Try.ntmps9
  go_wp2
  go_quiet (fail)
  go_wp2
  go_ret3
  refine ⟨D, n, k, rfl, ⟨(HB.out.alloc _).drewN _, (HS.out.alloc _).drewN _, HN.out, hne⟩, grown_drewN (grown_alloc (World.grownBy.refl w _) _) _, .inl rfl⟩

set_option maxHeartbeats 800000 in
theorem take_same_app (g : Nat) (i t wh : Int) (D : Option Addr) (n k : Nat) (l p : List Int) (A : Option Addr) (m c : Nat) (w : World) (hw0 : 0 ≤ wh)
    (h1 : wh ≤ 1048576) (h2 : (m : Int) ≤ 4096) (h3 : (n : Int) ≤ wh) (h4 : (m : Int) ≤ wh - n) (h : Gth w g i t wh true D n k l) (hp : Sl w 1 A m (bcs p)) :
    Calls Try.prog 9 #[.pointer (some ⟨g, 0, none⟩), .int .u64 i, .int .u64 t, .int .u64 wh, .int .u64 (n : Nat), .slice A m c] w (Took w g i t wh D (l ++ p)) := by
  obtain ⟨hB, hS, hN, hne⟩ := h
  have c0 : w.cell? ⟨g, 0, none⟩ = some (.int .u64 i) := by rw [hB.cell]; rfl
  have c1 : w.cell? ⟨g, 1, none⟩ = some (.int .u64 t) := by rw [hB.cell]; rfl
  have c2 : w.cell? ⟨g, 2, none⟩ = some (.int .u64 wh) := by rw [hB.cell]; rfl
  have c3 : w.cell? ⟨g, 3, none⟩ = some (.bool true) := by rw [hB.cell]; rfl
  have c4 : w.cell? ⟨g, 4, none⟩ = some (.slice D n k) := by rw [hB.cell]; rfl
  have hlt := hB.lt
  have HB := Lib.hid hB
  have HS := Lib.hid hS
  have HP := Lib.hid hp
  clear hB hS hN hp
  go_enter Try.func9, Try.ntmps9
  go_wp2
  go_quiet (fail)
  go_wp2_with fail
  refine (concat (w.heap.size + 1) D A n m k c (bcs l) (bcs p) _ ?k0 ?k1 (((HS.out.alloc _).drewN _).alloc _) (((HP.out.alloc _).drewN _).alloc _) (bcs_one l) (bcs_one p) (by omega)).mono ?_
  case k0 => exact (World.cell?_alloc_at _ _ _ _ (by simp)).trans rfl
  case k1 => exact (World.cell?_alloc_at _ _ _ _ (by simp)).trans rfl
  rintro e w1 ⟨v, rfl, hown, hbel⟩
  obtain ⟨A', c', rfl, _, _, hnil, hsl, hblk⟩ := Sl.of_own hown
  have hB1 : Blk w1 g 43 #[.int .u64 i, .int .u64 t, .int .u64 wh, .bool true, .slice D n k] := (((HB.out.alloc _).drewN _).alloc _).below hbel
  have hfresh : ∀ b, A'.map (·.block) = some b → w.heap.size + 2 ≤ b ∧ b < w1.heap.size := fun b hb => by
    have := (hown.lt b (hblk ▸ hb)).1
    have h2 := (hown.lt b (hblk ▸ hb)).2
    simp at this
    omega
  have k4 : w1.cell? ⟨g, 4, none⟩ = some (.slice D n k) := by rw [hB1.cell]; rfl
  have f4 := hB1.frozen 4
  have hG1 : w.grownBy w1 (some g) := grown_then (grown_alloc (grown_drewN (grown_alloc (World.grownBy.refl w _) _) _) _) hbel
  rw [← bcs_app] at hsl
  have HB1 := Lib.hid hB1
  have HS1 := Lib.hid hsl
  have HN1 := Lib.hid hnil
  have HF := Lib.hid hfresh
  have HG := Lib.hid hG1
  clear hB1 hsl hnil hfresh hG1 hbel hown hblk HB HS HP c0 c1 c2 c3 c4
  go_wp2
  go_ret3
  have hne' : A'.map (·.block) ≠ some g := fun e => by have := (HF.out g e).1; omega
  refine ⟨A', n + m, c', by simp, ⟨HB1.out.set_ 4 _, HS1.out.setCell (p := ⟨g, 4, none⟩) hne' _, HN1.out, hne'⟩, grown_set (p := ⟨g, 4, none⟩) HG.out (.inl rfl) _, .inr (.inr fun b hb => by have := HF.out b hb; exact ⟨by omega, by simpa [World.setCell] using this.2⟩)⟩

set_option maxHeartbeats 800000 in
theorem take_diff_ign (g : Nat) (i t wh off i0 t0 wh0 : Int) (is0 : Bool) (D : Option Addr) (n k : Nat) (l : List Int) (A : Option Addr) (m c : Nat) (w : World) (hw0 : 0 ≤ wh) (ho0 : 0 < off)
    (h1 : wh ≤ 1048576) (h2 : (m : Int) ≤ 4096) (h3 : off ≤ wh) (h4 : (m : Int) ≤ wh - off) (h : Gth w g i0 t0 wh0 is0 D n k l) (hd : (i0 == i && (t0 == t && (wh0 == wh && is0))) = false) :
    Calls Try.prog 9 #[.pointer (some ⟨g, 0, none⟩), .int .u64 i, .int .u64 t, .int .u64 wh, .int .u64 off, .slice A m c] w (Took w g i t wh D []) := by
  obtain ⟨hB, hS, hN, hne⟩ := h
  have c0 : w.cell? ⟨g, 0, none⟩ = some (.int .u64 i0) := by rw [hB.cell]; rfl
  have c1 : w.cell? ⟨g, 1, none⟩ = some (.int .u64 t0) := by rw [hB.cell]; rfl
  have c2 : w.cell? ⟨g, 2, none⟩ = some (.int .u64 wh0) := by rw [hB.cell]; rfl
  have c3 : w.cell? ⟨g, 3, none⟩ = some (.bool is0) := by rw [hB.cell]; rfl
  have c4 : w.cell? ⟨g, 4, none⟩ = some (.slice D n k) := by rw [hB.cell]; rfl
  have f0 := hB.frozen 0
  have f1 := hB.frozen 1
  have f2 := hB.frozen 2
  have f3 := hB.frozen 3
  have f4 := hB.frozen 4
  have hlt := hB.lt
  have HB := Lib.hid hB
  clear hB hS hN
  go_enter Try.func9, Try.ntmps9
  go_wp2
  go_quiet (fail)
  go_wp2
  go_ret3
  refine ⟨none, 0, 0, rfl, ⟨(((((((HB.out.alloc _).drewN _).set_ 0 _).set_ 1 _).set_ 2 _).set_ 3 _).set_ 4 _), Sl.nil _ _ _, fun _ => ⟨rfl, rfl⟩, by simp⟩, ?_, .inr (.inl rfl)⟩
  exact grown_set (p := ⟨g, 4, none⟩) (grown_set (p := ⟨g, 3, none⟩) (grown_set (p := ⟨g, 2, none⟩) (grown_set (p := ⟨g, 1, none⟩) (grown_set (p := ⟨g, 0, none⟩) (grown_drewN (grown_alloc (World.grownBy.refl w _) _) _) (.inl rfl) _) (.inl rfl) _) (.inl rfl) _) (.inl rfl) _) (.inl rfl) _

set_option maxHeartbeats 800000 in
theorem take_diff_app (g : Nat) (i t wh i0 t0 wh0 : Int) (is0 : Bool) (D : Option Addr) (n k : Nat) (l p : List Int) (A : Option Addr) (m c : Nat) (w : World) (hw0 : 0 ≤ wh)
    (h1 : wh ≤ 1048576) (h2 : (m : Int) ≤ 4096) (h4 : (m : Int) ≤ wh) (h : Gth w g i0 t0 wh0 is0 D n k l) (hd : (i0 == i && (t0 == t && (wh0 == wh && is0))) = false) (hp : Sl w 1 A m (bcs p)) (hA : A.map (·.block) ≠ some g) :
    Calls Try.prog 9 #[.pointer (some ⟨g, 0, none⟩), .int .u64 i, .int .u64 t, .int .u64 wh, .int .u64 0, .slice A m c] w (Took w g i t wh D p) := by
  obtain ⟨hB, hS, hN, hne⟩ := h
  have c0 : w.cell? ⟨g, 0, none⟩ = some (.int .u64 i0) := by rw [hB.cell]; rfl
  have c1 : w.cell? ⟨g, 1, none⟩ = some (.int .u64 t0) := by rw [hB.cell]; rfl
  have c2 : w.cell? ⟨g, 2, none⟩ = some (.int .u64 wh0) := by rw [hB.cell]; rfl
  have c3 : w.cell? ⟨g, 3, none⟩ = some (.bool is0) := by rw [hB.cell]; rfl
  have c4 : w.cell? ⟨g, 4, none⟩ = some (.slice D n k) := by rw [hB.cell]; rfl
  have f0 := hB.frozen 0
  have f1 := hB.frozen 1
  have f2 := hB.frozen 2
  have f3 := hB.frozen 3
  have f4 := hB.frozen 4
  have hlt := hB.lt
  have HB := Lib.hid hB
  have HP := Lib.hid hp
  clear hB hS hN hp
  go_enter Try.func9, Try.ntmps9
  go_wp2
  go_quiet (fail)
  go_wp2_with fail
  have HBs : Blk _ g 43 #[.int .u64 i, .int .u64 t, .int .u64 wh, .bool true, .slice none 0 0] := ((((((HB.out.alloc (.cells #[.int .u64 i, .int .u64 t, .int .u64 wh, .bool true] 41)).drewN nq).set_ 0 (.int .u64 i)).set_ 1 (.int .u64 t)).set_ 2 (.int .u64 wh)).set_ 3 (.bool true)).set_ 4 (.slice none 0 0)
  have HPs := (((((((HP.out.alloc (.cells #[.int .u64 i, .int .u64 t, .int .u64 wh, .bool true] 41)).drewN nq).setCell (p := ⟨g, 0, none⟩) hA (.int .u64 i)).setCell (p := ⟨g, 1, none⟩) hA (.int .u64 t)).setCell (p := ⟨g, 2, none⟩) hA (.int .u64 wh)).setCell (p := ⟨g, 3, none⟩) hA (.bool true)).setCell (p := ⟨g, 4, none⟩) hA (.slice none 0 0))
  have hGs : w.grownBy _ (some g) := grown_set (p := ⟨g, 4, none⟩) (grown_set (p := ⟨g, 3, none⟩) (grown_set (p := ⟨g, 2, none⟩) (grown_set (p := ⟨g, 1, none⟩) (grown_set (p := ⟨g, 0, none⟩) (grown_drewN (grown_alloc (World.grownBy.refl w (some g)) (.cells #[.int .u64 i, .int .u64 t, .int .u64 wh, .bool true] 41)) nq) (.inl rfl) (.int .u64 i)) (.inl rfl) (.int .u64 t)) (.inl rfl) (.int .u64 wh)) (.inl rfl) (.bool true)) (.inl rfl) (.slice none 0 0)
  refine (concat (w.heap.size + 1) none A 0 m 0 c [] (bcs p) _ ?k0 ?k1 (Sl.nil _ _ _) (HPs.alloc _) (by simp) (bcs_one p) (by omega)).mono ?_
  case k0 => exact (World.cell?_alloc_at _ _ _ _ (by simp [World.setCell])).trans rfl
  case k1 => exact (World.cell?_alloc_at _ _ _ _ (by simp [World.setCell])).trans rfl
  rintro e w1 ⟨v, rfl, hown, hbel⟩
  obtain ⟨A', c', rfl, _, _, hnil, hsl, hblk⟩ := Sl.of_own hown
  have hB1 : Blk w1 g 43 #[.int .u64 i, .int .u64 t, .int .u64 wh, .bool true, .slice none 0 0] := (HBs.alloc _).below hbel
  have hfresh : ∀ b, A'.map (·.block) = some b → w.heap.size + 2 ≤ b ∧ b < w1.heap.size := fun b hb => by
    have := (hown.lt b (hblk ▸ hb)).1
    have h2 := (hown.lt b (hblk ▸ hb)).2
    simp [World.setCell] at this
    omega
  have k4 : w1.cell? ⟨g, 4, none⟩ = some (.slice none 0 0) := by rw [hB1.cell]; rfl
  have f4' := hB1.frozen 4
  have hG1 : w.grownBy w1 (some g) := grown_then (grown_alloc hGs _) hbel
  simp only [Nat.zero_add, List.nil_append] at hsl hnil
  have HB1 := Lib.hid hB1
  have HS1 := Lib.hid hsl
  have HN1 := Lib.hid hnil
  have HF := Lib.hid hfresh
  have HG := Lib.hid hG1
  clear hB1 hsl hnil hfresh hG1 hbel hown hblk HB HP c0 c1 c2 c3 c4 f0 f1 f2 f3 f4 HBs HPs hGs
  go_wp2
  go_ret3
  have hne' : A'.map (·.block) ≠ some g := fun e => by have := (HF.out g e).1; omega
  refine ⟨A', m, c', by simp, ⟨HB1.out.set_ 4 _, HS1.out.setCell (p := ⟨g, 4, none⟩) hne' _, HN1.out, hne'⟩, grown_set (p := ⟨g, 4, none⟩) HG.out (.inl rfl) _, .inr (.inr fun b hb => by have := HF.out b hb; exact ⟨by omega, by simpa [World.setCell] using this.2⟩)⟩

end Go.Proofs.Ytkkgnehpokeffaa.Chunk
