/- dockyardlaw19.alive answers true. -/
import Derived.Test.YtkkgnehpokeffaaGather
import Derived.Lib.SlBytesConst
import Derived.Lib.SmallJoins
import Derived.LaidEqlPtr
namespace Go.Proofs.Ytkkgnehpokeffaa.Chunk
open Go.RowKit Go.Proofs.Ytkkgnehpokeffaa.Mem Go.Proofs.Ytkkgnehpokeffaa.SlBytes

theorem gth_new (w : World) : Gth (w.alloc (.cells #[.int .u64 0, .int .u64 0, .int .u64 0, .bool false, .slice none 0 0] 43)) w.heap.size 0 0 0 false none 0 0 [] :=
  ⟨Blk.new w 43 _, Sl.nil _ _ _, fun _ => ⟨rfl, rfl⟩, by simp⟩

theorem Gth.keep {w w' : World} {g : Nat} {i t wh : Int} {is : Bool} {D : Option Addr} {n c : Nat} {l : List Int} (h : Gth w g i t wh is D n c l) (hg : w'.heap[g]? = w.heap[g]?)
    (hd : ∀ b, D.map (·.block) = some b → b < w.heap.size → w'.heap[b]? = w.heap[b]?) : Gth w' g i t wh is D n c l :=
  ⟨h.1.keep hg, h.2.1.keep hd, h.2.2.1, h.2.2.2⟩
theorem Gth.below {w w' : World} {g : Nat} {i t wh : Int} {is : Bool} {D : Option Addr} {n c : Nat} {l : List Int} (h : Gth w g i t wh is D n c l) (hb : Below w.heap.size w w') : Gth w' g i t wh is D n c l :=
  h.keep (hb.block g h.1.lt) (fun b _ hlt => hb.block b hlt)
theorem Gth.alloc {w : World} {g : Nat} {i t wh : Int} {is : Bool} {D : Option Addr} {n c : Nat} {l : List Int} (h : Gth w g i t wh is D n c l) (o : Obj) : Gth (w.alloc o) g i t wh is D n c l :=
  h.keep (Below.heap_alloc w o g h.1.lt) (fun b _ hlt => Below.heap_alloc w o b hlt)
theorem Gth.len {w : World} {g : Nat} {i t wh : Int} {is : Bool} {D : Option Addr} {n c : Nat} {l : List Int} (h : Gth w g i t wh is D n c l) : n = l.length := by
  have := h.2.1.1
  rw [bcs_len] at this
  omega

/-- A constant's row, marked behind its last cell. -/
theorem sl_const (w : World) (l : List Int) (e : TypeId) (f : Nat × Nat) : Sl (w.alloc (.cells (bcs l).toArray e f)) 1 (some ⟨w.heap.size, 0, none⟩) l.length (bcs l) := by
  refine ⟨by simp [bcs], fun _ => ⟨w.heap.size, 0, rfl, fun j u hu => ?_⟩⟩
  rw [Nat.zero_add, World.cell?_alloc_mark]
  simpa using hu

theorem abc : ((strOfNums [97, 98, 99]).toList == [97, 98, 99]) = true := by decide +kernel

set_option maxHeartbeats 800000 in
theorem alive (w : World) : Calls Try.prog 8 #[] w fun e w' => e = .returned (.bool true) ∧ Below w.heap.size w w' := by
  have kc := fun (w : World) (C : Array Value) (n c g : Nat) (hg : g = w.heap.size) => Joins.run_convert_bytes_const_at (P := Try.prog) w 27 5 C n c g hg Try.underlying27 Try.underlying5
  go_enter Try.func8, Try.ntmps8
  go_wp2_with (go_at_call 7; refine (new _).mono ?_; rintro e w' ⟨rfl, rfl⟩)
  have hsl := sl_const (w.alloc (.cells #[.int .u64 0, .int .u64 0, .int .u64 0, .bool false, .slice none 0 0] 43)) [97, 98] 5 (2, 3)
  simp only [World.size_alloc] at hsl
  have h1 := take_diff_app w.heap.size 5 1 3 0 0 0 false none 0 0 [] [97, 98] (some ⟨w.heap.size + 1, 0, none⟩) 2 2 _ (by omega) (by omega) (by omega) (by omega) ((gth_new w).alloc (.cells #[.int .u8 97, .int .u8 98] 5 (2, 3))) (by decide) hsl (by simp)
  refine h1.mono ?_
  clear h1 hsl
  rintro e w1 ⟨D1, n1, c1, rfl, hg1, hgr1, _⟩
  obtain rfl : n1 = 2 := hg1.len
  have hz1 : w.heap.size + 2 ≤ w1.heap.size := by have := hgr1.size; simp at this; omega
  have hbel1 : Below w.heap.size w w1 := by
    have ha : Below w.heap.size w ((w.alloc (.cells #[.int .u64 0, .int .u64 0, .int .u64 0, .bool false, .slice none 0 0] 43)).alloc (.cells #[.int .u8 97, .int .u8 98] 5 (2, 3))) := ((Below.refl _ _).alloc (Nat.le_refl _) _).alloc (by simp) _
    exact ha.grown hgr1 (by simp; omega) (fun k hk => by injection hk with hk; omega)
  have HG1 := Lib.hid hg1
  have HB1 := Lib.hid hbel1
  clear hg1 hgr1 hbel1
  go_wp2_with fail
  have hsl2 := sl_const w1 [99] 5 (1, 2)
  have h2 := take_same_app w.heap.size 5 1 3 D1 2 c1 [97, 98] [99] (some ⟨w1.heap.size, 0, none⟩) 1 1 _ (by omega) (by omega) (by omega) (by omega) (by omega) (HG1.out.alloc (.cells #[.int .u8 99] 5 (1, 2))) hsl2
  refine h2.mono ?_
  clear h2 hsl2
  rintro e w2 ⟨D2, n2, c2, rfl, hg2, hgr2, _⟩
  obtain rfl : n2 = 3 := hg2.len
  have hbel2 : Below w.heap.size w w2 := (HB1.out.alloc (by omega) (.cells #[.int .u8 99] 5 (1, 2))).grown hgr2 (by simp; omega) (fun k hk => by injection hk with hk; omega)
  have HG2 := Lib.hid hg2
  have HB2 := Lib.hid hbel2
  clear hg2 hgr2 hbel2
  go_wp2_with fail
  refine (data w.heap.size 5 1 3 true D2 3 c2 _ w2 HG2.out (by omega)).mono ?_
  rintro e w3 ⟨v, rfl, hown, hbel⟩
  obtain ⟨A3, c3, rfl, _, _, _, hsl3, _⟩ := Sl.of_own hown
  have hst := run_string_of (P := Try.prog) w3 27 5 Try.underlying27 Try.underlying5 A3 3 c3 _ hsl3 9 Try.underlying9
  have hb3 : Hid (Below w.heap.size w w3) := HB2.out.trans (hbel.mono HB2.out.size)
  clear hsl3 hown hbel
  go_wp2
  go_ret
  exact ⟨congrArg (fun b => Ending.returned (.bool b)) abc, hb3.out⟩

end Go.Proofs.Ytkkgnehpokeffaa.Chunk
