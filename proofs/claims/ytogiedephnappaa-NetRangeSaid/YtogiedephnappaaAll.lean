/- The walk of dockyardlaw03.NetAll. -/
import Derived.Test.YtogiedephnappaaRun2
namespace Go.Proofs.Ytogiedephnappaa.Net
open Go.RowKit Go.Proofs.Ytogiedephnappaa.Mem

/-- A new net and the reference's new one agree. -/
theorem good_new {b : Nat} {w w' : World} {g : Nat} {room : Int} (h : Own b w g (.slice none 0 0) (max room 0) []) (hb : Below w.heap.size w w') (hz : b ≤ w.heap.size) :
    Good b w' g (.slice none 0 0) (max room 0) [] (.slice none ([] : List Ms).length 0) [] :=
  ⟨⟨h.net.below hb, h.hg, h.hv⟩, Rf.nil _ _, Same.nil, by simp, by simp; omega, Nat.le_trans hz hb.size⟩

/-- begun, the reference's New and run, whichever law they stand in: what run leaves. -/
theorem run_new (w w1 w2 : World) (g : Nat) (room : Int) (B : Option Addr) (cap : Nat) (ops : List Cl) (hO : Own w.heap.size w1 g (.slice none 0 0) (max room 0) []) (hb1 : Below w.heap.size w w1) (hb2 : Below w1.heap.size w1 w2) (hS : Script w B ops) :
    Calls Try.prog 10 #[.pointer (some ⟨g, 0, none⟩), .agg #[.int .i64 (max room 0), .slice none 0 0], .slice B ops.length cap] w2 (Ran w.heap.size w2 g (.slice none 0 0) (max room 0) [] ops.length) := by
  have h := run (b := w.heap.size) w2 w g (.slice none 0 0) (max room 0) [] [] none B 0 cap ops (good_new hO hb2 hb1.size) hS rfl (hb1.trans (hb2.mono hb1.size)) (by have := hS.len; simp; omega)
  exact h

set_option maxRecDepth 100000 in
set_option maxHeartbeats 1600000 in
theorem all_walk (room : Int) (A : Option Addr) (cap : Nat) (ops : List Cl) (w : World) (hS : Script w A ops) :
    Calls Try.prog 7 #[.int .i64 room, .slice A ops.length cap] w fun e w' => e = .returned (.bool true) ∧ Below w.heap.size w w' := by
  have HS := Lib.hid hS
  clear hS
  go_enter Try.func7, Try.ntmps7
  go_wp2_with fail
  refine (begun room w).mono ?_
  rintro e w1 ⟨g, rfl, hO, hB⟩
  have HO := Lib.hid hO
  have HB := Lib.hid hB
  clear hO hB
  go_wp2_with fail
  refine (ref_new room w1).mono ?_
  rintro e w2 ⟨rfl, hb⟩
  have HB2 := Lib.hid hb
  clear hb
  go_wp2_with fail
  refine (run_new w w1 w2 g room A cap ops HO.out HB.out HB2.out HS.out).mono ?_
  rintro e w3 ⟨g3, v3, A3, c3, l3, rl3, rfl, hG, hl, hk, hf⟩
  have HF : Hid (Below w.heap.size w w3) := hk.out (HB.out.trans (HB2.out.mono HB.out.size)) (fun k h => HO.out.nb k h) (Nat.le_trans HB.out.size HB2.out.size)
  clear hG hl hk hf
  go_wp2_with fail
  go_ret
  exact ⟨rfl, HF.out⟩

end Go.Proofs.Ytogiedephnappaa.Net
