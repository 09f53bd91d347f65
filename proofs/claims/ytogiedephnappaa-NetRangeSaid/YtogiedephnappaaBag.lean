/- The plain law of NetCounts: what was sent and doubled is what was taken and dropped, and what is in flight, as bags of byte strings. -/
import Derived.Test.YtogiedephnappaaCount
namespace Go.Proofs.Ytogiedephnappaa.Net
open Go.RowKit Go.Proofs.Ytogiedephnappaa.Mem

/-- Its bytes, as the strings that are told alike. -/
def Ms.key (x : Ms) : List UInt8 := (strOfNums x.raw).toList

theorem cnt_app (a b : List Ms) (s : List UInt8) : cnt (a ++ b) s = cnt a s + cnt b s := List.countP_append ..
theorem cnt_one (x : Ms) (s : List UInt8) : cnt [x] s = if x.key == s then 1 else 0 := by simp [cnt, Ms.key, List.countP_cons]
theorem cnt_out {l : List Ms} {k : Nat} {x : Ms} (hx : l[k]? = some x) (s : List UInt8) : cnt l s = cnt (l.take k ++ l.drop (k + 1)) s + cnt [x] s := by
  have h1 := cnt_take l s k x hx
  have h2 : cnt l s = cnt (l.take (k + 1)) s + cnt (l.drop (k + 1)) s := by rw [← cnt_app, List.take_append_drop]
  rw [cnt_app, cnt_one, h2, h1]
  unfold Ms.key
  omega
theorem len_out {l : List Ms} {k : Nat} {x : Ms} (hx : l[k]? = some x) : l.length = (l.take k ++ l.drop (k + 1)).length + 1 := by
  have : k < l.length := (List.getElem?_eq_some_iff.1 hx).1
  simp only [List.length_append, List.length_take, List.length_drop]
  omega
theorem cnt_key (x y : Ms) (h : x.raw = y.raw) (s : List UInt8) : cnt [x] s = cnt [y] s := by simp [cnt_one, Ms.key, h]

/-- The books: in is out and what is in flight. -/
structure Books (ins outs l : List Ms) : Prop where
  bag : ∀ s, cnt ins s = cnt outs s + cnt l s
  len : ins.length = outs.length + l.length

theorem Books.nil : Books [] [] [] := ⟨fun _ => rfl, rfl⟩
theorem Books.put {ins outs l : List Ms} (h : Books ins outs l) (x y : Ms) (e : x.raw = y.raw) : Books (ins ++ [x]) outs (l ++ [y]) := by
  refine ⟨fun s => ?_, by simp [h.len, Nat.add_assoc]⟩
  rw [cnt_app, cnt_app, h.bag s, cnt_key x y e]
  omega
theorem Books.out {ins outs l : List Ms} (h : Books ins outs l) {k : Nat} {x : Ms} (hx : l[k]? = some x) (y : Ms) (e : y.raw = x.raw) : Books ins (outs ++ [y]) (l.take k ++ l.drop (k + 1)) := by
  refine ⟨fun s => ?_, ?_⟩
  · rw [cnt_app, h.bag s, cnt_out hx s, cnt_key y x e]
    omega
  · have h1 := len_out hx
    have h2 := h.len
    have h3 : (outs ++ [y]).length = outs.length + 1 := by simp
    omega

end Go.Proofs.Ytogiedephnappaa.Net
