/- Len, New and Pop by what a heap holds. -/
import Derived.Test.YtpnmfhcmodoeiaaHo
import Derived.Test.YtpnmfhcmodoeiaaHl
import Derived.Test.YtpnmfhcmodoeiaaHn
import Derived.Test.YtpnmfhcmodoeiaaHe
namespace Go.Proofs.Ytpnmfhcmodoeiaa
open Go.RowKit
def it (k i : Nat) (h1 : k < 18446744073709551616 := by omega) (h2 : i < 4294967296 := by omega) : Itm := ⟨k, i, h1, h2⟩
theorem oi_cell {mk : Value → Array Value} {T : TypeId} {H : Nat} {w : World} {v : Value} {l : List Itm} (h : OI mk T H w v l) (hmk : (mk v)[0]? = some v) : ∃ A c, v = .slice A l.length c ∧ w.cell? ⟨H, 0, none⟩ = some (.slice A l.length c) := by
  obtain ⟨A, c, rfl⟩ := h.form
  exact ⟨A, c, rfl, (cell_of_row _ _ 0 _ _ _ h.row).trans hmk⟩
theorem len_ho (H : Nat) (v : Value) (l : List Itm) (w : World) (h : HO H w v l) :
    Calls Try.prog 46 #[.pointer (some ⟨H, 0, none⟩)] w fun e w' => e = .returned (.int .i64 (l.length : Int)) ∧ w = w' := by
  obtain ⟨A, c, rfl, hc⟩ := oi_cell h rfl
  exact len_any H l.length c A w hc
theorem pop_none (H : Nat) (v : Value) (w : World) (h : HO H w v []) :
    Calls Try.prog 42 #[.pointer (some ⟨H, 0, none⟩)] w fun e w' => e = .returned (.tuple #[Itm.nil.agg, .bool false]) ∧ Below w.heap.size w w' := by
  obtain ⟨A, c, rfl, hc⟩ := oi_cell h rfl
  exact pop_empty H c A w hc
theorem new_hp (w : World) :
    Calls Try.prog 29 #[] w fun e w' => e = .returned (.pointer (some ⟨w.heap.size, 0, none⟩)) ∧ HP w.heap.size w' (.slice none 0 0) [] ∧ Below w.heap.size w w' :=
  (new_any w).mono fun _ _ ⟨he, hr, hb⟩ => ⟨he, ⟨OI.fresh hr, IsHeap.nil⟩, hb⟩
theorem Step.low {mk : Value → Array Value} {T : TypeId} {H B : Nat} {w w0 w' : World} {v v' : Value} {l : List Itm} (hb : Below B w0 w) (h : OI mk T H w v l) (hs : Step H v v' w w') (hB : B ≤ H) : Below B w0 w' := hb.trans (h.keeps_below hs.keeps hB)
theorem perm_len {l l' : List Itm} {x : Itm} (h : l'.Perm (l ++ [x])) : l'.length = l.length + 1 := by rw [h.length_eq]; simp
theorem perm_len' {l l' : List Itm} {x : Itm} (h : (l' ++ [x]).Perm l) : l'.length + 1 = l.length := by rw [← h.length_eq]; simp
end Go.Proofs.Ytpnmfhcmodoeiaa
