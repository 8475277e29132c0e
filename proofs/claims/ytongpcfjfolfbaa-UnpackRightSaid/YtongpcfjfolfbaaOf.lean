/- The contract of Of: edges, each told of its own ends. -/
import Derived.Test.YtongpcfjfolfbaaSf
import Derived.Deep.RegionLaw
namespace Go.Proofs.Ytongpcfjfolfbaa
open Go.RowKit

def entOf (x : Edg) : Ent := ⟨x.tail, x.head, x, x.htail, x.hhead⟩
def entsOf (l : List Edg) : List Ent := l.map entOf
theorem entsOf_length (l : List Edg) : (entsOf l).length = l.length := by simp [entsOf]
theorem entsOf_snoc (l : List Edg) (k : Nat) (hk : k < l.length) : entsOf (l.take (k + 1)) = entsOf (l.take k) ++ [entOf l[k]] := by
  unfold entsOf; rw [List.take_succ_eq_append_getElem hk, List.map_append]; rfl
theorem ent_info : (Try.prog.info? 68).map (fun i => (i.zero, i.size, i.bytes)) = some (some (.agg #[.int .u32 0, .int .u32 0, .int .u32 0, .int .u32 0, .int .u64 0, .int .u32 0]), 6, 32) := by kernel_rfl
/-- the shelf so far -/
structure OfAt (S : Nat) (w : World) (v : Value) (L : List Ent) : Prop where
  row : w.heap[S]? = some (.cells #[v] 24 (0, 0))
  own : OwnS w (S + 1) 68 6 Ent.enc v L
theorem of_app {S gg cap n : Nat} {w w2 w3 : World} {v : Value} {L : List Ent} {x : Ent} (hA : OfAt S w v L) (hn : L.length = n) (h2 : Below w.heap.size w w2)
    (hown : w3.ownsRow (S + 1) 68 6 (.slice (some ⟨gg, 0, none⟩) (n + 1) cap) (n + 1) (L.flatMap Ent.enc ++ Ent.enc x)) (hgrow : w2.grownBy w3 v.ownBlock) (hat : v.ownBlock = some gg ∨ gg = w2.heap.size) :
    OfAt S (w3.setCell ⟨S, 0, none⟩ (.slice (some ⟨gg, 0, none⟩) (n + 1) cap)) (.slice (some ⟨gg, 0, none⟩) (n + 1) cap) (L ++ [x]) ∧ Below S w (w3.setCell ⟨S, 0, none⟩ (.slice (some ⟨gg, 0, none⟩) (n + 1) cap)) ∧
    w3.frozen? ⟨S, 0, none⟩ = false ∧ w3.cell? ⟨S, 0, none⟩ = some v := by
  subst hn
  have hS : S < w.heap.size := (Array.getElem?_eq_some_iff.1 hA.row).1
  have h2s := h2.size
  have hv : ∀ k, v.ownBlock = some k → S + 1 ≤ k ∧ k < w.heap.size := hA.own.lt
  have hgS : S ≠ gg := by
    rcases hat with h | h
    · have := hv gg h; omega
    · omega
  have r3 : ∀ b, b < w.heap.size → some b ≠ v.ownBlock → w3.heap[b]? = w.heap[b]? := fun b h3 h4 => (hgrow.block b (by omega) h4).trans (h2.block b h3)
  have hne : some S ≠ v.ownBlock := fun e => by have := (hv S e.symm).1; omega
  have hr : w3.heap[S]? = some (.cells #[v] 24 (0, 0)) := (r3 S hS hne).trans hA.row
  have hown' : OwnS w3 (S + 1) 68 6 Ent.enc (.slice (some ⟨gg, 0, none⟩) (L.length + 1) cap) (L ++ [x]) := by
    unfold OwnS; rw [List.length_append, List.flatMap_append]; simpa using hown
  refine ⟨⟨heap_setCell_same w3 S 0 _ _ _ hr, hown'.same fun k hk => ?_⟩, ⟨?_, ?_, ?_, ?_, fun b hb => ?_⟩, frozen_of_row _ _ _ _ _ hr, cell_of_row _ _ 0 _ _ _ hr⟩
  · have : k = gg := by simpa [Value.ownBlock] using hk.symm
    subst this
    exact heap_setCell_other _ _ _ _ (Ne.symm hgS)
  · exact hgrow.os.trans h2.os
  · exact hgrow.tape.trans h2.tape
  · exact hgrow.output.trans h2.output
  · rw [World.size_setCell]; have := hgrow.size; omega
  · rw [heap_setCell_other _ _ _ _ (by show b ≠ S; omega)]
    exact r3 b (by omega) (fun e => by have := (hv b e.symm).1; omega)

set_option maxHeartbeats 4000000 in
theorem of_any (B : Nat) (A : Option Addr) (c : Nat) (l : List Edg) (w : World) (hs : ELs B w A l) (hB : B ≤ w.heap.size) (hl : l.length ≤ 1073741824) :
    Calls Try.prog 30 #[.slice A l.length c] w fun e w' => e = .returned (.pointer (some ⟨w.heap.size, 0, none⟩)) ∧ Below w.heap.size w w' ∧ ∃ v, OfAt w.heap.size w' v (entsOf l) := by
  have hA0 : OfAt w.heap.size (w.alloc (.cells #[.slice none 0 0] 24)) (.slice none 0 0) (entsOf (l.take 0)) := ⟨heap_alloc_new w _, OwnS.nil _ _ _ _ _⟩
  have hb0 : Below w.heap.size w (w.alloc (.cells #[.slice none 0 0] 24)) := (Below.refl _ _).alloc (Nat.le_refl _) _
  obtain ⟨i0, hi0, hz0, hz1, hz2⟩ := info_parts ent_info
  have HI := Lib.hid hi0
  have HZ := Lib.hid hz0
  have HZ1 := Lib.hid hz1
  have HZ2 := Lib.hid hz2
  have HS := Lib.hid hs
  clear hi0 hz0 hz1 hz2 hs
  go_enter Try.func30, Try.ntmps30
  go_wp2_with fail
  go_loopw [4] (fun vi wr => ∃ (i : Nat) (v : Value), i ≤ l.length ∧ vi = .int .i64 i ∧ Hid (OfAt w.heap.size wr v (entsOf (l.take i))) ∧ Hid (Below w.heap.size w wr)) (fun vi _ => l.length - (intOf vi).toNat)
  case atStart => exact ⟨0, _, by omega, rfl, hA0, hb0⟩
  case round =>
    obtain ⟨i, v, hi, rfl, HA, HB⟩ := hrel
    clear hA0 hb0
    by_cases hlt : i < l.length
    · obtain ⟨p, o, rfl, hp, c0, c1, c2, c3⟩ := ELs.at' (HS.out.keep fun p hp => HB.out.cell (by omega)) i hlt
      have hlen : (entsOf (l.take i)).length = i := by rw [entsOf_length, List.length_take]; omega
      have HN := Lib.hid (entsOf_snoc l i hlt)
      have HLn := Lib.hid hlen
      obtain ⟨P0, n0, rfl, hc0⟩ := HA.out.own.form
      rw [hlen] at HA hc0
      have cS : wr.cell? ⟨w.heap.size, 0, none⟩ = some (.slice P0 i n0) := cell_of_row _ _ 0 _ _ _ HA.out.row
      have hS : w.heap.size < wr.heap.size := (Array.getElem?_eq_some_iff.1 HA.out.row).1
      have hpw : p < wr.heap.size := by omega
      have cS' : ∀ o, (wr.alloc o).cell? ⟨w.heap.size, 0, none⟩ = some (.slice P0 i n0) := fun o => by rw [World.cell?_alloc_past _ _ _ hS]; exact cS
      have HO : Hid (wr.ownsRow (w.heap.size + 1) 68 6 (.slice P0 i n0) i ((entsOf (l.take i)).flatMap Ent.enc)) := Lib.hid (by have := HA.out.own; unfold OwnS at this; rw [hlen] at this; exact this)
      clear hlen
      generalize entsOf (l.take i) = L at *
      generalize l[i] = x at *
      have e1 : (0:Int) ≤ (i:Int) := by omega
      have e2 : (i:Int) < l.length := by omega
      go_wp2_with fail
      go_region_law
        ((refine step_append_lies _ (by rfl) _ _ _ (by rfl) (w.heap.size + 1) 68 i0 _ 6 32 Try.underlying22 HI.out HZ.out HZ1.out HZ2.out rfl (by omega) (.slice P0 i n0) i (L.flatMap Ent.enc) (by rfl) ((HO.out.alloc _).drew)
            ⟨wr.heap.size, 0, none⟩ 1 1 (Ent.enc (entOf x)) (by rfl) (by rfl) (World.news_of_block (cs := #[.int .u32 (x.tail : Int), .int .u32 (x.head : Int), .int .u32 (x.tail : Int), .int .u32 (x.head : Int), .int .u64 (x.weight : Int), .int .u32 (x.mid : Int)]) (t := 68) (fr := (0, 0)) (heap_alloc_new wr _)) (by simp [Ent.enc, Value.oneCell']) (by omega) (by simp only [maxLen]; omega) (by omega) (by simp; omega) (wr.heap.size + 1) (by simp) ?_; intro gg cap w3 hown hgrow hat hlt2; obtain ⟨q1, q2, hz, hy⟩ := of_app (x := entOf x) HA.out HLn.out (below_drewN ((Below.refl wr.heap.size wr).alloc (Nat.le_refl _) _) 1) hown hgrow (by rcases hat with h | h; exact .inl h; exact .inr (by rw [h]; simp))))
      all_goals
        have Q1 := Lib.hid q1
        have Q2 := Lib.hid q2
        clear q1 q2 hz hy hown hgrow hat hlt2 cS cS' c0 c1 c2 c3
        generalize (w3.setCell ⟨w.heap.size, 0, none⟩ (.slice (some ⟨gg, 0, none⟩) (i + 1) cap)) = W4 at *
        go_wp2_with fail
        go_roundw
        case rel => exact ⟨i + 1, _, by omega, by go_num, by rw [HN.out]; exact Q1.out, HB.out.trans Q2.out⟩
        case measure => simp [intOf]; omega
    · have HE := Lib.hid (show l.take i = l by rw [show i = l.length by omega, List.take_length])
      rw [HE.out] at HA
      go_wp2_with fail
      go_ret
      exact ⟨rfl, HB.out, _, HA.out⟩
end Go.Proofs.Ytongpcfjfolfbaa
