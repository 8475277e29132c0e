/- Nets of lists: the edges to a vertex. -/
import Derived.Test.YtiiaeddbeohplaaNc
namespace Go.Proofs.Ytiiaeddbeohplaa
open Go.RowKit
/-- what a net tells of the edges to a vertex -/
def netIn (E : List Edg) (bad : List Nat) (v : Nat) : List Edg × Int := if inB bad v = true then ([], 7) else (E.filter (fun x => x.head == v), 0)
theorem netIn_bad {E : List Edg} {bad : List Nat} {v : Nat} (h : inB bad v = true) : netIn E bad v = ([], 7) := if_pos h
theorem netIn_ok {E : List Edg} {bad : List Nat} {v : Nat} (h : inB bad v = false) : netIn E bad v = (E.filter (fun x => x.head == v), 0) := if_neg (by rw [h]; exact Bool.false_ne_true)
theorem filter_head {E : List Edg} {v i : Nat} (hi : i < E.length) : (E.take (i + 1)).filter (fun x => x.head == v) = (E.take i).filter (fun x => x.head == v) ++ (if E[i].head = v then [E[i]] else []) := by
  rw [List.take_succ_eq_append_getElem hi, List.filter_append]
  congr 1
  by_cases h : E[i].head = v
  · simp [h]
  · simp [h]
theorem filter_hshort (E : List Edg) (v i : Nat) : ((E.take i).filter (fun x => x.head == v)).length ≤ E.length := by
  have h1 := List.length_filter_le (fun x : Edg => x.head == v) (E.take i)
  have h2 : (E.take i).length ≤ E.length := by rw [List.length_take]; omega
  omega
set_option maxRecDepth 100000 in
set_option maxHeartbeats 4000000 in
theorem in_net (B NB : Nat) (E : List Edg) (bad shun : List Nat) (v : Nat) (w : World) (h : NetAt B NB E bad shun w) (hB : B ≤ w.heap.size) (hE : E.length ≤ 1000000) :
    Calls Try.prog 14 #[.pointer (some ⟨NB, 0, none⟩), .int .u32 (v : Int)] w fun e w' => ∃ A c, e = .returned (.tuple #[.slice A (netIn E bad v).1.length c, .int .i64 (netIn E bad v).2]) ∧
      OwnS w' w.heap.size 43 4 Edg.enc (.slice A (netIn E bad v).1.length c) (netIn E bad v).1 ∧ Below w.heap.size w w' := by
  obtain ⟨A, c, A', c', A'', c'', h1, h2, h3, _⟩ := h.row
  have hlt := h.lt
  have c0 : w.cell? ⟨NB, 0, none⟩ = some (.slice A E.length c) := cell_of_row _ _ 0 _ _ _ h1
  have c1 : w.cell? ⟨NB, 1, none⟩ = some (.slice A' bad.length c') := cell_of_row _ _ 1 _ _ _ h1
  have HE := Lib.hid h2
  have HI := Lib.hid (in_any B A' bad c' v w h3)
  have HBz := Lib.hid hB
  have hLen := Lib.hid (filter_hshort E v)
  clear h h1 h2 h3
  cases hbad : inB bad v with
  | true =>
    rw [netIn_bad hbad]
    rw [hbad] at HI
    go_enter Try.func14, Try.ntmps14
    go_wp2_with fail
    refine HI.out.mono ?_
    rintro e w1 ⟨rfl, rfl⟩
    clear HI c1
    go_wp2_with fail
    go_ret2
    exact ⟨none, 0, rfl, OwnS.nil _ _ _ _ _, Below.refl _ _⟩
  | false =>
    rw [netIn_ok hbad]
    rw [hbad] at HI
    have C0 := Lib.hid c0
    clear hbad hB
    go_enter Try.func14, Try.ntmps14
    go_wp2_with fail
    refine HI.out.mono ?_
    rintro e w1 ⟨rfl, rfl⟩
    clear HI c1 c0
    go_wp2_with fail
    go_loopw [6, 7] (fun va vi wr => ∃ (i : Nat) (Q : Option Addr) (q : Nat), vi = .int .i64 i ∧ i ≤ E.length ∧ va = .slice Q ((E.take i).filter (fun x => x.head == v)).length q ∧
      Hid (OwnS wr w.heap.size 43 4 Edg.enc (.slice Q ((E.take i).filter (fun x => x.head == v)).length q) ((E.take i).filter (fun x => x.head == v))) ∧ Hid (Below w.heap.size w wr)) (fun _ vi _ => E.length - (intOf vi).toNat)
    case atStart => exact ⟨0, none, 0, rfl, by omega, rfl, Lib.hid (OwnS.nil _ _ _ _ _), Lib.hid (Below.refl _ _)⟩
    case round =>
      obtain ⟨i, Q, q, rfl, hi, rfl, HO, HB⟩ := hrel
      have d0 : wr.cell? ⟨NB, 0, none⟩ = some (.slice A E.length c) := (HB.out.cell (p := ⟨NB, 0, none⟩) hlt).trans C0.out
      by_cases hil : i < E.length
      · have i1 : (i : Int) < (E.length : Int) := by omega
        have i2 : (0 : Int) ≤ (i : Int) := by omega
        obtain ⟨b, o, hA, hb, e0, e1, e2, e3⟩ := ELs.at' ((HE.out.more HBz.out).below HB.out) i hil
        have HF := Lib.hid (filter_head (v := v) hil)
        have hlen := hLen.out i
        subst hA
        generalize E[i] = x at *
        generalize (E.take i).filter (fun x => x.head == v) = L at *
        generalize hL' : (E.take (i + 1)).filter (fun x => x.head == v) = L' at *
        have HL' := Lib.hid hL'
        clear hL'
        by_cases hv : x.head = v
        · have g1 : ((x.head : Int) == (v : Int)) = true := by rw [hv]; exact beq_self_eq_true _
          rw [if_pos hv] at HF
          have HS2 : Hid (ELs (wr.heap.size + 1) (wr.alloc (.cells #[.int .u32 (x.tail : Int), .int .u32 (x.head : Int), .int .u64 (x.weight : Int), .int .u32 (x.mid : Int)] 43)) (some ⟨wr.heap.size, 0, none⟩) [x]) := SR.one (enc := Edg.enc) x (heap_alloc_new wr _) rfl _ (by omega)
          have HO2 : Hid (OwnS (wr.alloc (.cells #[.int .u32 (x.tail : Int), .int .u32 (x.head : Int), .int .u64 (x.weight : Int), .int .u32 (x.mid : Int)] 43)) w.heap.size 43 4 Edg.enc (.slice Q L.length q) L) := HO.out.alloc _
          have HB2 : Hid (Below w.heap.size w (wr.alloc (.cells #[.int .u32 (x.tail : Int), .int .u32 (x.head : Int), .int .u64 (x.weight : Int), .int .u32 (x.mid : Int)] 43))) := HB.out.alloc HB.out.size _
          clear HO HB hv
          go_wp2_with (at_builtin; refine wpList_append_sr _ rfl (.tmp 33) (.tmp 41) edge_ety rfl w.heap.size (.slice Q L.length q) L rfl HO2.out (wr.heap.size + 1) (some ⟨wr.heap.size, 0, none⟩) 1 1 [x] rfl rfl HS2.out (by simp [maxLen]; omega) (by simp; omega) HB2.out.size ?_; intro Q2 q2 w8 hown hg _)
          have HB3 : Hid (Below w.heap.size w w8) := HB2.out.grown hg HB2.out.size (fun r hr => (HO2.out.lt r hr).1)
          have hl1 : L.length + [x].length = L'.length := by rw [HF.out]; simp
          rw [hl1, ← HF.out] at hown
          have hl2 : L.length + 1 = L'.length := hl1
          have HO3 := Lib.hid hown
          clear hown hg HB2 HO2 HS2
          go_wp2_with fail
          go_roundw
          case rel => exact ⟨i + 1, Q2, q2, by go_num, by omega, by rw [HL'.out, ← hl2], Lib.hid (by rw [HL'.out]; exact HO3.out), HB3⟩
          case measure => simp [intOf]; omega
        · have g1 : ((x.head : Int) == (v : Int)) = false := by rw [beq_eq_false_iff_ne]; omega
          rw [if_neg hv, List.append_nil] at HF
          clear hv
          go_wp2_with fail
          go_roundw
          case rel => exact ⟨i + 1, Q, q, by go_num, by omega, by rw [HL'.out, HF.out], Lib.hid (by rw [HL'.out, HF.out]; exact HO.out), HB⟩
          case measure => simp [intOf]; omega
      · have i1 : ¬ (i : Int) < (E.length : Int) := by omega
        have hie : i = E.length := by omega
        subst hie
        rw [List.take_length] at HO ⊢
        go_wp2_with fail
        go_ret2
        exact ⟨Q, q, rfl, HO.out, HB.out⟩
end Go.Proofs.Ytiiaeddbeohplaa
