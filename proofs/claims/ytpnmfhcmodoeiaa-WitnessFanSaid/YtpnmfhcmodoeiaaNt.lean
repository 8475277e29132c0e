/- Nets of lists: whom they avoid, which edges they tell. -/
import Derived.Test.YtpnmfhcmodoeiaaEd
import Derived.Test.YtpnmfhcmodoeiaaSr
import Derived.OwnWalk
namespace Go.Proofs.Ytpnmfhcmodoeiaa
open Go.RowKit
/-- a slice of vertices reads as a list -/
abbrev VLs := SR 1 (fun v : Nat => [Value.int .u32 (v : Int)])
theorem VLs.at' {B : Nat} {w : World} {A : Option Addr} {l : List Nat} (h : VLs B w A l) (i : Nat) (hi : i < l.length) :
    ∃ b o : Nat, A = some ⟨b, o, none⟩ ∧ b < B ∧ w.cell? ⟨b, o + i, none⟩ = some (.int .u32 (l[i] : Int)) := by
  obtain ⟨b, o, hA, hb, hc⟩ := h.at_ i hi
  refine ⟨b, o, hA, hb, ?_⟩
  have := hc 0 _ rfl
  rwa [Nat.mul_one, Nat.add_zero] at this
/-- is a vertex on a list? -/
def inB (l : List Nat) (v : Nat) : Bool := l.contains v
theorem inB_iff {l : List Nat} {v : Nat} : inB l v = true ↔ v ∈ l := List.contains_iff_mem
theorem inB_nil (v : Nat) : inB [] v = false := rfl
theorem contains_take {l : List Nat} {v i : Nat} (hi : i < l.length) (h : inB (l.take i) v = false) (hv : l[i] ≠ v) : inB (l.take (i + 1)) v = false := by
  unfold inB at *
  rw [List.take_succ_eq_append_getElem hi, List.contains_append, h, Bool.false_or]
  simp [Ne.symm hv]
theorem contains_at {l : List Nat} {v i : Nat} (hi : i < l.length) (hv : l[i] = v) : inB l v = true := by
  rw [inB_iff]
  exact hv ▸ List.getElem_mem hi
set_option maxRecDepth 100000 in
theorem in_any (B : Nat) (A : Option Addr) (l : List Nat) (c v : Nat) (w : World) (h : VLs B w A l) :
    Calls Try.prog 33 #[.slice A l.length c, .int .u32 (v : Int)] w fun e w' => e = .returned (.bool (inB l v)) ∧ w = w' := by
  have hL := h.len
  have HS := Lib.hid h
  clear h
  go_enter Try.func33, Try.ntmps33
  go_wp2_with fail
  go_loopw [5] (fun vi wr => ∃ i : Nat, vi = .int .i64 i ∧ i ≤ l.length ∧ Hid (inB (l.take i) v = false) ∧ wr = w) (fun vi _ => l.length - (intOf vi).toNat)
  case atStart => exact ⟨0, rfl, by omega, Lib.hid rfl, rfl⟩
  case round =>
    obtain ⟨i, rfl, hi, HC, rfl⟩ := hrel
    by_cases hlt : i < l.length
    · obtain ⟨b, o, hA, hb, c0⟩ := HS.out.at' i hlt
      subst hA
      have i1 : (i : Int) < (l.length : Int) := by omega
      have i2 : (0 : Int) ≤ (i : Int) := by omega
      by_cases hv : l[i] = v
      · have HT := Lib.hid (contains_at hlt hv)
        have g1 : ((l[i] : Int) == (v : Int)) = true := by rw [hv]; exact beq_self_eq_true _
        clear hv
        generalize l[i] = u at *
        go_wp2_with fail
        go_ret
        exact ⟨ret_bool HT.out.symm, rfl⟩
      · have HT := Lib.hid (contains_take hlt HC.out hv)
        have g1 : ((l[i] : Int) == (v : Int)) = false := by rw [beq_eq_false_iff_ne]; omega
        clear hv
        generalize l[i] = u at *
        go_wp2_with fail
        go_roundw
        case rel => exact ⟨i + 1, by go_num, by omega, HT, by first | rfl | trivial⟩
        case measure => simp [intOf]; omega
    · have i1 : ¬ (i : Int) < (l.length : Int) := by omega
      have hie : i = l.length := by omega
      subst hie
      go_wp2_with fail
      go_ret
      have := HC.out
      rw [List.take_length] at this
      exact ⟨ret_bool this.symm, rfl⟩
/-- a net in block NB, its lists below block B -/
structure NetAt (B NB : Nat) (E : List Edg) (bad shun : List Nat) (w : World) : Prop where
  row : ∃ A c A' c' A'' c'', w.heap[NB]? = some (.cells #[.slice A E.length c, .slice A' bad.length c', .slice A'' shun.length c''] 25 (0, 0)) ∧ ELs B w A E ∧ VLs B w A' bad ∧ VLs B w A'' shun
theorem NetAt.lt {B NB : Nat} {E : List Edg} {bad shun : List Nat} {w : World} (h : NetAt B NB E bad shun w) : NB < w.heap.size := by
  obtain ⟨_, _, _, _, _, _, h, _⟩ := h.row
  exact (Array.getElem?_eq_some_iff.1 h).1
theorem NetAt.same {B NB : Nat} {E : List Edg} {bad shun : List Nat} {w w' : World} (h : NetAt B NB E bad shun w) (hb : ∀ b, (b < B ∨ b = NB) → w'.heap[b]? = w.heap[b]?) : NetAt B NB E bad shun w' := by
  obtain ⟨A, c, A', c', A'', c'', h1, h2, h3, h4⟩ := h.row
  have hk : ∀ p : Addr, p.block < B → w'.cell? p = w.cell? p := fun p hp => by unfold World.cell?; rw [hb p.block (.inl hp)]
  exact ⟨A, c, A', c', A'', c'', (hb NB (.inr rfl)).trans h1, h2.keep hk, h3.keep hk, h4.keep hk⟩
theorem NetAt.below {B NB : Nat} {E : List Edg} {bad shun : List Nat} {w w' : World} (h : NetAt B NB E bad shun w) (hB : B ≤ w.heap.size) (hb : Below w.heap.size w w') : NetAt B NB E bad shun w' :=
  h.same fun b hk => hb.block b (by
    rcases hk with hk | rfl
    · omega
    · exact h.lt)
/-- what a net tells of a vertex -/
def netOut (E : List Edg) (bad : List Nat) (v : Nat) : List Edg × Int := if inB bad v = true then ([], 7) else (E.filter (fun x => x.tail == v), 0)
theorem netOut_bad {E : List Edg} {bad : List Nat} {v : Nat} (h : inB bad v = true) : netOut E bad v = ([], 7) := if_pos h
theorem netOut_ok {E : List Edg} {bad : List Nat} {v : Nat} (h : inB bad v = false) : netOut E bad v = (E.filter (fun x => x.tail == v), 0) := if_neg (by rw [h]; exact Bool.false_ne_true)
set_option maxRecDepth 100000 in
theorem avoid_any (B NB : Nat) (E : List Edg) (bad shun : List Nat) (v : Nat) (w : World) (h : NetAt B NB E bad shun w) :
    Calls Try.prog 15 #[.pointer (some ⟨NB, 0, none⟩), .int .u32 (v : Int)] w fun e w' => e = .returned (.bool (inB shun v)) ∧ w = w' := by
  obtain ⟨A, c, A', c', A'', c'', h1, _, _, h4⟩ := h.row
  have c2 : w.cell? ⟨NB, 2, none⟩ = some (.slice A'' shun.length c'') := cell_of_row _ _ 2 _ _ _ h1
  have H4 := Lib.hid h4
  clear h1 h4 h
  go_enter Try.func15, Try.ntmps15
  go_wp2_with fail
  refine (in_any B A'' shun c'' v w H4.out).mono ?_
  rintro e w1 ⟨rfl, rfl⟩
  go_wp2_with fail
  go_ret
  exact ⟨rfl, rfl⟩
theorem filter_take {E : List Edg} {v i : Nat} (hi : i < E.length) : (E.take (i + 1)).filter (fun x => x.tail == v) = (E.take i).filter (fun x => x.tail == v) ++ (if E[i].tail = v then [E[i]] else []) := by
  rw [List.take_succ_eq_append_getElem hi, List.filter_append]
  congr 1
  by_cases h : E[i].tail = v
  · simp [h]
  · simp [h]
theorem filter_short (E : List Edg) (v i : Nat) : ((E.take i).filter (fun x => x.tail == v)).length ≤ E.length := by
  have h1 := List.length_filter_le (fun x : Edg => x.tail == v) (E.take i)
  have h2 : (E.take i).length ≤ E.length := by rw [List.length_take]; omega
  omega
set_option maxRecDepth 100000 in
set_option maxHeartbeats 4000000 in
theorem out_any (B NB : Nat) (E : List Edg) (bad shun : List Nat) (v : Nat) (w : World) (h : NetAt B NB E bad shun w) (hB : B ≤ w.heap.size) (hE : E.length ≤ 1000000) :
    Calls Try.prog 17 #[.pointer (some ⟨NB, 0, none⟩), .int .u32 (v : Int)] w fun e w' => ∃ A c, e = .returned (.tuple #[.slice A (netOut E bad v).1.length c, .int .i64 (netOut E bad v).2]) ∧
      OwnS w' w.heap.size 67 4 Edg.enc (.slice A (netOut E bad v).1.length c) (netOut E bad v).1 ∧ Below w.heap.size w w' := by
  obtain ⟨A, c, A', c', A'', c'', h1, h2, h3, _⟩ := h.row
  have hlt := h.lt
  have c0 : w.cell? ⟨NB, 0, none⟩ = some (.slice A E.length c) := cell_of_row _ _ 0 _ _ _ h1
  have c1 : w.cell? ⟨NB, 1, none⟩ = some (.slice A' bad.length c') := cell_of_row _ _ 1 _ _ _ h1
  have HE := Lib.hid h2
  have HI := Lib.hid (in_any B A' bad c' v w h3)
  have HBz := Lib.hid hB
  have hLen := Lib.hid (filter_short E v)
  clear h h1 h2 h3
  cases hbad : inB bad v with
  | true =>
    rw [netOut_bad hbad]
    rw [hbad] at HI
    go_enter Try.func17, Try.ntmps17
    go_wp2_with fail
    refine HI.out.mono ?_
    rintro e w1 ⟨rfl, rfl⟩
    clear HI c1
    go_wp2_with fail
    go_ret2
    exact ⟨none, 0, rfl, OwnS.nil _ _ _ _ _, Below.refl _ _⟩
  | false =>
    rw [netOut_ok hbad]
    rw [hbad] at HI
    have C0 := Lib.hid c0
    clear hbad hB
    go_enter Try.func17, Try.ntmps17
    go_wp2_with fail
    refine HI.out.mono ?_
    rintro e w1 ⟨rfl, rfl⟩
    clear HI c1 c0
    go_wp2_with fail
    go_loopw [6, 7] (fun va vi wr => ∃ (i : Nat) (Q : Option Addr) (q : Nat), vi = .int .i64 i ∧ i ≤ E.length ∧ va = .slice Q ((E.take i).filter (fun x => x.tail == v)).length q ∧
      Hid (OwnS wr w.heap.size 67 4 Edg.enc (.slice Q ((E.take i).filter (fun x => x.tail == v)).length q) ((E.take i).filter (fun x => x.tail == v))) ∧ Hid (Below w.heap.size w wr)) (fun _ vi _ => E.length - (intOf vi).toNat)
    case atStart => exact ⟨0, none, 0, rfl, by omega, rfl, Lib.hid (OwnS.nil _ _ _ _ _), Lib.hid (Below.refl _ _)⟩
    case round =>
      obtain ⟨i, Q, q, rfl, hi, rfl, HO, HB⟩ := hrel
      have d0 : wr.cell? ⟨NB, 0, none⟩ = some (.slice A E.length c) := (HB.out.cell (p := ⟨NB, 0, none⟩) hlt).trans C0.out
      by_cases hil : i < E.length
      · have i1 : (i : Int) < (E.length : Int) := by omega
        have i2 : (0 : Int) ≤ (i : Int) := by omega
        obtain ⟨b, o, hA, hb, e0, e1, e2, e3⟩ := ELs.at' ((HE.out.more HBz.out).below HB.out) i hil
        have HF := Lib.hid (filter_take (v := v) hil)
        have hlen := hLen.out i
        subst hA
        generalize E[i] = x at *
        generalize (E.take i).filter (fun x => x.tail == v) = L at *
        generalize hL' : (E.take (i + 1)).filter (fun x => x.tail == v) = L' at *
        have HL' := Lib.hid hL'
        clear hL'
        by_cases hv : x.tail = v
        · have g1 : ((x.tail : Int) == (v : Int)) = true := by rw [hv]; exact beq_self_eq_true _
          rw [if_pos hv] at HF
          have HS2 : Hid (ELs (wr.heap.size + 1) (wr.alloc (.cells #[.int .u32 (x.tail : Int), .int .u32 (x.head : Int), .int .u64 (x.weight : Int), .int .u32 (x.mid : Int)] 67)) (some ⟨wr.heap.size, 0, none⟩) [x]) := SR.one (enc := Edg.enc) x (heap_alloc_new wr _) rfl _ (by omega)
          have HO2 : Hid (OwnS (wr.alloc (.cells #[.int .u32 (x.tail : Int), .int .u32 (x.head : Int), .int .u64 (x.weight : Int), .int .u32 (x.mid : Int)] 67)) w.heap.size 67 4 Edg.enc (.slice Q L.length q) L) := HO.out.alloc _
          have HB2 : Hid (Below w.heap.size w (wr.alloc (.cells #[.int .u32 (x.tail : Int), .int .u32 (x.head : Int), .int .u64 (x.weight : Int), .int .u32 (x.mid : Int)] 67))) := HB.out.alloc HB.out.size _
          clear HO HB hv
          go_wp2_with (at_builtin; refine wpList_append_sr _ rfl (.tmp 33) (.tmp 41) edge_ety rfl w.heap.size (.slice Q L.length q) L rfl HO2.out (wr.heap.size + 1) (some ⟨wr.heap.size, 0, none⟩) 1 1 [x] rfl rfl HS2.out (by simp [maxLen]; omega) (by simp; omega) HB2.out.size ?_; intro Q2 q2 w8 hown hg _)
          have HB3 : Hid (Below w.heap.size w w8) := HB2.out.grown hg HB2.out.size (fun r hr => (HO2.out.lt r hr).1)
          have hl1 : L.length + [x].length = L'.length := by rw [HF.out]; simp
          rw [hl1, ← HF.out] at hown
          have hl2 : L.length + 1 = L'.length := hl1
          have HO3 := Lib.hid hown
          clear hown hg HB2 HO2 HS2
          go_wp2_with fail
          go_roundw
          case rel => exact ⟨i + 1, Q2, q2, by go_num, by omega, by rw [HL'.out, ← hl2], Lib.hid (by rw [HL'.out]; exact HO3.out), HB3⟩
          case measure => simp [intOf]; omega
        · have g1 : ((x.tail : Int) == (v : Int)) = false := by rw [beq_eq_false_iff_ne]; omega
          rw [if_neg hv, List.append_nil] at HF
          clear hv
          go_wp2_with fail
          go_roundw
          case rel => exact ⟨i + 1, Q, q, by go_num, by omega, by rw [HL'.out, HF.out], Lib.hid (by rw [HL'.out, HF.out]; exact HO.out), HB⟩
          case measure => simp [intOf]; omega
      · have i1 : ¬ (i : Int) < (E.length : Int) := by omega
        have hie : i = E.length := by omega
        subst hie
        rw [List.take_length] at HO ⊢
        go_wp2_with fail
        go_ret2
        exact ⟨Q, q, rfl, HO.out, HB.out⟩
end Go.Proofs.Ytpnmfhcmodoeiaa
