/- A net that notes of which vertices it was asked. -/
import Derived.Test.YtpnmfhcmodoeiaaRs
import Derived.Test.YtpnmfhcmodoeiaaNc
namespace Go.Proofs.Ytpnmfhcmodoeiaa
open Go.RowKit
/-- a log in block LB: its net, and whom it was asked of -/
structure LogAt (B NB LB : Nat) (E : List Edg) (bad shun seen : List Nat) (O : Nat → Prop) (w : World) : Prop where
  net : NetAt B NB E bad shun w
  lb : ∃ Q q, w.heap[LB]? = some (.cells #[.pointer (some ⟨NB, 0, none⟩), .slice Q seen.length q] 35 (0, 0)) ∧ OwnV w (LB + 1) (.slice Q seen.length q) seen ∧ ∀ b, O b ↔ b = LB ∨ (Value.slice Q seen.length q).ownBlock = some b
theorem LogAt.lt {B NB LB : Nat} {E : List Edg} {bad shun seen : List Nat} {O : Nat → Prop} {w : World} (h : LogAt B NB LB E bad shun seen O w) : LB < w.heap.size := by
  obtain ⟨Q, q, h1, _⟩ := h.lb
  exact (Array.getElem?_eq_some_iff.1 h1).1
theorem LogAt.same {B NB LB : Nat} {E : List Edg} {bad shun seen : List Nat} {O : Nat → Prop} {w w' : World} (h : LogAt B NB LB E bad shun seen O w) (hb : ∀ b, (b < B ∨ b = NB ∨ O b) → w'.heap[b]? = w.heap[b]?) : LogAt B NB LB E bad shun seen O w' := by
  obtain ⟨Q, q, h1, h2, h3⟩ := h.lb
  refine ⟨h.net.same fun b hk => hb b (by rcases hk with hk | hk; exact .inl hk; exact .inr (.inl hk)), Q, q, (hb LB (.inr (.inr ((h3 LB).2 (.inl rfl))))).trans h1, ?_, h3⟩
  obtain ⟨k1, k2⟩ := h2
  refine ⟨k1, ?_⟩
  rcases k2 with k2 | ⟨g, cap, cur, hv, hg, hh, r⟩
  · exact .inl k2
  · exact .inr ⟨g, cap, cur, hv, hg, (hb g (.inr (.inr ((h3 g).2 (.inr (by rw [hv]; rfl)))))).trans hh, r⟩
theorem LogAt.olt {B NB LB : Nat} {E : List Edg} {bad shun seen : List Nat} {O : Nat → Prop} {w : World} (h : LogAt B NB LB E bad shun seen O w) : ∀ b, O b → b < w.heap.size := fun b hb => by
  obtain ⟨Q, q, h1, h2, h3⟩ := h.lb
  rcases (h3 b).1 hb with rfl | hb
  · exact h.lt
  · exact (h2.lt b hb).2
theorem LogAt.low {B NB LB : Nat} {E : List Edg} {bad shun seen : List Nat} {O : Nat → Prop} {w : World} (h : LogAt B NB LB E bad shun seen O w) : ∀ b, O b → LB ≤ b := fun b hb => by
  obtain ⟨Q, q, h1, h2, h3⟩ := h.lb
  rcases (h3 b).1 hb with rfl | hb
  · exact Nat.le_refl _
  · have := (h2.lt b hb).1; omega
theorem LogAt.below {B NB LB : Nat} {E : List Edg} {bad shun seen : List Nat} {O : Nat → Prop} {w w' : World} (h : LogAt B NB LB E bad shun seen O w) (hB : B ≤ LB) (hb : Below w.heap.size w w') : LogAt B NB LB E bad shun seen O w' :=
  h.same fun b hk => hb.block b (by
    rcases hk with hk | rfl | hk
    · have := h.lt; omega
    · exact h.net.lt
    · exact h.olt b hk)
/-- one more was asked of -/
theorem log_put {B NB LB : Nat} {E : List Edg} {bad shun seen : List Nat} {O : Nat → Prop} {w w8 : World} {Q Q2 : Option Addr} {q q2 v : Nat} (hnet : NetAt B NB E bad shun w) (hN : NB < LB) (hB : B ≤ LB)
    (h1 : w.heap[LB]? = some (.cells #[.pointer (some ⟨NB, 0, none⟩), .slice Q seen.length q] 35 (0, 0))) (h2 : OwnV w (LB + 1) (.slice Q seen.length q) seen) (h3 : ∀ b, O b ↔ b = LB ∨ (Value.slice Q seen.length q).ownBlock = some b)
    (hg : w.grownBy w8 (Value.slice Q seen.length q).ownBlock) (ho : OwnV w8 (LB + 1) (.slice Q2 (seen.length + 1) q2) (seen ++ [v])) (hx : (Value.slice Q2 (seen.length + 1) q2).ownBlock = (Value.slice Q seen.length q).ownBlock ∨ (Value.slice Q2 (seen.length + 1) q2).ownBlock = some (w.heap.size + 1)) :
    LogAt B NB LB E bad shun (seen ++ [v]) (fun b => b = LB ∨ (Value.slice Q2 (seen.length + 1) q2).ownBlock = some b) (w8.setCell ⟨LB, 1, none⟩ (.slice Q2 (seen.length + 1) q2)) ∧
      Moves O (fun b => b = LB ∨ (Value.slice Q2 (seen.length + 1) q2).ownBlock = some b) w (w8.setCell ⟨LB, 1, none⟩ (.slice Q2 (seen.length + 1) q2)) := by
  have hlt : LB < w.heap.size := (Array.getElem?_eq_some_iff.1 h1).1
  have hne : ∀ b, b ≤ LB → some b ≠ (Value.slice Q seen.length q).ownBlock := fun b hb e => by have := (h2.lt b e.symm).1; omega
  have hl : (seen ++ [v]).length = seen.length + 1 := by simp
  have hm : Moves O (fun b => b = LB ∨ (Value.slice Q2 (seen.length + 1) q2).ownBlock = some b) w (w8.setCell ⟨LB, 1, none⟩ (.slice Q2 (seen.length + 1) q2)) := by
    refine ⟨hg.os, hg.tape, hg.output, by rw [World.size_setCell]; exact hg.size, fun b k1 k2 => ?_, fun b hb => ?_⟩
    · have k3 : b ≠ LB := fun e => k2 ((h3 b).2 (.inl e))
      rw [heap_setCell_other _ _ _ _ k3]
      exact hg.block b k1 (fun e => k2 ((h3 b).2 (.inr e.symm)))
    · rcases hb with rfl | hb
      · exact .inl ((h3 _).2 (.inl rfl))
      · rcases hx with hx | hx
        · exact .inl ((h3 b).2 (.inr (hx ▸ hb)))
        · right
          rw [hx] at hb
          injection hb with hb
          omega
  refine ⟨⟨hnet.same fun b hk => hm.block b ?_ ?_, Q2, q2, ?_, ?_, ?_⟩, hm⟩
  · rcases hk with hk | rfl
    · omega
    · exact hnet.lt
  · intro e
    have hbl : b < LB := by rcases hk with hk | rfl <;> omega
    rcases (h3 b).1 e with k | k
    · omega
    · exact hne b (by omega) k.symm
  · have := heap_setCell_same w8 LB 1 _ _ (.slice Q2 (seen.length + 1) q2) ((hg.block LB hlt (hne LB (Nat.le_refl _))).trans h1)
    rw [hl]
    exact this
  · rw [hl]
    obtain ⟨k1, k2⟩ := ho
    rw [hl] at k1 k2
    refine ⟨by rw [hl]; exact k1, ?_⟩
    rcases k2 with k2 | ⟨g, cap, cur, hv, hg2, hh, r⟩
    · exact .inl (by rw [hl]; exact k2)
    · refine .inr ⟨g, cap, cur, by rw [hl]; exact hv, hg2, (heap_setCell_other _ _ _ _ (show g ≠ LB by omega)).trans hh, by rw [hl]; exact r⟩
  · intro b; rw [hl]
set_option maxRecDepth 100000 in
set_option maxHeartbeats 4000000 in
theorem log_ask (B NB LB : Nat) (E : List Edg) (bad shun seen : List Nat) (O : Nat → Prop) (v : Nat) (w : World) (h : LogAt B NB LB E bad shun seen O w) (hN : NB < LB) (hB : B ≤ LB) (hE : E.length ≤ 4000) (hs : seen.length < 1000) :
    Calls Try.prog 14 #[.pointer (some ⟨LB, 0, none⟩), .int .u32 (v : Int)] w fun e w' => ∃ A c O', e = .returned (.tuple #[.slice A (netOut E bad v).1.length c, .int .i64 (netOut E bad v).2]) ∧
      ER (fun b => w.heap.size ≤ b ∧ b < w'.heap.size ∧ ¬ O' b) w' A (netOut E bad v).1 ∧ LogAt B NB LB E bad shun (seen ++ [v]) O' w' ∧ Moves O O' w w' := by
  obtain ⟨Q, q, h1, h2, h3⟩ := h.lb
  have hlt := h.lt
  have c0 : w.cell? ⟨LB, 0, none⟩ = some (.pointer (some ⟨NB, 0, none⟩)) := cell_of_row _ _ 0 _ _ _ h1
  have c1 : w.cell? ⟨LB, 1, none⟩ = some (.slice Q seen.length q) := cell_of_row _ _ 1 _ _ _ h1
  have HL := Lib.hid h1
  have HN := Lib.hid h.net
  have HS := Lib.hid h2
  have HO := Lib.hid h3
  have HA2 : Hid (OwnV (w.alloc (.cells #[.int .u32 (v : Int)] 26)) (LB + 1) (.slice Q seen.length q) seen) := Lib.hid (h2.alloc _)
  have HV2 : Hid (VLs (w.heap.size + 1) (w.alloc (.cells #[.int .u32 (v : Int)] 26)) (some ⟨w.heap.size, 0, none⟩) [v]) := Lib.hid (SR.one (sz := 1) (enc := vEnc) v (heap_alloc_new w _) rfl _ (by omega))
  have HB2 : Hid (LB + 1 ≤ (w.alloc (.cells #[.int .u32 (v : Int)] 26)).heap.size) := Lib.hid (by simp; omega)
  have HLT := Lib.hid hlt
  clear h h1 h2 h3 hlt
  go_enter Try.func14, Try.ntmps14
  go_wp2_with (at_builtin
               refine wpList_append_sr _ rfl (.tmp 10) (.tmp 12) v_ety rfl (LB + 1) (.slice Q seen.length q) seen rfl HA2.out (w.heap.size + 1) (some ⟨w.heap.size, 0, none⟩) 1 1 [v] rfl rfl HV2.out (by simp [maxLen]; omega) (by simp; omega) HB2.out ?_
               intro Q2 q2 w8 hown hg hx
               have hg8 := (World.grownBy_alloc w (.cells #[.int .u32 (v : Int)] 26) _).trans hg
               have hne : some LB ≠ (Value.slice Q seen.length q).ownBlock := fun e => by have := (HS.out.lt LB e.symm).1; omega
               have hr8 : w8.heap[LB]? = _ := (hg8.block LB HLT.out hne).trans HL.out
               have d0 : w8.cell? ⟨LB, 0, none⟩ = some (.pointer (some ⟨NB, 0, none⟩)) := cell_of_row _ _ 0 _ _ _ hr8
               have d1 : w8.cell? ⟨LB, 1, none⟩ = some (.slice Q seen.length q) := cell_of_row _ _ 1 _ _ _ hr8
               have fz : w8.frozen? ⟨LB, 1, none⟩ = false := frozen_of_row _ _ _ _ _ hr8
               have HG8 := Lib.hid hg8
               have HX := Lib.hid hx
               have HR8 := Lib.hid hr8
               have HO8 := Lib.hid hown
               clear hg8 hr8 hown hg hx hne HA2 HV2 HB2 c0 c1)
  obtain ⟨k1, k2⟩ := log_put HN.out hN hB HL.out HS.out HO.out HG8.out HO8.out (by have h := HX.out; simp only [World.size_alloc] at h; exact h)
  have HK1 := Lib.hid k1
  have HK2 := Lib.hid k2
  clear k1 k2 HG8 HX HR8 HO8 d0 d1 fz HL HS HO HLT
  generalize hO2 : (fun b => b = LB ∨ (Value.slice Q2 (seen.length + 1) q2).ownBlock = some b) = O2 at *
  clear hO2
  generalize w8.setCell ⟨LB, 1, none⟩ (.slice Q2 (seen.length + 1) q2) = W9 at *
  refine (out_any B NB E bad shun v W9 HK1.out.net (by have := HK1.out.lt; omega) (by omega)).mono ?_
  rintro e w10 ⟨A, c, rfl, ho, hb⟩
  have HO10 := Lib.hid ho
  have HB10 := Lib.hid hb
  clear ho hb
  go_wp2_with fail
  go_ret2
  refine ⟨A, c, O2, rfl, (own_er HO10.out (by have := netOut_len E bad v; omega)).mono fun b hb => ⟨Nat.le_trans HK2.out.size hb.1, hb.2, fun e => ?_⟩, HK1.out.below hB HB10.out, HK2.out.below HB10.out⟩
  have := HK1.out.olt b e
  omega
/-- the net that notes -/
def logNet (B NB LB M : Nat) (E : List Edg) (bad shun : List Nat) : NetD where
  B := M
  fo := 14
  po := #[.pointer (some ⟨LB, 0, none⟩)]
  co := #[]
  fa := 15
  pa := #[.pointer (some ⟨NB, 0, none⟩)]
  ca := #[]
  out := netOut E bad
  av := inB shun
  P := fun seen O w => LogAt B NB LB E bad shun seen O w
theorem log_net {B NB LB M : Nat} {E : List Edg} {bad shun : List Nat} (hN : NB < LB) (hB : B ≤ LB) (hM : LB < M) (hE : E.length ≤ 4000) : NetC (logNet B NB LB M E bad shun) where
  enterO := fun args w => run_enter Try.func14 (by kernel_rfl) (by rfl) args w
  enterA := enter_avoid
  ask := fun v seen O w _ hs hp _ => log_ask B NB LB E bad shun seen O v w hp hN hB hE hs
  shun := fun v seen O w _ hp _ => by
    refine (avoid_any B NB E bad shun v w hp.net).mono fun e w' ⟨he, hw⟩ => ?_
    subst hw
    exact ⟨he, Below.refl _ _⟩
  stay := fun seen O w w' hp hb => LogAt.same hp fun b hb2 => hb b (by
    have hM' : LB < M := hM
    show b < M ∨ O b
    rcases hb2 with h | h | h
    · exact .inl (by omega)
    · exact .inl (by omega)
    · exact .inr h)
  lt := fun seen O w hp => LogAt.olt hp
theorem find_log (B NB LB : Nat) (E : List Edg) (bad shun : List Nat) (src to most : Nat) (hs : src < 4294967296) (O0 : Nat → Prop) (w : World) (h : LogAt B NB LB E bad shun [] O0 w) (hN : NB < LB) (hB : B ≤ LB) (hE : E.length ≤ 4000) :
    Calls Try.prog 13 #[.func (.func 14) #[.pointer (some ⟨LB, 0, none⟩)] #[], .func (.func 15) #[.pointer (some ⟨NB, 0, none⟩)] #[], .int .u32 (src : Int), .int .u32 (to : Int), .int .u64 (most : Int)] w fun e w' =>
      ∃ a b er O', Finds (netOut E bad) (inB shun) src to most a b er ∧ e = .returned (.tuple #[.bool b, .int .i64 er]) ∧ LogAt B NB LB E bad shun a O' w' ∧ Below LB w w' :=
  (find_any (logNet B NB LB w.heap.size E bad shun) (log_net hN hB h.lt hE) plainFront plain_front src to most 4000 hs (fun v => Nat.le_trans (netOut_len E bad v) hE) (by show 1 + 16 * 4000 ≤ 65536; omega)
    O0 w h (Nat.le_refl _)).mono fun e w' ⟨a, b, er, O', h1, h2, h3, h4⟩ => ⟨a, b, er, O', h1, h2, h3, h4.low h.low (Nat.le_of_lt h.lt)⟩
end Go.Proofs.Ytpnmfhcmodoeiaa
