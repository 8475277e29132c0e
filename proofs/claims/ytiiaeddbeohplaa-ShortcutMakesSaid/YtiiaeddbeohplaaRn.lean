/- The reference of chapter 17: equal lists, a net with one vertex more avoided, Find, needless. -/
import Derived.Test.YtiiaeddbeohplaaRu
import Derived.Test.YtiiaeddbeohplaaTr
import Derived.Test.YtiiaeddbeohplaaW7
import Derived.StillTailTactics
import Derived.BigQuiet
import Derived.Deep.QuietTactic
namespace Go.Proofs.Ytiiaeddbeohplaa
open Go.RowKit
set_option maxHeartbeats 1000000 in
/-- equal lists of edges are found equal -/
theorem eq_same (B B' : Nat) (A A' : Option Addr) (l : List Edg) (c c' : Nat) (w : World) (hs : ELs B w A l) (hs' : ELs B' w A' l) :
    Calls Try.prog 19 #[.slice A l.length c, .slice A' l.length c'] w fun e w' => e = .returned (.bool true) ∧ Drew w w' := by
  have hlen := hs.len
  go_enter Try.func19, Try.ntmps19
  go_wp2
  go_loopw [5] (fun i wr => ∃ k : Nat, k ≤ l.length ∧ i = .int .i64 k ∧ ∃ n, wr = w.drewN n) (fun i _ => l.length - (intOf i).toNat)
  case atStart => exact ⟨0, by omega, rfl, 0, rfl⟩
  case round =>
    obtain ⟨k, hk, rfl, n, rfl⟩ := hrel
    by_cases hlt : k < l.length
    · obtain ⟨b, o, rfl, _, h1, h2, h3, h4⟩ := ELs.at' hs k hlt
      obtain ⟨b', o', rfl, _, h1', h2', h3', h4'⟩ := ELs.at' hs' k hlt
      clear hs hs'
      generalize (l[k]).tail = p at *
      generalize (l[k]).head = q at *
      generalize (l[k]).weight = r at *
      generalize (l[k]).mid = s at *
      have e1 : (0:Int) ≤ (k:Int) := by omega
      have e2 : (k:Int) < l.length := by omega
      go_wp2
      go_quiet (fail)
      go_wp2
      go_roundw
      case rel => exact ⟨k + 1, by omega, by go_num, _, rfl⟩
      case measure => simp [intOf]; omega
    · go_wp2
      go_ret
      exact ⟨rfl, (Drew.refl _).drewN _⟩
theorem v_one (w : World) (v : Nat) : OwnV (w.alloc (.cells #[.int .u32 (v : Int)] 26)) w.heap.size (.slice (some ⟨w.heap.size, 0, none⟩) 1 1) [v] :=
  ⟨rfl, .inr ⟨w.heap.size, 1, #[.int .u32 (v : Int)], rfl, Nat.le_refl _, heap_alloc_new _ _, Nat.le_refl _, by simp [maxLen], rfl, rfl⟩⟩
set_option maxRecDepth 100000 in
set_option maxHeartbeats 4000000 in
/-- the net in which one more vertex is avoided -/
theorem without_any (NB : Nat) (E : List Edg) (bad shun : List Nat) (v : Nat) (w : World) (h : NetAt w.heap.size NB E bad shun w) (hl : shun.length ≤ 1000000) :
    Calls Try.prog 33 #[.pointer (some ⟨NB, 0, none⟩), .int .u32 (v : Int)] w fun e w' => ∃ NB', e = .returned (.pointer (some ⟨NB', 0, none⟩)) ∧ NetAt w'.heap.size NB' E bad (v :: shun) w' ∧ Below w.heap.size w w' := by
  obtain ⟨A, c, A', c', A'', c'', h1, h2, h3, h4⟩ := h.row
  have hlt := h.lt
  have hb1 : Below w.heap.size w (w.alloc (.cells #[.int .u32 (v : Int)] 26)) := (Below.refl _ _).alloc (Nat.le_refl _) _
  have hO := v_one w v
  have d2 : ∀ o, (w.alloc o).cell? ⟨NB, 2, none⟩ = some (.slice A'' shun.length c'') := fun o => by rw [World.cell?_alloc_past _ _ _ hlt]; exact cell_of_row _ _ 2 _ _ _ h1
  have HO := Lib.hid hO
  have HB1 := Lib.hid hb1
  have HV := Lib.hid (h4.below hb1)
  have HB1s : Hid (w.heap.size ≤ (w.alloc (.cells #[.int .u32 (v : Int)] 26)).heap.size) := Lib.hid hb1.size
  have HR := Lib.hid h1
  have HE := Lib.hid h2
  have HBd := Lib.hid h3
  clear h h1 h2 h3 h4 hb1 hO
  go_enter Try.func33, Try.ntmps33
  go_wp2_with (at_builtin
               refine wpList_append_sr _ rfl (.tmp 8) (.tmp 12) v_ety rfl w.heap.size (.slice (some ⟨w.heap.size, 0, none⟩) 1 1) [v] rfl HO.out w.heap.size A'' shun.length c'' shun rfl rfl HV.out (by simp [maxLen]; omega) (by simp; omega) HB1s.out ?_
               intro Q2 q2 w8 hown hg _
               have HB8 : Hid (Below w.heap.size w w8) := Lib.hid (HB1.out.grown hg HB1s.out (fun r hr => (HO.out.lt r hr).1))
               have HO8 := Lib.hid hown
               have r8 := (HB8.out.block NB hlt).trans HR.out
               have f0 : w8.cell? ⟨NB, 0, none⟩ = some (.slice A E.length c) := cell_of_row _ _ 0 _ _ _ r8
               have f1 : w8.cell? ⟨NB, 1, none⟩ = some (.slice A' bad.length c') := cell_of_row _ _ 1 _ _ _ r8
               clear hown hg HO HB1 HV HB1s HR d2 r8)
  go_still_tail 10, (by kernel_rfl)
  change wpList _ _ _ _ _ w8.drew
  have HB9 : Hid (Below w.heap.size w w8.drew) := Lib.hid (below_drewN HB8.out 1)
  have HO9 : Hid (OwnV w8.drew w.heap.size (.slice Q2 ([v].length + shun.length) q2) ([v] ++ shun)) := HO8
  clear f0 f1 HB8 HO8
  generalize w8.drew = w9 at *
  go_wp2_with fail
  go_ret
  have hb : Below w.heap.size w (w9.alloc (.cells #[.slice A E.length c, .slice A' bad.length c', .slice Q2 (1 + shun.length) q2] 25)) := HB9.out.alloc HB9.out.size _
  have hbn : Below w9.heap.size w9 (w9.alloc (.cells #[.slice A E.length c, .slice A' bad.length c', .slice Q2 (1 + shun.length) q2] 25)) := (Below.refl _ _).alloc (Nat.le_refl _) _
  have hle : w.heap.size ≤ (w9.alloc (.cells #[.slice A E.length c, .slice A' bad.length c', .slice Q2 (1 + shun.length) q2] 25)).heap.size := hb.size
  have hr := heap_alloc_new w9 (.cells #[.slice A E.length c, .slice A' bad.length c', .slice Q2 (1 + shun.length) q2] 25)
  have hl2 : 1 + shun.length = (v :: shun).length := by simp; omega
  refine ⟨w9.heap.size, rfl, ⟨A, c, A', c', Q2, q2, by rw [← hl2]; exact hr, (HE.out.below hb).more hle, (HBd.out.below hb).more hle, ?_⟩, hb⟩
  have hv := own_vls HO9.out (by simp; omega)
  exact (hv.below hbn).more hbn.size
set_option maxRecDepth 100000 in
theorem find_ref (NB : Nat) (E : List Edg) (bad shun : List Nat) (src to most : Nat) (w : World) (h : NetAt w.heap.size NB E bad shun w) (hE : E.length ≤ 300) :
    Calls Try.prog 40 #[.pointer (some ⟨NB, 0, none⟩), .int .u32 (src : Int), .int .u32 (to : Int), .int .u64 (most : Int)] w fun e w' =>
      e = .returned (.tuple #[.bool (findR (netOut E bad) (inB shun) src to most).2.1, .int .i64 (findR (netOut E bad) (inB shun) src to most).2.2]) ∧ Below w.heap.size w w' := by
  have HR := Lib.hid (run_ref w.heap.size NB E bad shun src to most w h (Nat.le_refl _) hE)
  clear h
  go_enter Try.func40, Try.ntmps40
  go_wp2_with fail
  refine HR.out.mono ?_
  rintro e w2 ⟨a, b, er, Q, q, hf, rfl, _, hb⟩
  obtain ⟨h1, h2⟩ := finds_R hf
  have HF1 := Lib.hid h1
  have HF2 := Lib.hid h2
  have HB := Lib.hid hb
  clear hf h1 h2 hb HR
  go_wp2_with fail
  go_ret2
  exact ⟨by rw [← HF1.out, ← HF2.out]; rfl, HB.out⟩
/-- is there an edge, or a short search, that does as well? -/
def needR (out : Nat → List Edg × Int) (av : Nat → Bool) (u t sum : Nat) : Bool × Int :=
  if (out u).2 ≠ 0 then (false, (out u).2) else if anyB (out u).1 t sum = true then (true, 0) else (findR out av u t sum).2
theorem pair_need {out : Nat → List Edg × Int} {av : Nat → Bool} {v : Nat} {hv : v < 4294967296} {a b : Edg} (h : ¬ (a.tail = b.head ∨ shunB v av a.tail = true ∨ shunB v av b.head = true)) (h2 : fitsB a.weight b.weight = true) :
    pairR out av v hv a b = if (needR out (shunB v av) a.tail b.head (sumV a.weight b.weight)).2 ≠ 0 then .bad (needR out (shunB v av) a.tail b.head (sumV a.weight b.weight)).2
      else if (needR out (shunB v av) a.tail b.head (sumV a.weight b.weight)).1 = true then .no else .yes (cutE a b v hv) := by
  by_cases h3 : (out a.tail).2 = 0
  · cases h4 : anyB (out a.tail).1 b.head (sumV a.weight b.weight) with
    | true =>
      have hn : needR out (shunB v av) a.tail b.head (sumV a.weight b.weight) = (true, 0) := by unfold needR; rw [if_neg (fun e => e h3), if_pos h4]
      rw [hn, pairR_edge h h2 h3 h4]
      rfl
    | false =>
      have hn : needR out (shunB v av) a.tail b.head (sumV a.weight b.weight) = (findR out (shunB v av) a.tail b.head (sumV a.weight b.weight)).2 := by unfold needR; rw [if_neg (fun e => e h3), if_neg (by rw [h4]; exact Bool.false_ne_true)]
      rw [hn, pairR_find h h2 h3 h4]
  · have hn : needR out (shunB v av) a.tail b.head (sumV a.weight b.weight) = (false, (out a.tail).2) := by unfold needR; rw [if_pos h3]
    rw [hn, pairR_bad h h2 h3, if_pos h3]
set_option maxRecDepth 100000 in
set_option maxHeartbeats 4000000 in
theorem need_any (NB : Nat) (E : List Edg) (bad shun : List Nat) (u t sum : Nat) (w : World) (h : NetAt w.heap.size NB E bad shun w) (hE : E.length ≤ 300) :
    Calls Try.prog 34 #[.pointer (some ⟨NB, 0, none⟩), .int .u32 (u : Int), .int .u32 (t : Int), .int .u64 (sum : Int)] w fun e w' =>
      e = .returned (.tuple #[.bool (needR (netOut E bad) (inB shun) u t sum).1, .int .i64 (needR (netOut E bad) (inB shun) u t sum).2]) ∧ Below w.heap.size w w' := by
  have HO := Lib.hid (out_any w.heap.size NB E bad shun u w h (Nat.le_refl _) (by omega))
  have HN := Lib.hid h
  have HLE := Lib.hid (netOut_len E bad u)
  unfold needR
  clear h
  by_cases h1 : (netOut E bad u).2 = 0
  case neg =>
    rw [if_pos h1]
    have q1 : ((netOut E bad u).2 == 0) = false := by rw [beq_eq_false_iff_ne]; exact h1
    clear h1
    generalize (netOut E bad u).2 = er at *
    generalize (netOut E bad u).1 = L at *
    go_enter Try.func34, Try.ntmps34
    go_wp2_with fail
    refine HO.out.mono ?_
    rintro e w1 ⟨A, c, rfl, _, hb⟩
    have HB := Lib.hid hb
    clear hb HO
    go_wp2_with fail
    go_ret2
    exact ⟨rfl, HB.out⟩
  case pos =>
    rw [if_neg (fun e => e h1)]
    rw [h1] at HO
    clear h1
    generalize (netOut E bad u).1 = L at *
    generalize hRe : (if anyB L t sum = true then ((true, 0) : Bool × Int) else (findR (netOut E bad) (inB shun) u t sum).2) = R at *
    have HRe := Lib.hid hRe
    clear hRe
    go_enter Try.func34, Try.ntmps34
    go_wp2_with fail
    refine HO.out.mono ?_
    rintro e w1 ⟨A, c, rfl, ho, hb⟩
    have hLL : L.length ≤ 300 := by have := HLE.out; omega
    have HL1 := Lib.hid (own_els ho (by omega))
    have HB := Lib.hid hb
    have HN1 := Lib.hid (HN.out.nets (Nat.le_refl _) hb hb.size)
    clear hb HO ho HN HLE
    go_wp2_with fail
    go_loopw [12] (fun vk wr => ∃ k : Nat, vk = .int .i64 k ∧ k ≤ L.length ∧ Hid (anyB (L.take k) t sum = false) ∧ wr = w1) (fun vk _ => L.length - (intOf vk).toNat)
    case atStart => exact ⟨0, rfl, by omega, Lib.hid rfl, rfl⟩
    case round =>
      obtain ⟨k, rfl, hk, HA, hwr⟩ := hrel
      have hw2 := hwr.symm
      subst hw2
      clear hwr
      by_cases hkl : k < L.length
      · have k1 : (k : Int) < (L.length : Int) := by omega
        have k2 : (0 : Int) ≤ (k : Int) := by omega
        obtain ⟨p, o, rfl, _, l0, l1, l2, l3⟩ := ELs.at' HL1.out k hkl
        have HHit := Lib.hid (any_hit (w := t) (s := sum) hkl)
        have HMiss := Lib.hid (any_miss (w := t) (s := sum) hkl HA.out)
        generalize L[k] = x at *
        by_cases h7 : x.head = t
        · have q7 : ((x.head : Int) == (t : Int)) = true := by rw [h7]; exact beq_self_eq_true _
          by_cases h8 : x.weight ≤ sum
          · have q8 : (x.weight : Int) ≤ (sum : Int) := by omega
            have q8' : decide (x.weight ≤ sum) = true := decide_eq_true h8
            have HX := Lib.hid (HHit.out h7 h8)
            clear h7 h8 HHit HMiss
            go_wp2_with fail
            try simp +zetaDelta only [Exit.noGoto_ret, Exit.inBlock, Exit.then]
            go_ret2
            exact ⟨by rw [← HRe.out, if_pos HX.out]; rfl, HB.out⟩
          · have q8 : ¬ (x.weight : Int) ≤ (sum : Int) := by omega
            have q8' : decide (x.weight ≤ sum) = false := decide_eq_false h8
            have HN7 := Lib.hid (HMiss.out (.inr h8))
            clear h7 h8 HHit HMiss
            go_wp2_with fail
            go_roundw
            case rel => exact ⟨k + 1, by go_num, by omega, HN7, by first | rfl | trivial⟩
            case measure => simp [intOf]; omega
        · have q7 : ((x.head : Int) == (t : Int)) = false := by rw [beq_eq_false_iff_ne]; omega
          have HN7 := Lib.hid (HMiss.out (.inl h7))
          clear h7 HHit HMiss
          go_wp2_with fail
          go_roundw
          case rel => exact ⟨k + 1, by go_num, by omega, HN7, by first | rfl | trivial⟩
          case measure => simp [intOf]; omega
      · have k1 : ¬ (k : Int) < (L.length : Int) := by omega
        have hke : k = L.length := by omega
        subst hke
        rw [List.take_length] at HA
        have HF := Lib.hid (find_ref NB E bad shun u t sum w1 HN1.out hE)
        have HIf : Hid (R = (findR (netOut E bad) (inB shun) u t sum).2) := Lib.hid (by rw [← HRe.out, if_neg (by rw [HA.out]; exact Bool.false_ne_true)])
        clear HA HL1
        go_wp2_with fail
        refine HF.out.mono ?_
        rintro e w2 ⟨rfl, hb2⟩
        have HB2 := Lib.hid (HB.out.trans (hb2.mono HB.out.size))
        clear hb2 HF
        go_wp2_with fail
        go_ret2
        exact ⟨by rw [HIf.out]; rfl, HB2.out⟩
end Go.Proofs.Ytiiaeddbeohplaa
