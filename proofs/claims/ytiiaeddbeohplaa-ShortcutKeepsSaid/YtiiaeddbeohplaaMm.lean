/- The contract of shortcut.Make. -/
import Derived.Test.YtiiaeddbeohplaaMk
namespace Go.Proofs.Ytiiaeddbeohplaa
open Go.RowKit
/-- where Make stands: the net, the closure, the two lists -/
structure MkAt (T : TrioD) (v VB AB M : Nat) (AI : Option Addr) (I : List Edg) (AO : Option Addr) (O : List Edg) (w : World) : Prop where
  i : T.I w
  s : ShunAt T v VB AB w
  li : ELs M w AI I
  lo : ELs M w AO O
  b : T.B ≤ M
  m : M ≤ w.heap.size
  vb : VB < M
  ab : AB < M
theorem MkAt.below {T : TrioD} (hT : TrioC T) {v VB AB M : Nat} {AI AO : Option Addr} {I O : List Edg} {w w' : World} (h : MkAt T v VB AB M AI I AO O w) (hb : Below M w w') : MkAt T v VB AB M AI I AO O w' :=
  ⟨hT.stay _ _ h.i fun b hb2 => hb.block b (by have := h.b; omega), h.s.same (hb.block VB h.vb) (hb.block AB h.ab), h.li.below hb, h.lo.below hb, h.b, Nat.le_trans h.m hb.size, h.vb, h.ab⟩
/-- the shortcuts so far -/
structure AccAt (M : Nat) (w2 : World) (q : Value) (acc : List Edg) (w : World) : Prop where
  own : OwnS w M 43 4 Edg.enc q acc
  low : Below M w2 w
theorem AccAt.below {M : Nat} {w2 w w1 : World} {q : Value} {acc : List Edg} (h : AccAt M w2 q acc w) (hM : M ≤ w2.heap.size) (hb : Below w.heap.size w w1) : AccAt M w2 q acc w1 :=
  ⟨h.own.below hb fun k hk => (h.own.lt k hk).2, h.low.trans (hb.mono (Nat.le_trans hM h.low.size))⟩
def BoxAt (X : Nat) (x : Edg) (w : World) : Prop := w.heap[X]? = some (.cells x.cells 43 (0, 0))
theorem BoxAt.below {X : Nat} {x : Edg} {w w1 : World} (h : BoxAt X x w) (hb : Below w.heap.size w w1) : BoxAt X x w1 := (hb.block X (Array.getElem?_eq_some_iff.1 h).1).trans h
theorem any_hit {L : List Edg} {k w s : Nat} (hk : k < L.length) : L[k].head = w → L[k].weight ≤ s → anyB L w s = true := fun h1 h2 => by
  unfold anyB
  rw [List.any_eq_true]
  exact ⟨L[k], List.getElem_mem hk, by rw [h1, decide_eq_true h2]; simp⟩
theorem any_miss {L : List Edg} {k w s : Nat} (hk : k < L.length) (h : anyB (L.take k) w s = false) : (L[k].head ≠ w ∨ ¬ L[k].weight ≤ s) → anyB (L.take (k + 1)) w s = false := fun h1 => by
  unfold anyB at *
  rw [List.take_succ_eq_append_getElem hk, List.any_append, h, Bool.false_or]
  rcases h1 with h1 | h1
  · simp [h1]
  · simp [h1]
set_option maxRecDepth 100000 in
set_option maxHeartbeats 16000000 in
theorem make_any (T : TrioD) (hT : TrioC T) (v : Nat) (hv : v < 4294967296) (w : World) (hI : T.I w) (hB : T.B ≤ w.heap.size) :
    Calls Try.prog 12 #[.func (.func T.fo) T.po T.co, .func (.func T.fi) T.pi T.ci, .func (.func T.fa) T.pa T.ca, .int .u32 (v : Int)] w fun e w' => ∃ A c, e = .returned (.tuple #[.slice A (makeR T.out T.inn T.av v hv).1.length c, .int .i64 (makeR T.out T.inn T.av v hv).2]) ∧
      ELs w'.heap.size w' A (makeR T.out T.inn T.av v hv).1 ∧ Below w.heap.size w w' := by
  have hEo := fun args W => hT.enterO args W
  have hEs : ∀ (args : Array Value) (W : World), (callFunc 28 args).run Try.prog W = .ok (.enter 28 args) W := fun args W => run_enter Try.func28 (by kernel_rfl) (by rfl) args W
  have hnn := fun f p c W => out_nil f p c W
  have hna := fun f p c W => avoid_nil f p c W
  have hmf : ∀ (fn : Fn) (first cap : Array Value) (w : World), (Instr.makeFunc fn first cap).run Try.prog w = .ok (.func fn first cap) w := fun _ _ _ _ => rfl
  obtain ⟨W1, hW1⟩ : ∃ W1, (w.alloc (.cells #[.func (.func T.fa) T.pa T.ca] 33)).alloc (.cells #[.int .u32 (v : Int)] 26) = W1 := ⟨_, rfl⟩
  have b0 : Below w.heap.size w (w.alloc (.cells #[.func (.func T.fa) T.pa T.ca] 33)) := (Below.refl _ _).alloc (Nat.le_refl _) _
  have s0 : (w.alloc (.cells #[.func (.func T.fa) T.pa T.ca] 33)).heap.size = w.heap.size + 1 := by simp
  have b1 : Below (w.heap.size + 1) (w.alloc (.cells #[.func (.func T.fa) T.pa T.ca] 33)) W1 := by rw [← hW1]; exact (Below.refl _ _).alloc (by omega) _
  have hb1 : Below w.heap.size w W1 := b0.trans (b1.mono (by omega))
  have hs1 : W1.heap.size = w.heap.size + 2 := by rw [← hW1]; simp
  have ha : W1.heap[w.heap.size]? = some (.cells #[.func (.func T.fa) T.pa T.ca] 33 (0, 0)) := (b1.block _ (by omega)).trans (heap_alloc_new _ _)
  have hvb : W1.heap[w.heap.size + 1]? = some (.cells #[.int .u32 (v : Int)] 26 (0, 0)) := by
    have := heap_alloc_new (w.alloc (.cells #[.func (.func T.fa) T.pa T.ca] 33)) (.cells #[.int .u32 (v : Int)] 26)
    rw [s0, hW1] at this
    exact this
  have hS1 : ShunAt T v (w.heap.size + 1) w.heap.size W1 := ⟨cell_of_row _ _ 0 _ _ _ hvb, cell_of_row _ _ 0 _ _ _ ha⟩
  have c0 : W1.cell? ⟨w.heap.size, 0, none⟩ = some (.func (.func T.fa) T.pa T.ca) := hS1.a_
  have c1 : W1.cell? ⟨w.heap.size + 1, 0, none⟩ = some (.int .u32 (v : Int)) := hS1.v_
  have hI1 := hT.below hI hB hb1
  have HBo := Lib.hid (both_any T hT v hv W1 hI1 (by omega))
  have HI1 := Lib.hid hI1
  have HS1 := Lib.hid hS1
  have HB1 := Lib.hid hb1
  have HTB : Hid (T.B ≤ W1.heap.size) := Lib.hid (by omega)
  have HSz : Hid (w.heap.size + 1 < W1.heap.size) := Lib.hid (by omega)
  unfold bothR at HBo
  have HW1 := Lib.hid hW1
  unfold makeR
  clear b0 s0 b1 hb1 hs1 ha hvb hS1 hI1 hW1 hI hB c0 c1
  by_cases h1 : (T.inn v).2 = 0
  case neg =>
    rw [if_pos h1] at HBo
    rw [if_pos h1]
    have q1 : ((T.inn v).2 == 0) = false := by rw [beq_eq_false_iff_ne]; exact h1
    clear h1
    generalize (T.inn v).2 = er at *
    clear HS1 HI1 HTB HSz
    go_enter Try.func12, Try.ntmps12
    go_wp2_with fail
    rw [HW1.out]
    refine HBo.out.mono ?_
    rintro e w2 ⟨AI, cI, AO, cO, rfl, _, _, k3⟩
    have HB2 := Lib.hid k3
    clear k3
    go_wp2_with fail
    try simp +zetaDelta only [Exit.noGoto_ret, Exit.inBlock, Exit.then]
    go_ret2
    first | exact ⟨none, 0, rfl, SR.nil _ _ _ _ _, HB1.out.trans (HB2.out.mono HB1.out.size)⟩ | exact ⟨none, ⟨0, rfl⟩, SR.nil _ _ _ _ _, HB1.out.trans (HB2.out.mono HB1.out.size)⟩
  case pos =>
    rw [if_neg (fun e => e h1)] at HBo
    rw [if_neg (fun e => e h1)]
    by_cases h2 : (T.out v).2 = 0
    case neg =>
      rw [if_pos h2] at HBo
      rw [if_pos h2]
      have q1 : ((T.out v).2 == 0) = false := by rw [beq_eq_false_iff_ne]; exact h2
      clear h1 h2
      generalize (T.out v).2 = er at *
      clear HS1 HI1 HTB HSz
      go_enter Try.func12, Try.ntmps12
      go_wp2_with fail
      rw [HW1.out]
      refine HBo.out.mono ?_
      rintro e w2 ⟨AI, cI, AO, cO, rfl, _, _, k3⟩
      have HB2 := Lib.hid k3
      clear k3
      go_wp2_with fail
      try simp +zetaDelta only [Exit.noGoto_ret, Exit.inBlock, Exit.then]
      go_ret2
      first | exact ⟨none, 0, rfl, SR.nil _ _ _ _ _, HB1.out.trans (HB2.out.mono HB1.out.size)⟩ | exact ⟨none, ⟨0, rfl⟩, SR.nil _ _ _ _ _, HB1.out.trans (HB2.out.mono HB1.out.size)⟩
    case pos =>
      rw [if_neg (fun e => e h2)] at HBo
      rw [if_neg (fun e => e h2)]
      have HLI := Lib.hid (hT.lenI v)
      have HLO := Lib.hid (hT.lenO v)
      clear h1 h2
      generalize (T.inn v).1 = I at *
      generalize (T.out v).1 = O at *
      have HR : Hid (goR (pairR T.out T.av v hv) (pairsOf I O 0) [] = goR (pairR T.out T.av v hv) (pairsOf I O 0) []) := Lib.hid rfl
      generalize hRe : goR (pairR T.out T.av v hv) (pairsOf I O 0) [] = R at *
      have HR0 := Lib.hid hRe
      clear hRe HR
      go_enter Try.func12, Try.ntmps12
      go_wp2_with fail
      rw [HW1.out]
      refine HBo.out.mono ?_
      rintro e w2 ⟨AI, cI, AO, cO, rfl, k1, k2, k3⟩
      have HM2 : Hid (MkAt T v (w.heap.size + 1) w.heap.size w2.heap.size AI I AO O w2) := Lib.hid ⟨hT.below HI1.out HTB.out k3, HS1.out.below k3, k1, k2, Nat.le_trans HTB.out k3.size, Nat.le_refl _, Nat.lt_of_lt_of_le HSz.out k3.size, Nat.lt_of_lt_of_le (Nat.lt_of_succ_lt HSz.out) k3.size⟩
      have HB2 := Lib.hid k3
      clear k1 k2 k3
      have hli := HLI.out
      have hlo := HLO.out
      have HSM : Hid (w.heap.size + 1 < w2.heap.size) := Lib.hid (Nat.lt_of_lt_of_le HSz.out HB2.out.size)
      generalize hMe : w2.heap.size = M at *
      have HMe := Lib.hid hMe
      clear hMe
      have hmm := HMe.out
      have HA0 : Hid (AccAt M w2 (.slice none 0 0) [] w2) := Lib.hid ⟨OwnS.nil _ _ _ _ _, Below.refl _ _⟩
      have HMW := Lib.hid (fun w' (hb : Below M w2 w') => HM2.out.below hT hb)
      have HBw : Hid (∀ w', Below M w2 w' → Below w.heap.size w w') := Lib.hid (fun w' hb => HB1.out.trans ((HB2.out.trans (hb.mono (by have := HB2.out.size; omega))).mono HB1.out.size))
      clear HM2 hmm
      go_wp2_with fail
      go_loopw [8, 50] (fun vl vi wr => ∃ (i : Nat) (acc : List Edg) (A : Option Addr) (c : Nat), vl = .slice A acc.length c ∧ vi = .int .i64 i ∧ i ≤ I.length ∧ Hid (goR (pairR T.out T.av v hv) (pairsOf I O i) acc = R) ∧ Hid (AccAt M w2 (.slice A acc.length c) acc wr) ∧ acc.length ≤ i * 1000) (fun _ vi _ => I.length - (intOf vi).toNat)
      case atStart => exact ⟨0, [], none, 0, rfl, rfl, by omega, HR0, HA0, by simp⟩
      case round =>
        clear HA0 HR0
        obtain ⟨i, acc, A, c, rfl, rfl, hi, HRi, HAc, hac⟩ := hrel
        by_cases hil : i < I.length
        · have i1 : (i : Int) < (I.length : Int) := by omega
          have i2 : (0 : Int) ≤ (i : Int) := by omega
          have HMr := Lib.hid (HMW.out wr HAc.out.low)
          obtain ⟨p, o, hA, _, e0, e1, e2, e3⟩ := ELs.at' HMr.out.li i hil
          have HPr := Lib.hid (pairs_row (O := O) hil)
          have HPe := Lib.hid (pairs_end (O := O) hil)
          have HPc := Lib.hid (fun j (hj : j < O.length) => pairs_cons hil hj)
          subst hA
          generalize I[i] = a at *
          rw [HPr.out] at HRi
          clear HPr
          obtain ⟨W3, hW3⟩ : ∃ W3, wr.alloc (.cells #[.int .u32 (a.tail : Int), .int .u32 (a.head : Int), .int .u64 (a.weight : Int), .int .u32 (a.mid : Int)] 43) = W3 := ⟨_, rfl⟩
          have hb3 : Below wr.heap.size wr W3 := by rw [← hW3]; exact (Below.refl _ _).alloc (Nat.le_refl _) _
          have HX3 : Hid (BoxAt wr.heap.size a W3) := Lib.hid (by rw [← hW3]; exact heap_alloc_new _ _)
          have HA3 := Lib.hid (HAc.out.below (Nat.le_of_eq HMe.out.symm) hb3)
          have HNe3 : Hid ((Value.slice A acc.length c).ownBlock ≠ some wr.heap.size) := Lib.hid (fun e => by have := (HAc.out.own.lt _ e).2; omega)
          have HW3 := Lib.hid hW3
          clear hW3 hb3 HMr HAc
          go_wp2_with fail
          rw [HW3.out]
          clear HW3 e0 e1 e2 e3
          generalize wr.heap.size = X at *
          have x0 : W3.cell? ⟨X, 0, none⟩ = some (.int .u32 (a.tail : Int)) := cell_of_row _ _ 0 _ _ _ HX3.out
          go_step3
          go_wp2_with fail
          go_step3
          go_wp2_with fail
          clear x0
          go_loopw [8, 58] (fun vl vj wr => ∃ (j : Nat) (acc : List Edg) (A : Option Addr) (c : Nat), vl = .slice A acc.length c ∧ vj = .int .i64 j ∧ j ≤ O.length ∧ Hid (goR (pairR T.out T.av v hv) (pairsAt I O i j) acc = R) ∧ Hid (AccAt M w2 (.slice A acc.length c) acc wr) ∧ Hid (BoxAt X a wr) ∧ Hid ((Value.slice A acc.length c).ownBlock ≠ some X) ∧ acc.length ≤ i * 1000 + j) (fun _ vj _ => O.length - (intOf vj).toNat)
          case atStart => exact ⟨0, acc, A, c, rfl, rfl, by omega, HRi, HA3, HX3, HNe3, by omega⟩
          case round =>
            clear HRi HA3 HX3 HNe3
            obtain ⟨j, acc, A, c, rfl, rfl, hj, HRj, HAc, HX, HNe, hac⟩ := hrel
            by_cases hjl : j < O.length
            · have j1 : (j : Int) < (O.length : Int) := by omega
              have j2 : (0 : Int) ≤ (j : Int) := by omega
              have HMr := Lib.hid (HMW.out wr HAc.out.low)
              obtain ⟨q, s, hA, _, f0, f1, f2, f3⟩ := ELs.at' HMr.out.lo j hjl
              have HPj := Lib.hid (HPc.out j hjl)
              subst hA
              generalize O[j] = b at *
              rw [HPj.out] at HRj
              clear HPj
              obtain ⟨W4, hW4⟩ : ∃ W4, wr.alloc (.cells #[.int .u32 (b.tail : Int), .int .u32 (b.head : Int), .int .u64 (b.weight : Int), .int .u32 (b.mid : Int)] 43) = W4 := ⟨_, rfl⟩
              have hb4 : Below wr.heap.size wr W4 := by rw [← hW4]; exact (Below.refl _ _).alloc (Nat.le_refl _) _
              have HY4 : Hid (BoxAt wr.heap.size b W4) := Lib.hid (by rw [← hW4]; exact heap_alloc_new _ _)
              have HA4 := Lib.hid (HAc.out.below (Nat.le_of_eq HMe.out.symm) hb4)
              have HX4 := Lib.hid (HX.out.below hb4)
              have HM4 := Lib.hid (HMW.out W4 HA4.out.low)
              have HW4 := Lib.hid hW4
              have HNo : Hid (pairR T.out T.av v hv a b = .no → goR (pairR T.out T.av v hv) (pairsAt I O i (j + 1)) acc = R) := Lib.hid (fun h => by rw [← HRj.out, goR_no h])
              have HBad : Hid (∀ e, pairR T.out T.av v hv a b = .bad e → R = ([], e)) := Lib.hid (fun e h => by rw [← HRj.out, goR_bad h])
              have HYes : Hid (∀ x, pairR T.out T.av v hv a b = .yes x → goR (pairR T.out T.av v hv) (pairsAt I O i (j + 1)) (acc ++ [x]) = R) := Lib.hid (fun x h => by rw [← HRj.out, goR_yes h])
              clear hW4 hb4 HMr HAc HX HRj
              have hta := a.htail
              have hhb := b.hhead
              have HSa := Lib.hid (shun_any T hT v (w.heap.size + 1) w.heap.size a.tail hta W4 HM4.out.s HM4.out.i)
              have HSb := Lib.hid (shun_any T hT v (w.heap.size + 1) w.heap.size b.head hhb W4 HM4.out.s HM4.out.i)
              by_cases h1 : a.tail = b.head
              · have g1 : ((a.tail : Int) == (b.head : Int)) = true := by rw [h1]; exact beq_self_eq_true _
                have HNx := Lib.hid (HNo.out (pairR_shun (.inl h1)))
                clear h1 HNo HBad HYes HSa HSb
                go_wp2_with fail
                rw [HW4.out]
                go_wp2_with fail
                go_roundw
                case rel => exact ⟨j + 1, acc, A, c, rfl, by go_num, by omega, HNx, HA4, HX4, HNe, by omega⟩
                case measure => simp [intOf]; omega
              · have g1 : ((a.tail : Int) == (b.head : Int)) = false := by rw [beq_eq_false_iff_ne]; omega
                cases hsa : shunB v T.av a.tail with
                | true =>
                  rw [hsa] at HSa
                  have HNx := Lib.hid (HNo.out (pairR_shun (.inr (.inl hsa))))
                  clear h1 HNo HBad HYes HSb hsa
                  go_wp2_with fail
                  rw [HW4.out]
                  refine HSa.out.mono ?_
                  rintro e w5 ⟨rfl, rfl⟩
                  clear HSa
                  go_wp2_with fail
                  go_roundw
                  case rel => exact ⟨j + 1, acc, A, c, rfl, by go_num, by omega, HNx, HA4, HX4, HNe, by omega⟩
                  case measure => simp [intOf]; omega
                | false =>
                  rw [hsa] at HSa
                  cases hsb : shunB v T.av b.head with
                  | true =>
                    rw [hsb] at HSb
                    have HNx := Lib.hid (HNo.out (pairR_shun (.inr (.inr hsb))))
                    clear h1 HNo HBad HYes hsa hsb
                    go_wp2_with fail
                    rw [HW4.out]
                    refine HSa.out.mono ?_
                    rintro e w5 ⟨rfl, rfl⟩
                    clear HSa
                    go_wp2_with fail
                    refine HSb.out.mono ?_
                    rintro e w5 ⟨rfl, rfl⟩
                    clear HSb
                    go_wp2_with fail
                    go_roundw
                    case rel => exact ⟨j + 1, acc, A, c, rfl, by go_num, by omega, HNx, HA4, HX4, HNe, by omega⟩
                    case measure => simp [intOf]; omega
                  | false =>
                    rw [hsb] at HSb
                    have HSh : Hid (¬ (a.tail = b.head ∨ shunB v T.av a.tail = true ∨ shunB v T.av b.head = true)) := Lib.hid (by rw [hsa, hsb]; simp [h1])
                    have x2 : W4.cell? ⟨X, 2, none⟩ = some (.int .u64 (a.weight : Int)) := cell_of_row _ _ 2 _ _ _ HX4.out
                    have y2 : W4.cell? ⟨wr.heap.size, 2, none⟩ = some (.int .u64 (b.weight : Int)) := cell_of_row _ _ 2 _ _ _ HY4.out
                    have HAd := Lib.hid (wAdd_any a.weight b.weight a.hweight b.hweight W4)
                    clear h1 hsa hsb
                    go_wp2_with fail
                    rw [HW4.out]
                    refine HSa.out.mono ?_
                    rintro e w5 ⟨rfl, rfl⟩
                    clear HSa HW4
                    go_wp2_with fail
                    refine HSb.out.mono ?_
                    rintro e w5 ⟨rfl, rfl⟩
                    clear HSb
                    go_wp2_with fail
                    refine HAd.out.mono ?_
                    rintro e w5 ⟨rfl, rfl⟩
                    clear HAd x2 y2
                    cases hfit : fitsB a.weight b.weight with
                    | false =>
                      have HNx := Lib.hid (HNo.out (pairR_far HSh.out hfit))
                      clear hfit HNo HBad HYes
                      go_wp2_with fail
                      go_roundw
                      case rel => exact ⟨j + 1, acc, A, c, rfl, by go_num, by omega, HNx, HA4, HX4, HNe, by omega⟩
                      case measure => simp [intOf]; omega
                    | true =>
                      have HFit := Lib.hid hfit
                      clear hfit
                      have HAsk := Lib.hid (hT.askO a.tail W4 hta HM4.out.i (Nat.le_trans HM4.out.b HM4.out.m))
                      go_wp2_with fail
                      refine HAsk.out.mono ?_
                      rintro e w5 ⟨Q, q5, rfl, ho5, hb5⟩
                      have HA5 := Lib.hid (HA4.out.below (Nat.le_of_eq HMe.out.symm) hb5)
                      have HX5 := Lib.hid (HX4.out.below hb5)
                      have HO5 := Lib.hid ho5
                      clear ho5 hb5 HAsk HA4 HX4 HY4 HM4
                      by_cases her : (T.out a.tail).2 = 0
                      case neg =>
                        have q1 : ((T.out a.tail).2 == 0) = false := by rw [beq_eq_false_iff_ne]; exact her
                        have hR := HBad.out _ (pairR_bad HSh.out HFit.out her)
                        generalize (T.out a.tail).2 = er at *
                        clear her HNo HBad HYes HSh
                        subst hR
                        go_wp2_with fail
                        simp +zetaDelta only [Exit.noGoto_ret, Exit.inBlock, Exit.then]
                        go_ret2
                        exact ⟨none, 0, rfl, SR.nil _ _ _ _ _, HBw.out w5 HA5.out.low⟩
                      case pos =>
                        have HE1 : Hid (anyB (T.out a.tail).1 b.head (sumV a.weight b.weight) = true → pairR T.out T.av v hv a b = .no) := Lib.hid (pairR_edge HSh.out HFit.out her)
                        have HF1 : Hid (anyB (T.out a.tail).1 b.head (sumV a.weight b.weight) = false → _) := Lib.hid (pairR_find (v := v) (hv := hv) (av := T.av) HSh.out HFit.out her)
                        have HLL := Lib.hid (hT.lenO a.tail)
                        rw [her]
                        clear her HSh
                        generalize (T.out a.tail).1 = L at *
                        have hLL := HLL.out
                        have HCu : Hid (cutE a b v hv = cutE a b v hv) := Lib.hid rfl
                        have hsl := sumV_lt a.weight b.weight
                        have HCt : Hid ((cutE a b v hv).weight = sumV a.weight b.weight) := Lib.hid rfl
                        generalize hse : sumV a.weight b.weight = s at *
                        clear hse
                        have HW0 : Hid (Below w5.heap.size w5 w5) := Lib.hid (Below.refl _ _)
                        go_wp2_with fail
                        go_loopw [98] (fun vk wr => ∃ k : Nat, vk = .int .i64 k ∧ k ≤ L.length ∧ Hid (anyB (L.take k) b.head s = false) ∧ Hid (Below w5.heap.size w5 wr)) (fun vk _ => L.length - (intOf vk).toNat)
                        case atStart => exact ⟨0, rfl, by omega, Lib.hid rfl, HW0⟩
                        case round =>
                          clear HW0
                          obtain ⟨k, rfl, hk, HAn, HLw⟩ := hrel
                          by_cases hkl : k < L.length
                          · have k1 : (k : Int) < (L.length : Int) := by omega
                            have k2 : (0 : Int) ≤ (k : Int) := by omega
                            obtain ⟨p6, o6, hA6, _, l0, l1, l2, l3⟩ := ELs.at' ((own_els HO5.out (by omega)).below HLw.out) k hkl
                            have HHit := Lib.hid (any_hit (w := b.head) (s := s) hkl)
                            have HMiss := Lib.hid (any_miss (w := b.head) (s := s) hkl HAn.out)
                            subst hA6
                            generalize L[k] = x at *
                            have HLw2 := Lib.hid (HLw.out.alloc HLw.out.size (.cells #[.int .u32 (x.tail : Int), .int .u32 (x.head : Int), .int .u64 (x.weight : Int), .int .u32 (x.mid : Int)] 43))
                            by_cases h7 : x.head = b.head
                            · have q7 : ((x.head : Int) == (b.head : Int)) = true := by rw [h7]; exact beq_self_eq_true _
                              by_cases h8 : x.weight ≤ s
                              · have q8 : (x.weight : Int) ≤ (s : Int) := by omega
                                have q8' : decide (x.weight ≤ s) = true := decide_eq_true h8
                                have HNx := Lib.hid (HNo.out (HE1.out (HHit.out h7 h8)))
                                have HA6 := Lib.hid (HA5.out.below (Nat.le_of_eq HMe.out.symm) HLw2.out)
                                have HX6 := Lib.hid (HX5.out.below HLw2.out)
                                clear h7 h8 HNo HBad HYes HE1 HF1
                                go_wp2_with fail
                                go_roundw
                                case rel => exact ⟨j + 1, acc, A, c, rfl, by go_num, by omega, HNx, HA6, HX6, HNe, by omega⟩
                                case measure => simp [intOf]; omega
                              · have q8 : ¬ (x.weight : Int) ≤ (s : Int) := by omega
                                have q8' : decide (x.weight ≤ s) = false := decide_eq_false h8
                                have HN7 := Lib.hid (HMiss.out (.inr h8))
                                clear h7 h8
                                go_wp2_with fail
                                go_roundw
                                case rel => exact ⟨k + 1, by go_num, by omega, HN7, HLw2⟩
                                case measure => simp [intOf]; omega
                            · have q7 : ((x.head : Int) == (b.head : Int)) = false := by rw [beq_eq_false_iff_ne]; omega
                              have HN7 := Lib.hid (HMiss.out (.inl h7))
                              clear h7
                              go_wp2_with fail
                              go_roundw
                              case rel => exact ⟨k + 1, by go_num, by omega, HN7, HLw2⟩
                              case measure => simp [intOf]; omega
                          · have k1 : ¬ (k : Int) < (L.length : Int) := by omega
                            have hke : k = L.length := by omega
                            subst hke
                            rw [List.take_length] at HAn
                            have HFd := Lib.hid (HF1.out HAn.out)
                            have HA6 := Lib.hid (HA5.out.below (Nat.le_of_eq HMe.out.symm) HLw.out)
                            have HX6 := Lib.hid (HX5.out.below HLw.out)
                            have HM6 := Lib.hid (HMW.out wr HA6.out.low)
                            have HFi := Lib.hid (find_shun T hT v (w.heap.size + 1) w.heap.size a.tail b.head s hta wr HM6.out.i HM6.out.s (Nat.le_trans HM6.out.b HM6.out.m))
                            generalize hf1 : (findR T.out (shunB v T.av) a.tail b.head s).2.1 = fx at *
                            generalize hf2 : (findR T.out (shunB v T.av) a.tail b.head s).2.2 = fe at *
                            clear hf1 hf2 HE1 HF1 HLw HA5 HX5 HM6 HAn HO5
                            go_wp2_with fail
                            refine HFi.out.mono ?_
                            rintro e w7 ⟨rfl, hb7⟩
                            have HA7 := Lib.hid (HA6.out.below (Nat.le_of_eq HMe.out.symm) hb7)
                            have HX7 := Lib.hid (HX6.out.below hb7)
                            clear hb7 HA6 HX6 HFi
                            by_cases hfe : fe = 0
                            case neg =>
                              have q1 : (fe == 0) = false := by rw [beq_eq_false_iff_ne]; exact hfe
                              have hR := HBad.out fe (by rw [HFd.out, if_pos hfe])
                              clear hfe HNo HBad HYes HFd
                              subst hR
                              go_wp2_with fail
                              simp +zetaDelta only [Exit.noGoto_ret, Exit.inBlock, Exit.then]
                              go_ret2
                              exact ⟨none, 0, rfl, SR.nil _ _ _ _ _, HBw.out w7 HA7.out.low⟩
                            case pos =>
                              subst hfe
                              cases fx with
                              | true =>
                                have HNx := Lib.hid (HNo.out (by rw [HFd.out]; rfl))
                                clear HNo HBad HYes HFd
                                go_wp2_with fail
                                go_roundw
                                case rel => exact ⟨j + 1, acc, A, c, rfl, by go_num, by omega, HNx, HA7, HX7, HNe, by omega⟩
                                case measure => simp [intOf]; omega
                              | false =>
                                have HNx := Lib.hid (HYes.out (cutE a b v hv) (by rw [HFd.out]; rfl))
                                clear HNo HBad HYes HFd
                                have HC : Hid ((cutE a b v hv).tail = a.tail ∧ (cutE a b v hv).head = b.head ∧ (cutE a b v hv).mid = v) := Lib.hid ⟨rfl, rfl, rfl⟩
                                generalize cutE a b v hv = z at *
                                have HM7 := Lib.hid (HMW.out w7 HA7.out.low)
                                have vb : w7.cell? ⟨w.heap.size + 1, 0, none⟩ = some (.int .u32 (v : Int)) := HM7.out.s.v_
                                have HE8 : Hid (ELs (w7.heap.size + 1) (w7.alloc (.cells #[.int .u32 (a.tail : Int), .int .u32 (b.head : Int), .int .u64 (s : Int), .int .u32 (v : Int)] 43)) (some ⟨w7.heap.size, 0, none⟩) [z]) := Lib.hid (by
                                  rw [← HC.out.1, ← HC.out.2.1, ← HC.out.2.2, ← HCt.out]
                                  exact SR.one (sz := 4) (enc := Edg.enc) z (heap_alloc_new w7 _) rfl _ (by omega))
                                have HA8 := Lib.hid (HA7.out.below (Nat.le_of_eq HMe.out.symm) ((Below.refl w7.heap.size w7).alloc (Nat.le_refl _) (.cells #[.int .u32 (a.tail : Int), .int .u32 (b.head : Int), .int .u64 (s : Int), .int .u32 (v : Int)] 43)))
                                have HX8 := Lib.hid (HX7.out.below ((Below.refl w7.heap.size w7).alloc (Nat.le_refl _) (.cells #[.int .u32 (a.tail : Int), .int .u32 (b.head : Int), .int .u64 (s : Int), .int .u32 (v : Int)] 43)))
                                have HMz : Hid (M ≤ (w7.alloc (.cells #[.int .u32 (a.tail : Int), .int .u32 (b.head : Int), .int .u64 (s : Int), .int .u32 (v : Int)] 43)).heap.size) := Lib.hid (Nat.le_trans (Nat.le_of_eq HMe.out.symm) HA8.out.low.size)
                                have hal : acc.length ≤ 1001000 := by
                                  have h9 : i * 1000 ≤ 1000 * 1000 := Nat.mul_le_mul_right 1000 (by omega)
                                  omega
                                clear HA7 HX7 HM7 HC HCt
                                go_wp2_with (at_builtin
                                             refine wpList_append_sr _ rfl (.tmp 127) (.tmp 133) edge_ety rfl M (.slice A acc.length c) acc rfl HA8.out.own (w7.heap.size + 1) (some ⟨w7.heap.size, 0, none⟩) 1 1 [z] rfl rfl HE8.out (by simp [maxLen]; omega) (by simp; omega) HMz.out ?_
                                             intro Q9 q9 w9 hown hg hx9
                                             have HA9 : Hid (AccAt M w2 (.slice Q9 (acc.length + 1) q9) (acc ++ [z]) w9) := Lib.hid ⟨hown, HA8.out.low.grown hg HMz.out (fun r hr => (HA8.out.own.lt r hr).1)⟩
                                             have HX9 : Hid (BoxAt X a w9) := Lib.hid ((hg.block X (Array.getElem?_eq_some_iff.1 HX8.out).1 (fun e => HNe.out e.symm)).trans HX8.out)
                                             have HNe9 : Hid ((Value.slice Q9 (acc.length + 1) q9).ownBlock ≠ some X) := Lib.hid (fun e => by
                                               have hX := (Array.getElem?_eq_some_iff.1 HX8.out).1
                                               have hx9' : (Value.slice Q9 (acc.length + 1) q9).ownBlock = _ ∨ (Value.slice Q9 (acc.length + 1) q9).ownBlock = _ := hx9
                                               rcases hx9' with h | h
                                               · exact HNe.out (h ▸ e)
                                               · rw [h] at e; injection e with e; omega)
                                             clear hown hg hx9 HA8 HX8 HE8)
                                have HL9 : Hid ((acc ++ [z]).length = acc.length + 1) := Lib.hid (by simp)
                                go_wp2_with fail
                                go_roundw
                                case rel => exact ⟨j + 1, acc ++ [z], Q9, q9, by rw [HL9.out], by go_num, by omega, HNx, Lib.hid (by rw [HL9.out]; exact HA9.out), HX9, Lib.hid (by rw [HL9.out]; exact HNe9.out), by rw [HL9.out]; omega⟩
                                case measure => simp [intOf]; omega
            · have j1 : ¬ (j : Int) < (O.length : Int) := by omega
              have hje : j = O.length := by omega
              subst hje
              rw [HPe.out] at HRj
              go_wp2_with fail
              go_roundw
              case rel => exact ⟨i + 1, acc, A, c, rfl, by go_num, by omega, HRj, HAc, by rw [Nat.succ_mul]; omega⟩
              case measure => simp [intOf]; omega
        · have i1 : ¬ (i : Int) < (I.length : Int) := by omega
          have hie : i = I.length := by omega
          subst hie
          rw [pairs_done] at HRi
          have hR : R = (acc, 0) := HRi.out.symm
          subst hR
          obtain ⟨A0, c0, hcv, hcc⟩ := HAc.out.own.form
          have hce : c = c0 := by injection hcv
          rw [← hce] at hcc
          clear hce hcv
          have hall : acc.length ≤ 4611686018427387904 := by
            have h9 : I.length * 1000 ≤ 1000 * 1000 := Nat.mul_le_mul_right 1000 hli
            omega
          have HCl := Lib.hid (clip_any A acc.length c wr hcc (fun hn => by
            subst hn
            rcases HAc.out.own.2 with ⟨h, h0⟩ | ⟨g, cap, cur, h, _⟩
            · injection h with _ h1 h2; exact ⟨h1, h2⟩
            · injection h with h _ _; cases h) (fun a ha => by
            subst ha
            rcases HAc.out.own.2 with ⟨h, h0⟩ | ⟨g, cap, cur, h, _⟩
            · injection h with h _ _; cases h
            · injection h with h _ _; injection h with h; rw [h]))
          clear hcc hac HRi
          go_wp2_with fail
          refine HCl.out.mono ?_
          rintro e w9 ⟨rfl, rfl⟩
          go_wp2_with fail
          go_ret2
          first | exact ⟨A, ⟨acc.length, rfl⟩, own_els HAc.out.own hall, HBw.out wr HAc.out.low⟩ | exact ⟨A, acc.length, rfl, own_els HAc.out.own hall, HBw.out wr HAc.out.low⟩
end Go.Proofs.Ytiiaeddbeohplaa
