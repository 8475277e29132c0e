/- The contract of shortcut.Count. -/
import Derived.Test.YtiiaeddbeohplaaMm
namespace Go.Proofs.Ytiiaeddbeohplaa
open Go.RowKit
theorem results_tmp4 {fn : Func} {t u v x : Tmp} (h : fn.results = #[.tmp t, .tmp u, .tmp v, .tmp x]) (tmps : Array Value) (P : Program) (w : World) :
    (results fn tmps).run P w = .ok (.tuple #[tmps.getD t undef, tmps.getD u undef, tmps.getD v undef, tmps.getD x undef]) w := by
  simp [results, h, go_sem]
def countT (T : TrioD) : TrioD := { T with fa := 35, pa := #[], ca := #[], av := fun _ => false }
theorem none_any (v : Nat) (w : World) : Calls Try.prog 35 #[.int .u32 (v : Int)] w fun e w' => e = .returned (.bool false) ∧ w = w' := by
  go_enter Try.func35, Try.ntmps35
  go_wp2_with fail
  go_ret
  exact ⟨rfl, rfl⟩
theorem count_trio {T : TrioD} (hT : TrioC T) : TrioC (countT T) where
  enterO := hT.enterO
  enterI := hT.enterI
  enterA := fun args w => run_enter Try.func35 (by kernel_rfl) (by rfl) args w
  askO := hT.askO
  askI := hT.askI
  shun := fun v w _ _ => none_any v w
  stay := hT.stay
  lenO := hT.lenO
  lenI := hT.lenI
/-- how many edges come and go, how many shortcuts there are; or the first error -/
def countR (out inn : Nat → List Edg × Int) (v : Nat) (hv : v < 4294967296) : Nat × Nat × Nat × Int :=
  if (makeR out inn (fun _ => false) v hv).2 ≠ 0 then (0, 0, 0, (makeR out inn (fun _ => false) v hv).2) else ((inn v).1.length, (out v).1.length, (makeR out inn (fun _ => false) v hv).1.length, 0)
theorem make_ok {out inn : Nat → List Edg × Int} {av : Nat → Bool} {v : Nat} {hv : v < 4294967296} (h : (makeR out inn av v hv).2 = 0) : (inn v).2 = 0 ∧ (out v).2 = 0 := by
  unfold makeR at h
  by_cases h1 : (inn v).2 = 0
  · by_cases h2 : (out v).2 = 0
    · exact ⟨h1, h2⟩
    · rw [if_neg (fun e => e h1), if_pos h2] at h; exact absurd h h2
  · rw [if_pos h1] at h; exact absurd h h1
set_option maxRecDepth 100000 in
theorem count_any (T : TrioD) (hT : TrioC T) (v : Nat) (hv : v < 4294967296) (w : World) (hI : T.I w) (hB : T.B ≤ w.heap.size) :
    Calls Try.prog 17 #[.func (.func T.fo) T.po T.co, .func (.func T.fi) T.pi T.ci, .int .u32 (v : Int)] w fun e w' => e = .returned (.tuple #[.int .i64 ((countR T.out T.inn v hv).1 : Int), .int .i64 ((countR T.out T.inn v hv).2.1 : Int), .int .i64 ((countR T.out T.inn v hv).2.2.1 : Int), .int .i64 (countR T.out T.inn v hv).2.2.2]) ∧ Below w.heap.size w w' := by
  have HMk := Lib.hid (make_any (countT T) (count_trio hT) v hv w hI hB)
  have HBo := Lib.hid (fun w1 (hb : Below w.heap.size w w1) => both_any T hT v hv w1 (hT.below hI hB hb) (Nat.le_trans hB hb.size))
  have hok := make_ok (out := T.out) (inn := T.inn) (av := fun _ => false) (v := v) (hv := hv)
  unfold bothR at HBo
  unfold countR
  have HM2 : Hid (Calls Try.prog 12 #[.func (.func T.fo) T.po T.co, .func (.func T.fi) T.pi T.ci, .func (.func 35) #[] #[], .int .u32 (v : Int)] w fun e w' => ∃ A c, e = .returned (.tuple #[.slice A (makeR T.out T.inn (fun _ => false) v hv).1.length c, .int .i64 (makeR T.out T.inn (fun _ => false) v hv).2]) ∧
      ELs w'.heap.size w' A (makeR T.out T.inn (fun _ => false) v hv).1 ∧ Below w.heap.size w w') := HMk
  clear HMk hI hB
  by_cases h1 : (makeR T.out T.inn (fun _ => false) v hv).2 = 0
  · rw [if_neg (fun e => e h1)]
    rw [h1] at HM2
    rw [if_neg (fun e => e (hok h1).1), if_neg (fun e => e (hok h1).2)] at HBo
    clear hok h1
    generalize (makeR T.out T.inn (fun _ => false) v hv).1 = R at *
    generalize (T.inn v).1 = I at *
    generalize (T.out v).1 = O at *
    go_enter Try.func17, Try.ntmps17
    go_wp2_with fail
    refine HM2.out.mono ?_
    rintro e w1 ⟨A, c, rfl, _, hb⟩
    have HB1 := Lib.hid hb
    have HBo1 := Lib.hid (HBo.out w1 hb)
    clear hb HBo HM2
    go_wp2_with fail
    refine HBo1.out.mono ?_
    rintro e w2 ⟨A1, c1, A2, c2, rfl, _, _, hb⟩
    have HB2 := Lib.hid hb
    clear hb HBo1
    go_wp2_with fail
    (try simp only [Exit.inBlock, Exit.then]); refine bodyPost_ret (results_tmp4 rfl _ _ _) rfl ?_
    exact ⟨rfl, HB1.out.trans (HB2.out.mono HB1.out.size)⟩
  · rw [if_pos h1]
    have q1 : ((makeR T.out T.inn (fun _ => false) v hv).2 == 0) = false := by rw [beq_eq_false_iff_ne]; exact h1
    clear hok h1 HBo
    generalize (makeR T.out T.inn (fun _ => false) v hv).2 = er at *
    go_enter Try.func17, Try.ntmps17
    go_wp2_with fail
    refine HM2.out.mono ?_
    rintro e w1 ⟨A, c, rfl, _, hb⟩
    have HB1 := Lib.hid hb
    clear hb HM2
    go_wp2_with fail
    (try simp only [Exit.inBlock, Exit.then]); refine bodyPost_ret (results_tmp4 rfl _ _ _) rfl ?_
    exact ⟨rfl, HB1.out⟩
end Go.Proofs.Ytiiaeddbeohplaa
