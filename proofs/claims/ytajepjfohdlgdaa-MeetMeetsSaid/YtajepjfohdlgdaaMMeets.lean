/- MeetMeets: for any two lists of labels the call returns true: Meet tells the document's answer, the same the other way round, and the lists stay. No condition. -/
import Derived.Test.YtajepjfohdlgdaaMw
import Derived.Test.YtajepjfohdlgdaaMo
namespace Go.Proofs.Ytajepjfohdlgdaa.meetMeets
open Go.ChangeShapes Go.WideShapes Go.ChangeAt Go.RowKit

theorem far1 (A A' : Option Addr) (n n' c c' : Nat) (w : World) (h : 300 < n) (hn : n ≤ 9223372036854775807) :
    Calls Try.prog 3 #[.slice A n c, .slice A' n' c'] w (LawOk w) := by
  have h1 : (300 : Int) < (n : Int) := by omega
  have HW := Lib.hid works_any
  go_enter Try.func3, Try.ntmps3
  go_wp2_with (go_at_call 9; refine (HW.out _).mono ?_; rintro e w1 ⟨rfl, hb1⟩)
  go_ret
  exact ⟨rfl, hb1⟩
theorem far2 (A A' : Option Addr) (n n' c c' : Nat) (w : World) (h0 : n ≤ 300) (h : 300 < n') (hn : n' ≤ 9223372036854775807) :
    Calls Try.prog 3 #[.slice A n c, .slice A' n' c'] w (LawOk w) := by
  have h1 : (300 : Int) < (n' : Int) := by omega
  have h2 : ¬ (300 : Int) < (n : Int) := by omega
  have HW := Lib.hid works_any
  go_enter Try.func3, Try.ntmps3
  go_wp2_with (go_at_call 9; refine (HW.out _).mono ?_; rintro e w1 ⟨rfl, hb1⟩)
  go_ret
  exact ⟨rfl, hb1⟩

/-- the contract of Meet, the other way round, in the same words -/
theorem meet_back (B : Nat) (A A' : Option Addr) (f b : List Lbl) (c c' : Nat) (w : World) (hf : SL B w A f) (hb : SL B w A' b) (hB : B ≤ w.heap.size) :
    Calls Try.prog 11 #[.slice A' b.length c', .slice A f.length c] w fun e w' =>
      e = .returned (.tuple #[.int .u64 ((meetV f b).dist : Int), .int .u32 ((meetV f b).hub : Int), .bool (meetV f b).ok]) ∧ Below w.heap.size w w' := by
  have := meet_any B A' A b f c' c w hb hf hB
  rwa [meetV_swap f b] at this
theorem ref_same (B : Nat) (A A' : Option Addr) (f b : List Lbl) (c c' : Nat) (w : World) (hf : SL B w A f) (hb : SL B w A' b) :
    Calls Try.prog 12 #[.slice A f.length c, .slice A' b.length c'] w fun e w' =>
      e = .returned (.tuple #[.int .u64 ((meetV f b).dist : Int), .int .u32 ((meetV f b).hub : Int), .bool (meetV f b).ok]) ∧ Drew w w' := by
  obtain ⟨h1, h2, h3⟩ := meet_ref f b
  rw [h1, h2, h3]
  exact refMeet_any B A A' f b c c' w hf hb

set_option maxHeartbeats 4000000 in
theorem near (A A' : Option Addr) (f b : List Lbl) (c c' : Nat) (w : World) (hf : SL w.heap.size w A f) (hb : SL w.heap.size w A' b) (h0 : f.length ≤ 300) (h : b.length ≤ 300) :
    Calls Try.prog 3 #[.slice A f.length c, .slice A' b.length c'] w (LawOk w) := by
  have h1 : ¬ (300 : Int) < (f.length : Int) := by omega
  have h2 : ¬ (300 : Int) < (b.length : Int) := by omega
  have HF := Lib.hid hf
  have HB := Lib.hid hb
  clear hf hb
  go_enter Try.func3, Try.ntmps3
  go_wp2_with fail
  refine (copied_any w.heap.size A f c w HF.out (by omega)).mono ?_
  rintro e w1 ⟨P, cp, rfl, own1, hb1⟩
  have O1 := Lib.hid own1
  clear own1
  go_wp2_with fail
  refine (copied_any w.heap.size A' b c' w1 (HB.out.below hb1) (by omega)).mono ?_
  rintro e w2 ⟨Q, cq, rfl, own2, hb2⟩
  have sp : SL w2.heap.size w2 P f := ((own_sl O1.out (by omega)).below hb2).more hb2.size
  have sq : SL w2.heap.size w2 Q b := own_sl own2 (by omega)
  have hbw2 : Below w.heap.size w w2 := hb1.trans (hb2.mono hb1.size)
  have hsz : w.heap.size ≤ w2.heap.size := hbw2.size
  have SP := Lib.hid sp
  have SQ := Lib.hid sq
  clear own2 O1 sp sq
  go_wp2_with fail
  refine (meet_any w2.heap.size P Q f b cp cq w2 SP.out SQ.out (Nat.le_refl _)).mono ?_
  rintro e w3 ⟨rfl, hb3⟩
  have hbw3 : Below w.heap.size w w3 := hbw2.trans (hb3.mono hbw2.size)
  go_wp2_with fail
  refine (ref_same w.heap.size A A' f b c c' w3 (HF.out.below hbw3) (HB.out.below hbw3)).mono ?_
  rintro e w4 ⟨rfl, n4, rfl⟩
  go_wp2_with fail
  refine (meet_back w2.heap.size P Q f b cp cq (w3.drewN n4) ((SP.out.below hb3).drew ⟨n4, rfl⟩) ((SQ.out.below hb3).drew ⟨n4, rfl⟩) hb3.size).mono ?_
  rintro e w5 ⟨rfl, hb5⟩
  have hb25 : Below w2.heap.size w2 w5 := (below_drewN hb3 n4).trans (hb5.mono hb3.size)
  have hbw5 : Below w.heap.size w w5 := hbw2.trans (hb25.mono hbw2.size)
  generalize (meetV f b).dist = d
  generalize (meetV f b).hub = u
  generalize (meetV f b).ok = k
  clear hb1 hb2 hb3 hb5 hbw3 hbw2
  have HB25 := Lib.hid hb25
  have HBW5 := Lib.hid hbw5
  clear hb25 hbw5
  go_wp2_with fail
  refine (eq_same w2.heap.size P A f cp c w5 (SP.out.below HB25.out) ((HF.out.below HBW5.out).more hsz)).mono ?_
  rintro e w6 ⟨rfl, n6, rfl⟩
  go_wp2_with fail
  refine (eq_same w2.heap.size Q A' b cq c' _ ((SQ.out.below HB25.out).drew ⟨n6, rfl⟩) (((HB.out.below HBW5.out).drew ⟨n6, rfl⟩).more hsz)).mono ?_
  rintro e w7 ⟨rfl, n7, rfl⟩
  go_wp2_with fail
  refine (works_any _).mono ?_
  rintro e w8 ⟨rfl, hb8⟩
  go_wp2_with fail
  go_ret
  exact ⟨rfl, (below_drewN HBW5.out (n6 + n7)).trans (hb8.mono HBW5.out.size)⟩

theorem walk (A A' : Option Addr) (n n' c c' : Nat) (w : World) (hn : n ≤ maxLen) (hn' : n' ≤ maxLen) (hf : n ≤ 4611686018427387904 → ∃ l : List Lbl, l.length = n ∧ SL w.heap.size w A l) (hb : n' ≤ 4611686018427387904 → ∃ l : List Lbl, l.length = n' ∧ SL w.heap.size w A' l) :
    Calls Try.prog 3 #[.slice A n c, .slice A' n' c'] w (LawOk w) := by
  unfold maxLen at hn hn'
  by_cases h : 300 < n
  · exact far1 A A' n n' c c' w h hn
  · by_cases h' : 300 < n'
    · exact far2 A A' n n' c c' w (by omega) h' hn'
    · obtain ⟨f, rfl, hf'⟩ := hf (by omega)
      obtain ⟨b, rfl, hb'⟩ := hb (by omega)
      exact near A A' f b c c' w hf' hb' (by omega) (by omega)

set_option maxRecDepth 100000 in
theorem lifted (os : Os) (started : os.Started) (H : Type) (enc : TypeId × Value → H) :
    ReturnsInHanded {} Try.checked os 3 .any (Rows.meetMeetsSpec.pre6 enc Try.prog Try.f3 Rows.meetMeetsRow.domain false) (Rows.meetMeetsSpec.post enc Try.prog Try.f3 false true false false) := by
  refine returnsInHanded_of_change (C := Try.checked) own_knob started (by kernel_rfl) Try.func3
    (ChangeSpec.witness6 (enc := enc) (C := Try.checked) false ⟨#[], #[.slice none 0 0, .slice none 0 0], []⟩ 8 (by kernel_rfl) (by kernel_rfl) (by kernel_rfl) (by kernel_rfl)) ?_
  intro W base args ds gs before hval0 hW _ _
  have hval : ∀ (j : Nat) t v, Try.f3.params[j]? = some t → args[j]? = some v → Value.okWide Try.prog W .any base t v := hval0
  have hW' := hW
  obtain ⟨p, q, hA0, hV, rfl, _, _⟩ := hW
  have hA : DataW.TrodAll enc Try.prog W 0 (fun _ => true) true Try.f3.params.toList args.toList ds p := hA0
  rw [Try.params3] at hA hval
  obtain ⟨v0, v1, d0, d1, p0, p1, rfl, rfl, rfl, h0, h1⟩ := trodAll_two hA
  obtain ⟨rfl, rfl⟩ := trodVars_none hV
  have hlt : ∀ x ∈ p0 ++ p1, x.block < W.heap.size := fun x hx => hW'.lt x (List.mem_append_left _ hx)
  obtain ⟨A, n, c, rfl, hn, hf⟩ := open_labels (okWide_slice Try.underlying22 (hval 0 22 v0 rfl rfl)) h0 (fun x hx => hlt x (List.mem_append_left _ hx))
  obtain ⟨A', n', c', rfl, hn', hb⟩ := open_labels (okWide_slice Try.underlying22 (hval 1 22 v1 rfl rfl)) h1 (fun x hx => hlt x (List.mem_append_right _ hx))
  refine (walk A A' n n' c c' W hn hn' hf hb).mono fun e W' ⟨he, hg⟩ => ?_
  subst he
  exact ⟨_, rfl, law_post hW' rfl (by kernel_rfl) rfl (by kernel_rfl) hg⟩

theorem proved : Rows.MeetMeetsSaid :=
  OpenClaim.holds_of_wide 3 Try.f3 rfl rfl rfl rfl rfl rfl rfl ⟨rfl, rfl, rfl, rfl, rfl⟩ rfl rfl rfl rfl rfl (by kernel_rfl) Try.func3 (by kernel_rfl)
    (of_decide_eq_true (by kernel_rfl)) (by unfold Func.isWrapper; first | (rw [if_pos (by decide +kernel)]; kernel_rfl) | (rw [if_neg (by decide +kernel)]; exact ⟨rfl, rfl⟩))
    (fun os started H enc _ => lifted os started H enc)
end Go.Proofs.Ytajepjfohdlgdaa.meetMeets
