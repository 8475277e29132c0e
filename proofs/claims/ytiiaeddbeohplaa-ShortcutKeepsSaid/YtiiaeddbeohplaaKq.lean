/- ShortcutKeeps, in plain words: when a vertex goes, and its shortcuts come, every way between two others is matched by one that is no longer. -/
import Derived.Test.YtiiaeddbeohplaaKp
namespace Go.Proofs.Ytiiaeddbeohplaa
theorem runs_ok {out : Nat → List Edg × Int} {av : Nat → Bool} {to most k : Nat} {S : Nat → Bool} {f : Nat → Option Nat} {a : List Nat} {b : Bool} {e : Int} (h : Runs out av to most k S f a b e) (ho : ∀ v, (out v).2 = 0) : e = 0 := by
  induction h with
  | full | none | far | is => rfl
  | err k S f v d _ _ _ _ h => exact absurd (ho v) h
  | step _ _ _ _ _ _ _ _ _ _ _ _ _ _ ih => exact ih
theorem out_ok (E : List Edg) (v : Nat) : (netOut E [] v).2 = 0 := by rw [netOut_ok (inB_nil v)]
theorem inn_ok (E : List Edg) (v : Nat) : (netIn E [] v).2 = 0 := by rw [netIn_ok (inB_nil v)]
theorem find_ok (E : List Edg) (av : Nat → Bool) (u w s : Nat) : (findR (netOut E []) av u w s).2.2 = 0 := runs_ok (R_finds (netOut E []) av u w s) (out_ok E)
/-- what a pair comes to where all edges can be had -/
theorem pair_free {E : List Edg} {av : Nat → Bool} {v : Nat} {hv : v < 4294967296} {a b : Edg} (h1 : a.tail ≠ b.head) (h2 : shunB v av a.tail = false) (h3 : shunB v av b.head = false) (h4 : fitsB a.weight b.weight = true) :
    (anyB (netOut E [] a.tail).1 b.head (sumV a.weight b.weight) = true) ∨ (findR (netOut E []) (shunB v av) a.tail b.head (sumV a.weight b.weight)).2.1 = true ∨ pairR (netOut E []) av v hv a b = .yes (cutE a b v hv) := by
  have hn : ¬ (a.tail = b.head ∨ shunB v av a.tail = true ∨ shunB v av b.head = true) := by
    rw [h2, h3]; rintro (e | e | e)
    · exact h1 e
    · cases e
    · cases e
  cases h5 : anyB (netOut E [] a.tail).1 b.head (sumV a.weight b.weight) with
  | true => exact .inl rfl
  | false =>
    right
    have h := pairR_find (hv := hv) hn h4 (out_ok E a.tail) h5
    rw [if_neg (fun e => e (find_ok E _ _ _ _))] at h
    cases h6 : (findR (netOut E []) (shunB v av) a.tail b.head (sumV a.weight b.weight)).2.1 with
    | true => exact .inl rfl
    | false => rw [h6, if_neg Bool.false_ne_true] at h; exact .inr h
theorem pair_never {E : List Edg} {av : Nat → Bool} {v : Nat} {hv : v < 4294967296} (a b : Edg) (e : Int) : pairR (netOut E []) av v hv a b ≠ .bad e := by
  intro h
  by_cases h1 : a.tail = b.head ∨ shunB v av a.tail = true ∨ shunB v av b.head = true
  · rw [pairR_shun h1] at h; cases h
  · cases h4 : fitsB a.weight b.weight with
    | false => rw [pairR_far h1 h4] at h; cases h
    | true =>
      cases h5 : anyB (netOut E [] a.tail).1 b.head (sumV a.weight b.weight) with
      | true => rw [pairR_edge h1 h4 (out_ok E _) h5] at h; cases h
      | false =>
        rw [pairR_find h1 h4 (out_ok E _) h5, if_neg (fun e => e (find_ok E _ _ _ _))] at h
        split at h <;> cases h
theorem goR_all {P : Edg → Edg → PR} (hn : ∀ a b e, P a b ≠ .bad e) : ∀ (r : List (Edg × Edg)) (acc : List Edg), (goR P r acc).2 = 0 ∧ (∀ x ∈ acc, x ∈ (goR P r acc).1) ∧ ∀ p ∈ r, ∀ x, P p.1 p.2 = .yes x → x ∈ (goR P r acc).1
  | [], acc => ⟨rfl, fun x h => h, fun p h => (by cases h)⟩
  | (a, b) :: r, acc => by
    cases hp : P a b with
    | bad e => exact absurd hp (hn a b e)
    | no =>
      rw [goR_no hp]
      obtain ⟨h1, h2, h3⟩ := goR_all hn r acc
      refine ⟨h1, h2, fun p h x hx => ?_⟩
      rcases List.mem_cons.1 h with rfl | h
      · rw [hp] at hx; cases hx
      · exact h3 p h x hx
    | yes y =>
      rw [goR_yes hp]
      obtain ⟨h1, h2, h3⟩ := goR_all hn r (acc ++ [y])
      refine ⟨h1, fun x h => h2 x (List.mem_append_left _ h), fun p h x hx => ?_⟩
      rcases List.mem_cons.1 h with rfl | h
      · rw [hp] at hx; injection hx with hx; subst hx; exact h2 y (by simp)
      · exact h3 p h x hx
theorem make_ok_free {E : List Edg} {av : Nat → Bool} {v : Nat} {hv : v < 4294967296} : makeR (netOut E []) (netIn E []) av v hv = goR (pairR (netOut E []) av v hv) (pairsOf (netIn E [] v).1 (netOut E [] v).1 0) [] := by
  unfold makeR
  rw [if_neg (fun e => e (inn_ok E v)), if_neg (fun e => e (out_ok E v))]
theorem make_err_free {E : List Edg} {av : Nat → Bool} {v : Nat} {hv : v < 4294967296} : (makeR (netOut E []) (netIn E []) av v hv).2 = 0 := by
  rw [make_ok_free]; exact (goR_all pair_never _ _).1
theorem pairsOf_all {I O : List Edg} {a b : Edg} (ha : a ∈ I) (hb : b ∈ O) : (a, b) ∈ pairsOf I O 0 := by
  unfold pairsOf
  rw [List.drop_zero, List.mem_flatMap]
  exact ⟨a, ha, List.mem_map.2 ⟨b, hb, rfl⟩⟩
theorem make_yes {E : List Edg} {av : Nat → Bool} {v : Nat} {hv : v < 4294967296} {a b x : Edg} (ha : a ∈ E) (ha' : a.head = v) (hb : b ∈ E) (hb' : b.tail = v) (h : pairR (netOut E []) av v hv a b = .yes x) : x ∈ (makeR (netOut E []) (netIn E []) av v hv).1 := by
  rw [make_ok_free]
  refine (goR_all pair_never _ _).2.2 (a, b) (pairsOf_all ?_ ?_) x h
  · rw [netIn_ok (inB_nil v), List.mem_filter]; exact ⟨ha, beq_iff_eq.2 ha'⟩
  · rw [netOut_ok (inB_nil v), List.mem_filter]; exact ⟨hb, beq_iff_eq.2 hb'⟩
/-- the vertices of a net, without the avoided ones; and without v -/
structure Sets (E : List Edg) (shun : List Nat) (v : Nat) (all left : List Nat) : Prop where
  all_ : ∀ u, u ∈ all ↔ (∃ x ∈ E, x.tail = u ∨ x.head = u) ∧ (u = v ∨ inB shun u = false)
  left_ : ∀ u, u ∈ left ↔ (∃ x ∈ E, x.tail = u ∨ x.head = u) ∧ u ≠ v ∧ inB shun u = false
section
variable {E : List Edg} {shun : List Nat} {v : Nat} {hv : v < 4294967296} {all left : List Nat}
theorem Sets.sub (h : Sets E shun v all left) {u : Nat} (hu : u ∈ left) : u ∈ all := (h.all_ u).2 ⟨((h.left_ u).1 hu).1, .inr ((h.left_ u).1 hu).2.2⟩
theorem Sets.cases (h : Sets E shun v all left) {u : Nat} (hu : u ∈ all) : u = v ∨ u ∈ left := by
  obtain ⟨h1, h2⟩ := (h.all_ u).1 hu
  by_cases e : u = v
  · exact .inl e
  · exact .inr ((h.left_ u).2 ⟨h1, e, h2.resolve_left e⟩)
theorem Sets.free (h : Sets E shun v all left) {u : Nat} (hu : u ∈ left) : shunB v (inB shun) u = false := by
  obtain ⟨_, h1, h2⟩ := (h.left_ u).1 hu
  unfold shunB
  rw [h2, Bool.or_false, beq_eq_false_iff_ne]
  exact h1
theorem Sets.of_shun (h : Sets E shun v all left) {x : Edg} (hx : x ∈ E) (hs : shunB v (inB shun) x.head = false) : x.head ∈ left := by
  unfold shunB at hs
  rw [Bool.or_eq_false_iff, beq_eq_false_iff_ne] at hs
  exact (h.left_ _).2 ⟨⟨x, hx, .inr rfl⟩, hs⟩
theorem way_back (h : Sets E shun v all left) {u w d : Nat} (hw : WayV left (E ++ (makeR (netOut E []) (netIn E []) (inB shun) v hv).1) u w d) : WayV all E u w d := by
  refine WayV.rec' (P := fun w d => WayV all E u w d) (.start u) ?_ hw
  intro y e x _ ih hx ht hd hh
  rcases List.mem_append.1 hx with hx | hx
  · exact ih.step hx ht hd (h.sub hh)
  · obtain ⟨a, ha, b, hb, hy⟩ := makeR_mem hx
    rw [netIn_ok (inB_nil v), List.mem_filter, beq_iff_eq] at ha
    rw [netOut_ok (inB_nil v), List.mem_filter, beq_iff_eq] at hb
    obtain ⟨_, _, _, y4, _, _, _, rfl⟩ := hy
    have hs : sumV a.weight b.weight = a.weight + b.weight := sumV_yes y4
    have hd' : e + (a.weight + b.weight) < farV := by rw [← hs]; exact hd
    have h1 := ih.step ha.1 ht (by omega) (by rw [ha.2]; exact (h.all_ v).2 ⟨⟨a, ha.1, .inr ha.2⟩, .inl rfl⟩)
    have h2 := h1.step hb.1 (hb.2.trans ha.2.symm) (by omega) (h.sub hh)
    show WayV all E u b.head (e + sumV a.weight b.weight)
    rw [hs, ← Nat.add_assoc]
    exact h2
theorem find_way (h : Sets E shun v all left) {u w s : Nat} (hf : (findR (netOut E []) (shunB v (inB shun)) u w s).2.1 = true) : ∃ e, e ≤ s ∧ WayV left (E ++ (makeR (netOut E []) (netIn E []) (inB shun) v hv).1) u w e := by
  have h1 := R_finds (netOut E []) (shunB v (inB shun)) u w s
  rw [hf] at h1
  obtain ⟨d, hw, hd⟩ := finds_sound h1
  refine ⟨d, hd, ?_⟩
  clear h1 hf hd
  induction hw with
  | start => exact .start u
  | step y e x hy hx hd ha ih =>
    obtain ⟨h2, h3⟩ := mem_net hx
    exact ih.step (List.mem_append_left _ h2) h3 hd (h.of_shun h2 ha)
theorem way_on (h : Sets E shun v all left) {u w d : Nat} (hu : u ∈ left) (hw : WayV all E u w d) :
    (w ∈ left → ∃ e, e ≤ d ∧ WayV left (E ++ (makeR (netOut E []) (netIn E []) (inB shun) v hv).1) u w e) ∧ (w = v → ∃ a ∈ E, a.head = v ∧ a.tail ∈ left ∧ ∃ e, e + a.weight ≤ d ∧ WayV left (E ++ (makeR (netOut E []) (netIn E []) (inB shun) v hv).1) u a.tail e) := by
  have hvl : v ∉ left := fun e => ((h.left_ v).1 e).2.1 rfl
  refine WayV.rec' (P := fun w d => (w ∈ left → ∃ e, e ≤ d ∧ WayV left (E ++ (makeR (netOut E []) (netIn E []) (inB shun) v hv).1) u w e) ∧ (w = v → ∃ a ∈ E, a.head = v ∧ a.tail ∈ left ∧ ∃ e, e + a.weight ≤ d ∧ WayV left (E ++ (makeR (netOut E []) (netIn E []) (inB shun) v hv).1) u a.tail e)) ⟨fun _ => ⟨0, Nat.le_refl _, .start u⟩, fun e => absurd (e ▸ hu) hvl⟩ ?_ hw
  intro y dy x hwy ih hx ht hd hh
  have hy : y = v ∨ y ∈ left := by
    refine h.cases ((h.all_ y).2 ⟨⟨x, hx, .inl ht⟩, ?_⟩)
    have : y ∈ all := by
      refine WayV.rec' (P := fun y _ => y ∈ all) (h.sub hu) ?_ hwy
      intro _ _ _ _ _ _ _ _ hm; exact hm
    exact ((h.all_ y).1 this).2
  rcases hy with hy | hy
  · obtain ⟨a, ha, ha', hal, e, he, hwe⟩ := ih.2 hy
    refine ⟨fun hxl => ?_, fun _ => ⟨a, ha, ha', hal, e, by omega, hwe⟩⟩
    have hfit : a.weight + x.weight < farV := by omega
    have hf : fitsB a.weight x.weight = true := fitsB_mk hfit
    have hs : sumV a.weight x.weight = a.weight + x.weight := sumV_yes hf
    by_cases heq : a.tail = x.head
    · exact ⟨e, by omega, by rw [← heq]; exact hwe⟩
    · rcases pair_free (E := E) (hv := hv) heq (h.free hal) (h.free hxl) hf with h1 | h1 | h1
      · unfold anyB at h1
        rw [List.any_eq_true] at h1
        obtain ⟨z, hz, hz2⟩ := h1
        rw [Bool.and_eq_true, beq_iff_eq, decide_eq_true_iff] at hz2
        obtain ⟨hz3, hz4⟩ := mem_net hz
        refine ⟨e + z.weight, by rw [hs] at hz2; omega, ?_⟩
        rw [← hz2.1]
        exact hwe.step (List.mem_append_left _ hz3) hz4 (by rw [hs] at hz2; omega) (by rw [hz2.1]; exact hxl)
      · obtain ⟨e2, h2, h3⟩ := find_way (hv := hv) h h1
        exact ⟨e + e2, by rw [hs] at h2; omega, hwe.trans h3 (by rw [hs] at h2; omega)⟩
      · have h2 := make_yes (hv := hv) ha ha' hx (ht.trans hy) h1
        refine ⟨e + sumV a.weight x.weight, by rw [hs]; omega, ?_⟩
        exact hwe.step (x := cutE a x v hv) (List.mem_append_right _ h2) rfl (by show e + sumV a.weight x.weight < farV; rw [hs]; omega) hxl
  · obtain ⟨e, he, hwe⟩ := ih.1 hy
    refine ⟨fun hxl => ⟨e + x.weight, by omega, hwe.step (List.mem_append_left _ hx) ht (by omega) hxl⟩, fun hxv => ⟨x, hx, hxv, by rw [ht]; exact hy, e, by omega, by rw [ht]; exact hwe⟩⟩
/-- no distance turns -/
theorem keeps (h : Sets E shun v all left) {u w : Nat} (hu : u ∈ left) (hw : w ∈ left) : tabV left (E ++ (makeR (netOut E []) (netIn E []) (inB shun) v hv).1) u w = tabV all E u w :=
  tab_same hu hw (h.sub hu) (h.sub hw) (fun d hd => ⟨d, Nat.le_refl _, way_back h hd⟩) (fun _ hd => (way_on h hu hd).1 hw)
end
end Go.Proofs.Ytiiaeddbeohplaa
