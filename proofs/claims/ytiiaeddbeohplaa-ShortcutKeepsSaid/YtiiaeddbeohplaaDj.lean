/- What a search finds, in plain words: ways. -/
import Derived.Test.YtiiaeddbeohplaaSt
namespace Go.Proofs.Ytiiaeddbeohplaa

/-- there is a way to a vertex, so long -/
inductive Way (out : Nat → List Edg × Int) (av : Nat → Bool) (src : Nat) : Nat → Nat → Prop where
  | start : Way out av src src 0
  | step (v d : Nat) (x : Edg) : Way out av src v d → x ∈ (out v).1 → d + x.weight < 9223372036854775808 → av x.head = false → Way out av src x.head (d + x.weight)
section
variable {out : Nat → List Edg × Int} {av : Nat → Bool} {src to most k : Nat} {S : Nat → Bool} {f : Nat → Option Nat} {a : List Nat} {b : Bool} {e : Int}
theorem relax_cases (S av : Nat → Bool) (d : Nat) : ∀ (L : List Edg) (f : Nat → Option Nat) (v e : Nat), relax S av d L f v = some e → f v = some e ∨ ∃ x ∈ L, goes S av d x = true ∧ x.head = v ∧ e = d + x.weight := by
  intro L
  induction L with
  | nil => intro f v e h; exact .inl h
  | cons x L ih =>
    intro f v e h
    rcases ih _ v e h with h1 | ⟨y, hy, h2⟩
    · unfold relax1 at h1
      split at h1
      · rename_i hg
        rcases comeF_cases f x.head (d + x.weight) with ⟨_, _, _, he⟩ | ⟨_, he⟩
        · rw [he] at h1; exact .inl h1
        · rw [he] at h1
          by_cases hv : v = x.head
          · subst hv; rw [upd_same] at h1; injection h1 with h1; exact .inr ⟨x, by simp, hg, rfl, h1.symm⟩
          · rw [upd_other _ _ hv] at h1; exact .inl h1
      · exact .inl h1
    · exact .inr ⟨y, by simp [hy], h2⟩
theorem goes_iff {d : Nat} {x : Edg} : goes S av d x = true ↔ d + x.weight < 9223372036854775808 ∧ S x.head = false ∧ av x.head = false := by
  unfold goes
  rw [Bool.and_eq_true, Bool.and_eq_true, Bool.not_eq_true', Bool.not_eq_true']
  constructor
  · rintro ⟨⟨h1, h2⟩, h3⟩; exact ⟨fitsB_yes h1, h2, h3⟩
  · rintro ⟨h1, h2, h3⟩; exact ⟨⟨fitsB_mk h1, h2⟩, h3⟩
theorem comeF_le (f : Nat → Option Nat) (v d : Nat) : (∃ e, comeF f v d v = some e ∧ e ≤ d) ∧ ∀ u e, f u = some e → ∃ e', comeF f v d u = some e' ∧ e' ≤ e := by
  rcases comeF_cases f v d with ⟨old, h1, h2, he⟩ | ⟨hf, he⟩
  · rw [he]; exact ⟨⟨old, h1, h2⟩, fun u e h => ⟨e, h, Nat.le_refl _⟩⟩
  · rw [he]
    refine ⟨⟨d, upd_same _ _ _, Nat.le_refl _⟩, fun u e h => ?_⟩
    by_cases hu : u = v
    · subst hu
      refine ⟨d, upd_same _ _ _, ?_⟩
      rcases hf with hf | ⟨old, hf, hlt⟩
      · rw [hf] at h; cases h
      · rw [hf] at h; injection h with h; omega
    · exact ⟨e, by rw [upd_other _ _ hu]; exact h, Nat.le_refl _⟩
theorem relax1_le (d : Nat) (f : Nat → Option Nat) (x : Edg) : ∀ u e, f u = some e → ∃ e', relax1 S av d f x u = some e' ∧ e' ≤ e := fun u e h => by
  unfold relax1
  split
  · exact (comeF_le f _ _).2 u e h
  · exact ⟨e, h, Nat.le_refl _⟩
theorem relax_le (d : Nat) : ∀ (L : List Edg) (f : Nat → Option Nat) (u e : Nat), f u = some e → ∃ e', relax S av d L f u = some e' ∧ e' ≤ e := by
  intro L
  induction L with
  | nil => intro f u e h; exact ⟨e, h, Nat.le_refl _⟩
  | cons x L ih =>
    intro f u e h
    obtain ⟨e1, h1, h2⟩ := relax1_le (S := S) (av := av) d f x u e h
    obtain ⟨e2, h3, h4⟩ := ih _ u e1 h1
    exact ⟨e2, h3, by omega⟩
theorem relax_hits (d : Nat) : ∀ (L : List Edg) (f : Nat → Option Nat) (x : Edg), x ∈ L → goes S av d x = true → ∃ e, relax S av d L f x.head = some e ∧ e ≤ d + x.weight := by
  intro L
  induction L with
  | nil => intro f x h; cases h
  | cons y L ih =>
    intro f x h hg
    rcases List.mem_cons.1 h with rfl | h
    · have h1 : ∃ e, relax1 S av d f x x.head = some e ∧ e ≤ d + x.weight := by
        unfold relax1; rw [if_pos hg]; exact (comeF_le f _ _).1
      obtain ⟨e1, h1, h2⟩ := h1
      obtain ⟨e2, h3, h4⟩ := relax_le (S := S) (av := av) d L _ _ _ h1
      exact ⟨e2, h3, by omega⟩
    · exact ih _ x h hg
/-- who waits is there by a way -/
theorem runs_sound (h : Runs out av to most k S f a b e) (hf : ∀ v d, f v = some d → Way out av src v d) (hb : b = true) : ∃ d, Way out av src to d ∧ d ≤ most := by
  induction h with
  | full S f => cases hb
  | none k S f h => cases hb
  | far k S f v d h1 h2 => cases hb
  | is k S f d h1 h2 h3 => exact ⟨d, hf _ _ h2.at_, h3⟩
  | err k S f v d => cases hb
  | step k S f v d a b e h1 h2 h3 h4 h5 _ ih =>
    refine ih (fun u c hu => ?_) hb
    rcases relax_cases _ _ _ _ _ _ _ hu with h6 | ⟨x, hx, hg, rfl, rfl⟩
    · by_cases huv : u = v
      · subst huv; rw [off_same] at h6; cases h6
      · rw [off_other _ huv] at h6; exact hf u c h6
    · obtain ⟨g1, _, g3⟩ := goes_iff.1 hg
      exact .step v d x (hf v d h2.at_) hx g1 g3
theorem start_way (out : Nat → List Edg × Int) (av : Nat → Bool) (src : Nat) : ∀ v d, start src v = some d → Way out av src v d := fun v d h => by
  unfold start at h
  by_cases hv : v = src
  · subst hv; rw [upd_same] at h; injection h with h; subst h; exact .start
  · rw [upd_other _ _ hv] at h; cases h
theorem finds_sound (h : Finds out av src to most a true e) : ∃ d, Way out av src to d ∧ d ≤ most := runs_sound h (start_way out av src) rfl

/-- where a search stands: D is how far the settled ones are; L lists them -/
structure DjInv (out : Nat → List Edg × Int) (av : Nat → Bool) (src to : Nat) (V : List Nat) (k : Nat) (S : Nat → Bool) (f : Nat → Option Nat) (D : Nat → Nat) (L : List Nat) : Prop where
  way : ∀ v d, f v = some d → Way out av src v d
  fin : ∀ u, S u = true → ∀ d, Way out av src u d → D u ≤ d
  near : ∀ u, S u = true → Way out av src u (D u)
  ahead : ∀ u, S u = true → ∀ x ∈ (out u).1, D u + x.weight < 9223372036854775808 → av x.head = false → S x.head = true ∨ ∃ e, f x.head = some e ∧ e ≤ D u + x.weight
  src : S src = true ∨ ∃ e, f src = some e ∧ e = 0
  to : S to = false
  list : ∀ u, S u = true ↔ u ∈ L
  nodup : L.Nodup
  len : L.length = k
  sub : ∀ u ∈ L, u ∈ V
  set : Settled S f
/-- whoever has a way and is not settled is behind one who waits -/
theorem DjInv.behind {V : List Nat} {D : Nat → Nat} {L : List Nat} (h : DjInv out av src to V k S f D L) {u d : Nat} (hw : Way out av src u d) : S u = false → ∃ y c, f y = some c ∧ c ≤ d := by
  induction hw with
  | start =>
    intro hs
    rcases h.src with h1 | ⟨c, h1, h2⟩
    · rw [h1] at hs; cases hs
    · exact ⟨_, c, h1, by omega⟩
  | step v d x hv hx hd ha ih =>
    intro hs
    cases hS : S v with
    | false =>
      obtain ⟨y, c, h1, h2⟩ := ih hS
      exact ⟨y, c, h1, by omega⟩
    | true =>
      have h1 := h.fin v hS d hv
      rcases h.ahead v hS x hx (by omega) ha with h2 | ⟨c, h2, h3⟩
      · rw [h2] at hs; cases hs
      · exact ⟨_, c, h2, by omega⟩
theorem nodup_sub_len : ∀ (L V : List Nat), L.Nodup → (∀ u ∈ L, u ∈ V) → L.length ≤ V.length
  | [], _, _, _ => Nat.zero_le _
  | x :: L, V, hn, hs => by
    have hx : x ∈ V := hs x (by simp)
    obtain ⟨h1, h2⟩ := List.nodup_cons.1 hn
    have := nodup_sub_len L (V.erase x) h2 fun u hu => (List.mem_erase_of_ne (fun e : u = x => h1 (e ▸ hu))).2 (hs u (by simp [hu]))
    rw [List.length_erase_of_mem hx] at this
    have : 0 < V.length := List.length_pos_of_mem hx
    simp only [List.length_cons]
    omega
theorem runs_complete {V : List Nat} {e : Int} (h : Runs out av to most k S f a b e) (hV : V.length ≤ 16) (hcl : ∀ v d, Way out av src v d → v ∈ V) (hok : ∀ v, (out v).2 = 0) :
    ∀ D L, DjInv out av src to V k S f D L → e = 0 ∧ ∀ d, Way out av src to d → d ≤ most → b = true := by
  induction h with
  | full S f =>
    intro D L hi
    refine ⟨rfl, fun d hw _ => ?_⟩
    have h1 : (to :: L).Nodup := List.nodup_cons.2 ⟨fun hm => (by have := (hi.list to).2 hm; rw [hi.to] at this; cases this), hi.nodup⟩
    have h2 := nodup_sub_len (to :: L) V h1 (fun u hu => by
      rcases List.mem_cons.1 hu with rfl | hu
      · exact hcl _ _ hw
      · exact hi.sub u hu)
    have := hi.len
    simp only [List.length_cons] at h2
    omega
  | none k S f hn =>
    intro D L hi
    refine ⟨rfl, fun d hw _ => ?_⟩
    obtain ⟨y, c, h1, _⟩ := hi.behind hw hi.to
    rw [hn] at h1; cases h1
  | far k S f v d hl hd =>
    intro D L hi
    refine ⟨rfl, fun d' hw hd' => ?_⟩
    obtain ⟨y, c, h1, h2⟩ := hi.behind hw hi.to
    have := hl.le y c h1
    omega
  | is k S f d => intro D L hi; exact ⟨rfl, fun _ _ _ => rfl⟩
  | err k S f v d h1 h2 h3 h4 h5 => intro D L hi; exact absurd (hok v) h5
  | step k S f v d a b e hk hl hd hvt hv0 _ ih =>
    intro D L hi
    have hSv : S v = false := by
      cases hs : S v with
      | false => rfl
      | true => have := hi.set v hs; rw [hl.at_] at this; cases this
    have hmin : ∀ d', Way out av src v d' → d ≤ d' := fun d' hw => by
      obtain ⟨y, c, h1, h2⟩ := hi.behind hw hSv
      have := hl.le y c h1
      omega
    have hway : Way out av src v d := hi.way v d hl.at_
    have hS' : ∀ u, with_ S v u = true ↔ u = v ∨ S u = true := fun u => by
      by_cases hu : u = v
      · subst hu; simp [with_same]
      · rw [with_other _ hu]; simp [hu]
    refine ih (fun u => if u = v then d else D u) (v :: L) ⟨?_, ?_, ?_, ?_, ?_, ?_, ?_, ?_, ?_, ?_, ?_⟩
    · intro u c hu
      rcases relax_cases _ _ _ _ _ _ _ hu with h6 | ⟨x, hx, hg, rfl, rfl⟩
      · by_cases huv : u = v
        · subst huv; rw [off_same] at h6; cases h6
        · rw [off_other _ huv] at h6; exact hi.way u c h6
      · obtain ⟨g1, _, g3⟩ := goes_iff.1 hg
        exact .step v d x hway hx g1 g3
    · intro u hu d' hw
      by_cases huv : u = v
      · subst huv; simp only [if_pos]; exact hmin d' hw
      · simp only [if_neg huv]
        rcases (hS' u).1 hu with h1 | h1
        · exact absurd h1 huv
        · exact hi.fin u h1 d' hw
    · intro u hu
      by_cases huv : u = v
      · subst huv; simp only [if_pos]; exact hway
      · simp only [if_neg huv]
        rcases (hS' u).1 hu with h1 | h1
        · exact absurd h1 huv
        · exact hi.near u h1
    · intro u hu x hx hfit hav
      by_cases huv : u = v
      · subst huv
        simp only [if_pos] at hfit ⊢
        cases hh : with_ S u x.head with
        | true => exact .inl rfl
        | false => exact .inr (relax_hits d (out u).1 (off f u) x hx (goes_iff.2 ⟨hfit, hh, hav⟩))
      · simp only [if_neg huv] at hfit ⊢
        rcases (hS' u).1 hu with h1 | h1
        · exact absurd h1 huv
        · by_cases hxv : x.head = v
          · exact .inl ((hS' _).2 (.inl hxv))
          · rcases hi.ahead u h1 x hx hfit hav with h2 | ⟨c, h2, h3⟩
            · exact .inl ((hS' _).2 (.inr h2))
            · obtain ⟨c', h4, h5⟩ := relax_le (S := with_ S v) (av := av) d (out v).1 (off f v) x.head c (by rw [off_other _ hxv]; exact h2)
              exact .inr ⟨c', h4, by omega⟩
    · by_cases hsv : src = v
      · exact .inl ((hS' _).2 (.inl hsv))
      · rcases hi.src with h1 | ⟨c, h1, h2⟩
        · exact .inl ((hS' _).2 (.inr h1))
        · obtain ⟨c', h4, h5⟩ := relax_le (S := with_ S v) (av := av) d (out v).1 (off f v) src c (by rw [off_other _ hsv]; exact h1)
          exact .inr ⟨c', h4, by omega⟩
    · rw [with_other _ (Ne.symm hvt)]; exact hi.to
    · intro u
      rw [hS', List.mem_cons, hi.list]
    · exact List.nodup_cons.2 ⟨fun hm => (by have := (hi.list v).2 hm; rw [hSv] at this; cases this), hi.nodup⟩
    · simp [hi.len]
    · intro u hu
      rcases List.mem_cons.1 hu with rfl | hu
      · exact hcl _ _ hway
      · exact hi.sub u hu
    · exact (hi.set.off v).relax d (out v).1
theorem finds_complete {V : List Nat} {e : Int} (h : Finds out av src to most a b e) (hV : V.length ≤ 16) (hcl : ∀ v d, Way out av src v d → v ∈ V) (hok : ∀ v, (out v).2 = 0) : e = 0 ∧ ∀ d, Way out av src to d → d ≤ most → b = true :=
  runs_complete h hV hcl hok (fun _ => 0) [] ⟨start_way out av src, fun u hu => (by cases hu), fun u hu => (by cases hu), fun u hu => (by cases hu), .inr ⟨0, upd_same _ _ _, rfl⟩, rfl, fun u => (by simp), List.nodup_nil, rfl, fun u hu => (by simp at hu), fun u hu => (by cases hu)⟩
end
end Go.Proofs.Ytiiaeddbeohplaa
