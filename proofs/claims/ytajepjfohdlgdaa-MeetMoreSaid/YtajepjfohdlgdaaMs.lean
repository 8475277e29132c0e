/- Contracts of milepostlaw21.dist and milepostlaw21.copied. -/
import Derived.Test.YtajepjfohdlgdaaMr
import Derived.Test.YtajepjfohdlgdaaAp
namespace Go.Proofs.Ytajepjfohdlgdaa
open Go.RowKit

/-- the first label of a hub -/
def findH (l : List Lbl) (h : Nat) : Option Lbl := l.find? (fun x => x.hub == h)
def hasB (l : List Lbl) (h : Nat) : Bool := (findH l h).isSome
def distV (l : List Lbl) (h : Nat) : Nat := match findH l h with | some x => x.dist | none => 0

def NoneTo (l : List Lbl) (h k : Nat) : Prop := ∀ (i : Nat) (hi : i < l.length), i < k → (l[i]).hub ≠ h
theorem NoneTo.zero (l : List Lbl) (h : Nat) : NoneTo l h 0 := fun i _ hk => absurd hk (by omega)
theorem NoneTo.next {l : List Lbl} {h k : Nat} (hn : NoneTo l h k) (hk : k < l.length) (hne : (l[k]).hub ≠ h) : NoneTo l h (k + 1) := fun i hi hik => by
  by_cases e : i = k
  · subst e; exact hne
  · exact hn i hi (by omega)
theorem NoneTo.hit {l : List Lbl} {h k : Nat} (hn : NoneTo l h k) (hk : k < l.length) (he : (l[k]).hub = h) : findH l h = some l[k] := by
  unfold findH
  rw [List.find?_eq_some_iff_getElem]
  refine ⟨by simpa using he, k, hk, rfl, fun j hj => ?_⟩
  have := hn j (by omega) hj
  simpa using this
theorem NoneTo.miss {l : List Lbl} {h k : Nat} (hn : NoneTo l h k) (hk : l.length ≤ k) : findH l h = none := by
  unfold findH
  rw [List.find?_eq_none]
  intro x hx
  obtain ⟨i, hi, rfl⟩ := List.getElem_of_mem hx
  have := hn i hi (by omega)
  simpa using this

theorem ret_pair {k : IntKind} {a b : Int} {x y : Bool} (h : a = b) (h' : x = y) : Ending.returned (.tuple #[.int k a, .bool x]) = .returned (.tuple #[.int k b, .bool y]) := by rw [h, h']

theorem dist_any (B : Nat) (A : Option Addr) (l : List Lbl) (c h : Nat) (w : World) (hs : SL B w A l) :
    Calls Try.prog 15 #[.slice A l.length c, .int .u32 (h : Int)] w fun e w' => e = .returned (.tuple #[.int .u64 (distV l h : Int), .bool (hasB l h)]) ∧ Drew w w' := by
  have hlen := hs.len
  go_enter Try.func15, Try.ntmps15
  go_wp2
  go_loop [6] (fun i => ∃ k : Nat, k ≤ l.length ∧ i = .int .i64 k ∧ Hid (NoneTo l h k)) (fun i => l.length - (intOf i).toNat)
  case atStart => exact ⟨0, by omega, rfl, NoneTo.zero l h⟩
  case round =>
    obtain ⟨k, hk, rfl, HN⟩ := hrel
    by_cases hlt : k < l.length
    · obtain ⟨b, o, rfl, _, h1, _, h3⟩ := hs.at' k hlt
      clear hs
      have e1 : (0:Int) ≤ (k:Int) := by omega
      have e2 : (k:Int) < l.length := by omega
      by_cases he : (l[k]).hub = h
      · have HF : Hid (findH l h = some l[k]) := HN.out.hit hlt he
        have HV : Hid (distV l h = (l[k]).dist) := by show distV l h = _; rw [distV, HF.out]
        have HB : Hid (hasB l h = true) := by show hasB l h = _; rw [hasB, HF.out]; rfl
        rw [he] at h1
        clear he HF HN
        generalize (l[k]).dist = d at h3 HV
        go_wp2
        go_ret2
        exact ⟨ret_pair (by rw [HV.out]) (by rw [HB.out]), Drew.refl _⟩
      · have HX : Hid (NoneTo l h (k + 1)) := HN.out.next hlt he
        have hq : (((l[k]).hub : Int) == (h : Int)) = false := by simp; omega
        clear he
        generalize (l[k]).hub = q at h1 hq
        go_wp2
        go_round
        case rel => exact ⟨k + 1, by omega, by go_num, HX⟩
        case measure => simp [intOf]; omega
    · have HF : Hid (findH l h = none) := HN.out.miss (by omega)
      have HV : Hid (distV l h = 0) := by show distV l h = _; rw [distV, HF.out]
      have HB : Hid (hasB l h = false) := by show hasB l h = _; rw [hasB, HF.out]; rfl
      go_wp2
      go_ret2
      exact ⟨ret_pair (by rw [HV.out]; rfl) (by rw [HB.out]), Drew.refl _⟩

theorem label_info : (Try.prog.info? 35).map (fun i => (i.zero, i.size, i.bytes)) = some (some (.agg #[.int .u32 0, .int .u32 0, .int .u64 0]), 3, 16) := by kernel_rfl
theorem label_ety : Ety Try.prog 22 35 3 16 Lbl.enc := by
  obtain ⟨i, hi, hz, hs, hb⟩ := info_parts label_info
  exact ⟨Try.underlying22, ⟨i, _, hi, hz, hs, hb, rfl⟩, by omega, fun _ => rfl, fun x u hu => by simp [Lbl.enc] at hu; rcases hu with rfl | rfl | rfl <;> rfl⟩

theorem own_sl {w : World} {base : Nat} {A : Option Addr} {n c : Nat} {l : List Lbl} (h : OwnS w base 35 3 Lbl.enc (.slice A n c) l) (hm : l.length ≤ 4611686018427387904) : SL w.heap.size w A l :=
  OwnS.sr (fun _ => rfl) h hm

/-- the same labels in new memory -/
theorem copied_any (B : Nat) (A : Option Addr) (l : List Lbl) (c : Nat) (w : World) (hs : SL B w A l) (hl : l.length ≤ 1073741824) :
    Calls Try.prog 10 #[.slice A l.length c] w fun e w' => ∃ A' c', e = .returned (.slice A' l.length c') ∧ OwnS w' w.heap.size 35 3 Lbl.enc (.slice A' l.length c') l ∧ Below w.heap.size w w' := by
  go_enter Try.func10, Try.ntmps10
  go_wp2_with (at_builtin; refine wpList_append_sr _ rfl (.tmp 4) (.tmp 5) label_ety rfl w.heap.size (.slice none 0 0) [] rfl (OwnS.nil _ _ _ _ _) B A l.length c l rfl rfl hs (by simp [maxLen]; omega) (by simp; omega) (Nat.le_refl _) ?_; intro A' c' w' hown hg _)
  go_ret
  refine ⟨A', c', by simp, by simpa using hown, (Below.refl _ _).grown hg (Nat.le_refl _) (by simp [Value.ownBlock])⟩
end Go.Proofs.Ytajepjfohdlgdaa
