/- The contract of shrink: it keeps the nearest of those that wait; the map reads as before. -/
import Derived.Test.YtpnmfhcmodoeiaaCu
import Derived.Test.YtpnmfhcmodoeiaaFi
import Derived.Test.YtpnmfhcmodoeiaaBd
import Derived.Maps.RangeWalk
namespace Go.Proofs.Ytpnmfhcmodoeiaa
open Go.RowKit
/-- where the taking stands in memory: the front at F, what is kept at KB -/
structure ShSt (F H M n KB KH KM : Nat) (O0 : Nat → Prop) (w0 : World) (f : Nat → Option Nat) (l0 : List Itm) (k : Nat) (v kv : Value) (l kl T : List Itm) (fk g : Nat → Option Nat) (w : World) : Prop where
  fr : FrAt F H M n w v l fk
  mv : Moves O0 (frO F H M v) w0 w
  kp : FrAt KB KH KM T.length w kv kl g
  low : ∀ b, frO KB KH KM kv b → w0.heap.size ≤ b
  apart : ∀ b, frO KB KH KM kv b → ¬ frO F H M v b
  len : l.length ≤ 65536
  perm : kl.Perm T
  cut : Cut f l0 fk l T g k
section
variable {F H M n KB KH KM : Nat} {O0 : Nat → Prop} {w0 : World} {f fk g : Nat → Option Nat} {l0 l l' kl kl' T : List Itm} {k : Nat} {v v' kv kv' : Value} {w w1 w2 : World} {x : Itm}
theorem ShSt.kp1 (h : ShSt F H M n KB KH KM O0 w0 f l0 k v kv l kl T fk g w) (m : Moves (frO F H M v) (frO F H M v') w w1) : FrAt KB KH KM T.length w1 kv kl g := h.kp.stay fun b hb => m.block b (h.kp.lt b hb) (h.apart b hb)
theorem ShSt.apart1 (h : ShSt F H M n KB KH KM O0 w0 f l0 k v kv l kl T fk g w) (m : Moves (frO F H M v) (frO F H M v') w w1) : ∀ b, frO KB KH KM kv b → ¬ frO F H M v' b := fun b hb e => by
  rcases m.own b e with h1 | h1
  · exact h.apart b hb h1
  · have := h.kp.lt b hb; omega
theorem ShSt.take (h : ShSt F H M n KB KH KM O0 w0 f l0 k v kv l kl T fk g w) (m : Moves (frO F H M v) (frO F H M v') w w1) (k1 : FrAt F H M n w1 v' l' (off fk x.id)) (ht : Taken fk l x l')
    (k2 : FrAt KB KH KM (T.length + 1) w2 kv' kl' (upd g x.id x.key)) (hp : kl'.Perm (kl ++ [x])) (m2 : Moves (frO KB KH KM kv) (frO KB KH KM kv') w1 w2) :
    ShSt F H M n KB KH KM O0 w0 f l0 (k + 1) v' kv' l' kl' (T ++ [x]) (off fk x.id) (upd g x.id x.key) w2 := by
  have ha := h.apart1 m
  have hs1 := h.mv.size
  have hs2 := m.size
  refine ⟨k1.stay fun b hb => m2.block b (k1.lt b hb) fun e => ha b e hb, (h.mv.trans m).other m2 h.low, by rw [List.length_append]; exact k2, fun b hb => ?_, fun b hb => ?_, by have := ht.len; have := h.len; omega, hp.trans (h.perm.append_right _), h.cut.take ht⟩
  · rcases m2.own b hb with h1 | h1
    · exact h.low b h1
    · omega
  · rcases m2.own b hb with h1 | h1
    · exact ha b h1
    · intro e; have := k1.lt b e; omega
theorem ShSt.miss (h : ShSt F H M n KB KH KM O0 w0 f l0 k v kv l kl T fk g w) (m : Moves (frO F H M v) (frO F H M v') w w1) (k1 : FrAt F H M n w1 v' l' fk) (hl : l' = []) (hs : ∀ y ∈ l, Stale fk y) :
    ShSt F H M n KB KH KM O0 w0 f l0 (k + 1) v' kv l' kl T fk g w1 := by
  subst hl
  exact ⟨k1, h.mv.trans m, h.kp1 m, h.low, h.apart1 m, by simp, h.perm, h.cut.miss hs⟩
theorem ShSt.start (h : FrAt F H M n w v l f) (hl : l.length ≤ 65536) (hb : Below w.heap.size w w1) (k : FrAt KB KH KM 0 w1 (.slice none 0 0) [] fun _ => none) (hlow : ∀ b, frO KB KH KM (.slice none 0 0) b → w.heap.size ≤ b) :
    ShSt F H M n KB KH KM (frO F H M v) w f l 0 v (.slice none 0 0) l [] [] f (fun _ => none) w1 :=
  ⟨h.below hb, Moves.of_below hb, k, hlow, fun b hb2 e => by have := hlow b hb2; have := h.lt b e; omega, hl, List.Perm.refl _, Cut.start f l⟩
end
theorem ranges_cnt {w : World} {b r n : Nat} {D : DataW Unit} {left : Lit → Bool} {cnt : Nat} {R : Value → Option (DataW Unit × List MemPlace)} (h : w.ranges Try.prog 26 R b r n D left cnt) : cnt ≤ n := by
  obtain ⟨es, clock, since, seen, c0, _, _, hs, _, _, _, hc, _⟩ := h
  rw [← hc]
  unfold leftOf
  exact Nat.le_trans (Array.size_filter_le ..) hs
theorem vk_same (u v : Nat) : (vk u).sameKey (vk v) = (u == v) := by
  unfold vk Lit.sameKey
  rw [Bool.eq_iff_iff, decide_eq_true_iff, beq_iff_eq]
  constructor
  · rintro ⟨_, h⟩; omega
  · rintro rfl; exact ⟨rfl, rfl⟩
/-- where the putting back stands -/
structure RgSt (F H M KB KH KM r n nk : Nat) (O0 : Nat → Prop) (w0 : World) (v kv : Value) (kl : List Itm) (g : Nat → Option Nat) (D : DataW Unit) (left : Lit → Bool) (cnt n' : Nat) (fm : Nat → Option Nat) (w : World) : Prop where
  rg : w.ranges Try.prog 26 (plainElem Try.prog 27) KM r nk D left cnt
  row : w.heap[F]? = some (.cells #[.pointer (some ⟨H, 0, none⟩), .map (some M)] 73 (0, 0))
  kp : FrAt KB KH KM nk w kv kl g
  map : FMap w M n' fm
  mv : Moves O0 (frO F H M v) w0 w
  bound : n' + cnt ≤ n + 17
  ne : ∀ b, (b = F ∨ frO KB KH KM kv b) → b ≠ M ∧ b ≠ r
  new : w0.heap.size ≤ r
section
variable {F H M KB KH KM r n nk : Nat} {O0 : Nat → Prop} {w0 : World} {v kv : Value} {kl : List Itm} {g fm : Nat → Option Nat} {D : DataW Unit} {left : Lit → Bool} {cnt n' : Nat} {w w1 w2 : World}
theorem RgSt.next (h : RgSt F H M KB KH KM r n nk O0 w0 v kv kl g D left cnt n' fm w) {left1 : Lit → Bool} {cnt1 : Nat} (hrg : w1.ranges Try.prog 26 (plainElem Try.prog 27) KM r nk D left1 cnt1) (hlt : cnt1 < cnt) (hg : w.grownBy w1 (some r)) (hM : M ≠ r) :
    RgSt F H M KB KH KM r n nk O0 w0 v kv kl g D left1 cnt1 n' fm w1 := by
  have hF : F < w.heap.size := (Array.getElem?_eq_some_iff.1 h.row).1
  refine ⟨hrg, (hg.block F hF fun e => (h.ne F (.inl rfl)).2 (by injection e)).trans h.row, h.kp.stay fun b hb => hg.block b (h.kp.lt b hb) fun e => (h.ne b (.inr hb)).2 (by injection e), h.map.same (hg.block M h.map.lt fun e => hM (by injection e)), ?_, by have := h.bound; omega, h.ne, h.new⟩
  exact h.mv.other (O := fun b => b = r) (O' := fun b => b = r) (Moves.of_grown hg rfl) fun b e => by rw [show b = r from e]; exact h.new
theorem RgSt.put (h : RgSt F H M KB KH KM r n nk O0 w0 v kv kl g D left cnt n' fm w) (hM : M ≠ r) {fm' : Nat → Option Nat} (hm : FMap w1 M (n' + 1) fm') (hg : w.grownBy w1 (some M)) (hc : n' + 1 + cnt ≤ n + 17) :
    RgSt F H M KB KH KM r n nk O0 w0 v kv kl g D left cnt (n' + 1) fm' w1 := by
  have hF : F < w.heap.size := (Array.getElem?_eq_some_iff.1 h.row).1
  have hK : KM ≠ M := (h.ne KM (.inr (.inr (.inr (.inl rfl))))).1
  refine ⟨h.rg.kept hg (fun e => hK (by injection e)) (fun e => hM (by injection e with e; exact e.symm)), (hg.block F hF fun e => (h.ne F (.inl rfl)).1 (by injection e)).trans h.row, h.kp.stay fun b hb => hg.block b (h.kp.lt b hb) fun e => (h.ne b (.inr hb)).1 (by injection e), hm, ?_, hc, h.ne, h.new⟩
  exact h.mv.trans (Moves.of_grown hg (.inr (.inr (.inl rfl))))
/-- what the map says while it is put back -/
def Back (g fk : Nat → Option Nat) (left : Lit → Bool) (u : Nat) : Option Nat := match g u with | some d => if left (vk u) = true then fk u else some d | none => fk u
theorem back_step {g fk : Nat → Option Nat} {left : Lit → Bool} {u d : Nat} (hg : g u = some d) : upd (Back g fk left) u d = Back g fk fun z => left z && !z.sameKey (vk u) := by
  funext a
  by_cases h : a = u
  · subst h
    rw [upd_same]
    unfold Back
    rw [hg]
    show _ = if (left (vk a) && !(vk a).sameKey (vk a)) = true then fk a else some d
    rw [vk_same, beq_self_eq_true, Bool.not_true, Bool.and_false, if_neg Bool.false_ne_true]
  · rw [upd_other _ _ h]
    unfold Back
    cases g a with
    | none => rfl
    | some e =>
      show (if left (vk a) = true then fk a else some e) = if (left (vk a) && !(vk a).sameKey (vk u)) = true then fk a else some e
      rw [vk_same, beq_eq_false_iff_ne.2 h, Bool.not_false, Bool.and_true]
theorem back_0 {fk : Nat → Option Nat} (h : ∀ u d, g u = some d → Maps.has D (vk u) = true) : Back g fk (Maps.has D) = fk := by
  funext u
  unfold Back
  cases hg : g u with
  | none => rfl
  | some d => exact if_pos (h u d hg)
theorem RgSt.start {f fk : Nat → Option Nat} {l0 l T : List Itm} (h : ShSt F H M n KB KH KM O0 w0 f l0 17 v kv l kl T fk g w) (hg : w.grownBy w1 none) (hrg : w1.ranges Try.prog 26 (plainElem Try.prog 27) KM w.heap.size T.length D (Maps.has D) (Maps.size D)) :
    RgSt F H M KB KH KM w.heap.size n T.length O0 w0 v kv kl g D (Maps.has D) (Maps.size D) n fk w1 := by
  have hb : Below w.heap.size w w1 := ⟨hg.os, hg.tape, hg.output, hg.size, fun k hk => hg.block k hk (by simp)⟩
  have hc := ranges_cnt hrg
  have hT := h.cut.le
  refine ⟨hrg, (h.fr.below hb).row, h.kp.below hb, h.fr.map.below hb, h.mv.below hb, by omega, fun b hb2 => ?_, h.mv.size⟩
  rcases hb2 with rfl | hb2
  · exact ⟨h.fr.ne.2.1, by have := h.fr.lt b (.inl rfl); omega⟩
  · exact ⟨fun e => h.apart b hb2 (.inr (.inr (.inl e))), by have := h.kp.lt b hb2; omega⟩
/-- the front with the heap that was kept -/
theorem RgSt.swap {f : Nat → Option Nat} {left : Lit → Bool} (h : RgSt F H M KB KH KM r n nk O0 w0 v kv kl g D left cnt n' f w) (hO : O0 F ∧ O0 M) (hlow : ∀ b, frO KB KH KM kv b → w0.heap.size ≤ b) (hF : F < w0.heap.size) :
    FrAt F KH M n' (w.setCell ⟨F, 0, none⟩ (.pointer (some ⟨KH, 0, none⟩))) kv kl f ∧ Moves O0 (frO F KH M kv) w0 (w.setCell ⟨F, 0, none⟩ (.pointer (some ⟨KH, 0, none⟩))) := by
  have hne : ∀ b, frO KB KH KM kv b → b ≠ F := fun b hb e => by have := hlow b hb; omega
  have hst : ∀ b, b ≠ F → (w.setCell ⟨F, 0, none⟩ (.pointer (some ⟨KH, 0, none⟩))).heap[b]? = w.heap[b]? := fun b hb => heap_setCell_other _ _ _ _ fun e => hb e
  refine ⟨⟨heap_setCell_same w F 0 _ _ (.pointer (some ⟨KH, 0, none⟩)) h.row, ⟨⟨(hst KH (hne KH (.inr (.inl rfl)))).trans h.kp.hp.oi.row, h.kp.hp.oi.own.same fun k hk => hst k (hne k (.inr (.inr (.inr hk))))⟩, h.kp.hp.heap⟩, h.map.same (hst M fun e => (h.ne F (.inl rfl)).1 e.symm)⟩, ?_⟩
  have h1 := h.mv.set (.inl hO.1) 0 (.pointer (some ⟨KH, 0, none⟩))
  refine ⟨h1.os, h1.tape, h1.output, h1.size, h1.block, fun b hb => ?_⟩
  rcases hb with rfl | rfl | rfl | hb
  · exact .inl hO.1
  · exact .inr (hlow b (.inr (.inl rfl)))
  · exact .inl hO.2
  · exact .inr (hlow b (.inr (.inr (.inr hb))))
theorem Kept.perm {f : Nat → Option Nat} {l0 T T' : List Itm} (h : Kept f l0 T) (hp : T'.Perm T) : Kept f l0 T' :=
  ⟨(hp.map Itm.id).nodup_iff.2 h.nodup, fun t ht => h.live t (hp.mem_iff.1 ht), fun y hy hl => (h.all y hy hl).imp hp.mem_iff.2 fun ⟨h1, h2⟩ => ⟨by rw [hp.length_eq]; exact h1, fun t ht => h2 t (hp.mem_iff.1 ht)⟩⟩
end
set_option maxRecDepth 100000 in
set_option maxHeartbeats 8000000 in
theorem shrink_any (F H M n : Nat) (v0 : Value) (l0 : List Itm) (f : Nat → Option Nat) (w : World) (h : FrAt F H M n w v0 l0 f) (hl : l0.length ≤ 65536) (hn : n < 4000000000000000000) :
    Calls Try.prog 41 #[.pointer (some ⟨F, 0, none⟩)] w fun e w' => e = .returned (.tuple #[]) ∧ ∃ H' v' l' n', FrAt F H' M n' w' v' l' f ∧ Kept f l0 l' ∧ l'.length ≤ 17 ∧ n' ≤ n + 17 ∧ Moves (frO F H M v0) (frO F H' M v') w w' := by
  have HF := Lib.hid h
  have HL := Lib.hid hl
  have HFl := Lib.hid (h.lt F (.inl rfl))
  clear h hl
  go_enter Try.func41, Try.ntmps41
  go_wp2_with fail
  refine (new_hp w).mono ?_
  rintro e w1 ⟨rfl, h1, hb1⟩
  have H1 := Lib.hid (fr_start w w1 h1)
  have HB1 := Lib.hid hb1
  clear h1 hb1
  have hmm := @run_makeMap Try.prog
  go_wp2_with fail
  have hbF : Below w.heap.size w ((w1.alloc (.map #[] 0)).alloc (.cells #[.pointer (some ⟨w.heap.size, 0, none⟩), .map (some w1.heap.size)] 73)) := (HB1.out.alloc HB1.out.size _).alloc (by have := HB1.out.size; simp; omega) _
  have HS0 := Lib.hid (ShSt.start HF.out HL.out hbF H1.out (by
    have h3 := HB1.out.size
    intro b hb
    rcases hb with rfl | rfl | rfl | hb
    · omega
    · omega
    · omega
    · simp [Value.ownBlock] at hb))
  clear hbF H1 HF HL
  have HB1s := HB1.out.size
  generalize w1.heap.size + 1 = KB at *
  generalize w1.heap.size = KM at *
  clear HB1
  go_loopw [12] (fun vk wr => ∃ (k : Nat) (v kv : Value) (l kl T : List Itm) (fk g : Nat → Option Nat), vk = .int .i64 k ∧ k ≤ 17 ∧ Hid (ShSt F H M n KB w.heap.size KM (frO F H M v0) w f l0 k v kv l kl T fk g wr)) (fun vk _ => 17 - (intOf vk).toNat)
  case atStart => exact ⟨0, _, _, _, _, _, _, _, rfl, by omega, HS0⟩
  case round =>
    clear HS0
    obtain ⟨k, v, kv, l, kl, T, fk, g, rfl, hk, HS⟩ := hrel
    by_cases hkl : k < 17
    · have k1 : (k : Int) < 17 := by omega
      have hTl : T.length ≤ 17 := Nat.le_trans HS.out.cut.le hk
      have hkll : kl.length = T.length := HS.out.perm.length_eq
      go_wp2_with fail
      refine (least_any F H M n v l fk wr HS.out.fr HS.out.len).mono ?_
      rintro e w5 ⟨v5, l5, m5, h5⟩
      rcases h5 with ⟨x, rfl, f5, t5⟩ | ⟨rfl, f5, rfl, t5⟩
      · have HCo := Lib.hid (come_new KB w.heap.size KM T.length kv kl g x.id x.key w5 (HS.out.kp1 m5) x.hid x.hkey (.inl (HS.out.cut.fresh t5).2.2) (by omega) (by omega))
        have HTk := Lib.hid (fun (w6 : World) kv' kl' (k2 : FrAt KB w.heap.size KM (T.length + 1) w6 kv' kl' (upd g x.id x.key)) (hp : kl'.Perm (kl ++ [x])) (m2 : Moves (frO KB w.heap.size KM kv) (frO KB w.heap.size KM kv') w5 w6) => HS.out.take m5 f5 t5 k2 hp m2)
        clear m5 f5 t5 HS
        go_wp2_with fail
        refine HCo.out.mono ?_
        rintro e w6 ⟨rfl, kv6, kl6, a6, p6, m6⟩
        have HS6 := Lib.hid (HTk.out w6 kv6 kl6 a6 p6 m6)
        clear a6 p6 m6 HTk HCo
        go_wp2_with fail
        go_roundw
        case rel => exact ⟨k + 1, _, _, _, _, _, _, _, by go_num, by omega, HS6⟩
        case measure => simp [intOf]; omega
      · have HS6 := Lib.hid (HS.out.miss m5 f5 rfl t5)
        clear m5 f5 t5 HS
        go_wp2_with fail
        go_roundw
        case rel => exact ⟨k + 1, _, _, _, _, _, _, _, by go_num, by omega, HS6⟩
        case measure => simp [intOf]; omega
    · have k1 : ¬ (k : Int) < 17 := by omega
      have hke : k = 17 := by omega
      subst hke
      have hTl : T.length ≤ 17 := HS.out.cut.le
      have c1 : wr.cell? ⟨KB, 1, none⟩ = some (.map (some KM)) := cell_of_row _ _ 1 _ _ _ HS.out.kp.row
      obtain ⟨D, hown, hD1, hD2⟩ := HS.out.kp.map
      go_wp2_with (first
        | (at_range; refine wpList_range_own _ rfl _ _ rfl 26 27 vkey_law Try.underlying71 _ KM T.length D rfl hown ?_; intro w5 hrg0 hg0 hs0)
        | go_in)
      have HR0 := Lib.hid (RgSt.start HS.out hg0 hrg0)
      rw [← back_0 (fk := fk) (fun u d hu => (hD1 u d hu).1)] at HR0
      have hMr : M ≠ wr.heap.size := by have := HS.out.fr.lt M (.inr (.inr (.inl rfl))); omega
      have HCu := Lib.hid HS.out.cut
      have HPm := Lib.hid HS.out.perm
      have HLo := Lib.hid HS.out.low
      have HD1 := Lib.hid hD1
      have HD2 := Lib.hid hD2
      clear hD1 hD2 hown hrg0 hg0 hs0 c1 HS hkl hk
      generalize wr.heap.size = r at *
      go_loopw [6] (fun _ wr => ∃ (left : Lit → Bool) (cnt n' : Nat), Hid (RgSt F H M KB w.heap.size KM r n T.length (frO F H M v0) w v kv kl g D left cnt n' (Back g fk left) wr)) (fun _ wr => wr.rangeLeft KM r)
      case atStart => exact ⟨_, _, _, HR0⟩
      case round =>
        clear HR0
        obtain ⟨left, cnt, n', HR⟩ := hrel
        go_wp2_with (first
          | (at_next; refine wpList_next_ranges_ii _ rfl _ rfl 26 27 .u32 .u64 vkey_law Try.underlying26 Try.underlying27 KM r T.length _ _ _ rfl HR.out.rg ?_ ?_)
          | go_in)
        · intro _ hl0
          have hbk : Back g fk left = f := by
            funext u
            have h1 := HCu.out.back u
            unfold Back
            cases hg : g u with
            | none => rw [hg] at h1; exact h1
            | some d =>
              rw [hg] at h1
              rw [← h1]
              exact if_neg (by rw [hl0]; exact Bool.false_ne_true)
          rw [hbk] at HR
          have HSw := Lib.hid (HR.out.swap ⟨.inl rfl, .inr (.inr (.inl rfl))⟩ HLo.out HFl.out)
          have fc : wr.cell? ⟨F, 0, none⟩ = some (.pointer (some ⟨H, 0, none⟩)) := cell_of_row _ _ 0 _ _ _ HR.out.row
          have ff : wr.frozen? ⟨F, 0, none⟩ = false := frozen_of_row _ _ _ _ _ HR.out.row
          have kc : wr.cell? ⟨KB, 0, none⟩ = some (.pointer (some ⟨w.heap.size, 0, none⟩)) := cell_of_row _ _ 0 _ _ _ HR.out.kp.row
          have HBo := Lib.hid HR.out.bound
          have HKl := Lib.hid HPm.out.length_eq
          clear hbk HR
          go_wp2_with fail
          go_end0
          exact ⟨rfl, w.heap.size, kv, kl, n', HSw.out.1, HCu.out.kept.perm HPm.out, by rw [HKl.out]; exact hTl, by have := HBo.out; omega, HSw.out.2⟩
        · intro x c w6 cnt1 hwx hwc hlx hat hrg1 hlt hg1 hs1 hen
          obtain ⟨u, rfl, hu⟩ := u32_bounds hwx
          obtain ⟨d, rfl, hd⟩ := u64_bounds hwc
          have hgu : g u = some d := by
            cases hg : g u with
            | none =>
              exfalso
              have h1 := Maps.atKey_of_not_has (HD2.out u hg) (.lit (.int .u64 ((d : Int) + 1)))
              have h2 := hat (.lit (.int .u64 ((d : Int) + 1)))
              have h3 : (DataW.lit (.int .u64 ((d : Int) + 1)) : DataW Unit) = .lit (.int .u64 (d : Int)) := h1.symm.trans h2
              injection h3 with h3
              injection h3 with _ h3
              omega
            | some e =>
              have h1 := (HD1.out u e hg).2.1 (.lit (.int .u64 0))
              have h2 := hat (.lit (.int .u64 0))
              have h3 : (DataW.lit (.int .u64 (e : Int)) : DataW Unit) = .lit (.int .u64 (d : Int)) := h1.symm.trans h2
              injection h3 with h3
              injection h3 with _ h3
              rw [show e = d by omega]
          have hb := HR.out.bound
          have HR6 := Lib.hid (HR.out.next hrg1 hlt hg1 hMr)
          obtain ⟨w7, hst, hm7, hg7⟩ := HR6.out.map.store (by omega) hu hd
          rw [back_step hgu] at hm7
          have HR7 := Lib.hid (HR6.out.put hMr hm7 hg7 (by omega))
          have fc : w6.cell? ⟨F, 1, none⟩ = some (.map (some M)) := cell_of_row _ _ 1 _ _ _ HR6.out.row
          have HLt := Lib.hid hlt
          clear hwx hwc hlx hat hrg1 hg1 hs1 hgu hb hm7 hg7 HR6 hlt
          go_wp2_with fail
          go_roundw
          case rel => exact ⟨_, cnt1, n' + 1, HR7⟩
          case measure => rw [HR7.out.rg.left_eq, HR.out.rg.left_eq]; exact HLt.out
end Go.Proofs.Ytpnmfhcmodoeiaa
