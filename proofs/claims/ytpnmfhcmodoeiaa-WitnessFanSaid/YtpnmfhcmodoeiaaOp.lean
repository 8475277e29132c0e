/- Arguments that are slices, opened to lists of elements. -/
import Derived.Test.YtpnmfhcmodoeiaaLaw
namespace Go.Proofs.Ytpnmfhcmodoeiaa
open Go.ChangeShapes Go.WideShapes Go.ChangeAt Go.RowKit Go.Deep

theorem open_list {H : Type} {encT : TypeId × Value → H} {P : Program} {W : World} {α : Type} {sz : Nat} {enc : α → List Value} {t e : TypeId} (ht : P.underlying t = some (.slice e)) (hC : P.cellsOf e = sz) (hsz : 0 < sz) (hlen : ∀ x, (enc x).length = sz)
    (hdec : ∀ (fuel : Nat) (cs' : List Value) (y : DataW H × List MemPlace), DataW.trod encT P W 0 (fun _ => true) true fuel e cs' = some y → ∃ x : α, enc x = cs')
    {v : Value} {d : DataW H} {p : List MemPlace} (hv : ∃ a len cap, v = .slice a len cap) (h : DataW.Trod encT P W 0 (fun _ => true) true t v d p) (hlt : ∀ x ∈ p, x.block < W.heap.size) :
    ∃ A len c, v = .slice A len c ∧ len ≤ maxLen ∧ (len ≤ 4611686018427387904 → ∃ l : List α, l.length = len ∧ SR sz enc W.heap.size W A l) := by
  obtain ⟨a0, len0, cap0, rfl⟩ := hv
  obtain ⟨fuel, hf⟩ := h
  rcases open_slice ht hf with ⟨hcs, _⟩ | ⟨a, len, cap, m, n, D, Pl, hcs, _, hl, hm, hmm, hx, hi⟩
  · simp [Value.cells] at hcs
    obtain ⟨rfl, rfl, rfl⟩ := hcs
    exact ⟨none, 0, 0, rfl, Nat.zero_le _, fun _ => ⟨[], rfl, SR.nil _ _ _ _ _⟩⟩
  · simp [Value.cells] at hcs
    obtain ⟨rfl, rfl, rfl⟩ := hcs
    simp only [if_true] at hmm
    subst hmm
    refine ⟨_, _, _, rfl, Nat.le_trans hl hm, fun hbig => ?_⟩
    rw [hC] at hi hx
    have hex : ∀ i, i < len0 → ∃ x : α, ∀ j u, (enc x)[j]? = some u → W.cell? (a.add (i * sz + j)) = some u := by
      intro i hil
      obtain ⟨cs', h1, h2⟩ := hi i (by omega)
      obtain ⟨x, hx⟩ := hdec _ _ _ h2
      obtain ⟨_, hcl, hat⟩ := World.cells?_some h1
      refine ⟨x, fun j u hu => ?_⟩
      have hj : j < sz := by rw [← hlen x]; exact (List.getElem?_eq_some_iff.1 hu).1
      have := hat j hj
      rw [Go.Deep.add_add] at this
      rw [this, ← hx]; exact hu
    obtain ⟨f, hf2⟩ := Classical.axiomOfChoice (fun i : {i // i < len0} => hex i.1 i.2)
    refine ⟨(List.finRange len0).map fun i => f ⟨i.1, i.2⟩, by simp, by simpa using hbig, fun i hi' => ?_⟩
    have hil : i < len0 := by simpa using hi'
    have hget : ((List.finRange len0).map fun i => f ⟨i.1, i.2⟩)[i] = f ⟨i, hil⟩ := by simp
    obtain ⟨b, o, s⟩ := a
    have h0 := hf2 ⟨0, by omega⟩ 0 _ (List.getElem?_eq_getElem (by rw [hlen]; exact hsz))
    have hs : s = none := by
      have := World.cell?_spot h0
      simpa [Addr.add] using this
    subst hs
    have hadd : ∀ k, (⟨b, o, none⟩ : Addr).add k = ⟨b, o + k, none⟩ := fun k => by unfold Addr.add; split <;> simp_all
    have hbW : b < W.heap.size := hlt (.cell b o) (by
      simp only [Prod.mk.injEq] at hx
      rw [hx.2]
      exact List.mem_append_left _ (MemPlace.mem_row.2 ⟨0, Nat.mul_pos (by omega) hsz, by simp⟩))
    refine ⟨b, o, rfl, hbW, fun j u hu => ?_⟩
    rw [hget] at hu
    have := hf2 ⟨i, hil⟩ j u hu
    rwa [hadd, ← Nat.add_assoc] at this
end Go.Proofs.Ytpnmfhcmodoeiaa
