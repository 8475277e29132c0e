/- Edges: plain words, and how they lie in memory. -/
import Derived.Test.YtpnmfhcmodoeiaaRows
import Derived.Test.YtpnmfhcmodoeiaaG
import Derived.Test.YtpnmfhcmodoeiaaAp
namespace Go.Proofs.Ytpnmfhcmodoeiaa
open Go.RowKit

structure Edg where
  tail : Nat
  head : Nat
  weight : Nat
  mid : Nat
  htail : tail < 4294967296
  hhead : head < 4294967296
  hweight : weight < 18446744073709551616
  hmid : mid < 4294967296
def Edg.cells (x : Edg) : Array Value := #[.int .u32 (x.tail : Int), .int .u32 (x.head : Int), .int .u64 (x.weight : Int), .int .u32 (x.mid : Int)]
def Edg.enc (x : Edg) : List Value := [.int .u32 (x.tail : Int), .int .u32 (x.head : Int), .int .u64 (x.weight : Int), .int .u32 (x.mid : Int)]
def Edg.agg (x : Edg) : Value := .agg #[.int .u32 (x.tail : Int), .int .u32 (x.head : Int), .int .u64 (x.weight : Int), .int .u32 (x.mid : Int)]
theorem Edg.ext_ {a b : Edg} (h1 : a.tail = b.tail) (h2 : a.head = b.head) (h3 : a.weight = b.weight) (h4 : a.mid = b.mid) : a = b := by
  cases a; cases b; simp only at h1 h2 h3 h4; subst h1 h2 h3 h4; rfl
instance : DecidableEq Edg := fun a b =>
  if h : a.tail = b.tail ∧ a.head = b.head ∧ a.weight = b.weight ∧ a.mid = b.mid then .isTrue (Edg.ext_ h.1 h.2.1 h.2.2.1 h.2.2.2)
  else .isFalse (fun e => h (by subst e; exact ⟨rfl, rfl, rfl, rfl⟩))
/-- the empty edge -/
def Edg.nil : Edg := ⟨0, 0, 0, 0, by omega, by omega, by omega, by omega⟩

abbrev ELs := SR 4 Edg.enc
theorem ELs.at' {B : Nat} {w : World} {A : Option Addr} {l : List Edg} (h : ELs B w A l) (i : Nat) (hi : i < l.length) :
    ∃ b o : Nat, A = some ⟨b, o, none⟩ ∧ b < B ∧ w.cell? ⟨b, o + i * 4, none⟩ = some (.int .u32 (l[i].tail : Int)) ∧ w.cell? ⟨b, o + i * 4 + 1, none⟩ = some (.int .u32 (l[i].head : Int)) ∧
      w.cell? ⟨b, o + i * 4 + 2, none⟩ = some (.int .u64 (l[i].weight : Int)) ∧ w.cell? ⟨b, o + i * 4 + 3, none⟩ = some (.int .u32 (l[i].mid : Int)) := by
  obtain ⟨b, o, hA, hb, hc⟩ := h.at_ i hi
  exact ⟨b, o, hA, hb, hc 0 _ rfl, hc 1 _ rfl, hc 2 _ rfl, hc 3 _ rfl⟩
theorem ELs.row {B : Nat} {w : World} {p o : Nat} {l : List Edg} (h : ELs B w (some ⟨p, o, none⟩) l) (i : Nat) (hi : i < l.length) :
    w.cell? ⟨p, o + i * 4, none⟩ = some (.int .u32 (l[i].tail : Int)) ∧ w.cell? ⟨p, o + i * 4 + 1, none⟩ = some (.int .u32 (l[i].head : Int)) ∧
      w.cell? ⟨p, o + i * 4 + 2, none⟩ = some (.int .u64 (l[i].weight : Int)) ∧ w.cell? ⟨p, o + i * 4 + 3, none⟩ = some (.int .u32 (l[i].mid : Int)) := by
  obtain ⟨b', o', hA, _, h0⟩ := ELs.at' h i hi
  obtain ⟨rfl, rfl⟩ : p = b' ∧ o = o' := by simpa using hA
  exact h0

theorem cell_new (w : World) (cs : Array Value) (t : TypeId) (k : Nat) : (w.alloc (.cells cs t)).cell? ⟨w.heap.size, k, none⟩ = cs[k]? :=
  cell_of_row _ _ k cs t (0, 0) (heap_alloc_new w _)
theorem edge_info : (Try.prog.info? 67).map (fun i => (i.zero, i.size, i.bytes)) = some (some (.agg #[.int .u32 0, .int .u32 0, .int .u64 0, .int .u32 0]), 4, 24) := by kernel_rfl
theorem edge_ety : Ety Try.prog 22 67 4 24 Edg.enc := by
  obtain ⟨i, hi, hz, hs, hb⟩ := info_parts edge_info
  exact ⟨Try.underlying22, ⟨i, _, hi, hz, hs, hb, rfl⟩, by omega, fun _ => rfl, fun x u hu => by simp [Edg.enc] at hu; rcases hu with rfl | rfl | rfl | rfl <;> rfl⟩
theorem own_els {w : World} {base : Nat} {A : Option Addr} {n c : Nat} {l : List Edg} (h : OwnS w base 67 4 Edg.enc (.slice A n c) l) (hm : l.length ≤ 4611686018427387904) : ELs w.heap.size w A l :=
  OwnS.sr (fun _ => rfl) h hm
end Go.Proofs.Ytpnmfhcmodoeiaa
