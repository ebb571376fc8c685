/- The library's contracts at this program, in the words of the path's walks; the path's walks without conditions. -/
import Derived.Test.YtihojcjijbidpaaDoorP2
import Derived.Test.YtihojcjijbidpaaDoorShelf
import Derived.Lib.LastIndexLaws
namespace Go.Proofs.YtihojcjijbidpaaDoor
open Go.RowKit Go.Shelf Go.Sort

theorem lastIndexSaid : LastIndexSaid := fun s sub hs w => Any.strings_LastIndex Tryd.lLastIndex s sub hs w
theorem splitSaid : SplitSaid := fun s sep m w hs hm h1 => Any.strings_Split Tryd.lSplit (by kernel_rfl) s sep m w hs hm h1
theorem containsSaid : ContainsSaid := fun enc p g lb eg b off n c zs w hp hz hbig hc => AnyE.slices_ContainsFunc Tryd.lContains enc p g lb eg b off n c zs w hp hz hbig hc
theorem bytesClone_at (a : Addr) (n c : Nat) (xs : List Int) (w : World) (hx : xs.length = n) (hbig : n ≤ 140737488355328) (hc : ∀ i, i < n → w.cell? (a.add i) = some (.int .u8 (xs.getD i 0))) :
    Calls Tryd.prog 23 #[.slice (some a) n c] w fun e w' => ∃ v', e = .returned v' ∧ w'.ownsRow w.heap.size 5 1 v' n (xs.map (Value.int .u8)) ∧ v' ≠ .slice none 0 0 ∧ Below w.heap.size w w' := Any.bytes_Clone_at Tryd.lClone a n c xs w hx hbig hc
theorem bytesClone_nil (n c : Nat) (w : World) : Calls Tryd.prog 23 #[.slice none n c] w fun e w' => e = .returned (.slice none 0 0) ∧ w' = w := Any.bytes_Clone_nil Tryd.lClone n c w
theorem mapsClone_calls (b : Nat) (es : Array MapEntry) (clock : Nat) (w : World) (hb : w.heap[b]? = some (.map es clock)) :
    Calls Tryd.prog 29 #[.map (some b)] w fun e w' => e = .returned (.map (some w.heap.size)) ∧ w' = w.alloc (.map es clock) := AnyW.maps_Clone Tryd.lMapsClone b es clock w hb

theorem lastSlash_range (p : ByteArray) : -1 ≤ lastSlash p ∧ lastSlash p < p.size := by
  have key : ∀ k : Nat, k ≤ p.size → -1 ≤ Lib.lastOcc p.data.toList [47] k ∧ Lib.lastOcc p.data.toList [47] k < p.size := by
    intro k hk
    rcases Lib.lastOcc_spec p.data.toList [47] k with ⟨e, _⟩ | ⟨i, hi, e, _⟩
    · rw [e]; omega
    · rw [e]; omega
  have hl : p.data.toList.length = p.size := by simp
  unfold lastSlash Lib.lastIndex
  split
  · rename_i h
    exact key _ (by rw [hl] at h ⊢; simp at h ⊢; omega)
  · omega
theorem Parent_is (p : ByteArray) (w : World) (hs : p.size ≤ 1000000) : Calls Tryd.prog 42 #[.string p] w fun e w' => e = .returned (.string (parentB p)) ∧ ∃ n, w' = w.drewN n :=
  Parent_calls lastIndexSaid p w hs (lastSlash_range p).1 (lastSlash_range p).2
end Go.Proofs.YtihojcjijbidpaaDoor
