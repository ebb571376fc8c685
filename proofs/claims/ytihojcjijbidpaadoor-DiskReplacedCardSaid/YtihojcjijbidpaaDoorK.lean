/- Plain facts on worlds: what a call leaves alone, and how the disk's parts lie in memory. No function of the program stands in it. -/
import Derived.WalkKit
import Derived.Below
import Derived.OneCell
import Derived.OwnWalk
import Derived.Maps.Own
import Derived.Lib.Hide
import Derived.Deep.Draws
import Derived.WalkSmall
namespace Go.Proofs.YtihojcjijbidpaaDoor
open Go.RowKit

/-- The old blocks outside O are as they were; what may be written later (M') was, if old, so before (M). -/
structure Goes (O M M' : Nat → Prop) (w w' : World) : Prop where
  os : w'.os = w.os
  tape : w'.tape = w.tape
  output : w'.output = w.output
  size : w.heap.size ≤ w'.heap.size
  block : ∀ k, k < w.heap.size → ¬ O k → w'.heap[k]? = w.heap[k]?
  back : ∀ k, M' k → M k ∨ (w.heap.size ≤ k ∧ k < w'.heap.size)
  new : ∀ k, M k → M' k

theorem Goes.old {O M M' : Nat → Prop} {w w' : World} (h : Goes O M M' w w') (k : Nat) (hk : k < w.heap.size) (q : M' k) : M k := by
  rcases h.back k q with q | q
  · exact q
  · omega
theorem Goes.refl (O M : Nat → Prop) (w : World) : Goes O M M w w := ⟨rfl, rfl, rfl, Nat.le_refl _, fun _ _ _ => rfl, fun _ h => .inl h, fun _ h => h⟩

theorem Goes.of_below {w w' : World} (h : Below w.heap.size w w') (O M : Nat → Prop) : Goes O M M w w' :=
  ⟨h.os, h.tape, h.output, h.size, fun k hk _ => h.block k hk, fun _ h => .inl h, fun _ h => h⟩

theorem Goes.of_drewN (O M : Nat → Prop) (w : World) (n : Nat) : Goes O M M w (w.drewN n) :=
  ⟨rfl, rfl, rfl, Nat.le_refl _, fun _ _ _ => rfl, fun _ h => .inl h, fun _ h => h⟩

/-- Two steps: what the second writes that is old was free to be written by the first. -/
theorem Goes.trans {O O' M M' M'' : Nat → Prop} {a b c : World} (h : Goes O M M' a b) (k : Goes O' M' M'' b c) (hO : ∀ i, i < a.heap.size → O' i → O i) : Goes O M M'' a c :=
  ⟨k.os.trans h.os, k.tape.trans h.tape, k.output.trans h.output, Nat.le_trans h.size k.size,
   fun i hi ho => (k.block i (Nat.lt_of_lt_of_le hi h.size) (fun q => ho (hO i hi q))).trans (h.block i hi ho),
   fun i q => by
     rcases k.back i q with q | ⟨q1, q2⟩
     · rcases h.back i q with q | ⟨q1, q2⟩
       · exact .inl q
       · exact .inr ⟨q1, Nat.lt_of_lt_of_le q2 k.size⟩
     · exact .inr ⟨Nat.le_trans h.size q1, q2⟩, fun i q => k.new i (h.new i q)⟩

theorem Goes.wide {O O' M M' : Nat → Prop} {a b : World} (h : Goes O M M' a b) (hO : ∀ i, i < a.heap.size → O i → O' i) : Goes O' M M' a b :=
  ⟨h.os, h.tape, h.output, h.size, fun i hi ho => h.block i hi (fun q => ho (hO i hi q)), h.back, h.new⟩

theorem Goes.quietly {O M M' : Nat → Prop} {a b c : World} (h : Goes (fun _ => False) M M a b) (k : Goes O M M' b c) : Goes O M M' a c := (h.wide (fun _ _ q => q.elim)).trans k (fun _ _ q => q)
theorem Goes.cell {O M M' : Nat → Prop} {w w' : World} (h : Goes O M M' w w') {a : Addr} (ha : a.block < w.heap.size) (ho : ¬ O a.block) : w'.cell? a = w.cell? a := World.cell?_of_block (h.block _ ha ho)
theorem Goes.frozen {O M M' : Nat → Prop} {w w' : World} (h : Goes O M M' w w') {a : Addr} (ha : a.block < w.heap.size) (ho : ¬ O a.block) : w'.frozen? a = w.frozen? a := World.frozen?_of_block (h.block _ ha ho)

/-- Nothing old is written: as Below says it. -/
theorem Goes.below {O M M' : Nat → Prop} {w w' : World} (h : Goes O M M' w w') {B : Nat} (hB : ∀ k, k < B → ¬ O k) (hs : B ≤ w.heap.size) : Below B w w' :=
  ⟨h.os, h.tape, h.output, h.size, fun k hk => h.block k (Nat.lt_of_lt_of_le hk hs) (hB k hk)⟩

theorem below_goes {O M : Nat → Prop} {w w' : World} {B : Nat} (h : Below B w w') (hO : ∀ k, k < w.heap.size → B ≤ k → O k) : Goes O M M w w' :=
  ⟨h.os, h.tape, h.output, h.size, fun k hk ho => h.block k (by
    rcases Nat.lt_or_ge k B with q | q
    · exact q
    · exact absurd (hO k hk q) ho), fun _ h => .inl h, fun _ h => h⟩

theorem goes_alloc (O M : Nat → Prop) (w : World) (o : Obj) : Goes O M M w (w.alloc o) := Goes.of_below ((Below.refl _ w).alloc (Nat.le_refl _) o) O M

theorem goes_setCell {O : Nat → Prop} (M : Nat → Prop) (w : World) (a : Addr) (v : Value) (h : O a.block) : Goes O M M w (w.setCell a v) :=
  ⟨rfl, rfl, rfl, by simp, fun k hk ho => Below.heap_setCell _ _ _ _ (fun e => ho (e ▸ h)), fun _ h => .inl h, fun _ h => h⟩

theorem goes_grown {O : Nat → Prop} (M : Nat → Prop) {w w' : World} {row : Option Nat} (h : w.grownBy w' row) (hr : ∀ k, row = some k → O k) : Goes O M M w w' :=
  ⟨h.os, h.tape, h.output, h.size, fun k hk ho => h.block k hk (fun e => ho (hr k e.symm)), fun _ h => .inl h, fun _ h => h⟩

/-! ### bytes -/
def b8 (x : UInt8) : Value := .int .u8 x.toNat

/-- v is a slice of the bytes l, that nobody writes (an empty one may lie anywhere). -/
def BytesAt (w : World) (M : Nat → Prop) (v : Value) (l : List UInt8) : Prop :=
  (∃ a c, v = .slice a 0 c ∧ l = [] ∧ (a = none → c = 0)) ∨
  ∃ b o c, v = .slice (some ⟨b, o, none⟩) l.length c ∧ l.length ≤ c ∧ b < w.heap.size ∧ ¬ M b ∧ ∀ i (h : i < l.length), w.cell? ⟨b, o + i, none⟩ = some (b8 l[i])

theorem BytesAt.goes {O M M' : Nat → Prop} {w w' : World} {v : Value} {l : List UInt8} (h : BytesAt w M v l) (hg : Goes O M M' w w') (hO : ∀ k, O k → M k) : BytesAt w' M' v l := by
  rcases h with h | ⟨b, o, c, rfl, h1, h2, h3, h4⟩
  · exact .inl h
  · refine .inr ⟨b, o, c, rfl, h1, Nat.lt_of_lt_of_le h2 hg.size, fun q => h3 (hg.old b h2 q), fun i hi => ?_⟩
    rw [← h4 i hi]
    exact hg.cell h2 (fun q => h3 (hO b q))

/-! ### the disk's data -/
structure Nd where
  dir : Bool
  id : Nat
  deriving DecidableEq
instance : Inhabited Nd := ⟨⟨false, 0⟩⟩
def Nd.val (x : Nd) : Value := .agg #[.bool x.dir, .int .i64 x.id]

structure PFile where
  b : List UInt8
  safe : Nat
abbrev Change := List (ByteArray × Option Nd)
abbrev Names := List (ByteArray × Nd)

/-- A disk as the program has it. -/
structure PD where
  cap : Nat
  sure : Names
  now : Names
  loose : List Change
  files : List PFile
  down : Bool
  ops : Int
  fails : Int
  done : Bool
  wrong : Int

/-- Block b is a map of names, in the order in which they came. -/
def MapAt (w : World) (b : Nat) (m : Names) : Prop :=
  ∃ es clock, w.heap[b]? = some (.map es clock) ∧ es.toList.map (fun e => (e.key, e.val)) = m.map (fun p => (Value.string p.1, p.2.val)) ∧
    MapKept.Stamped es clock ∧ (m.map (·.1)).Nodup

def NodeAt (w : World) (M : Nat → Prop) (v : Value) : Option Nd → Prop
  | none => v = .pointer none
  | some x => ∃ b, v = .pointer (some ⟨b, 0, none⟩) ∧ b < w.heap.size ∧ ¬ M b ∧ w.cell? ⟨b, 0, none⟩ = some (.bool x.dir) ∧ w.cell? ⟨b, 1, none⟩ = some (.int .i64 x.id)

/-- vp, vn are the slices of a change's paths and nodes. -/
def ChangeAt (w : World) (M : Nat → Prop) (vp vn : Value) (c : Change) : Prop :=
  ∃ bp bn cp cn, vp = .slice (some ⟨bp, 0, none⟩) c.length cp ∧ vn = .slice (some ⟨bn, 0, none⟩) c.length cn ∧ c.length ≤ cp ∧ c.length ≤ cn ∧ bp < w.heap.size ∧ bn < w.heap.size ∧ ¬ M bp ∧ ¬ M bn ∧
    ∀ i (h : i < c.length), w.cell? ⟨bp, i, none⟩ = some (.string c[i].1) ∧ ∃ v, w.cell? ⟨bn, i, none⟩ = some v ∧ NodeAt w M v c[i].2

def LooseAt (w : World) (M : Nat → Prop) (v : Value) (l : List Change) : Prop :=
  (v = .slice none 0 0 ∧ l = []) ∨
  ∃ b cap, v = .slice (some ⟨b, 0, none⟩) l.length cap ∧ l.length ≤ cap ∧ b < w.heap.size ∧ ¬ M b ∧
    ∀ i (h : i < l.length), ∃ vp vn, w.cell? ⟨b, i * 2, none⟩ = some vp ∧ w.cell? ⟨b, i * 2 + 1, none⟩ = some vn ∧ ChangeAt w M vp vn l[i]

/-- A file's two cells. -/
def FileCells (w : World) (M : Nat → Prop) (vs : List Value) (fs : List PFile) : Prop :=
  vs.length = fs.length * 2 ∧ ∀ i (h : i < fs.length), ∃ vb, vs[i * 2]? = some vb ∧ vs[i * 2 + 1]? = some (.int .i64 (fs[i].safe : Int)) ∧ BytesAt w M vb fs[i].b

theorem NodeAt.goes {O M M' : Nat → Prop} {w w' : World} {v : Value} {x : Option Nd} (h : NodeAt w M v x) (hg : Goes O M M' w w') (hO : ∀ k, O k → M k) : NodeAt w' M' v x := by
  cases x with
  | none => exact h
  | some x =>
    obtain ⟨b, rfl, h1, h2, h3, h4⟩ := h
    exact ⟨b, rfl, Nat.lt_of_lt_of_le h1 hg.size, fun q => h2 (hg.old b h1 q), (hg.cell h1 (fun q => h2 (hO b q))).trans h3, (hg.cell h1 (fun q => h2 (hO b q))).trans h4⟩

theorem ChangeAt.goes {O M M' : Nat → Prop} {w w' : World} {vp vn : Value} {c : Change} (h : ChangeAt w M vp vn c) (hg : Goes O M M' w w') (hO : ∀ k, O k → M k) : ChangeAt w' M' vp vn c := by
  obtain ⟨bp, bn, cp, cn, rfl, rfl, h1, h2, h3, h4, h5, h6, h7⟩ := h
  refine ⟨bp, bn, cp, cn, rfl, rfl, h1, h2, Nat.lt_of_lt_of_le h3 hg.size, Nat.lt_of_lt_of_le h4 hg.size, fun q => h5 (hg.old _ h3 q), fun q => h6 (hg.old _ h4 q), fun i hi => ?_⟩
  obtain ⟨e1, v, e2, e3⟩ := h7 i hi
  exact ⟨(hg.cell h3 (fun q => h5 (hO _ q))).trans e1, v, (hg.cell h4 (fun q => h6 (hO _ q))).trans e2, e3.goes hg hO⟩

theorem LooseAt.goes {O M M' : Nat → Prop} {w w' : World} {v : Value} {l : List Change} (h : LooseAt w M v l) (hg : Goes O M M' w w') (hO : ∀ k, O k → M k) : LooseAt w' M' v l := by
  rcases h with h | ⟨b, cap, rfl, h1, h2, h3, h4⟩
  · exact .inl h
  · refine .inr ⟨b, cap, rfl, h1, Nat.lt_of_lt_of_le h2 hg.size, fun q => h3 (hg.old b h2 q), fun i hi => ?_⟩
    obtain ⟨vp, vn, e1, e2, e3⟩ := h4 i hi
    exact ⟨vp, vn, (hg.cell h2 (fun q => h3 (hO b q))).trans e1, (hg.cell h2 (fun q => h3 (hO b q))).trans e2, e3.goes hg hO⟩

theorem FileCells.goes {O M M' : Nat → Prop} {w w' : World} {vs : List Value} {fs : List PFile} (h : FileCells w M vs fs) (hg : Goes O M M' w w') (hO : ∀ k, O k → M k) : FileCells w' M' vs fs := by
  obtain ⟨h1, h2⟩ := h
  refine ⟨h1, fun i hi => ?_⟩
  obtain ⟨vb, e1, e2, e3⟩ := h2 i hi
  exact ⟨vb, e1, e2, e3.goes hg hO⟩

theorem MapAt.kept {w w' : World} {b : Nat} {m : Names} (h : MapAt w b m) (e : w'.heap[b]? = w.heap[b]?) : MapAt w' b m := by
  obtain ⟨es, clock, h1, h2⟩ := h
  exact ⟨es, clock, e.trans h1, h2⟩
theorem MapAt.lt {w : World} {b : Nat} {m : Names} (h : MapAt w b m) : b < w.heap.size := by
  obtain ⟨es, clock, h1, _⟩ := h
  exact (Array.getElem?_eq_some_iff.1 h1).1

end Go.Proofs.YtihojcjijbidpaaDoor
