/- What every call on a disk keeps: plain. -/
import Derived.Test.YtihojcjijbidpaaDoorD29
namespace Go.Proofs.YtihojcjijbidpaaDoor
open Go.RowKit Go.Shelf Go.Sort

theorem mem_setM {p : ByteArray} {x : Nd} {q : ByteArray × Nd} : ∀ {m : Names}, q ∈ setM m p x → q ∈ m ∨ q = (p, x)
  | [], h => by simp [setM] at h; exact .inr h
  | r :: m, h => by
    unfold setM at h
    split at h
    · rcases List.mem_cons.1 h with e | h
      · exact .inr e
      · exact .inl (List.mem_cons_of_mem _ h)
    · rcases List.mem_cons.1 h with e | h
      · exact .inl (e ▸ List.mem_cons_self)
      · rcases mem_setM h with h | h
        · exact .inl (List.mem_cons_of_mem _ h)
        · exact .inr h
theorem mem_delM {p : ByteArray} {q : ByteArray × Nd} : ∀ {m : Names}, q ∈ delM m p → q ∈ m
  | [], h => by simp [delM] at h
  | r :: m, h => by
    unfold delM at h
    split at h
    · exact List.mem_cons_of_mem _ h
    · rcases List.mem_cons.1 h with e | h
      · exact e ▸ List.mem_cons_self
      · exact List.mem_cons_of_mem _ (mem_delM h)
theorem length_setM (p : ByteArray) (x : Nd) : ∀ m : Names, (setM m p x).length ≤ m.length + 1
  | [] => by simp [setM]
  | r :: m => by
    unfold setM
    split
    · simp
    · have := length_setM p x m; simp; omega
theorem length_delM (p : ByteArray) : ∀ m : Names, (delM m p).length ≤ m.length
  | [] => by simp [delM]
  | r :: m => by
    unfold delM
    split
    · simp
    · have := length_delM p m; simp; omega

theorem mem_applyM {q : ByteArray × Nd} : ∀ {c : Change} {m : Names}, q ∈ applyM m c → q ∈ m ∨ (q.1, some q.2) ∈ c
  | [], m, h => .inl h
  | (p, none) :: c, m, h => by
    rcases mem_applyM (c := c) (m := delM m p) h with h | h
    · exact .inl (mem_delM h)
    · exact .inr (List.mem_cons_of_mem _ h)
  | (p, some x) :: c, m, h => by
    rcases mem_applyM (c := c) (m := setM m p x) h with h | h
    · rcases mem_setM h with h | h
      · exact .inl h
      · exact .inr (by rw [h]; exact List.mem_cons_self)
    · exact .inr (List.mem_cons_of_mem _ h)
theorem length_applyM : ∀ (c : Change) (m : Names), (applyM m c).length ≤ m.length + c.length
  | [], m => Nat.le_refl _
  | (p, none) :: c, m => by
    have h1 := length_applyM c (delM m p)
    have h2 := length_delM p m
    show (applyM (delM m p) c).length ≤ _
    simp; omega
  | (p, some x) :: c, m => by
    have h1 := length_applyM c (setM m p x)
    have h2 := length_setM p x m
    show (applyM (setM m p x) c).length ≤ _
    simp; omega

def GoodNd (n : Nat) (x : Nd) : Prop := (x.dir = true → x.id = 0) ∧ (x.dir = false → x.id < n)
def GoodNames (n : Nat) (m : Names) : Prop := ∀ q ∈ m, checkB q.1 = 0 ∧ GoodNd n q.2
def GoodChange (n : Nat) (c : Change) : Prop := c.length ≤ 2 ∧ ∀ q ∈ c, checkB q.1 = 0 ∧ ∀ x, q.2 = some x → GoodNd n x
theorem GoodNd.mono {n n' : Nat} {x : Nd} (h : GoodNd n x) (hn : n ≤ n') : GoodNd n' x := ⟨h.1, fun e => Nat.lt_of_lt_of_le (h.2 e) hn⟩
theorem GoodNames.apply {n : Nat} {m : Names} {c : Change} (h : GoodNames n m) (hc : GoodChange n c) : GoodNames n (applyM m c) := fun q hq => by
  rcases mem_applyM hq with q1 | q1
  · exact h q q1
  · exact ⟨(hc.2 _ q1).1, (hc.2 _ q1).2 _ rfl⟩
theorem GoodNames.fold {n : Nat} : ∀ {l : List Change} {m : Names}, GoodNames n m → (∀ c ∈ l, GoodChange n c) → GoodNames n (l.foldl applyM m)
  | [], _, h, _ => h
  | c :: l, m, h, hl => GoodNames.fold (l := l) (m := applyM m c) (h.apply (hl c List.mem_cons_self)) (fun c' h' => hl c' (List.mem_cons_of_mem _ h'))
theorem length_fold {n : Nat} : ∀ {l : List Change} {m : Names}, (∀ c ∈ l, GoodChange n c) → (l.foldl applyM m).length ≤ m.length + 2 * l.length
  | [], _, _ => by simp
  | c :: l, m, hl => by
    have h1 := length_fold (l := l) (m := applyM m c) (fun c' h' => hl c' (List.mem_cons_of_mem _ h'))
    have h2 := length_applyM c m
    have h3 := (hl c List.mem_cons_self).1
    simp only [List.foldl_cons, List.length_cons]; omega

/-- Behind n calls, that brought at most b bytes. -/
structure PD.Inv (n b : Nat) (D : PD) : Prop where
  cap : D.cap ≤ 16777216
  ops0 : 0 ≤ D.ops
  ops1 : D.ops ≤ n
  fails0 : -1 ≤ D.fails
  fails1 : D.fails ≤ 9223372036854775807
  wrong0 : -1 ≤ D.wrong
  wrong1 : D.wrong ≤ 9223372036854775807
  nowEq : D.now = D.loose.foldl applyM D.sure
  pot : D.sure.length + 2 * D.loose.length ≤ 2 * n
  files : D.files.length ≤ n
  bytes : ∀ f ∈ D.files, f.b.length ≤ b ∧ f.safe ≤ f.b.length
  sure : GoodNames D.files.length D.sure
  loose : ∀ c ∈ D.loose, GoodChange D.files.length c

section
variable {n b : Nat} {D : PD}
theorem PD.Inv.now (h : D.Inv n b) : GoodNames D.files.length D.now := by rw [h.nowEq]; exact h.sure.fold h.loose
theorem PD.Inv.nowLen (h : D.Inv n b) : D.now.length ≤ 2 * n := by
  have := length_fold (m := D.sure) h.loose
  rw [h.nowEq]
  have := h.pot
  omega
theorem PD.Inv.fine (h : D.Inv n b) (hn : n ≤ 100000) (hb : b ≤ 16777216) : D.Fine := by
  have hp := h.pot
  refine ⟨h.cap, h.ops0, by have := h.ops1; omega, h.fails0, h.fails1, h.wrong0, h.wrong1, by have := h.files; omega, by omega, by have := h.nowLen; omega, by omega, fun f hf => ⟨by have := (h.bytes f hf).1; omega, (h.bytes f hf).2⟩,
    fun p hp e => (h.sure p hp).2.2 e, fun p hp e => (h.now p hp).2.2 e, fun c hc p hp x e e2 => ((h.loose c hc).2 p hp).2 x e |>.2 e2, fun p hp => ?_, fun p hp => (h.now p hp).1, fun p hp => (h.sure p hp).1, fun c hc => ⟨(h.loose c hc).1, fun p hp => ((h.loose c hc).2 p hp).1⟩⟩
  have := (h.now p hp).2
  have hf := h.files
  cases hd : p.2.dir with
  | true => rw [this.1 hd]; omega
  | false => have := this.2 hd; omega
theorem PD.Inv.mono {n' b' : Nat} (h : D.Inv n b) (hn : n ≤ n') (hb : b ≤ b') : D.Inv n' b' :=
  ⟨h.cap, h.ops0, by have := h.ops1; omega, h.fails0, h.fails1, h.wrong0, h.wrong1, h.nowEq, by have := h.pot; omega, by have := h.files; omega, fun f hf => ⟨by have := (h.bytes f hf).1; omega, (h.bytes f hf).2⟩, h.sure, h.loose⟩
end

theorem newD_inv (c : Int) : (newD c).Inv 0 0 := by
  constructor
  case cap => show (max 0 (min c 16777216)).toNat ≤ 16777216; omega
  case nowEq => rfl
  all_goals first | (intro p hp; exact absurd hp List.not_mem_nil) | (simp [newD])
end Go.Proofs.YtihojcjijbidpaaDoor
