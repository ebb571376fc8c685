/- The closures of Append, Cut and Sync. -/
import Derived.Test.YtihojcjijbidpaaDoorD10
namespace Go.Proofs.YtihojcjijbidpaaDoor
open Go.RowKit Go.Shelf Go.Sort

theorem infoU8 : (Tryd.prog.info? 5).map (fun i => (i.zero, i.size, i.bytes)) = some (some (.int .u8 0), 1, 1) := by kernel_rfl

/-- The bytes of a slice, as cells. -/
theorem BytesAt.news {w : World} {M : Nat → Prop} {l : List UInt8} {b o : Nat} (h4 : ∀ i (h : i < l.length), w.cell? ⟨b, o + i, none⟩ = some (b8 l[i])) : ∀ j u, (l.map b8)[j]? = some u → w.cell? ((⟨b, o, none⟩ : Addr).add j) = some u := by
  intro j u hj
  rw [List.getElem?_map] at hj
  obtain ⟨x, hx, rfl⟩ := Option.map_eq_some_iff.1 hj
  obtain ⟨hlt, rfl⟩ := List.getElem?_eq_some_iff.1 hx
  have := h4 j hlt
  have h3 : ((⟨b, o, none⟩ : Addr).add j) = ⟨b, o + j, none⟩ := by unfold Addr.add; split <;> simp_all
  rw [h3]; exact this

/-- A slice of the call's own, read as bytes. -/
theorem bytesAt_of_row {w : World} {M : Nat → Prop} {base : Nat} {v : Value} {l : List UInt8} (h : w.ownsRow base 5 1 v l.length (l.map b8)) (hM : ∀ k, M k → k < base) : BytesAt w M v l := by
  rcases h.2 with ⟨rfl, h0⟩ | ⟨g, cap, cur, rfl, h1, h2, h3, h4, h5, h6⟩
  · exact .inl ⟨none, 0, rfl, List.eq_nil_of_length_eq_zero h0, fun _ => rfl⟩
  · refine .inr ⟨g, 0, cap, rfl, h3, (Array.getElem?_eq_some_iff.1 h2).1, fun q => by have := hM g q; omega, fun i hi => ?_⟩
    have : (cur.toList.take (l.length * 1))[i]? = some (b8 l[i]) := by rw [h6]; simp [hi]
    rw [List.getElem?_take] at this
    split at this
    · simp [World.cell?, h2]; simpa using this
    · cases this

theorem b8_one (l : List UInt8) : ∀ u ∈ l.map b8, u.oneCell' = true := by
  intro u hu
  obtain ⟨x, _, rfl⟩ := List.mem_map.1 hu
  rfl

/-- append of bytes onto bytes of the call's own. -/
theorem run_append_bytes {w : World} {M : Nat → Prop} {base : Nat} {ty : TypeId} {v sv : Value} {l s : List UInt8} (h : w.ownsRow base 5 1 v l.length (l.map b8)) (hs : BytesAt w M sv s) (hl : l.length + s.length ≤ 100000000) (hb : base ≤ w.heap.size) :
    ∃ v' w', (Builtin.append_ #[22, 22] ty #[v, sv]).run Tryd.prog w = .ok v' w' ∧ w'.ownsRow base 5 1 v' (l ++ s).length ((l ++ s).map b8) ∧ w.grownBy w' v.ownBlock := by
  obtain ⟨i0, hi, hz0, hz1, hz2⟩ := info_parts infoU8
  rcases hs with ⟨a, c, rfl, rfl, hac⟩ | ⟨b, o, c, rfl, h1, h2, h3, h4⟩
  · cases a with
    | some a =>
      obtain ⟨v', w', r1, r2, r3, _⟩ := run_append_own_at w base 22 ty 5 i0 _ 1 1 Tryd.underlying22 hi hz0 hz1 hz2 rfl (by decide) v _ _ h a 0 c [] (by simp) (fun j u hj => by simp at hj) (fun u hu => by cases hu) (by unfold maxLen; omega) (by simp at hl; omega) hb
      exact ⟨v', w', r1, by simpa using r2, r3⟩
    | none =>
    obtain rfl := hac rfl
    exact ⟨v, w, run_append_owned_none w base 22 ty 5 i0 1 Tryd.underlying22 hi v _ _ h, by simpa using h, World.grownBy.refl _ _⟩
  · obtain ⟨v', w', r1, r2, r3, _⟩ := run_append_own_at w base 22 ty 5 i0 _ 1 1 Tryd.underlying22 hi hz0 hz1 hz2 rfl (by decide) v _ _ h ⟨b, o, none⟩ s.length c (s.map b8) (by simp) (BytesAt.news (M := M) h4) (b8_one s) (by unfold maxLen; omega) (by omega) hb
    exact ⟨v', w', r1, by simpa using r2, r3⟩

theorem step_run_append {P : Program} {ops : Array Oper} {o : Oper} {a : Act} {w : World} {K : Act → World → Prop} {Q : Exit → Act → World → Prop} {E : Prop} (hgd : o.guard = none) (s x : Operand) (t : TypeId)
    (ho : o.op = .call { callee := .builtin .append, args := #[s, x], argTypes := #[t, t] }) (v sv v' : Value) (w' : World) (hs : a.eval s = v) (hx : a.eval x = sv)
    (hr : (Builtin.append_ #[t, t] o.type #[v, sv]).run P w = .ok v' w') (h : K (a.put o.dst v') w') : if Region.wanted o (yielded ops a.tmps) = true then Oper.wp P o a w K Q else E := by
  have hw : Region.wanted o (yielded ops a.tmps) = true := by simp [Region.wanted, hgd]
  rw [if_pos hw]
  unfold Oper.wp execOp
  simp only [ho, resolve, invoke, builtin, Sem.run_bind, Sem.run_pure, Result.andThen_ok, List.map_toArray, List.map_cons, List.map_nil, hs, hx, hr]
  exact h

/-- bytes.Clone, of a slice of bytes. -/
theorem bytesClone_calls {w : World} {M : Nat → Prop} {v : Value} {l : List UInt8} (h : BytesAt w M v l) (hl : l.length ≤ 100000000) :
    Calls Tryd.prog 23 #[v] w fun e w' => ∃ v', e = .returned v' ∧ w'.ownsRow w.heap.size 5 1 v' l.length (l.map b8) ∧ Below w.heap.size w w' := by
  rcases h with ⟨a, c, rfl, rfl, hac⟩ | ⟨b, o, c, rfl, h1, h2, h3, h4⟩
  · cases a with
    | some a =>
      refine (bytesClone_at a 0 c [] w rfl (by omega) (fun i hi => by omega)).mono ?_
      rintro e w' ⟨v', he, hr, _, hb⟩
      exact ⟨v', he, hr, hb⟩
    | none =>
      obtain rfl := hac rfl
      refine (bytesClone_nil 0 0 w).mono ?_
      rintro e w' ⟨he, rfl⟩
      exact ⟨_, he, World.ownsRow_nil _ _ _ _, Below.refl _ _⟩
  · refine (bytesClone_at ⟨b, o, none⟩ l.length c (l.map fun x => (x.toNat : Int)) w (by simp) (by omega) (fun i hi => ?_)).mono ?_
    · have h3 : ((⟨b, o, none⟩ : Addr).add i) = ⟨b, o + i, none⟩ := by unfold Addr.add; split <;> simp_all
      rw [h3, h4 i hi]
      simp [b8, List.getD, hi]
    · rintro e w' ⟨v', he, hr, _, hb⟩
      refine ⟨v', he, ?_, hb⟩
      have : (l.map fun x => (x.toNat : Int)).map (Value.int .u8) = l.map b8 := by rw [List.map_map]; rfl
      rw [this] at hr
      exact hr

theorem Sync1_calls (f : Value) (w : World) : Calls Tryd.prog 24 #[f] w fun e w' => e = .returned (.int .i64 0) ∧ w = w' := by
  go_enter Tryd.func24, Tryd.ntmps24
  go_wp2
  go_ret
  exact ⟨rfl, rfl⟩

theorem Sync2_calls (g id n c : Nat) (a : Option Addr) (s : Int) (w : World) (hb : w.cell? ⟨g, id * 2, none⟩ = some (.slice a n c)) (hs : w.cell? ⟨g, id * 2 + 1, none⟩ = some (.int .i64 s)) (hf : ∀ i, w.frozen? ⟨g, i, none⟩ = false) :
    Calls Tryd.prog 25 #[.pointer (some ⟨g, id * 2, none⟩)] w fun e w' => e = .returned (.tuple #[]) ∧ w.setCell ⟨g, id * 2 + 1, none⟩ (.int .i64 n) = w' := by
  have f1 := hf (id * 2 + 1)
  clear hf
  go_enter Tryd.func25, Tryd.ntmps25
  go_wp2
  go_end0
  exact ⟨rfl, rfl⟩

end Go.Proofs.YtihojcjijbidpaaDoor
