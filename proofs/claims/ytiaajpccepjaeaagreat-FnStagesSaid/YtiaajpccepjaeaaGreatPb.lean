/- A proved interpreter for the model's code, and what it shows of the program's functions: part 2 (AA AB AC AE AF XA AG AH AI AJ AP XB AK AL AM AN AO EA EB EC ED). No condition. -/
import Derived.Test.YtiaajpccepjaeaaGreatPa
import Derived.Orders
import Derived.Calls
import Derived.LoopN
import Derived.Laws.Sem
set_option linter.unusedVariables false
set_option linter.unusedSimpArgs false
/- Calls: trees that are lent or given away. -/
namespace Go.Pi
variable {P : Program} {C : Ctx} {T : Tab}
section
variable {σ : St} {g : Gh} {a : Act} {w : World} {Qx : Exit → Act → World → Prop}

/-- A nested row that is lent to be written. -/
theorem argF_msub (h : Rep P C σ g a w) {o γ i f : Nat} {t' : Ty} {xs : List (den t')} {γ' : Nat} {v : Value} (hv : RepVD P C σ.o g w (false, [.sub o γ i f]) v) (ho : σ.o o = some (.tree t' xs γ')) (hγ : γ = γ') {t : Ty} {zs : List (den t)}
    (hc : (cells t' (xs.getD i (dflt t')))[f]? = some (.sl t zs)) {ys : List (den t)} {x' : den t'} (hx' : cells t' x' = (cells t' (xs.getD i (dflt t'))).set f (.sl t ys)) :
    ∃ es, ArgF P C σ g w (.mut (false, [.sl t zs]) [.sl t ys]) [.o o (.tree t' (xs.set i x') γ')] [] v es := by
  have hv : RepLV P C σ.o g w (.sub o γ i f) v := RepSV.one (P := P) (C := C) hv
  obtain ⟨⟨hs, hsub, _⟩, _⟩ := hv
  obtain ⟨blk, off, cap, hh, hi, hsl, hcell⟩ := (hsub _ _ _ ho).2 hγ
  have hO : Own w (.sl t' xs) (g.hv o) (g.fp o) := h.objs _ _ ho
  have hO2 := hO
  rw [hh] at hO2
  generalize hvv : hdr blk off xs.length cap = vv at hO2
  generalize hS0 : g.fp o = S at hO2
  cases hO2 with
  | nil t aa S hS => simp at hi
  | sl _ _ blk' off' cap' c e V F S' hb hsz hlen h63 hcc hn hS hself hdis =>
    simp only [hdr, Value.slice.injEq, Option.some.injEq, Addr.mk.injEq, and_true, true_and] at hvv
    obtain ⟨⟨rfl, rfl⟩, rfl⟩ := hvv
    have hxi : xs[i]? = some (xs.getD i (dflt t')) := by rw [List.getD_eq_getElem?_getD, List.getElem?_eq_getElem hi]; rfl
    have hfw : f < width t' := by rw [← cells_length t' (xs.getD i (dflt t'))]; exact (List.getElem?_eq_some_iff.1 hc).1
    have hvV : v = V i f := by
      have := hcc i f hi hfw
      rw [World.cell_of_heap hb] at hcell
      rw [hcell] at this; exact Option.some.inj this
    have hnest := hn i _ hxi f _ hc
    let ent : Ent := ⟨0, o, .tree t' (xs.set i x') γ', F i f, fun w' => Own w' (.sl t ys) (V i f) (F i f)⟩
    have hsub0 : ∀ b, F i f b → g.fp o b := fun b hb' => by rw [hS0]; exact (hS b).2 (.inr ⟨i, f, hi, hfw, hb'⟩)
    refine ⟨[ent], rfl, ?_, ?_, ?_, (fun hm => by cases hm), ?_, ?_⟩
    · intro e' he'
      rw [List.mem_singleton] at he'; subst he'
      refine ⟨hsub0, hs.1, fun O' g' w' hv' hO' hsame γ2 i2 f2 v2 hsb => ?_, fun O' g' w' Fr hv' hfp' hsame haf => ?_⟩
      · obtain ⟨h1, h2, h3⟩ := hsb
        have hO' : O' o = some (.tree t' (xs.set i x') γ') := hO'
        have hv' : g'.hv o = g.hv o := hv'
        refine ⟨⟨by show (O' o).isSome = true; rw [hO']; rfl, fun t0 xs0 γ0 _ _ _ h0 => by rw [show O' ent.o = _ from hO'] at h0; cases h0⟩, fun t0 xs0 γ0 h0 => ?_, fun t0 xs0 γ0 h0 => ?_⟩
        · rw [show O' ent.o = _ from hO'] at h0
          simp only [Option.some.injEq, Obj.tree.injEq] at h0
          obtain ⟨rfl, h0, rfl⟩ := h0
          have h0 := eq_of_heq h0; subst h0
          refine ⟨(h2 _ _ _ ho).1, fun hg => ?_⟩
          obtain ⟨blk2, off2, cap2, hh2, hi2, hsl2, hc2⟩ := (h2 _ _ _ ho).2 hg
          have hh2' : g.hv o = hdr blk2 off2 xs.length cap2 := hh2
          have hbb : blk2 = blk := by
            rw [hh] at hh2'
            simp only [hdr, Value.slice.injEq, Option.some.injEq, Addr.mk.injEq] at hh2'
            exact hh2'.1.1.symm
          refine ⟨blk2, off2, cap2, by rw [List.length_set]; exact hv'.trans hh2', by rw [List.length_set]; exact hi2, hsl2, ?_⟩
          have hbl : blk < w.heap.size := (h.fps o blk (by rw [hS0]; exact (hS _).2 (.inl rfl))).1
          rw [World.cell_congr (hsame blk2 (by rw [hbb]; exact hbl) (by rw [hbb]; show g.fp o blk; rw [hS0]; exact (hS _).2 (.inl rfl)) (by rw [hbb]; exact hself i f hi hfw))]
          exact hc2
        · rw [show O' ent.o = _ from hO'] at h0; cases h0
      · show Own w' (.sl t' (xs.set i x')) (g'.hv o) (g'.fp o)
        have hv' : g'.hv o = g.hv o := hv'
        have hfp2 : ∀ b, g'.fp o b ↔ S b := fun b => (hfp' b).trans ⟨fun hh => by rw [← hS0]; exact hh.2, fun hh => ⟨by simp [ent], by show g.fp o b; rw [hS0]; exact hh⟩⟩
        rw [hv', hh]
        have hlt : ∀ b, S b → b < w.heap.size := fun b hb' => (h.fps o b (by rw [hS0]; exact hb')).1
        have hbh : w'.heap[blk]? = some (.cells c e (0, 0)) := by
          rw [hsame blk (hlt _ ((hS _).2 (.inl rfl))) (by show g.fp o blk; rw [hS0]; exact (hS _).2 (.inl rfl)) (hself i f hi hfw)]; exact hb
        have hlx : (xs.set i x').length = xs.length := List.length_set
        have := Own.sl (w := w') t' (xs.set i x') blk off cap c e V F S hbh hsz (by omega) h63 (fun i' f' hi' hf' => hcc i' f' (by omega) hf') (fun i' y hy f' l hl => by
          have hi' : i' < xs.length := by rw [← hlx]; exact (List.getElem?_eq_some_iff.1 hy).1
          have hf' : f' < width t' := by rw [← cells_length t' y]; exact (List.getElem?_eq_some_iff.1 hl).1
          by_cases hin : i' = i ∧ f' = f
          · obtain ⟨rfl, rfl⟩ := hin
            rw [List.getElem?_set_self hi] at hy
            obtain rfl := Option.some.inj hy
            rw [hx', List.getElem?_set_self (by rw [cells_length]; exact hfw)] at hl
            obtain rfl := Option.some.inj hl
            exact haf
          · have hold : ∃ z, xs[i']? = some z ∧ (cells t' z)[f']? = some l := by
              by_cases e1 : i' = i
              · subst e1
                rw [List.getElem?_set_self hi] at hy
                obtain rfl := Option.some.inj hy
                refine ⟨_, hxi, ?_⟩
                rw [hx', List.getElem?_set_ne (fun e => hin ⟨rfl, e.symm⟩)] at hl
                exact hl
              · rw [List.getElem?_set_ne (fun e => e1 e.symm)] at hy
                exact ⟨y, hy, hl⟩
            obtain ⟨z, hz, hl'⟩ := hold
            refine (hn i' z hz f' l hl').mono (fun b hb' => hsame b (hlt b ((hS b).2 (.inr ⟨i', f', hi', hf', hb'⟩))) (by show g.fp o b; rw [hS0]; exact (hS b).2 (.inr ⟨i', f', hi', hf', hb'⟩)) (fun hb2 => ?_))
            exact hin (hdis i' f' i f b hi' hf' hi hfw hb' hb2)) (fun b => by rw [hlx]; exact hS b) (fun i' f' hi' hf' => hself i' f' (by omega) hf') (fun i1 f1 i2 f2 b h1 hf1 h2 hf2 => hdis i1 f1 i2 f2 b (by omega) hf1 (by omega) hf2)
        rw [hlx] at this
        exact this.congr hfp2
    · intro X hX hos
      refine ⟨rfl, [v], rfl, fun _ => rfl, rfl, fun j l u hl hu => ?_, fun j b hj => ?_⟩
      · match j with
        | 0 =>
          simp at hl hu; subst hl; subst hu
          rw [hvV]
          exact hnest.congr (fun b => ⟨fun ⟨e', he', _, h2⟩ => by rw [List.mem_singleton] at he'; subst he'; exact h2, fun hb' => ⟨ent, by simp, rfl, hb'⟩⟩)
        | j + 1 => simp at hl
      · obtain ⟨e', he', h1, _⟩ := hj
        rw [List.mem_singleton] at he'; subst he'
        rw [← h1]; simp [ent]
    · intro w' haf e' he' _
      rw [List.mem_singleton] at he'; subst he'
      have := haf [v] rfl rfl 0 _ v rfl rfl
      rw [hvV] at this
      exact this.congr (fun b => ⟨fun hb' => ⟨ent, by simp, rfl, hb'⟩, fun ⟨e', he', _, h2⟩ => by rw [List.mem_singleton] at he'; subst he'; exact h2⟩)
    · intro e1 h1 e2 h2 _
      rw [List.mem_singleton] at h1 h2; rw [h1, h2]
    · intro _ e' he'
      rw [List.mem_singleton] at he'; subst he'
      simp [ent]

/-- Whole trees, leaf by leaf: what is lent to be written. -/
theorem muts_ok (h : Rep P C σ g a w) : ∀ {ls : List LV} {ys xs zs : List Leaf} {ws : List Wr} {us : List Value} (n : Nat), Ev σ (muts ls ys) (xs, zs, ws) → Each (RepLV P C σ.o g w) ls us →
    ∃ es : List Ent, ws = es.map Ent.wr ∧ xs.length = ls.length ∧ zs.length = ls.length ∧ (∀ e ∈ es, Lend P C σ g w e ∧ e.x ≠ .dead ∧ n ≤ e.j ∧ e.j < n + ls.length) ∧
      (∀ e ∈ es, ∀ e' ∈ es, e'.j = e.j → e' = e) ∧ (∀ (j : Nat) l u, xs[j]? = some l → us[j]? = some u → Own w l u (fun b => ∃ e ∈ es, e.j = n + j ∧ e.S b)) ∧
      (∀ e ∈ es, ∃ (j : Nat) (l : Leaf) (u : Value), e.j = n + j ∧ zs[j]? = some l ∧ us[j]? = some u ∧ ∀ w', Own w' l u e.S → e.After w')
  | [], ys, xs, zs, ws, us, n, e, hea => by
    rw [muts, Ev_ret] at e
    simp only [Prod.mk.injEq] at e
    obtain ⟨rfl, rfl, rfl⟩ := e
    exact ⟨[], rfl, rfl, rfl, (fun e he => by cases he), (fun e he => by cases he), (fun j l u hl => by simp at hl), (fun e he => by cases he)⟩
  | l0 :: ls, ys, xs, zs, ws, us, n, e, hea => by
    obtain ⟨u, us', rfl, h1, h2⟩ := hea.cons
    have plainCase : ∀ (x : Leaf) (ys' : List Leaf), (∀ S : Nat → Prop, (∀ b, ¬ S b) → Own w x u S) → Ev σ ((muts ls ys').bind fun (xs, zs, ws) => .ret (x :: xs, x :: zs, ws)) (xs, zs, ws) →
        ∃ es : List Ent, ws = es.map Ent.wr ∧ xs.length = (l0 :: ls).length ∧ zs.length = (l0 :: ls).length ∧ (∀ e ∈ es, Lend P C σ g w e ∧ e.x ≠ .dead ∧ n ≤ e.j ∧ e.j < n + (l0 :: ls).length) ∧
          (∀ e ∈ es, ∀ e' ∈ es, e'.j = e.j → e' = e) ∧ (∀ (j : Nat) l u', xs[j]? = some l → (u :: us')[j]? = some u' → Own w l u' (fun b => ∃ e ∈ es, e.j = n + j ∧ e.S b)) ∧
          (∀ e ∈ es, ∃ (j : Nat) (l : Leaf) (u' : Value), e.j = n + j ∧ zs[j]? = some l ∧ (u :: us')[j]? = some u' ∧ ∀ w', Own w' l u' e.S → e.After w') := by
      intro x ys' hown e
      rw [Ev_bind] at e
      obtain ⟨⟨xs', zs', ws'⟩, e1, e⟩ := e
      rw [Ev_ret] at e
      simp only [Prod.mk.injEq] at e
      obtain ⟨rfl, rfl, rfl⟩ := e
      obtain ⟨es, i1, i2, i3, i4, i5, i6, i7⟩ := muts_ok h (n + 1) e1 h2
      refine ⟨es, i1, by simp [i2], by simp [i3], fun e he => ?_, i5, fun j l u' hl hu => ?_, fun e he => ?_⟩
      · obtain ⟨a1, a2, a3, a4⟩ := i4 e he
        exact ⟨a1, a2, by omega, by simp; omega⟩
      · match j with
        | 0 =>
          simp at hl hu; subst hl; subst hu
          exact hown _ (fun b ⟨e, he, hj, _⟩ => by have := (i4 e he).2.2.1; omega)
        | j + 1 =>
          have := i6 j l u' (by simpa using hl) (by simpa using hu)
          rw [show n + (j + 1) = n + 1 + j by omega]; exact this
      · obtain ⟨j, l, u', a1, a2, a3, a4⟩ := i7 e he
        exact ⟨j + 1, l, u', by omega, by simpa using a2, by simpa using a3, a4⟩
    cases l0 with
    | val v =>
      rw [muts] at e
      refine plainCase (.val v) ys.tail (fun S hS => by rw [h1.1]; exact .val _ _ hS) e
    | nil t =>
      rw [muts] at e
      refine plainCase (.sl t []) ys.tail (fun S hS => by obtain ⟨aa, rfl⟩ := h1; exact .nil _ _ _ hS) e
    | tr o =>
      match ys, e with
      | [], e => rw [muts] at e <;> first | exact (Ev_fail.1 e).elim | simp
      | .val v :: ys, e => rw [muts] at e <;> first | exact (Ev_fail.1 e).elim | simp
      | .sl t yy :: ys, e =>
        rw [muts, Ev_obj] at e
        obtain ⟨y, hy, e⟩ := e
        split at e
        · rename_i t' xx γ
          split at e
          · rename_i ht
            subst ht
            rw [Ev_bind] at e
            obtain ⟨⟨xs', zs', ws'⟩, e1, e⟩ := e
            rw [Ev_ret] at e
            simp only [Prod.mk.injEq] at e
            obtain ⟨rfl, rfl, rfl⟩ := e
            obtain ⟨es, i1, i2, i3, i4, i5, i6, i7⟩ := muts_ok h (n + 1) e1 h2
            have hO : Own w (.sl t' xx) (g.hv o) (g.fp o) := h.objs _ _ hy
            let ent : Ent := ⟨n, o, .tree t' yy (γ + 1), g.fp o, fun w' => Own w' (.sl t' yy) u (g.fp o)⟩
            have hL : Lend P C σ g w ent := by
              refine ⟨fun b hb => hb, by rw [hy]; rfl, fun O' g' w' hv' hO' _ γ2 i2 f2 v2 hsb => ?_, fun O' g' w' Fr hv' hfp' hsame haf => ?_⟩
              · have hO' : O' o = some (.tree t' yy (γ + 1)) := hO'
                refine ⟨⟨by show (O' o).isSome = true; rw [hO']; rfl, fun t0 xs0 γ0 _ _ _ h0 => by rw [show O' ent.o = _ from hO'] at h0; cases h0⟩, fun t0 xs0 γ0 h0 => ?_, fun t0 xs0 γ0 h0 => ?_⟩
                · rw [show O' ent.o = _ from hO'] at h0
                  simp only [Option.some.injEq, Obj.tree.injEq] at h0
                  obtain ⟨rfl, h0, rfl⟩ := h0
                  have := (hsb.2.1 _ _ _ hy).1
                  exact ⟨by omega, fun e => by omega⟩
                · rw [show O' ent.o = _ from hO'] at h0; cases h0
              · show Own w' (.sl t' yy) (g'.hv o) (g'.fp o)
                have hv' : g'.hv o = g.hv o := hv'
                rw [hv', ← h1.2.1]
                exact Own.congr haf (fun b => (hfp' b).trans ⟨fun hh => hh.2, fun hh => ⟨by simp [ent], hh⟩⟩)
            refine ⟨ent :: es, by simp [i1, Ent.wr, ent], by simp [i2], by simp [i3], fun e he => ?_, fun e he e' he' hj => ?_, fun j l u' hl hu => ?_, fun e he => ?_⟩
            · rcases List.mem_cons.1 he with rfl | he
              · exact ⟨hL, by simp [ent], Nat.le_refl _, by simp [ent]⟩
              · obtain ⟨a1, a2, a3, a4⟩ := i4 e he
                exact ⟨a1, a2, by omega, by simp; omega⟩
            · rcases List.mem_cons.1 he with rfl | he <;> rcases List.mem_cons.1 he' with rfl | he'
              · rfl
              · have := (i4 e' he').2.2.1; simp only [ent] at hj; omega
              · have := (i4 e he).2.2.1; simp only [ent] at hj; omega
              · exact i5 e he e' he' hj
            · match j with
              | 0 =>
                simp at hl hu; subst hl; subst hu
                rw [h1.2.1]
                refine hO.congr (fun b => ⟨fun ⟨e, he, hj, hb⟩ => ?_, fun hb => ⟨ent, by simp, rfl, hb⟩⟩)
                rcases List.mem_cons.1 he with rfl | he
                · exact hb
                · have := (i4 e he).2.2.1; omega
              | j + 1 =>
                have := i6 j l u' (by simpa using hl) (by simpa using hu)
                refine this.congr (fun b => ⟨fun ⟨e, he, hj, hb⟩ => ?_, fun ⟨e, he, hj, hb⟩ => ⟨e, List.mem_cons_of_mem _ he, by omega, hb⟩⟩)
                rcases List.mem_cons.1 he with rfl | he
                · simp only [ent] at hj; omega
                · exact ⟨e, he, by omega, hb⟩
            · rcases List.mem_cons.1 he with rfl | he
              · exact ⟨0, _, u, rfl, rfl, rfl, fun w' hw => hw⟩
              · obtain ⟨j, l, u', a1, a2, a3, a4⟩ := i7 e he
                exact ⟨j + 1, l, u', by omega, by simpa using a2, by simpa using a3, a4⟩
          · exact (Ev_fail.1 e).elim
        · exact (Ev_fail.1 e).elim
    | ro _ _ => cases ys <;> (rw [muts] at e <;> first | exact (Ev_fail.1 e).elim | simp)
    | fix _ _ _ _ => cases ys <;> (rw [muts] at e <;> first | exact (Ev_fail.1 e).elim | simp)
    | sub _ _ _ _ => cases ys <;> (rw [muts] at e <;> first | exact (Ev_fail.1 e).elim | simp)
    | bp _ _ => cases ys <;> (rw [muts] at e <;> first | exact (Ev_fail.1 e).elim | simp)
    | ep _ _ _ _ => cases ys <;> (rw [muts] at e <;> first | exact (Ev_fail.1 e).elim | simp)
    | clo _ _ => cases ys <;> (rw [muts] at e <;> first | exact (Ev_fail.1 e).elim | simp)
    | fn _ => cases ys <;> (rw [muts] at e <;> first | exact (Ev_fail.1 e).elim | simp)

theorem argF_mut (h : Rep P C σ g a w) {ag : Bool} {ls : List LV} {ys xs zs : List Leaf} {ws : List Wr} {v : Value} (hv : RepVD P C σ.o g w (ag, ls) v) (e : Ev σ (muts ls ys) (xs, zs, ws)) : ∃ es, ArgF P C σ g w (.mut (ag, xs) zs) ws [] v es := by
  obtain ⟨us, rfl, hea, hag⟩ := hv
  obtain ⟨es, i1, i2, i3, i4, i5, i6, i7⟩ := muts_ok h 0 e hea
  simp only at hea hag i2 i3
  refine ⟨es, i1, fun e he => (i4 e he).1, fun X hX hos => ?_, fun w' haf e he _ => ?_, (fun hm => by cases hm), i5, fun _ e he => (i4 e he).2.1⟩
  · refine ⟨by simp [i2, i3], us, rfl, fun e => by simp only [i2]; exact hag e, by simp [i2, hea.len], fun j l u hl hu => ?_, fun j b ⟨e, he, hj, _⟩ => by have := (i4 e he).2.2.2; simp only [i2]; omega⟩
    have := i6 j l u hl hu
    rw [Nat.zero_add] at this
    exact this
  · obtain ⟨j, l, u, a1, a2, a3, a4⟩ := i7 e he
    have := haf us rfl (by simp [i2, hea.len]) j l u a2 a3
    refine a4 w' (this.congr (fun b => ⟨fun hb => ⟨e, he, by omega, hb⟩, fun ⟨e', he', hj, hb⟩ => ?_⟩))
    have := i5 e he e' he' (by omega)
    rw [this] at hb; exact hb

/-- What is given away. -/
theorem argF_mv (h : Rep P C σ g a w) {ag : Bool} {ls : List LV} {xs : List Leaf} {os : List Nat} {v : Value} (hv : RepVD P C σ.o g w (ag, ls) v) (e : Ev σ (given ls) (xs, os)) :
    ∃ es, ArgF P C σ g w (.mv (ag, xs)) (os.map fun o => .o o .dead) [] v es := by
  obtain ⟨us, rfl, hea, hag⟩ := hv
  obtain ⟨i1, i2, i3, i4, i5, i6⟩ := given_ok h e hea
  simp only at hea hag i1
  let mk : Nat → Ent := fun o => ⟨ls.findIdx (fun l => match l with | .tr o' => o' == o | _ => false), o, .dead, g.fp o, fun _ => True⟩
  have hidx : ∀ o ∈ os, ls[(mk o).j]? = some (.tr o) := by
    intro o ho
    have hm := (i3 o).1 ho
    have hlt : (mk o).j < ls.length := List.findIdx_lt_length_of_exists ⟨_, hm, by simp⟩
    have := List.findIdx_getElem (xs := ls) (p := fun l => match l with | .tr o' => o' == o | _ => false) (w := hlt)
    rw [List.getElem?_eq_getElem hlt]
    revert this
    generalize ls[(mk o).j] = l
    cases l <;> simp
  refine ⟨os.map mk, by simp [Ent.wr, mk, Function.comp_def], fun e he => ?_, fun X hX hos => ?_, fun w' _ e he _ => ?_, fun _ e he => ?_, fun e he e' he' hj => ?_, (fun hm => by cases hm)⟩
  · obtain ⟨o, ho, rfl⟩ := List.mem_map.1 he
    obtain ⟨t, ys, γ, hy⟩ := i4 o ho
    refine ⟨fun b hb => hb, by show (σ.o o).isSome = true; rw [hy]; rfl, fun O' g' w' hv' hO' _ γ2 i2 f2 v2 hsb => ?_, fun O' g' w' Fr hv' hfp' hsame haf => ?_⟩
    · have hO' : O' o = some .dead := hO'
      exact ⟨⟨by show (O' o).isSome = true; rw [hO']; rfl, (fun t xs γ' _ _ _ h0 => by rw [show O' (mk o).o = _ from hO'] at h0; cases h0)⟩, (fun t xs γ' h0 => by rw [show O' (mk o).o = _ from hO'] at h0; cases h0), (fun t xs γ' h0 => by rw [show O' (mk o).o = _ from hO'] at h0; cases h0)⟩
    · exact fun b hb => ((hfp' b).1 hb).1 rfl
  · refine ⟨us, rfl, fun e => by simp only [i1]; exact hag e, by simp [i1, hea.len], fun j l u hl hu => ?_, fun j b ⟨e, he, hj, _⟩ => ?_⟩
    · have hj : j < ls.length := by rw [← i1]; exact (List.getElem?_eq_some_iff.1 hl).1
      have := i5 j ls[j] l u (List.getElem?_eq_getElem hj) hl hu
      refine this.congr (fun b => ⟨fun ⟨e, he, hje, hb⟩ => ?_, fun ⟨o, ho, hb⟩ => ?_⟩)
      · obtain ⟨o, hoo, rfl⟩ := List.mem_map.1 he
        have h1 := hidx o hoo
        rw [hje, List.getElem?_eq_getElem hj] at h1
        exact ⟨o, Option.some.inj h1, hb⟩
      · have hl' : ls[j]? = some (.tr o) := by rw [List.getElem?_eq_getElem hj, ho]
        have hoo : o ∈ os := (i3 o).2 (List.mem_of_getElem? hl')
        exact ⟨mk o, List.mem_map.2 ⟨o, hoo, rfl⟩, i6 _ _ o (hidx o hoo) hl', hb⟩
    · obtain ⟨o, ho, rfl⟩ := List.mem_map.1 he
      have := (List.getElem?_eq_some_iff.1 (hidx o ho)).1
      simp only [i1]; omega
  · obtain ⟨o, _, rfl⟩ := List.mem_map.1 he; trivial
  · obtain ⟨o, _, rfl⟩ := List.mem_map.1 he; rfl
  · obtain ⟨o, ho, rfl⟩ := List.mem_map.1 he
    obtain ⟨o', ho', rfl⟩ := List.mem_map.1 he'
    have h1 := hidx o ho
    have h2 := hidx o' ho'
    rw [hj, h1] at h2
    simp only [Option.some.injEq, LV.tr.injEq] at h2
    rw [h2]

theorem arg_ok (h : Rep P C σ g a w) {hw : How} {x : SV} {ad : AD} {ws : List Wr} {rds : List Nat} {v : Value} (hv : RepSV P C σ.o g w x v) (e : Ev σ (arg P hw x) (ad, ws, rds)) : ∃ es, ArgF P C σ g w ad ws rds v es := by
  unfold arg at e
  split at e
  · rw [Ev_bind] at e
    obtain ⟨xs, e1, e⟩ := e
    rw [Ev_ret] at e; simp only [Prod.mk.injEq] at e
    obtain ⟨rfl, rfl, rfl⟩ := e
    exact ⟨[], argF_v h hv e1⟩
  · rw [Ev_obj] at e
    obtain ⟨y, hy, e⟩ := e
    split at e
    · rw [Ev_bind] at e
      obtain ⟨pre, e1, e⟩ := e
      split at e
      · rename_i hc
        rw [Ev_ret] at e; simp only [Prod.mk.injEq] at e
        obtain ⟨rfl, rfl, rfl⟩ := e
        exact argF_ptr h hv hy e1 hc.1 hc.2.1 hc.2.2
      · exact (Ev_fail.1 e).elim
    · exact (Ev_fail.1 e).elim
  · rw [Ev_obj] at e
    obtain ⟨y, hy, e⟩ := e
    split at e
    · split at e
      · rename_i hγ
        split at e
        · rename_i t'' zs hc
          split at e
          · rename_i ht
            subst ht
            split at e
            · rename_i x' hx'
              rw [Ev_ret] at e; simp only [Prod.mk.injEq] at e
              obtain ⟨rfl, rfl, rfl⟩ := e
              exact argF_msub h hv hy hγ hc (cells_ofCells _ _ _ hx')
            · exact (Ev_fail.1 e).elim
          · exact (Ev_fail.1 e).elim
        · exact (Ev_fail.1 e).elim
      · exact (Ev_fail.1 e).elim
    · exact (Ev_fail.1 e).elim
  · rw [Ev_bind] at e
    obtain ⟨⟨xs, zs, ws'⟩, e1, e⟩ := e
    rw [Ev_ret] at e; simp only [Prod.mk.injEq] at e
    obtain ⟨rfl, rfl, rfl⟩ := e
    exact argF_mut h hv e1
  · rw [Ev_bind] at e
    obtain ⟨⟨xs, os⟩, e1, e⟩ := e
    rw [Ev_ret] at e; simp only [Prod.mk.injEq] at e
    obtain ⟨rfl, rfl, rfl⟩ := e
    exact argF_mv h hv e1
  · rw [Ev_ret] at e; simp only [Prod.mk.injEq] at e
    obtain ⟨rfl, rfl, rfl⟩ := e
    exact ⟨[], argF_fn h hv⟩
  · rw [Ev_bind] at e
    obtain ⟨xss, e1, e⟩ := e
    rw [Ev_bind] at e
    obtain ⟨os, e2, e⟩ := e
    rw [Ev_ask, Ev_ret] at e; simp only [Prod.mk.injEq] at e
    obtain ⟨hc, rfl, rfl, rfl⟩ := e
    exact ⟨[], argF_clo h hv e1 e2 hc⟩
  · exact (Ev_fail.1 e).elim

end
end Go.Pi

/- Calls of functions by their contracts. -/
namespace Go.Pi
variable {P : Program} {C : Ctx} {T : Tab}
section
variable {σ : St} {g : Gh} {a : Act} {w : World} {Qx : Exit → Act → World → Prop}

theorem args_ok (h : Rep P C σ g a w) : ∀ {hs : List How} {xs : List SV} {ads : List AD} {ws : List Wr} {rds : List Nat} {vs : List Value}, Ev σ (args P hs xs) (ads, ws, rds) → vs.length = xs.length →
    (∀ (k : Nat) x v, xs[k]? = some x → vs[k]? = some v → RepSV P C σ.o g w x v) →
    ∃ ess : List (List Ent), ess.length = xs.length ∧ ads.length = xs.length ∧ ws = ess.flatten.map Ent.wr ∧
      ∀ (k : Nat) es ad v, ess[k]? = some es → ads[k]? = some ad → vs[k]? = some v → ∃ wk rk, ArgF P C σ g w ad wk rk v es ∧ ∀ o ∈ rk, o ∈ rds
  | hs, [], ads, ws, rds, vs, e, hl, hv => by
    rw [args, Ev_ret] at e; simp only [Prod.mk.injEq] at e
    obtain ⟨rfl, rfl, rfl⟩ := e
    exact ⟨[], rfl, rfl, rfl, fun k es ad v he => by simp at he⟩
  | hs, x :: xs, ads, ws, rds, vs, e, hl, hv => by
    match vs, hl with
    | v :: vs, hl =>
      rw [args, Ev_bind] at e
      obtain ⟨⟨ad, w1, r1⟩, e1, e⟩ := e
      simp only at e
      rw [Ev_bind] at e
      obtain ⟨⟨ads', w2, r2⟩, e2, e⟩ := e
      rw [Ev_ret] at e; simp only [Prod.mk.injEq] at e
      obtain ⟨rfl, rfl, rfl⟩ := e
      obtain ⟨es, hA⟩ := arg_ok h (hv 0 x v rfl rfl) e1
      obtain ⟨ess, i1, i2, i3, i4⟩ := args_ok h e2 (vs := vs) (by simpa using hl) (fun k x v hx hu => hv (k + 1) x v (by simpa using hx) (by simpa using hu))
      refine ⟨es :: ess, by simp [i1], by simp [i2], by rw [hA.ws_, i3]; simp, fun k es' ad' v' he ha hv' => ?_⟩
      match k with
      | 0 =>
        simp at he ha hv'; subst he; subst ha; subst hv'
        exact ⟨_, _, hA, fun o ho => List.mem_append.2 (.inl ho)⟩
      | k + 1 =>
        obtain ⟨wk, rk, q1, q2⟩ := i4 k es' ad' v' (by simpa using he) (by simpa using ha) (by simpa using hv')
        exact ⟨wk, rk, q1, fun o ho => List.mem_append.2 (.inr (q2 o ho))⟩

theorem noClash_ok : ∀ {E : List Ent} {os : List Nat}, noClash (E.map Ent.wr) os = true → (E.map (·.o)).Nodup ∧ ∀ e ∈ E, e.o ∉ os
  | [], os, _ => ⟨List.nodup_nil, fun e he => by cases he⟩
  | e :: E, os, h => by
    simp only [List.map_cons, Ent.wr, noClash, Bool.and_eq_true, Bool.not_eq_true'] at h
    obtain ⟨⟨h1, h2⟩, h3⟩ := h
    obtain ⟨i1, i2⟩ := noClash_ok (E := E) h3
    refine ⟨?_, fun e' he' => ?_⟩
    · rw [List.map_cons, List.nodup_cons]
      refine ⟨fun hm => ?_, i1⟩
      obtain ⟨e', he', ho⟩ := List.mem_map.1 hm
      rw [List.any_eq_false] at h1
      have := h1 (Wr.o e'.o e'.x) (List.mem_map.2 ⟨e', he', rfl⟩)
      simp [ho] at this
    · rcases List.mem_cons.1 he' with rfl | he'
      · simpa using h2
      · exact i2 e' he'

theorem ess_inj : ∀ {ess : List (List Ent)}, (ess.flatten.map (·.o)).Nodup → ∀ {k k' : Nat} {es es' : List Ent} {e e' : Ent}, ess[k]? = some es → ess[k']? = some es' → e ∈ es → e' ∈ es' → e.o = e'.o → k = k' ∧ e = e'
  | [], _, k, k', es, es', e, e', h, _, _, _, _ => by simp at h
  | es0 :: ess, hn, k, k', es, es', e, e', h1, h2, m1, m2, ho => by
    rw [List.flatten_cons, List.map_append, List.nodup_append] at hn
    obtain ⟨n1, n2, n3⟩ := hn
    have inj : ∀ {l : List Ent}, (l.map (·.o)).Nodup → ∀ {x y : Ent}, x ∈ l → y ∈ l → x.o = y.o → x = y := by
      intro l
      induction l with
      | nil => intro _ x y hx; cases hx
      | cons z l ih =>
        intro hn x y hx hy hxy
        rw [List.map_cons, List.nodup_cons] at hn
        rcases List.mem_cons.1 hx with e1 | hx'
        · rcases List.mem_cons.1 hy with e2 | hy'
          · rw [e1, e2]
          · exact absurd (List.mem_map.2 ⟨y, hy', by rw [← hxy, e1]⟩) hn.1
        · rcases List.mem_cons.1 hy with e2 | hy'
          · exact absurd (List.mem_map.2 ⟨x, hx', by rw [hxy, e2]⟩) hn.1
          · exact ih hn.2 hx' hy' hxy
    have mf : ∀ {k : Nat} {es : List Ent} {e : Ent}, ess[k]? = some es → e ∈ es → e.o ∈ ess.flatten.map (·.o) := fun hk he =>
      List.mem_map.2 ⟨_, List.mem_flatten.2 ⟨_, List.mem_of_getElem? hk, he⟩, rfl⟩
    match k, k' with
    | 0, 0 =>
      simp at h1 h2; subst h1; subst h2
      exact ⟨rfl, inj n1 m1 m2 ho⟩
    | 0, k' + 1 =>
      simp at h1; subst h1
      exact absurd ho (n3 _ (List.mem_map.2 ⟨e, m1, rfl⟩) _ (mf (by simpa using h2) m2))
    | k + 1, 0 =>
      simp at h2; subst h2
      exact absurd ho.symm (n3 _ (List.mem_map.2 ⟨e', m2, rfl⟩) _ (mf (by simpa using h1) m1))
    | k + 1, k' + 1 =>
      obtain ⟨q1, q2⟩ := ess_inj n2 (show ess[k]? = some es by simpa using h1) (show ess[k']? = some es' by simpa using h2) m1 m2 ho
      exact ⟨by rw [q1], q2⟩

/-! ### What a call hands back -/

theorem fresh_append (d : Nat) : ∀ (a b : List Leaf) (j : Nat), fresh d j (a ++ b) = ((fresh d j a).1 ++ (fresh d (j + slCount a) b).1, (fresh d j a).2 ++ (fresh d (j + slCount a) b).2)
  | [], b, j => rfl
  | .val v :: a, b, j => by simp only [List.cons_append, fresh, fresh_append d a b j, slCount]
  | .sl t xs :: a, b, j => by
    simp only [List.cons_append, fresh, fresh_append d a b (j + 1), slCount]
    rw [show j + 1 + slCount a = j + (slCount a + 1) by omega]

theorem freshTup_eq (d : Nat) : ∀ (xs : List Cn) (j : Nat), (freshTup d j xs).2 = (fresh d j (xs.flatMap (·.2))).2 ∧ (freshTup d j xs).1.flatMap (·.2) = (fresh d j (xs.flatMap (·.2))).1
  | [], j => ⟨rfl, rfl⟩
  | x :: xs, j => by
    obtain ⟨h1, h2⟩ := freshTup_eq d xs (j + slCount x.2)
    simp only [freshTup, List.flatMap_cons, fresh_append, h1, h2, and_self]

theorem fresh_length (d : Nat) : ∀ (ls : List Leaf) (j : Nat), (fresh d j ls).1.length = ls.length
  | [], j => rfl
  | .val v :: ls, j => by simp [fresh, fresh_length d ls j]
  | .sl t xs :: ls, j => by simp [fresh, fresh_length d ls (j + 1)]

/-- The objects that are born, with their leaves. -/
theorem fresh_objs (d : Nat) : ∀ (ls : List Leaf) (j : Nat), ∀ p ∈ (fresh d j ls).2, ∃ (n k : Nat) (t : Ty) (xs : List (den t)), ls[n]? = some (.sl t xs) ∧ k = slCount (ls.take n) ∧ p = (oid d (j + k), .tree t xs 0)
  | [], j, p, h => by simp [fresh] at h
  | .val v :: ls, j, p, h => by
    obtain ⟨n, k, t, xs, h1, h2, h3⟩ := fresh_objs d ls j p (by simpa [fresh] using h)
    exact ⟨n + 1, k, t, xs, by simpa using h1, by simpa [slCount] using h2, h3⟩
  | .sl t xs :: ls, j, p, h => by
    simp only [fresh, List.mem_cons] at h
    rcases h with rfl | h
    · exact ⟨0, 0, t, xs, rfl, rfl, rfl⟩
    · obtain ⟨n, k, t', xs', h1, h2, h3⟩ := fresh_objs d ls (j + 1) p h
      exact ⟨n + 1, k + 1, t', xs', by simpa using h1, by simp [slCount, h2], by rw [h3]; congr 2; omega⟩

theorem fresh_lv (d : Nat) : ∀ (ls : List Leaf) (j n : Nat) (l : Leaf), ls[n]? = some l → (fresh d j ls).1[n]? = some (match l with | .val v => .val v | .sl _ _ => .tr (oid d (j + slCount (ls.take n)))) ∧
    ∀ t xs, l = .sl t xs → (oid d (j + slCount (ls.take n)), Obj.tree t xs 0) ∈ (fresh d j ls).2
  | [], j, n, l, h => by simp at h
  | .val v :: ls, j, n, l, h => by
    match n with
    | 0 => simp at h; subst h; exact ⟨rfl, fun t xs e => by cases e⟩
    | n + 1 =>
      obtain ⟨h1, h2⟩ := fresh_lv d ls j n l (by simpa using h)
      exact ⟨by simpa [fresh, slCount] using h1, fun t xs e => by simpa [fresh, slCount] using h2 t xs e⟩
  | .sl t xs :: ls, j, n, l, h => by
    match n with
    | 0 => simp at h; subst h; exact ⟨rfl, fun t xs e => by cases e; simp [fresh, slCount]⟩
    | n + 1 =>
      obtain ⟨h1, h2⟩ := fresh_lv d ls (j + 1) n l (by simpa using h)
      have e : j + 1 + slCount (ls.take n) = j + (slCount (ls.take n) + 1) := by omega
      rw [e] at h1 h2
      exact ⟨by simpa [fresh, slCount] using h1, fun t' xs' e => by
        have := h2 t' xs' e
        simp only [fresh, slCount, List.take_succ_cons, List.mem_cons]
        exact .inr this⟩

theorem slCount_inj : ∀ {ls : List Leaf} {n m : Nat} {t t' : Ty} {xs : List (den t)} {ys : List (den t')}, ls[n]? = some (.sl t xs) → ls[m]? = some (.sl t' ys) → slCount (ls.take n) = slCount (ls.take m) → n = m
  | [], n, m, _, _, _, _, h, _, _ => by simp at h
  | .val v :: ls, n, m, _, _, _, _, h, h', e => by
    match n, m with
    | 0, _ => simp at h
    | _, 0 => simp at h'
    | n + 1, m + 1 => rw [slCount_inj (ls := ls) (n := n) (m := m) (by simpa using h) (by simpa using h') (by simpa [slCount] using e)]
  | .sl t xs :: ls, n, m, _, _, _, _, h, h', e => by
    match n, m with
    | 0, 0 => rfl
    | 0, m + 1 => simp [slCount] at e
    | n + 1, 0 => simp [slCount] at e
    | n + 1, m + 1 => rw [slCount_inj (ls := ls) (n := n) (m := m) (by simpa using h) (by simpa using h') (by simpa [slCount] using e)]

theorem oid_inj {d j k : Nat} (h : oid d j = oid d k) : j = k := by simp only [oid] at h; omega

end
end Go.Pi

/- The state behind a call. -/
namespace Go.Pi
variable {P : Program} {C : Ctx} {T : Tab}
section
variable {σ : St} {g : Gh} {a : Act} {w : World} {Qx : Exit → Act → World → Prop}

theorem puts_o : ∀ (ws : List Wr) (σ : St), (∀ x ∈ ws, ∃ k y, x = Wr.o k y) → (σ.puts ws).s = σ.s ∧ ∀ j, (∃ x, Wr.o j x ∈ ws ∧ (σ.puts ws).o j = some x) ∨ ((∀ x, Wr.o j x ∉ ws) ∧ (σ.puts ws).o j = σ.o j)
  | [], σ, _ => ⟨rfl, fun j => .inr ⟨(fun x h => by cases h), rfl⟩⟩
  | w :: ws, σ, h => by
    obtain ⟨k, y, rfl⟩ := h w (by simp)
    obtain ⟨h1, h2⟩ := puts_o ws (σ.put (.o k y)) (fun x hx => h x (by simp [hx]))
    refine ⟨h1, fun j => ?_⟩
    rcases h2 j with ⟨x, m, e⟩ | ⟨m, e⟩
    · exact .inl ⟨x, by simp [m], e⟩
    · by_cases hj : j = k
      · subst hj
        refine .inl ⟨y, by simp, ?_⟩
        show ((σ.put (.o j y)).puts ws).o j = some y
        rw [e, put_o_eq]
      · refine .inr ⟨fun x hx => ?_, ?_⟩
        · rcases List.mem_cons.1 hx with hx | hx
          · simp only [Wr.o.injEq] at hx; exact hj hx.1
          · exact m x hx
        · show ((σ.put (.o k y)).puts ws).o j = σ.o j
          rw [e, put_o_ne hj]

theorem mem_objW {l : List (Nat × Obj)} {k : Nat} {x : Obj} : Wr.o k x ∈ objW l ↔ (k, x) ∈ l := by
  induction l with
  | nil => simp [objW]
  | cons p l ih =>
    obtain ⟨n, y⟩ := p
    simp [objW, ih]

theorem objW_o {l : List (Nat × Obj)} : ∀ x ∈ objW l, ∃ k y, x = Wr.o k y := by
  induction l with
  | nil => intro x h; cases h
  | cons p l ih =>
    obtain ⟨n, y⟩ := p
    intro x h
    simp only [objW, List.mem_cons] at h
    rcases h with rfl | h
    · exact ⟨_, _, rfl⟩
    · exact ih x h

/-- The leaf that a fresh object holds. -/
def leafOf (d : Nat) (ls : List Leaf) (j : Nat) : Option Nat :=
  (List.range ls.length).find? fun n => match ls[n]? with
    | some (.sl _ _) => oid d (slCount (ls.take n)) == j
    | _ => false

theorem leafOf_some {d : Nat} {ls : List Leaf} {j n : Nat} (h : leafOf d ls j = some n) : ∃ (t : Ty) (xs : List (den t)), ls[n]? = some (.sl t xs) ∧ j = oid d (slCount (ls.take n)) := by
  have := List.find?_some h
  split at this
  · rename_i t xs hls
    exact ⟨t, xs, hls, (beq_iff_eq.1 this).symm⟩
  · cases this

theorem leafOf_eq {d : Nat} {ls : List Leaf} {n : Nat} {t : Ty} {xs : List (den t)} (h : ls[n]? = some (.sl t xs)) : leafOf d ls (oid d (slCount (ls.take n))) = some n := by
  cases hf : leafOf d ls (oid d (slCount (ls.take n))) with
  | none =>
    have hn : n < ls.length := (List.getElem?_eq_some_iff.1 h).1
    have := List.find?_eq_none.1 hf n (List.mem_range.2 hn)
    rw [h] at this
    simp at this
  | some m =>
    obtain ⟨t', xs', h', e⟩ := leafOf_some hf
    have := slCount_inj h h' (oid_inj e)
    rw [this]

/-- The state behind a call that hands back leaves. -/
theorem call_rep (h : Rep P C σ g a w) {ads : List AD} {rds : List Nat} {vs : List Value} {ess : List (List Ent)} (hn : (ess.flatten.map (·.o)).Nodup)
    (hla : ads.length = vs.length) (hle : ess.length = vs.length)
    (hA : ∀ (k : Nat) es ad v, ess[k]? = some es → ads[k]? = some ad → vs[k]? = some v → ∃ wk rk, ArgF P C σ g w ad wk rk v es ∧ ∀ o ∈ rk, o ∈ rds)
    {w' : World} (hsz : Up w w') (S : Nat → Nat → Nat → Prop) (hS : S = fun k j b => ∃ es : List Ent, ess[k]? = some es ∧ ∃ e ∈ es, e.j = j ∧ e.S b)
    (hsame : ∀ b, b < w.heap.size → ¬ (∃ k j, S k j b) → w'.heap[b]? = w.heap[b]?) (haf : ∀ (k : Nat) ad v, ads[k]? = some ad → vs[k]? = some v → ArgAfter w w' v (S k) ad)
    {d : Nat} {ls : List Leaf} {us : List Value} {R : Nat → Nat → Prop} (hfree : ∀ p ∈ (fresh d 0 ls).2, σ.o p.1 = none) (hpl : ls.all leafPlain = true)
    (how : Owns w' ls us R (fun b => (w.heap.size ≤ b ∧ b < w'.heap.size) ∨ ∃ (k : Nat) (j : Nat) (ad : AD), ads[k]? = some ad ∧ ad.moves = true ∧ S k j b)) :
    ∃ g', Rep P C (σ.puts (ess.flatten.map Ent.wr ++ objW (fresh d 0 ls).2)) g' a w' ∧ Each (RepLV P C (σ.puts (ess.flatten.map Ent.wr ++ objW (fresh d 0 ls).2)).o g' w') (fresh d 0 ls).1 us ∧
      Frm σ.o g w (σ.puts (ess.flatten.map Ent.wr ++ objW (fresh d 0 ls).2)).o g' w' := by
  subst hS
  -- the lent objects
  have lend : ∀ e ∈ ess.flatten, Lend P C σ g w e ∧ ∃ (k : Nat) (es : List Ent) (ad : AD) (v : Value), ess[k]? = some es ∧ e ∈ es ∧ ads[k]? = some ad ∧ vs[k]? = some v ∧ ∃ wk rk, ArgF P C σ g w ad wk rk v es := by
    intro e he
    obtain ⟨es, hes, hee⟩ := List.mem_flatten.1 he
    obtain ⟨k, hk, rfl⟩ := List.mem_iff_getElem.1 hes
    have hka : k < ads.length := by omega
    have hkv : k < vs.length := by omega
    obtain ⟨wk, rk, q1, _⟩ := hA k ess[k] ads[k] vs[k] (List.getElem?_eq_getElem hk) (List.getElem?_eq_getElem hka) (List.getElem?_eq_getElem hkv)
    exact ⟨q1.lend e hee, k, ess[k], ads[k], vs[k], List.getElem?_eq_getElem hk, hee, List.getElem?_eq_getElem hka, List.getElem?_eq_getElem hkv, wk, rk, q1⟩
  have uniq : ∀ e ∈ ess.flatten, ∀ e' ∈ ess.flatten, e.o = e'.o → e = e' := by
    intro e he e' he' ho
    obtain ⟨_, k, es, _, _, hk, hm, _⟩ := lend e he
    obtain ⟨_, k', es', _, _, hk', hm', _⟩ := lend e' he'
    exact (ess_inj hn hk hk' hm hm' ho).2
  have hXof : ∀ b, (∃ (k j : Nat), ∃ es : List Ent, ess[k]? = some es ∧ ∃ e ∈ es, e.j = j ∧ e.S b) → ∃ e ∈ ess.flatten, e.S b := by
    rintro b ⟨k, j, es, hk, e, he, _, hb⟩
    exact ⟨e, List.mem_flatten.2 ⟨es, List.mem_of_getElem? hk, he⟩, hb⟩
  have hXL : ∀ b, (∃ (k j : Nat), ∃ es : List Ent, ess[k]? = some es ∧ ∃ e ∈ es, e.j = j ∧ e.S b) → g.L b := by
    intro b hb
    obtain ⟨e, he, hb⟩ := hXof b hb
    exact ⟨e.o, (lend e he).1.sub b hb⟩
  have hmv : ∀ b, (∃ (k : Nat) (j : Nat) (ad : AD), ads[k]? = some ad ∧ ad.moves = true ∧ ∃ es : List Ent, ess[k]? = some es ∧ ∃ e ∈ es, e.j = j ∧ e.S b) → ∃ e ∈ ess.flatten, e.S b ∧ e.x = .dead := by
    rintro b ⟨k, j, ad, hk, hmo, es, hes, e, he, _, hb⟩
    have hkv : k < vs.length := by rw [← hle]; exact (List.getElem?_eq_some_iff.1 hes).1
    obtain ⟨wk, rk, q1, _⟩ := hA k es ad vs[k] hes hk (List.getElem?_eq_getElem hkv)
    exact ⟨e, List.mem_flatten.2 ⟨es, List.mem_of_getElem? hes, he⟩, hb, q1.mv hmo e he⟩
  -- the new state
  let O' := (σ.puts (ess.flatten.map Ent.wr ++ objW (fresh d 0 ls).2)).o
  obtain ⟨hs', hO⟩ := puts_o (ess.flatten.map Ent.wr ++ objW (fresh d 0 ls).2) σ (fun x hx => by
    rcases List.mem_append.1 hx with hx | hx
    · obtain ⟨e, _, rfl⟩ := List.mem_map.1 hx; exact ⟨_, _, rfl⟩
    · exact objW_o x hx)
  have hent : ∀ j x, Wr.o j x ∈ ess.flatten.map Ent.wr → ∃ e ∈ ess.flatten, e.o = j ∧ e.x = x := by
    intro j x hx
    obtain ⟨e, he, hw⟩ := List.mem_map.1 hx
    simp only [Ent.wr, Wr.o.injEq] at hw
    exact ⟨e, he, hw.1, hw.2⟩
  have hnew : ∀ j x, Wr.o j x ∈ objW (fresh d 0 ls).2 → σ.o j = none ∧ ∃ (n : Nat) (t : Ty) (xs : List (den t)), ls[n]? = some (.sl t xs) ∧ j = oid d (slCount (ls.take n)) ∧ x = .tree t xs 0 := by
    intro j x hx
    rw [mem_objW] at hx
    refine ⟨hfree _ hx, ?_⟩
    obtain ⟨n, k, t, xs, h1, h2, h3⟩ := fresh_objs d ls 0 _ hx
    simp only [Prod.mk.injEq, Nat.zero_add] at h3
    exact ⟨n, t, xs, h1, by rw [← h2]; exact h3.1, h3.2⟩
  have hleaf : ∀ j, leafOf d ls j = none ∨ ∃ (n : Nat) (t : Ty) (xs : List (den t)), leafOf d ls j = some n ∧ ls[n]? = some (.sl t xs) ∧ j = oid d (slCount (ls.take n)) ∧ σ.o j = none ∧ O' j = some (.tree t xs 0) := by
    intro j
    cases hf : leafOf d ls j with
    | none => exact .inl rfl
    | some n =>
      obtain ⟨t, xs, h1, h2⟩ := leafOf_some hf
      have hm : (j, Obj.tree t xs 0) ∈ (fresh d 0 ls).2 := by
        have := (fresh_lv d ls 0 n _ h1).2 t xs rfl
        rw [Nat.zero_add, ← h2] at this; exact this
      have hnone := hfree _ hm
      refine .inr ⟨n, t, xs, rfl, h1, h2, hnone, ?_⟩
      rcases hO j with ⟨x, hx, e⟩ | ⟨hx, e⟩
      · rcases List.mem_append.1 hx with hx | hx
        · obtain ⟨e0, he0, ho0, _⟩ := hent j x hx
          have := (lend e0 he0).1.here
          rw [ho0, hnone] at this; cases this
        · obtain ⟨_, n', t', xs', h1', h2', h3'⟩ := hnew j x hx
          have := slCount_inj h1 h1' (oid_inj (h2.symm.trans h2'))
          subst this
          rw [h1] at h1'
          simp only [Option.some.injEq, Leaf.sl.injEq] at h1'
          obtain ⟨rfl, h1'⟩ := h1'
          have h1' := eq_of_heq h1'; subst h1'
          rw [show O' j = _ from e, h3']
      · exact absurd (List.mem_append.2 (.inr (mem_objW.2 hm))) (hx _)
  have hleafSome : ∀ j, (σ.o j).isSome → leafOf d ls j = none := by
    intro j hj
    rcases hleaf j with h0 | ⟨n, t, xs, _, _, _, h0, _⟩
    · exact h0
    · rw [h0] at hj; cases hj
  have hOE : ∀ e ∈ ess.flatten, O' e.o = some e.x := by
    intro e he
    rcases hO e.o with ⟨x, hx, hh⟩ | ⟨hx, _⟩
    · rcases List.mem_append.1 hx with hx | hx
      · obtain ⟨e', he', ho', rfl⟩ := hent _ _ hx
        rw [uniq e' he' e he ho'] at hh; exact hh
      · have := (hnew _ _ hx).1
        have h2 := (lend e he).1.here
        rw [this] at h2; cases h2
    · exact absurd (List.mem_append.2 (.inl (List.mem_map.2 ⟨e, he, rfl⟩))) (hx e.x)
  have hOld : ∀ j, leafOf d ls j = none → (∀ e ∈ ess.flatten, e.o ≠ j) → O' j = σ.o j := by
    intro j hl hj
    rcases hO j with ⟨x, hx, hh⟩ | ⟨_, hh⟩
    · rcases List.mem_append.1 hx with hx | hx
      · obtain ⟨e', he', ho', _⟩ := hent _ _ hx
        exact absurd ho' (hj e' he')
      · obtain ⟨_, n, t, xs, h1, h2, _⟩ := hnew _ _ hx
        rw [h2, leafOf_eq h1] at hl; cases hl
    · exact hh
  let g' : Gh := ⟨fun j => match leafOf d ls j with | some n => us.getD n undef | none => g.hv j,
    fun j b => match leafOf d ls j with | some n => R n b | none => (¬ ∃ e ∈ ess.flatten, e.o = j ∧ e.x = .dead) ∧ g.fp j b⟩
  have hRb : ∀ n b, R n b → b < w'.heap.size ∧ (w.heap.size ≤ b ∨ ∃ e ∈ ess.flatten, e.S b ∧ e.x = .dead) := by
    intro n b hb
    rcases how.sub n b hb with h1 | h1
    · exact ⟨h1.2, .inl h1.1⟩
    · obtain ⟨e, he, hb', hx⟩ := hmv b h1
      exact ⟨Nat.lt_of_lt_of_le (h.fps e.o b ((lend e he).1.sub b hb')).1 hsz.size, .inr ⟨e, he, hb', hx⟩⟩
  have hkeep : ∀ o b, b < w.heap.size → (g.fp o b ∨ ¬ g.L b) → (∀ e ∈ ess.flatten, e.o = o → ¬ e.S b) → w'.heap[b]? = w.heap[b]? := by
    intro o b hb hf hno
    refine hsame b hb (fun hx => ?_)
    obtain ⟨e, he, hb'⟩ := hXof b hx
    rcases hf with hf | hf
    · exact hno e he (h.dis _ _ _ ((lend e he).1.sub b hb') hf) hb'
    · exact hf (hXL b hx)
  have hstep := h.step (O' := O') (g' := g') (w' := w') hsz (fun b hb hl => hsame b hb (fun hx => hl (hXL b hx))) ?_ ?_ ?_ ?_ ?_ ?_ ?_
  · obtain ⟨F, hrep⟩ := hstep
    refine ⟨g', ?_, ⟨by rw [fresh_length]; exact how.len, fun n l u hl hu => ?_⟩, F⟩
    · have e : (⟨σ.s, O'⟩ : St) = σ.puts (ess.flatten.map Ent.wr ++ objW (fresh d 0 ls).2) := by rw [← hs']
      rw [← e]; exact hrep
    · have hnl : n < ls.length := by rw [← fresh_length d ls 0]; exact (List.getElem?_eq_some_iff.1 hl).1
      have hlf := fresh_lv d ls 0 n ls[n] (List.getElem?_eq_getElem hnl)
      rw [hl] at hlf
      have hown := how.own n ls[n] u (List.getElem?_eq_getElem hnl) hu
      cases hc : ls[n] with
      | val v =>
        rw [hc] at hlf hown
        rw [Option.some.inj hlf.1]
        cases hown
        exact ⟨rfl, List.all_eq_true.1 hpl (.val u) (by rw [← hc]; exact List.getElem_mem hnl)⟩
      | sl t xs =>
        rw [hc] at hlf hown
        rw [Option.some.inj hlf.1, Nat.zero_add]
        have hg : ls[n]? = some (.sl t xs) := by rw [List.getElem?_eq_getElem hnl, hc]
        have hlo := leafOf_eq (d := d) hg
        rcases hleaf (oid d (slCount (ls.take n))) with h0 | ⟨n', t', xs', h0, _, _, _, h1⟩
        · rw [h0] at hlo; cases hlo
        · refine ⟨by show (O' _).isSome = true; rw [h1]; rfl, ?_, ?_⟩
          · show u = g'.hv _
            simp only [g', hlo]
            rw [List.getD_eq_getElem?_getD, hu]; rfl
          · obtain ⟨aa, cc, hu'⟩ := hown.rd.len
            exact ⟨aa, _, cc, hu'⟩
  · rintro b ⟨j, hb⟩
    simp only [g'] at hb
    split at hb
    · rcases (hRb _ b hb).2 with h1 | ⟨e, he, h1, _⟩
      · exact .inr h1
      · exact .inl ⟨e.o, (lend e he).1.sub b h1⟩
    · exact .inl ⟨j, hb.2⟩
  · intro i hi
    have hl := hleafSome i hi
    refine ⟨?_, by simp only [g', hl]⟩
    by_cases he : ∃ e ∈ ess.flatten, e.o = i
    · obtain ⟨e, he, rfl⟩ := he
      rw [hOE e he]; rfl
    · rw [hOld i hl (fun e h1 h2 => he ⟨e, h1, h2⟩)]; exact hi
  · intro o γ i f v hsb
    have hl := hleafSome o hsb.1.1
    by_cases he : ∃ e ∈ ess.flatten, e.o = o
    · obtain ⟨e, he, rfl⟩ := he
      exact (lend e he).1.subs O' g' w' (by simp only [g', hl]) (hOE e he) (fun b hb hf hns => hkeep e.o b hb (.inl hf) (fun e' he' ho' => by rw [uniq e' he' e he ho']; exact hns)) γ i f v hsb
    · exact hsb.frame h (fun b hb hf => hkeep o b hb hf (fun e h1 h2 => absurd ⟨e, h1, h2⟩ he)) (by simp only [g', hl]) (hOld o hl (fun e h1 h2 => he ⟨e, h1, h2⟩))
  · intro i hi b hb
    simp only [g'] at hb
    split at hb
    · rename_i n hn'
      rcases hleaf i with h0 | ⟨_, _, _, _, _, _, _, h1⟩
      · rw [h0] at hn'; cases hn'
      · rw [h1] at hi; cases hi
    · rename_i hl
      by_cases he : ∃ e ∈ ess.flatten, e.o = i
      · obtain ⟨e, he, rfl⟩ := he
        rw [hOE e he] at hi; cases hi
      · rw [hOld i hl (fun e h1 h2 => he ⟨e, h1, h2⟩)] at hi
        exact h.absent i hi b hb.2
  · intro i b hb
    simp only [g'] at hb
    split at hb
    · exact (hRb _ b hb).1
    · exact Nat.lt_of_lt_of_le (h.fps i b hb.2).1 hsz.size
  · intro i j b hi hj
    simp only [g'] at hi hj
    have mix : ∀ n k, R n b → (¬ ∃ e ∈ ess.flatten, e.o = k ∧ e.x = .dead) ∧ g.fp k b → False := by
      rintro n k hr ⟨hnd, hf⟩
      rcases (hRb n b hr).2 with h1 | ⟨e, he, h1, h2⟩
      · have := (h.fps k b hf).1; omega
      · exact hnd ⟨e, he, h.dis _ _ _ ((lend e he).1.sub b h1) hf, h2⟩
    split at hi
    · rename_i n hn1
      split at hj
      · rename_i m hm1
        have := how.dis n m b hi hj
        subst this
        obtain ⟨_, _, _, e1⟩ := leafOf_some hn1
        obtain ⟨_, _, _, e2⟩ := leafOf_some hm1
        rw [e1, e2]
      · exact (mix n j hi hj).elim
    · split at hj
      · exact (mix _ i hj hi).elim
      · exact h.dis i j b hi.2 hj.2
  · intro F i x hx
    rcases hleaf i with hl | ⟨n, t, xs, hl, hls, hid, _, ho⟩
    · by_cases he : ∃ e ∈ ess.flatten, e.o = i
      · obtain ⟨e, he, rfl⟩ := he
        rw [hOE e he] at hx
        obtain rfl := Option.some.inj hx
        obtain ⟨hL, k, es, ad, v, hk, hm, hka, hkv, wk, rk, hF⟩ := lend e he
        refine hL.back O' g' w' F (by simp only [g', hl]) (fun b => ?_) (fun b hb hf hns => hkeep e.o b hb (.inl hf) (fun e' he' ho' => by rw [uniq e' he' e he ho']; exact hns)) ?_
        · simp only [g', hl]
          constructor
          · rintro ⟨h1, h2⟩; exact ⟨fun h3 => h1 ⟨e, he, rfl, h3⟩, h2⟩
          · rintro ⟨h1, h2⟩
            refine ⟨?_, h2⟩
            rintro ⟨e', he', ho', hx'⟩
            rw [uniq e' he' e he ho'] at hx'; exact h1 hx'
        · have : ArgAfter w w' v (fun j b => ∃ es : List Ent, ess[k]? = some es ∧ ∃ e ∈ es, e.j = j ∧ e.S b) ad := haf k ad v hka hkv
          have hSk : (fun j b => ∃ es : List Ent, ess[k]? = some es ∧ ∃ e ∈ es, e.j = j ∧ e.S b) = fun j b => ∃ e ∈ es, e.j = j ∧ e.S b := by
            funext j b
            apply propext
            constructor
            · rintro ⟨es', h1, h2⟩
              rw [hk] at h1; obtain rfl := Option.some.inj h1; exact h2
            · intro h2; exact ⟨es, hk, h2⟩
          rw [hSk] at this
          exact hF.after w' this e hm (fun e' he' hj' => hF.js e hm e' he' hj')
      · have hne : ∀ e ∈ ess.flatten, e.o ≠ i := fun e h1 h2 => he ⟨e, h1, h2⟩
        rw [hOld i hl hne] at hx
        refine RepObj.keep F (by simp only [g', hl]) (fun b => ?_) (fun b hb => hkeep i b (h.fps i b hb).1 (.inl hb) (fun e h1 h2 => absurd h2 (hne e h1))) (h.objs i x hx)
        simp only [g', hl]
        exact ⟨fun hh => hh.2, fun hh => ⟨fun ⟨e, h1, h2, _⟩ => hne e h1 h2, hh⟩⟩
    · rw [ho] at hx
      obtain rfl := Option.some.inj hx
      show Own w' (.sl t xs) (g'.hv i) (g'.fp i)
      have hnu : n < us.length := by rw [how.len]; exact (List.getElem?_eq_some_iff.1 hls).1
      have hown := how.own n _ us[n] hls (List.getElem?_eq_getElem hnu)
      have e1 : g'.hv i = us[n] := by
        simp only [g', hl]
        rw [List.getD_eq_getElem?_getD, List.getElem?_eq_getElem hnu]; rfl
      have e2 : g'.fp i = R n := by funext b; simp only [g', hl]
      rw [e1, e2]
      exact hown

end
end Go.Pi

/- Calls: the operation. -/
namespace Go.Pi
variable {P : Program} {C : Ctx} {T : Tab}
section
variable {σ : St} {g : Gh} {a : Act} {w : World} {Qx : Exit → Act → World → Prop}

theorem frees_ok : ∀ {l : List (Nat × Obj)} {u : Unit}, Ev σ (frees l) u → ∀ p ∈ l, σ.o p.1 = none
  | [], _, _, p, hp => by cases hp
  | (n, x) :: l, u, e, p, hp => by
    rw [frees, Ev_free] at e
    rcases List.mem_cons.1 hp with rfl | hp
    · exact e.1
    · exact frees_ok e.2 p hp

theorem enter_run {f : FuncId} {xs : Array Operand} {ts : Array TypeId} {o : Oper} (ho : o.op = .call { callee := .value (.func f), args := xs, argTypes := ts }) (hc : Callable P f) :
    (execOp a.eval o).run P w = .ok (.enter f (xs.map a.eval)) w := by
  obtain ⟨fn, h1, h2, h3⟩ := hc
  have h2' : ¬ fn.name = "runtime.NumGoroutine" := by simpa using h2
  have h3' : ¬ fn.body = none := by intro e; rw [e] at h3; cases h3
  unfold execOp
  rw [ho]
  simp [resolve, Act.eval, Deferred.ofValue, invoke, callFunc, h1, h2', h3']

theorem call_ok (h : Rep P C σ g a w) {o : Oper} (hd : ∀ d, o.dst = some d → C.Fit d) {f : FuncId} {xs : Array Operand} {ts : Array TypeId} (ho : o.op = .call { callee := .value (.func f), args := xs, argTypes := ts }) {c : Orc} {pk : Bool} {ws : List Wr}
    (e : Ev σ (step P T o c pk) ws) : o.wp P a w (After P C σ ws) Qx := by
  unfold Go.Pi.step at e
  rw [ho] at e
  simp only at e
  rw [Ev_bind] at e
  obtain ⟨svs, e1, e⟩ := e
  rw [Ev_bind] at e
  obtain ⟨⟨ads, ws1, rds⟩, e2, e⟩ := e
  simp only at e
  split at e
  case isFalse => exact (Ev_fail.1 e).elim
  rename_i hc
  obtain ⟨hc, hfit⟩ := hc
  rw [Ev_ask, Ev_bind] at e
  obtain ⟨hP, ws2, e3, e⟩ := e
  rw [Ev_ret] at e; subst e
  obtain ⟨hl, hv⟩ := opds_ok h e1
  obtain ⟨ess, i1, i2, i3, i4⟩ := args_ok h e2 (vs := xs.toList.map a.eval) (by simp [hl]) (fun k x v hx hu => by
    rw [List.getElem?_map, Option.map_eq_some_iff] at hu
    obtain ⟨y, hy, rfl⟩ := hu
    exact hv k y x hy hx)
  subst i3
  obtain ⟨hn, hnr⟩ := noClash_ok hc
  have hvl : (xs.toList.map a.eval).length = svs.length := by simp [hl]
  let S : Nat → Nat → Nat → Prop := fun k j b => ∃ es : List Ent, ess[k]? = some es ∧ ∃ e ∈ es, e.j = j ∧ e.S b
  have entOf : ∀ k j b, S k j b → ∃ es e, ess[k]? = some es ∧ e ∈ es ∧ e.j = j ∧ e.S b ∧ g.fp e.o b ∧ e ∈ ess.flatten := by
    rintro k j b ⟨es, hk, e, he, hj, hb⟩
    have hkl : k < ess.length := (List.getElem?_eq_some_iff.1 hk).1
    obtain ⟨wk, rk, q1, _⟩ := i4 k es ads[k] (xs.toList.map a.eval)[k] hk (List.getElem?_eq_getElem (by omega)) (List.getElem?_eq_getElem (by omega))
    exact ⟨es, e, hk, he, hj, hb, (q1.lend e he).sub b hb, List.mem_flatten.2 ⟨es, List.mem_of_getElem? hk, he⟩⟩
  have hXL : ∀ b, (∃ k j, S k j b) → g.L b := fun b ⟨k, j, hb⟩ => by
    obtain ⟨_, e, _, _, _, _, hf, _⟩ := entOf k j b hb; exact ⟨e.o, hf⟩
  have hXr : ∀ o ∈ rds, ∀ b, g.fp o b → ¬ ∃ k j, S k j b := fun o ho b hf ⟨k, j, hb⟩ => by
    obtain ⟨_, e, _, _, _, _, hf', hm⟩ := entOf k j b hb
    have := h.dis _ _ _ hf hf'; subst this
    exact hnr e hm ho
  have hcall := hP.2 w (xs.toList.map a.eval) S (by simp only [i2]; exact hvl) (fun k j b hb => by
      obtain ⟨es, e, hk, _, _, _, hf, _⟩ := entOf k j b hb
      exact ⟨(h.fps _ _ hf).1, by rw [i2, ← i1]; exact (List.getElem?_eq_some_iff.1 hk).1⟩) (fun k j k' j' b h1 h2 => by
      obtain ⟨es, e, hk, he, hj, _, hf, _⟩ := entOf k j b h1
      obtain ⟨es', e', hk', he', hj', _, hf', _⟩ := entOf k' j' b h2
      obtain ⟨q1, q2⟩ := ess_inj hn hk hk' he he' (h.dis _ _ _ hf hf')
      exact ⟨q1, by rw [← hj, ← hj', q2]⟩) (fun k ad v hk hv' => by
      have hkl : k < ess.length := by rw [i1, ← i2]; exact (List.getElem?_eq_some_iff.1 hk).1
      obtain ⟨wk, rk, q1, q2⟩ := i4 k ess[k] ad v (List.getElem?_eq_getElem hkl) hk hv'
      have := q1.ok (fun b => ∃ k j, S k j b) hXL (fun o ho b hf => hXr o (q2 o ho) b hf)
      have hSk : (fun j b => ∃ e ∈ ess[k], e.j = j ∧ e.S b) = S k := by
        funext j b
        apply propext
        exact ⟨fun hh => ⟨ess[k], List.getElem?_eq_getElem hkl, hh⟩, fun ⟨es, h1, h2⟩ => by rw [List.getElem?_eq_getElem hkl] at h1; rw [Option.some.inj h1]; exact h2⟩
      rw [hSk] at this
      exact this)
  have hrun := enter_run (a := a) (w := w) ho hP.1
  unfold Oper.wp
  rw [hrun, Oper.upon_enter]
  rw [show xs.map a.eval = (xs.toList.map a.eval).toArray by apply Array.ext'; simp]
  refine hcall.mono ?_
  rintro ec w' ⟨rv, rfl, hsz, hsame, haf, hres⟩
  show After P C σ (ess.flatten.map Ent.wr ++ ws2) (a.put o.dst rv) w'
  have base : ∀ (ls : List Leaf) (us : List Value) (R : Nat → Nat → Prop), (∀ p ∈ (fresh (o.dst.getD 0) 0 ls).2, σ.o p.1 = none) → ls.all leafPlain = true →
      Owns w' ls us R (fun b => (w.heap.size ≤ b ∧ b < w'.heap.size) ∨ ∃ (k : Nat) (j : Nat) (ad : AD), ads[k]? = some ad ∧ ad.moves = true ∧ S k j b) →
      ∃ g', Rep P C (σ.puts (ess.flatten.map Ent.wr ++ objW (fresh (o.dst.getD 0) 0 ls).2)) g' a w' ∧
        Each (RepLV P C (σ.puts (ess.flatten.map Ent.wr ++ objW (fresh (o.dst.getD 0) 0 ls).2)).o g' w') (fresh (o.dst.getD 0) 0 ls).1 us := fun ls us R h1 h2 h3 => by
    obtain ⟨g', q1, q2, _⟩ := call_rep h hn (by rw [i2, hvl]) (by rw [i1, hvl]) i4 hsz S rfl hsame haf h1 h2 h3
    exact ⟨g', q1, q2⟩
  unfold result at e3
  split at e3
  · rename_i x hrd
    rw [Ev_bind] at e3
    obtain ⟨u, e4, e3⟩ := e3
    rw [Ev_ret] at e3; subst e3
    rw [hrd] at hres hfit
    simp only [rdFit, Bool.and_eq_true, Bool.or_eq_true, beq_iff_eq] at hfit
    obtain ⟨us, R, hrv, how, hag⟩ := hres
    obtain ⟨g', q1, q2⟩ := base x.2 us R (frees_ok e4) hfit.1 how
    rw [← List.append_assoc, After, puts_append]
    refine ⟨g', q1.slotW hd ⟨us, hrv, q2, fun e => ?_⟩⟩
    rw [fresh_length]; exact hag e
  · rename_i ys hrd
    rw [Ev_bind] at e3
    obtain ⟨u, e4, e3⟩ := e3
    rw [Ev_ret] at e3; subst e3
    rw [hrd] at hres hfit
    simp only [rdFit, List.all_eq_true, Bool.and_eq_true, Bool.or_eq_true, beq_iff_eq] at hfit
    obtain ⟨us, R, hrv, how, hag⟩ := hres
    obtain ⟨t1, t2⟩ := freshTup_eq (o.dst.getD 0) ys 0
    rw [t1] at e4 ⊢
    obtain ⟨g', q1, q2⟩ := base (ys.flatMap (·.2)) us R (frees_ok e4) (by
      rw [List.all_eq_true]
      intro l hl
      obtain ⟨y, hy, hl⟩ := List.mem_flatMap.1 hl
      exact (hfit y hy).1 l hl) how
    rw [← List.append_assoc, After, puts_append]
    have shape : ∀ (ys : List Cn) (j : Nat) (us : List Value), parts (freshTup (o.dst.getD 0) j ys).1 us = parts ys us ∧ ∀ x ∈ (freshTup (o.dst.getD 0) j ys).1, ∃ y ∈ ys, x.1 = y.1 ∧ x.2.length = y.2.length := by
      intro ys
      induction ys with
      | nil => intro j us; exact ⟨rfl, fun x hx => by cases hx⟩
      | cons y ys ih =>
        intro j us
        obtain ⟨p1, p2⟩ := ih (j + slCount y.2) (us.drop y.2.length)
        refine ⟨by simp only [freshTup, parts, fresh_length, p1], fun x hx => ?_⟩
        simp only [freshTup, List.mem_cons] at hx
        rcases hx with rfl | hx
        · exact ⟨y, by simp, rfl, fresh_length _ _ _⟩
        · obtain ⟨y', hy', e1, e2⟩ := p2 x hx; exact ⟨y', by simp [hy'], e1, e2⟩
    obtain ⟨p1, p2⟩ := shape ys 0 us
    refine ⟨g', q1.slotW hd ⟨us, by rw [p1]; exact hrv, by rw [t2]; exact q2, fun x hx hx1 => ?_⟩⟩
    obtain ⟨y, hy, e1, e2⟩ := p2 x hx
    rw [e2]; exact hag y hy (by rw [← e1]; exact hx1)
  · rename_i ls hrd
    rw [Ev_free, Ev_ret] at e3
    obtain ⟨hf, e3⟩ := e3
    subst e3
    rw [hrd] at hres hfit
    simp only [rdFit, Bool.and_eq_true, List.isEmpty_iff] at hfit
    obtain ⟨⟨hpl, hw0⟩, hr0⟩ := hfit
    have hfl : ess.flatten = [] := by simpa using hw0
    have hS0 : ∀ k j b, ¬ S k j b := fun k j b hb => by
      obtain ⟨_, e, _, _, _, _, _, hm⟩ := entOf k j b hb
      rw [hfl] at hm; cases hm
    obtain ⟨blk, cc, el, hrv, hheap, hge, hlt, hea⟩ := hres
    rw [hw0, List.nil_append]
    have hroeach : Each (RepLV P C σ.o g w) (ls.map roLV) cc.toList := by
      refine ⟨by have := hea.len; simp [this], fun j l u hl hu => ?_⟩
      rw [List.getElem?_map, Option.map_eq_some_iff] at hl
      obtain ⟨l0, hl0, rfl⟩ := hl
      rcases hea.at_ j l0 u hl0 hu with ⟨v, rfl, rfl⟩ | ⟨t, ys, k, rfl, hk, hku⟩
      · exact ⟨rfl, List.all_eq_true.1 hpl _ (List.mem_of_getElem? hl0)⟩
      · have hkl : k < ess.length := by rw [i1, ← i2]; exact (List.getElem?_eq_some_iff.1 hk).1
        obtain ⟨wk, rk, q1, q2⟩ := i4 k ess[k] _ u (List.getElem?_eq_getElem hkl) hk hku
        have := q1.ok g.L (fun b hb => hb) (fun o ho => by have := q2 o ho; rw [hr0] at this; cases this)
        obtain ⟨us, hm, he1, _⟩ := this.2
        obtain ⟨u', rfl, hu'⟩ := he1.one
        rw [show u = u' from hm]
        exact hu'
    have hsw := h.swap (os := []) (i := oid (o.dst.getD 0) 0) (x := .box (ls.map roLV)) (v := .pointer (some ⟨blk, 0, none⟩)) (S := fun b => b = blk) (w' := w') hf hsz
      (fun b hb _ => hsame b hb (fun ⟨k, j, hb⟩ => hS0 k j b hb)) (fun b hb => by subst hb; exact ⟨hlt, .inl hge⟩) (fun F => ⟨blk, cc, el, by simp [Gh.swap], hheap, fun b => by simp [Gh.swap], hroeach.imp fun _ _ => F.lv⟩)
    obtain ⟨F, hrep⟩ := hsw
    refine ⟨_, Rep.slotW (σ := σ.put (.o (oid (o.dst.getD 0) 0) (.box (ls.map roLV)))) hrep hd (RepSV.mk1 ⟨by rw [put_o_eq]; rfl, blk, by simp [Gh.swap], hrv⟩)⟩

/-- A call of a function value that came in. -/
theorem callv_ok (h : Rep P C σ g a w) {o : Oper} (hd : ∀ d, o.dst = some d → C.Fit d) {f : Tmp} {xs : Array Operand} {ts : Array TypeId} (ho : o.op = .call { callee := .value (.tmp f), args := xs, argTypes := ts }) {c : Orc} {pk : Bool} {ws : List Wr}
    (e : Ev σ (step P T o c pk) ws) : o.wp P a w (After P C σ ws) Qx := by
  unfold Go.Pi.step at e
  rw [ho] at e
  simp only at e
  rw [Ev_slot] at e
  obtain ⟨vf, hvf, e⟩ := e
  rw [Ev_bind] at e
  obtain ⟨lf, e0, e⟩ := e
  have hf := (h.slots _ _ hvf).2
  rw [asOne_ok e0] at hf
  have hf := hf.one
  split at e
  case h_2 => exact (Ev_fail.1 e).elim
  rename_i p _
  rw [Ev_bind] at e
  obtain ⟨svs, e1, e⟩ := e
  rw [Ev_bind] at e
  obtain ⟨⟨ads, ws1, rds⟩, e2, e⟩ := e
  simp only at e
  obtain ⟨hl, hv⟩ := opds_ok h e1
  obtain ⟨ess, i1, i2, i3, i4⟩ := args_ok h e2 (vs := xs.toList.map a.eval) (by simp [hl]) (fun k x v hx hu => by
    rw [List.getElem?_map, Option.map_eq_some_iff] at hu
    obtain ⟨y, hy, rfl⟩ := hu
    exact hv k y x hy hx)
  split at e
  case h_2 => exact (Ev_fail.1 e).elim
  rename_i cs r hcs hrd
  rw [Ev_ask, Ev_ret] at e
  obtain ⟨hp, e⟩ := e
  subst e
  have hcsl : ∀ (ads : List AD) (cs : List Cn), cnsOf ads = some cs → cs.length = ads.length ∧ ∀ (k : Nat) x, cs[k]? = some x → ads[k]? = some (.v x) := by
    intro ads
    induction ads with
    | nil => intro cs hm; simp [cnsOf] at hm; subst hm; exact ⟨rfl, fun k x hx => by simp at hx⟩
    | cons ad ads ih =>
      intro cs hm
      cases ad <;> try (simp [cnsOf] at hm; done)
      unfold cnsOf at hm
      split at hm
      · rename_i x _ cs' h2
        simp only [Option.some.injEq] at hm
        subst hm
        obtain ⟨q1, q2⟩ := ih cs' h2
        refine ⟨by simp [q1], fun k y hy => ?_⟩
        match k with
        | 0 => simp at hy; subst hy; rfl
        | k + 1 => simpa using q2 k y (by simpa using hy)
      · cases hm
  obtain ⟨c1, c2⟩ := hcsl ads cs hcs
  obtain ⟨fid, caps, hfv, hcal, hfn⟩ := hf
  have hc := hfn w (xs.toList.map a.eval) cs r h.grown h.kept hp (by simp [c1, i2, hl]) (fun k x v hx hu => by
    have hk := c2 k x hx
    have hkl : k < ess.length := by rw [i1, ← i2]; exact (List.getElem?_eq_some_iff.1 hk).1
    obtain ⟨wk, rk, q1, _⟩ := i4 k ess[k] _ v (List.getElem?_eq_getElem hkl) hk hu
    have := (q1.ok (fun _ => False) (fun _ h => h.elim) (fun _ _ _ _ h => h)).2
    obtain ⟨us, m1, m2, m3⟩ := this
    exact ⟨us, m1, m2.imp fun l u hr => hr.mono (fun _ _ => rfl) (fun b hb => hb.1), m3⟩)
  obtain ⟨fn, q1, q2, q3⟩ := hcal
  have hrun : (execOp a.eval o).run P w = .ok (.enter fid (xs.map a.eval ++ caps)) w := by
    unfold execOp
    rw [ho]
    have : a.eval (.tmp f) = .func (.func fid) #[] caps := hfv
    have q2' : ¬ fn.name = "runtime.NumGoroutine" := by simpa using q2
    have q3' : ¬ fn.body = none := by intro e; rw [e] at q3; cases q3
    simp [resolve, this, Deferred.ofValue, invoke, callFunc, q1, q2', q3']
  unfold Oper.wp
  rw [hrun, Oper.upon_enter]
  rw [show xs.map a.eval = (xs.toList.map a.eval).toArray by apply Array.ext'; simp]
  refine hc.mono ?_
  rintro ec w' ⟨rfl, hext⟩
  obtain ⟨F, h'⟩ := h.nothing hext
  exact ⟨g, h'.slotW hd (RepSV.mk1 ⟨rfl, rfl⟩)⟩

end
end Go.Pi

/- Every operation; regions in the order of the text. -/
namespace Go.Pi
variable {P : Program} {C : Ctx} {T : Tab}
section
variable {σ : St} {g : Gh} {a : Act} {w : World} {Qx : Exit → Act → World → Prop}

theorem slice3_ok (H : TabOk P T) (h : Rep P C σ g a w) {o : Oper} (hd : ∀ d, o.dst = some d → C.Fit d) {t : TypeId} {x : Operand}
    (ho : o.op = .slice t x (some (.const (.int .i64 0))) (some (.const (.int .i64 0))) (some (.const (.int .i64 0)))) {c : Orc} {pk : Bool} {ws : List Wr}
    (e : Ev σ (step P T o c pk) ws) : o.wp P a w (After P C σ ws) Qx := by
  unfold Go.Pi.step at e
  rw [ho] at e
  simp only [Ev_bind] at e
  obtain ⟨v, e1, l, e2, ⟨te, xs⟩, e3, e⟩ := e
  simp only at e
  split at e
  · rename_i hte
    rw [Ev_ret] at e; subst e
    have hv := opd_ok h e1
    rw [asOne_ok e2] at hv
    obtain ⟨aa, cc, hs⟩ := (asSl_ok h e3 hv.one).len
    obtain ⟨e', hE, hE'⟩ := elem_of hte
    obtain ⟨i, hi1, hi2, _⟩ := H.info _ _ hE'
    refine after_val h hd (v := .slice aa 0 0) ?_ (RepSV.mk1 ⟨aa, rfl⟩)
    have hc0 : a.eval (.const (.int .i64 0)) = .int .i64 0 := rfl
    unfold execOp
    rw [ho]
    simp [hs, hc0, Instr.sliceAt, Instr.slice, run_underlying (H.elem _ _ hE), Instr.sliceBounds, Instr.sliceBound, asIntOf, sizeOf, typeInfo, hi1]
  · exact (Ev_fail.1 e).elim

theorem step_ok (H : TabOk P T) (hB : ∀ t e, T.elem t = some e → 0 < T.bytes e) (h : Rep P C σ g a w) {o : Oper} (hd : ∀ d, o.dst = some d → C.Fit d) (hst : ∀ t x y, o.op = .store t x y → o.dst = none) {c : Orc} {pk : Bool} {ws : List Wr}
    (e : Ev σ (step P T o c pk) ws) : o.wp P a w (After P C σ ws) Qx := by
  have none_ : ∀ {op : Op}, o.op = op → (∀ c pk, step P T { o with op := op } c pk = .fail) → o.wp P a w (After P C σ ws) Qx := by
    intro op hop hf
    have : step P T o c pk = .fail := by
      have := hf c pk
      rw [← hop] at this
      exact this
    rw [this] at e; exact (Ev_fail.1 e).elim
  cases hop : o.op with
  | move x => exact move_ok h hd (.inl hop) e
  | assign x => exact move_ok h hd (.inr hop) e
  | pick c' x y => exact pick_ok h hd hop e
  | alloc t => exact alloc_ok H h hd hop e
  | box t x => exact box_ok h hd hop e
  | build t ps => exact build_ok H h hd hop e
  | buildSlice t n ps => exact buildSlice_ok H h hd hop e
  | load t x => exact load_ok H h hd hop e
  | store t x y => exact store_ok H h (hst _ _ _ hop) hop e
  | nilCheck x => exact nilCheck_ok h hd hop e
  | binOp op xt x y yt => exact binOp_ok H h hd hop e
  | unOp op xt x => exact unOp_ok h hd hop e
  | convert s t x => exact convert_ok H h hd hop e
  | makeFunc fn fs cs =>
    cases fn with
    | func f => exact makeFunc_ok h hd hop e
    | _ => exact none_ hop (fun _ _ => rfl)
  | makeSlice t n m => exact makeSlice_ok H h hd hop e
  | slice t x lo hi mx =>
    cases mx with
    | none => exact slice_ok H h hd hop e
    | some m =>
      unfold Go.Pi.step at e
      rw [hop] at e
      simp only at e
      split at e
      all_goals first
        | (rename_i heq; cases heq; done)
        | skip
      · rename_i heq
        cases heq
        exact slice3_ok (c := c) (pk := pk) H h hd hop (by unfold Go.Pi.step; rw [hop]; exact e)
      · exact (Ev_fail.1 e).elim
  | fieldAddr t x j => exact fieldAddr_ok H h hd hop e
  | indexAddr t x i => exact indexAddr_ok H h hd hop e
  | extract x j => exact extract_ok h hd hop e
  | call cl =>
    obtain ⟨callee, args, ts⟩ := cl
    cases callee with
    | value f =>
      cases f with
      | func f => exact call_ok h hd hop e
      | tmp f => exact callv_ok h hd hop e
      | _ => exact none_ hop (fun _ _ => rfl)
    | invoke r m => exact none_ hop (fun _ _ => rfl)
    | builtin b =>
      cases b with
      | len => exact len_ok H h hd hop e
      | max => exact mm_ok h hd (.inl rfl) hop e
      | min => exact mm_ok h hd (.inr rfl) hop e
      | append => exact append_ok H hB h hd hop e
      | _ => exact none_ hop (fun _ _ => rfl)
  | _ => exact none_ hop (fun _ _ => rfl)

end
end Go.Pi

/- Operations on what is split; how a state comes to be split. -/
namespace Go.Pi
variable {P : Program} {C : Ctx} {T : Tab}
section
variable {σ : St} {g : Gh} {a : Act} {w : World} {Qx : Exit → Act → World → Prop}

theorem Adds.ofElems {te : Ty} {ok : Nat → Prop} {ys : List (den te)} {v : Value} {S : Nat → Prop} (ho : ElemsOk w ok te ys v S) {tx e' : TypeId} (hk : P.underlying tx = some (.slice e')) : Nonempty (Adds P w te tx ys v S) := by
  rcases ho with ⟨rfl, ⟨aa, c, rfl⟩, _⟩ | ⟨blk, off, cap, V, F, rfl, _, hlen, hc, hn, hS, hdis⟩
  · refine ⟨⟨[], fun _ _ _ => False, rfl, (fun us hu => by cases hu), ?_, (fun j us x hu => by simp at hu), (fun _ _ _ h => h.elim), (fun _ _ _ h => h.elim), (fun _ _ _ _ _ h => h.elim)⟩⟩
    cases aa with
    | none => exact Src.ofNil w hk c
    | some aa => exact Src.ofSlice w hk aa 0 c [] (by simp) (fun j u hu => by simp at hu) (fun u hu => by cases hu)
  · obtain ⟨h1, h2, h3⟩ := rows_of (P := P) (w := w) (te := te) (ys := ys) (blk := blk) (off := off) (cap := cap) (V := V) (ok := fun _ => True) (fun i f hi hf => hc i f hi hf)
      (fun i x hx f l hl => (hn i x hx f l hl).rd.mono (fun _ _ => rfl) (fun _ _ => trivial)) hk
    refine ⟨⟨_, fun j f b => j < ys.length ∧ f < width te ∧ F j f b, by simp, h2, h1, fun j us x hu hx f l u hl hu' => ?_, fun j f b hb' => (hS b).2 ⟨j, f, hb'.1, hb'.2.1, hb'.2.2⟩, (fun j f b hb' => ⟨hb'.1, hb'.2.1⟩),
      fun i f j f' b h1 h2 => hdis i f j f' b h1.1 h1.2.1 h2.1 h2.2.1 h1.2.2 h2.2.2⟩⟩
    have hj : j < ys.length := (List.getElem?_eq_some_iff.1 hx).1
    have hfw : f < width te := by rw [← cells_length te x]; exact (List.getElem?_eq_some_iff.1 hl).1
    have := h3 j f hj hfw
    rw [hu] at this
    simp only [Option.bind_some, hu'] at this
    rw [Option.some.inj this]
    exact (hn j x hx f l hl).congr (fun b => ⟨fun h => h.2.2, fun h => ⟨hj, hfw, h⟩⟩)

theorem ElemsOk.len {ok : Nat → Prop} {te : Ty} {ys : List (den te)} {v : Value} {S : Nat → Prop} (h : ElemsOk w ok te ys v S) : ∃ aa n c, v = .slice aa n c := by
  rcases h with ⟨_, ⟨aa, c, rfl⟩, _⟩ | ⟨blk, off, cap, V, F, rfl, _⟩
  · exact ⟨_, _, _, rfl⟩
  · exact ⟨_, _, _, rfl⟩

theorem stepX_ok (H : TabOk P T) (hB : ∀ t e, T.elem t = some e → 0 < T.bytes e) (h : Rep P C σ g a w) {o : Oper} (hd : ∀ d, o.dst = some d → C.Fit d) (hst : ∀ t x y, o.op = .store t x y → o.dst = none) {ws : List Wr}
    (e : Ev σ (stepX T o) ws) : o.wp P a w (After P C σ ws) Qx := by
  unfold stepX at e
  split at e
  · rename_i t x ho
    simp only [Ev_bind] at e
    obtain ⟨v, e1, l, e2, e⟩ := e
    have hv := opd_ok h e1
    obtain rfl := asOne_ok e2
    have hl := hv.one
    split at e
    · rename_i t' ob i off ty hty
      rw [Ev_obj] at e
      obtain ⟨y, hy, e⟩ := e
      split at e
      · rename_i t'' xs γ i' f' o2
        split at e
        · rename_i hc
          obtain ⟨rfl, rfl, hw1, hag⟩ := hc
          rw [Ev_ask, Ev_obj] at e
          obtain ⟨rfl, z, hz, e⟩ := e
          split at e
          · rw [Ev_ret] at e; subst e
            obtain ⟨vb, blk, o', n, cap, hb, rfl, hi, hx⟩ := hl
            obtain ⟨h1, h2, h3, h4, blk', off', cap', h5, h6, h7⟩ := h.objs _ _ hy
            have hb2 := hb.2.1
            rw [h5] at hb2
            simp only [hdr, Value.slice.injEq, Option.some.injEq, Addr.mk.injEq, and_true] at hb2
            obtain ⟨⟨rfl, rfl⟩, rfl, rfl⟩ := hb2
            have hrun := load_run H hty (w := w) (b := blk) (o := o' + i * width t'' + off) (us := [g.hv o2]) (by simp [hw1]) (fun j u hu => by
              match j with
              | 0 => simp only [List.getElem?_cons_zero, Option.some.injEq] at hu; subst hu; simpa using h7
              | j + 1 => simp at hu)
            rw [hag, mkv_one] at hrun
            refine wp_val (v := g.hv o2) (w' := w) ?_ ⟨g, h.slotW hd (RepSV.mk1 ⟨h1, rfl, h4⟩)⟩
            unfold execOp; rw [ho]; simp only [hx, Sem.run_bind, hrun, Result.andThen_ok, Sem.run_pure]
          · exact (Ev_fail.1 e).elim
        · exact (Ev_fail.1 e).elim
      · exact (Ev_fail.1 e).elim
    · exact (Ev_fail.1 e).elim
  · rename_i t x y ho
    simp only [Ev_bind] at e
    obtain ⟨v, e1, l, e2, v', e3, ⟨k, n⟩, e4, e⟩ := e
    have hv := opd_ok h e1
    obtain rfl := asOne_ok e2
    have hv := hv.one
    have hyv := opd_ok h e3
    rw [asI_ok e4] at hyv
    have hyv := hyv.val
    split at e
    · rename_i ob _
      rw [Ev_obj] at e
      obtain ⟨z, hz, e⟩ := e
      split at e
      · rename_i te xs γ i' f' o2
        split at e
        · rename_i hte
          rw [Ev_ask, Ev_ret] at e
          obtain ⟨hb, e⟩ := e
          subst e
          obtain ⟨h1, h2, h3, h4, blk, off, cap, h5, h6, h7⟩ := h.objs _ _ hz
          have he : a.eval x = hdr blk off xs.length cap := hv.2.1.trans h5
          have hi : n.toNat < xs.length := by omega
          refine after_val h hd ?_ (RepSV.mk1 (l := .ep te (.tr ob) n.toNat 0) (u := .pointer (some ⟨blk, off + n.toNat * width te, none⟩)) ⟨_, blk, off, xs.length, cap, hv, he, hi, rfl⟩)
          obtain ⟨e', hE, hE'⟩ := elem_of hte
          have hu := H.elem _ _ hE
          obtain ⟨i, hi1, hi2, _⟩ := H.info _ _ hE'
          unfold execOp
          rw [ho]
          have hlt : n < (xs.length : Int) := hb.2
          simp [he, hyv, hdr, Instr.indexAt, asIntOf, Sem.run_bind, run_underlying hu, hb.1, hlt, sizeOf, typeInfo, hi1, hi2, Addr.add_mid]
        · exact (Ev_fail.1 e).elim
      · exact (Ev_fail.1 e).elim
    · exact (Ev_fail.1 e).elim
  · rename_i t x y ho
    have hdn := hst _ _ _ ho
    simp only [Ev_bind] at e
    obtain ⟨v1, e1, l, e2, v2, e3, ⟨ag, new⟩, e4, e⟩ := e
    have hv1 := opd_ok h e1
    rw [asOne_ok e2] at hv1
    have hv2 := opd_ok h e3
    obtain rfl := asVD_ok e4
    obtain ⟨us, hy, hea, hag⟩ := hv2
    simp only at hy hea hag e
    split at e
    · rename_i t' ob i off ty hty
      have hv1 := hv1.one
      rw [Ev_obj] at e
      obtain ⟨z, hz, e⟩ := e
      split at e
      · rename_i te xs γ i' f' o2
        rw [Ev_bind] at e
        obtain ⟨⟨ys, os⟩, e5, e⟩ := e
        simp only at e
        split at e
        · rename_i hc
          obtain ⟨rfl, rfl, hl, hw1, rfl, hno⟩ := hc
          rw [Ev_ask] at e
          obtain ⟨rfl, e⟩ := e
          split at e
          · rename_i x' hx'
            rw [Ev_ret] at e; subst e
            obtain ⟨vb, blk, o', n, cap, hb, he, hi, hp⟩ := hv1
            obtain ⟨h1, h2, h3, h4, blk', off', cap', h5, h6, h7⟩ := h.objs _ _ hz
            have hb2 := hb.2.1
            rw [he, h5] at hb2
            simp only [hdr, Value.slice.injEq, Option.some.injEq, Addr.mk.injEq, and_true] at hb2
            obtain ⟨⟨rfl, rfl⟩, rfl, rfl⟩ := hb2
            have hfw : off < width te := by
              obtain ⟨t', zs, hzz⟩ := h3
              rw [← cells_length te (dflt te)]; exact (List.getElem?_eq_some_iff.1 hzz).1
            have hlu : us.length = 1 := by rw [hea.len, hl, hw1]
            obtain ⟨w', g', hr, hrep⟩ := storeCore (γn := γ + 1) H h hty (by rw [hz]; rfl) hea hl (by omega) h2 h5 h6 (fun i2 f2 hh => ⟨hh.1, by omega, by omega⟩) e5 (contains_false hno) (cells_ofCells _ _ _ hx') (fun w' _ γ0 i2 f2 v hs => by
              have := hs.1.2 _ _ _ _ _ _ hz
              exact ⟨by omega, fun e => by omega⟩)
            refine wp_unit (w' := w') ?_ ⟨g', ?_⟩
            · unfold execOp
              rw [ho]
              simp only [hy, hp, Sem.run_bind, hr, Result.andThen_ok, Sem.run_pure]
            · rw [hdn]; exact hrep
          · exact (Ev_fail.1 e).elim
        · exact (Ev_fail.1 e).elim
      · exact (Ev_fail.1 e).elim
    · exact (Ev_fail.1 e).elim
  · rename_i t x lo hi ho
    simp only [Ev_bind] at e
    obtain ⟨v, e1, l, e2, l0, e3, h0, e4, e⟩ := e
    have hv := opd_ok h e1
    rw [asOne_ok e2] at hv
    have hv := hv.one
    have hl := bound_ok h e3
    have hh := bound_ok h e4
    split at e
    · rename_i ob
      rw [Ev_obj] at e
      obtain ⟨y, hy, e⟩ := e
      split at e
      · rename_i te n k oA oB
        split at e
        · rename_i hte
          obtain ⟨e', hE, hE'⟩ := elem_of hte
          have hu := H.elem _ _ hE
          obtain ⟨i, hi1, hi2, _⟩ := H.info _ _ hE'
          obtain ⟨p0, p1, p2, p3, aa, cap, p4, p5, p6, p7⟩ := h.objs _ _ hy
          have hx := hv.2.1.trans p5
          have run : cutAsk n l0 h0 → (execOp a.eval o).run P w = .ok (.value (.slice (if cap = (l0.getD 0).toNat then aa else aa.map (·.add ((l0.getD 0).toNat * width te))) ((h0.getD n).toNat - (l0.getD 0).toNat) (cap - (l0.getD 0).toNat))) w := by
            intro hb
            have hsb := sliceBounds_run (P := P) (w := w) (a := a) true p4 hl hh hb
            unfold execOp
            rw [ho]
            simp [hx, Instr.sliceAt, Instr.slice, run_underlying hu, hsb, sizeOf, typeInfo, hi1, hi2]
          split at e
          · rename_i hk
            rw [Ev_ask, Ev_ret] at e
            obtain ⟨rfl, e⟩ := e
            subst e
            have hr := run ⟨by omega, by omega⟩
            simp only [Option.getD_none, Option.getD_some, Int.toNat_natCast, Int.toNat_zero] at hr
            rw [← p6] at hr
            exact after_val h hd hr (RepSV.mk1 ⟨p1, rfl, _, _, _, p6⟩)
          · rename_i hk
            rw [Ev_ask, Ev_ret] at e
            obtain ⟨rfl, e⟩ := e
            subst e
            have hr := run ⟨by omega, by omega⟩
            simp only [Option.getD_none, Option.getD_some, Int.toNat_natCast] at hr
            rw [← p7] at hr
            exact after_val h hd hr (RepSV.mk1 ⟨p2, rfl, _, _, _, p7⟩)
          · exact (Ev_fail.1 e).elim
        · exact (Ev_fail.1 e).elim
      · exact (Ev_fail.1 e).elim
    · exact (Ev_fail.1 e).elim
  · rename_i xs ts ho
    split at e
    · rename_i x y t tx d hx ht hdst
      have exs : xs = #[x, y] := by apply Array.ext'; simpa using hx
      have ets : ts = #[t, tx] := by apply Array.ext'; simpa using ht
      subst exs ets
      split at e
      · rename_i et ex het hex
        simp only [Ev_bind] at e
        obtain ⟨v1, e1, l1, e2, v2, e3, l2, e4, e⟩ := e
        have hv1 := opd_ok h e1
        rw [asOne_ok e2] at hv1
        have hv2 := opd_ok h e3
        rw [asOne_ok e4] at hv2
        have hv1 := hv1.one
        have hv2 := hv2.one
        split at e
        · rename_i oa ob _ _
          rw [Ev_obj] at e
          obtain ⟨za, hza, e⟩ := e
          split at e
          · rename_i te xs γ
            rw [Ev_obj] at e
            obtain ⟨zb, hzb, e⟩ := e
            split at e
            · rename_i te' ys
              split at e
              · rename_i hte
                subst hte
                split at e
                · exact (Ev_fail.1 e).elim
                · rename_i hc
                  rw [Ev_ask, Ev_free, Ev_ret] at e
                  obtain ⟨hsz, hf, e⟩ := e
                  subst e
                  have hne : oa ≠ ob := fun h => hc (.inl h)
                  have hty : T.ty et = some te' := Decidable.not_not.1 (fun h => hc (.inr h))
                  have hA := Adds.ofElems (P := P) (h.objs _ _ hzb) (H.elem _ _ hex)
                  rw [← hv2.2.1] at hA
                  refine append_core H h hd hdst ho het hty (S := g.fp oa) (by rw [hv1.2.1]; exact h.objs _ _ hza) hA hsz (fun b h1 h2 => hne (h.dis _ _ _ h1 h2)) (os := [oa, ob]) (fun b hb => ?_) hf (bytes_bound (hB _ _ het) hsz)
                  rcases hb with hb | hb
                  · exact ⟨oa, by simp, hb⟩
                  · exact ⟨ob, by simp, hb⟩
              · exact (Ev_fail.1 e).elim
            · exact (Ev_fail.1 e).elim
          · exact (Ev_fail.1 e).elim
        · exact (Ev_fail.1 e).elim
      · exact (Ev_fail.1 e).elim
    · exact (Ev_fail.1 e).elim
  · exact (Ev_fail.1 e).elim

theorem stepG_ok (H : TabOk P T) (hB : ∀ t e, T.elem t = some e → 0 < T.bytes e) (h : Rep P C σ g a w) {o : Oper} (hd : ∀ d, o.dst = some d → C.Fit d) (hst : ∀ t x y, o.op = .store t x y → o.dst = none) {c : Orc} {ws : List Wr}
    (e : Ev σ (stepG P T o c) ws) : o.wp P a w (After P C σ ws) Qx := by
  unfold stepG at e
  split at e
  · exact stepX_ok H hB h hd hst e
  · exact step_ok H hB h hd hst e

end
end Go.Pi

/- Operations under their guards; regions in the order of the text and in every order. -/
namespace Go.Pi
variable {P : Program} {C : Ctx} {T : Tab}

section
variable {σ : St} {g : Gh} {a : Act} {w : World} {Qx : Exit → Act → World → Prop}

theorem SubOk.heap {O : Nat → Option Obj} {w' : World} (hh : w'.heap = w.heap) {o γ i f : Nat} {v : Value} (h : SubOk O g w o γ i f v) : SubOk O g w' o γ i f v := by
  refine ⟨h.1, fun t xs γ' ho => ⟨(h.2.1 t xs γ' ho).1, fun e => ?_⟩, fun t xs γ' ho => ⟨(h.2.2 t xs γ' ho).1, fun e => ?_⟩⟩
  · obtain ⟨blk, off, cap, h1, h2, h3, h4⟩ := (h.2.1 t xs γ' ho).2 e
    exact ⟨blk, off, cap, h1, h2, h3, (World.cell_congr (by rw [hh])).trans h4⟩
  · obtain ⟨blk, off, cap, h1, h2, h3, h4⟩ := (h.2.2 t xs γ' ho).2 e
    exact ⟨blk, off, cap, h1, h2, h3, (World.cell_congr (by rw [hh])).trans h4⟩

theorem Rep.heap (h : Rep P C σ g a w) {w' : World} (hh : w'.heap = w.heap) (ho : w'.os = w.os) (hu : w'.output = w.output) : Rep P C σ g a w' := by
  refine (h.step (O' := σ.o) (g' := g) (w' := w') ⟨by rw [hh]; exact Nat.le_refl _, ho, hu⟩ (fun b _ _ => by rw [hh]) (fun b hb => .inl hb) (fun i hi => ⟨hi, rfl⟩)
    (fun o γ i f v hs => hs.heap hh) h.absent (fun i b hb => by rw [hh]; exact (h.fps i b hb).1) h.dis ?_).2
  intro F i x hx
  exact (h.objs i x hx).keep F rfl (fun _ => Iff.rfl) (fun b _ => by rw [hh])

theorem fits_ok {N : Nat × Nat} {o : Oper} (h : fits N o = true) : (∀ d, o.dst = some d → N.1 ≤ d ∧ d < N.2) ∧ ∀ t x y, o.op = .store t x y → o.dst = none := by
  unfold fits at h
  rw [Bool.and_eq_true] at h
  refine ⟨fun d hd => ?_, fun t x y hs => ?_⟩
  · have := h.1
    rw [hd] at this
    simpa using this
  · have := h.2
    rw [hs] at this
    simpa using this

theorem yielded_of {ops : Array Oper} {tmps : Array Value} {j d : Nat} (hd : (ops[j]?).bind (·.dst) = some d) (hn : d < tmps.size) :
    yielded ops tmps j = match tmps.getD d undef with | .bool b => some b | _ => none := by
  have : tmps[d]? = some (tmps.getD d undef) := by
    rw [Array.getD_eq_getD_getElem?, Array.getElem?_eq_getElem hn]; rfl
  unfold yielded
  rw [hd]
  show (match tmps[d]? with | some (.bool b) => some b | _ => none) = _
  rw [this]
  cases tmps.getD d undef <;> rfl

theorem gstep_ok (H : TabOk P T) (hB : ∀ t e, T.elem t = some e → 0 < T.bytes e) (h : Rep P C σ g a w) {ops : Array Oper} {i : Nat} {o : Oper} (ho : ops[i]? = some o) (hf : fits C.F o = true) {c : Orc} {ws : List Wr}
    (e : Ev σ (gstep P T ops o c) ws) : wpOp P ops Qx i (After P C σ ws) a w := by
  obtain ⟨hd, hst⟩ := fits_ok hf
  unfold wpOp
  rw [ho]
  unfold gstep at e
  cases hg : o.guard with
  | none =>
    rw [hg] at e
    have hw : Region.wanted o (yielded ops a.tmps) = true := by unfold Region.wanted; rw [hg]
    simp only [hw, if_true]
    exact .inl (stepG_ok H hB h hd hst e)
  | some jw =>
    obtain ⟨j, want⟩ := jw
    rw [hg] at e
    simp only at e
    split at e
    · rename_i d hjd
      rw [Ev_slot] at e
      obtain ⟨x, hx, e⟩ := e
      obtain ⟨hn, hr⟩ := h.slots _ _ hx
      have hy := yielded_of (ops := ops) (tmps := a.tmps) hjd (by rw [h.size]; exact hn)
      split at e
      · rename_i b
        rw [Ev_ask] at e
        obtain ⟨hb, e⟩ := e
        obtain ⟨us, h1, h2, _⟩ := hr
        obtain ⟨u, rfl, h3⟩ := h2.one
        rw [h1, mkv_one, h3.1] at hy
        simp only at hy
        by_cases hcw : c.g = want
        · have hw : Region.wanted o (yielded ops a.tmps) = true := by
            unfold Region.wanted; rw [hg]; simp [hy, hb, hcw]
          rw [if_pos hcw] at e
          simp only [hw, if_true]
          exact .inl (stepG_ok H hB h hd hst e)
        · have hw : ¬ Region.wanted o (yielded ops a.tmps) = true := by
            unfold Region.wanted; rw [hg]; simp [hy, hb, hcw]
          rw [if_neg hcw, Ev_ret] at e
          subst e
          simp only [hw]
          exact ⟨g, h.slotW hd rfl⟩
      · have hu : a.tmps.getD d undef = undef := hr
        rw [Ev_ret] at e
        subst e
        have hw : ¬ Region.wanted o (yielded ops a.tmps) = true := by
          unfold Region.wanted; rw [hg]; rw [hu] at hy; simp [hy, undef]
        simp only [hw]
        exact ⟨g, h.slotW hd rfl⟩
      · exact (Ev_fail.1 e).elim
    · exact (Ev_fail.1 e).elim

end

/-- A run of operations, all that it asks for granted. -/
inductive Trace (P : Program) (T : Tab) (N : Nat × Nat) (ops : Array Oper) : List Oper → St → List Rw → St → Prop
  | nil (σ : St) : Trace P T N ops [] σ [] σ
  | cons {o : Oper} {os : List Oper} {σ σ' : St} {c : Orc} {ws : List Wr} {ps : List Prop} {rs : List Key} {rw : List Rw} (hf : fits N o = true)
      (hq : (gstep P T ops o c).run σ = some ⟨ws, ps, rs⟩) (hp : ∀ p ∈ ps, p) (ht : Trace P T N ops os (σ.puts ws) rw σ') : Trace P T N ops (o :: os) σ ((rs, ws) :: rw) σ'

theorem runOps_trace {N : Nat × Nat} {ops : Array Oper} : ∀ {l : List Oper} {cs : List Orc} {σ : St} {r : Ran}, runOps P T N ops l cs σ = some r → (∀ p ∈ r.ps, p) → Trace P T N ops l σ r.rw r.σ
  | [], cs, σ, r, h, _ => by
    simp only [runOps, Option.some.injEq] at h
    subst h; exact .nil σ
  | o :: os, cs, σ, r, h, hp => by
    unfold runOps at h
    split at h
    · rename_i hf
      split at h
      · rename_i gt hg
        split at h
        · rename_i r' hr
          simp only [Option.some.injEq] at h
          subst h
          exact .cons hf hg (fun p hm => hp p (List.mem_append_left _ hm)) (runOps_trace hr fun p hm => hp p (List.mem_append_right _ hm))
        · cases h
      · cases h
    · cases h

/-- In the order of the text. -/
theorem trace_text (H : TabOk P T) (hB : ∀ t e, T.elem t = some e → 0 < T.bytes e) {ops : Array Oper} {Qx : Exit → Act → World → Prop} : ∀ {l : List Oper} {k : Nat} {σ σ' : St} {rw : List Rw} {g : Gh} {a : Act} {w : World},
    Trace P T C.F ops l σ rw σ' → (∀ j, l[j]? = ops[k + j]?) → Rep P C σ g a w → (∀ g a w, Rep P C σ' g a w → Qx .normal a w) → wpOps P ops Qx (List.range' k l.length) a w
  | [], k, σ, σ', rw, g, a, w, ht, hl, h, hQ => by
    cases ht
    exact hQ g a w h
  | o :: os, k, σ, σ', rw, g, a, w, ht, hl, h, hQ => by
    cases ht with
    | cons hf hq hp ht =>
      rw [List.length_cons, List.range'_succ, wpOps_cons]
      refine wpOp_mono ?_ (gstep_ok (Qx := Qx) (i := k) H hB h (by have := hl 0; simpa using this.symm) hf ⟨_, _, hq, hp⟩)
      intro a' w' hA
      obtain ⟨g', hA⟩ := hA
      exact trace_text H hB ht (fun j => by have := hl (j + 1); simpa [Nat.add_assoc, Nat.add_comm 1 j] using this) hA hQ

end Go.Pi

/- Regions in every order: two operations that neither must precede the other leave each other alone. -/
namespace Go.Pi
variable {P : Program} {C : Ctx} {T : Tab}

/-- Two states agree on a key. -/
def Same : Key → St → St → Prop
  | .s n, σ, σ' => σ'.s n = σ.s n
  | .o n, σ, σ' => σ'.o n = σ.o n

theorem Same.refl (k : Key) (σ : St) : Same k σ σ := by cases k <;> rfl
theorem Same.trans {k : Key} {σ τ υ : St} (h : Same k σ τ) (h' : Same k τ υ) : Same k σ υ := by
  cases k
  · exact Eq.trans h' h
  · exact Eq.trans h' h
theorem Same.symm {k : Key} {σ τ : St} (h : Same k σ τ) : Same k τ σ := by
  cases k
  · exact Eq.symm h
  · exact Eq.symm h
theorem Same.ext {σ τ : St} (h : ∀ k, Same k σ τ) : σ = τ := by
  cases σ with
  | mk s o =>
    cases τ with
    | mk s' o' =>
      have h1 : s = s' := funext fun n => (h (.s n)).symm
      have h2 : o = o' := funext fun n => (h (.o n)).symm
      rw [h1, h2]

theorem run_congr {α : Type} {σ τ : St} : ∀ {q : Q α} {gt : Got α}, q.run σ = some gt → (∀ k ∈ gt.rs, Same k σ τ) → q.run τ = some gt
  | .ret a, gt, h, _ => h
  | .slot n k, gt, h, hs => by
    simp only [Q.run] at h ⊢
    split at h
    · rename_i x hx
      split at h
      · rename_i g' hg
        simp only [Option.some.injEq] at h
        subst h
        have h1 : τ.s n = σ.s n := hs (.s n) (List.mem_cons_self ..)
        rw [h1, hx]
        simp only
        rw [run_congr hg fun k' hk => hs k' (List.mem_cons_of_mem _ hk)]
      · cases h
    · cases h
  | .obj n k, gt, h, hs => by
    simp only [Q.run] at h ⊢
    split at h
    · rename_i x hx
      split at h
      · rename_i g' hg
        simp only [Option.some.injEq] at h
        subst h
        have h1 : τ.o n = σ.o n := hs (.o n) (List.mem_cons_self ..)
        rw [h1, hx]
        simp only
        rw [run_congr hg fun k' hk => hs k' (List.mem_cons_of_mem _ hk)]
      · cases h
    · cases h
  | .free n k, gt, h, hs => by
    simp only [Q.run] at h ⊢
    split at h
    · rename_i hx
      split at h
      · rename_i g' hg
        simp only [Option.some.injEq] at h
        subst h
        have h1 : τ.o n = σ.o n := hs (.o n) (List.mem_cons_self ..)
        rw [h1, hx]
        simp only
        rw [run_congr hg fun k' hk => hs k' (List.mem_cons_of_mem _ hk)]
      · cases h
    · cases h
  | .ask p k, gt, h, hs => by
    simp only [Q.run] at h ⊢
    split at h
    · rename_i g' hg
      simp only [Option.some.injEq] at h
      subst h
      rw [run_congr hg hs]
    · cases h
  | .fail, gt, h, _ => by simp [Q.run] at h

theorem wr_same {k : Key} {σ : St} {x : Wr} (h : wkey x ≠ k) : Same k σ (σ.put x) := by
  cases x with
  | s n x =>
    cases k with
    | s m => show (if m = n then some x else σ.s m) = σ.s m; rw [if_neg]; intro e; exact h (by rw [e]; rfl)
    | o m => rfl
  | o n x =>
    cases k with
    | s m => rfl
    | o m => show (if m = n then some x else σ.o m) = σ.o m; rw [if_neg]; intro e; exact h (by rw [e]; rfl)

theorem put_cong {k : Key} {σ τ : St} (x : Wr) (h : Same k σ τ) : Same k (σ.put x) (τ.put x) := by
  cases x with
  | s n x =>
    cases k with
    | s m => show (if m = n then some x else τ.s m) = (if m = n then some x else σ.s m); rw [show τ.s m = σ.s m from h]
    | o m => exact h
  | o n x =>
    cases k with
    | s m => exact h
    | o m => show (if m = n then some x else τ.o m) = (if m = n then some x else σ.o m); rw [show τ.o m = σ.o m from h]

theorem puts_same {k : Key} : ∀ {ws : List Wr} {σ : St}, k ∉ ws.map wkey → Same k σ (σ.puts ws)
  | [], σ, _ => Same.refl k σ
  | x :: ws, σ, h => by
    simp only [List.map_cons, List.mem_cons, not_or] at h
    exact (wr_same (Ne.symm h.1)).trans (puts_same h.2)

theorem puts_cong {k : Key} : ∀ (ws : List Wr) {σ τ : St}, Same k σ τ → Same k (σ.puts ws) (τ.puts ws)
  | [], _, _, h => h
  | x :: ws, _, _, h => puts_cong ws (put_cong x h)

/-- A key that is written by the list reads as written, whatever stood ahead. -/
theorem puts_over {k : Key} : ∀ {ws : List Wr} {σ τ : St}, k ∈ ws.map wkey → Same k (σ.puts ws) (τ.puts ws)
  | [], _, _, h => by cases h
  | x :: ws, σ, τ, h => by
    by_cases hk : k ∈ ws.map wkey
    · show Same k ((σ.put x).puts ws) ((τ.put x).puts ws)
      exact puts_over hk
    · simp only [List.map_cons, List.mem_cons, hk, or_false] at h
      refine puts_cong ws ?_
      subst h
      cases x with
      | s n x => show (if n = n then some x else τ.s n) = (if n = n then some x else σ.s n); simp
      | o n x => show (if n = n then some x else τ.o n) = (if n = n then some x else σ.o n); simp

theorem puts_comm {ws vs : List Wr} {σ : St} (h : ∀ k ∈ ws.map wkey, k ∉ vs.map wkey) : (σ.puts ws).puts vs = (σ.puts vs).puts ws := by
  refine Same.ext fun k => ?_
  by_cases h1 : k ∈ ws.map wkey
  · have h2 := h k h1
    have e1 : Same k (σ.puts ws) ((σ.puts ws).puts vs) := puts_same h2
    have e2 : Same k (σ.puts ws) ((σ.puts vs).puts ws) := puts_over h1
    exact e1.symm.trans e2
  · have e1 : Same k (σ.puts vs) ((σ.puts vs).puts ws) := puts_same h1
    have e2 : Same k ((σ.puts ws).puts vs) (σ.puts vs) := puts_cong vs (puts_same h1).symm
    exact e2.trans e1

/-- The state behind the operations that L lets by. -/
def upd (L : Nat → Bool) : Nat → List Rw → St → St
  | _, [], σ => σ
  | i, x :: rw, σ => upd L (i + 1) rw (if L i then σ.puts x.2 else σ)

theorem upd_same {k : Key} {L L' : Nat → Bool} : ∀ {i : Nat} {rw : List Rw} {σ τ : St}, Same k σ τ → (∀ m x, rw[m]? = some x → L (i + m) ≠ L' (i + m) → k ∉ x.2.map wkey) → Same k (upd L i rw σ) (upd L' i rw τ)
  | i, [], σ, τ, h, _ => h
  | i, x :: rw, σ, τ, h, hd => by
    unfold upd
    refine upd_same ?_ (fun m y hy hne => hd (m + 1) y hy (by rw [show i + (m + 1) = i + 1 + m by omega]; exact hne))
    have h0 := hd 0 x rfl
    simp only [Nat.add_zero] at h0
    cases h1 : L i <;> cases h2 : L' i
    · exact h
    · simp only [Bool.false_eq_true, if_false, if_true]
      exact h.trans (puts_same (h0 (by rw [h1, h2]; simp)))
    · simp only [Bool.false_eq_true, if_false, if_true]
      exact (puts_same (h0 (by rw [h1, h2]; simp))).symm.trans h
    · exact puts_cong _ h

theorem upd_puts {L : Nat → Bool} {ws : List Wr} : ∀ {i : Nat} {rw : List Rw} {σ : St}, (∀ m x, rw[m]? = some x → L (i + m) = true → ∀ k ∈ ws.map wkey, k ∉ x.2.map wkey) → upd L i rw (σ.puts ws) = (upd L i rw σ).puts ws
  | i, [], σ, _ => rfl
  | i, x :: rw, σ, h => by
    unfold upd
    have ih := fun σ => upd_puts (L := L) (ws := ws) (i := i + 1) (rw := rw) (σ := σ) (fun m y hy hl => h (m + 1) y hy (by rw [show i + (m + 1) = i + 1 + m by omega]; exact hl))
    cases h1 : L i
    · simp only [Bool.false_eq_true, if_false]; exact ih σ
    · simp only [if_true]
      rw [puts_comm (h 0 x rfl h1), ih]

theorem upd_add {L L' : Nat → Bool} : ∀ {i m : Nat} {rw : List Rw} {σ : St} {x : Rw}, rw[m]? = some x → L (i + m) = false → L' (i + m) = true → (∀ j, j ≠ i + m → L' j = L j) →
    (∀ m' y, m < m' → rw[m']? = some y → L (i + m') = true → ∀ k ∈ x.2.map wkey, k ∉ y.2.map wkey) → upd L' i rw σ = (upd L i rw σ).puts x.2
  | i, 0, [], σ, x, h, _, _, _, _ => by cases h
  | i, m + 1, [], σ, x, h, _, _, _, _ => by cases h
  | i, 0, y :: rw, σ, x, h, h1, h2, h3, h4 => by
    simp only [List.getElem?_cons_zero, Option.some.injEq] at h
    subst h
    simp only [Nat.add_zero] at h1 h2 h3
    unfold upd
    rw [h1, h2]
    simp only [if_true, Bool.false_eq_true, if_false]
    rw [← upd_puts (fun m z hz hl => h4 (m + 1) z (by omega) hz (by rw [show i + (m + 1) = i + 1 + m by omega]; exact hl))]
    refine Same.ext fun k => upd_same (Same.refl _ _) fun m z hz hne => absurd (h3 (i + 1 + m) (by omega)) ?_
    first | exact hne | exact Ne.symm hne
  | i, m + 1, y :: rw, σ, x, h, h1, h2, h3, h4 => by
    unfold upd
    rw [h3 i (by omega)]
    exact upd_add (m := m) h (by rw [show i + 1 + m = i + (m + 1) by omega]; exact h1) (by rw [show i + 1 + m = i + (m + 1) by omega]; exact h2)
      (fun j hj => h3 j (by omega)) (fun m' z hm hz hl => h4 (m' + 1) z (by omega) hz (by rw [show i + (m' + 1) = i + 1 + m' by omega]; exact hl))

theorem Trace.at_ {N : Nat × Nat} {ops : Array Oper} : ∀ {l : List Oper} {k : Nat} {σ σ' : St} {rw : List Rw}, Trace P T N ops l σ rw σ' →
    rw.length = l.length ∧ σ' = upd (fun _ => true) k rw σ ∧ ∀ j o, l[j]? = some o → ∃ c ws ps rs, rw[j]? = some (rs, ws) ∧ fits N o = true ∧
      (gstep P T ops o c).run (upd (fun m => decide (m < k + j)) k rw σ) = some ⟨ws, ps, rs⟩ ∧ ∀ p ∈ ps, p
  | [], k, σ, σ', rw, h => by
    cases h
    exact ⟨rfl, rfl, fun j o h => by cases h⟩
  | o :: os, k, σ, σ', rw, h => by
    cases h with
    | @cons _ _ _ _ c0 ws0 ps0 rs0 rw0 hf hq hp ht =>
      obtain ⟨h1, h2, h3⟩ := Trace.at_ (k := k + 1) ht
      refine ⟨by simp [h1], by simp only [upd, if_true]; exact h2, ?_⟩
      intro j o' hj
      match j with
      | 0 =>
        simp only [List.getElem?_cons_zero, Option.some.injEq] at hj
        subst hj
        refine ⟨c0, ws0, ps0, rs0, rfl, hf, ?_, hp⟩
        have : ∀ {i : Nat} {rw : List Rw} {σ : St}, k ≤ i → upd (fun m => decide (m < k + 0)) i rw σ = σ := by
          intro i rw
          induction rw generalizing i with
          | nil => intro σ _; rfl
          | cons x rw ih =>
            intro σ hi
            unfold upd
            rw [ih (by omega), if_neg (by simp; omega)]
        rw [this (Nat.le_refl k)]
        exact hq
      | j + 1 =>
        obtain ⟨c, ws', ps', rs', h4, h5, h6, h7⟩ := h3 j o' hj
        refine ⟨c, ws', ps', rs', h4, h5, ?_, h7⟩
        unfold upd
        rw [if_pos (by simp), show k + (j + 1) = k + 1 + j by omega]
        exact h6

end Go.Pi

/- Regions in every order, ended: a region's run is the machine's. -/
namespace Go.Pi
variable {P : Program} {C : Ctx} {T : Tab}

/-- What is listed lies behind all that must stand ahead of it. -/
def Closed (ops : Array Oper) (L : Nat → Bool) : Prop := ∀ j o, ops[j]? = some o → L j = true → ∀ e ∈ o.after, Region.binds .any e = true → L e.on = true

def Good (ops : Array Oper) (L : Nat → Bool) (m x : Nat) : Prop :=
  ∀ o, ops[m]? = some o → (∀ e ∈ o.after, Region.binds .any e = true → L e.on = true) → ∀ i, x.testBit i = true → L i = true

theorem foldBits {acc : List Nat} : ∀ {es : List Edge} {m i : Nat}, (es.foldl (fun m e => if Region.binds .any e then m ||| 2 ^ e.on ||| acc.getD e.on 0 else m) m).testBit i = true →
    m.testBit i = true ∨ ∃ e ∈ es, Region.binds .any e = true ∧ (i = e.on ∨ (acc.getD e.on 0).testBit i = true)
  | [], m, i, h => .inl h
  | e :: es, m, i, h => by
    rcases foldBits (es := es) h with h | ⟨e', h1, h2⟩
    rotate_left
    · exact .inr ⟨e', List.mem_cons_of_mem _ h1, h2⟩
    · simp only at h
      by_cases hb : Region.binds .any e = true
      · rw [if_pos hb, Nat.testBit_or, Nat.testBit_or, Bool.or_eq_true, Bool.or_eq_true] at h
        rcases h with (h | h) | h
        · exact .inl h
        · rw [Nat.testBit_two_pow, decide_eq_true_eq] at h
          exact .inr ⟨e, List.mem_cons_self .., hb, .inl h.symm⟩
        · exact .inr ⟨e, List.mem_cons_self .., hb, .inr h⟩
      · rw [if_neg hb] at h; exact .inl h

theorem masks_good {ops : Array Oper} {L : Nat → Bool} (hc : Closed ops L) (hl : ∀ m, L m = true → m < ops.size) : ∀ {l : List Oper} {k : Nat} {acc : List Nat}, acc.length = k → (∀ j, l[j]? = ops[k + j]?) →
    (∀ m, m < k → Good ops L m (acc.getD m 0)) → ∀ m, m < k + l.length → Good ops L m ((masks k l acc).getD m 0)
  | [], k, acc, _, _, hg, m, hm => by simpa [masks] using hg m (by simpa using hm)
  | o :: os, k, acc, ha, hj, hg, m, hm => by
    unfold masks
    refine masks_good hc hl (l := os) (k := k + 1) (by simp [ha]) (fun j => by have := hj (j + 1); simpa [Nat.add_assoc, Nat.add_comm 1 j] using this) ?_ m (by simp at hm; omega)
    intro m hm
    by_cases he : m < k
    · rw [List.getD_eq_getElem?_getD, List.getElem?_append_left (by omega), ← List.getD_eq_getElem?_getD]
      exact hg m he
    · have : m = k := by omega
      subst this
      rw [List.getD_eq_getElem?_getD, List.getElem?_append_right (by omega), ha]
      simp only [Nat.sub_self, List.getElem?_cons_zero, Option.getD_some]
      intro o' ho' hp i hi
      have h0 := hj 0
      simp only [List.getElem?_cons_zero, Nat.add_zero] at h0
      rw [ho'] at h0
      simp only [Option.some.injEq] at h0
      subst h0
      rcases foldBits hi with hi | ⟨e, he1, hb, hi⟩
      · simp at hi
      · have hon := hp e (Array.mem_def.2 he1) hb
        rcases hi with rfl | hi
        · exact hon
        · have hlt : e.on < m := by
            rcases Nat.lt_or_ge e.on m with h | h
            · exact h
            · rw [List.getD_eq_getElem?_getD, List.getElem?_eq_none (by omega)] at hi; simp at hi
          obtain ⟨o2, ho2⟩ : ∃ o2, ops[e.on]? = some o2 := ⟨_, Array.getElem?_eq_getElem (hl _ hon)⟩
          exact hg e.on hlt o2 ho2 (hc e.on o2 ho2 hon) i hi

theorem backward_ok : ∀ {l : List Oper} {k : Nat}, backward k l = true → ∀ j o, l[j]? = some o → ∀ e ∈ o.after, Region.binds .any e = true → e.on < k + j
  | [], k, _, j, o, h => by cases h
  | x :: l, k, hb, j, o, hj => by
    unfold backward at hb
    rw [Bool.and_eq_true] at hb
    match j with
    | 0 =>
      simp only [List.getElem?_cons_zero, Option.some.injEq] at hj
      subst hj
      intro e he hbi
      have := List.all_eq_true.1 hb.1 e (Array.mem_def.1 he)
      simpa [hbi] using this
    | j + 1 =>
      intro e he hbi
      have := backward_ok hb.2 j o hj e he hbi
      omega

theorem hit_false {a b : List Key} (h : hit a b = false) : ∀ k ∈ a, k ∉ b := by
  intro k hk hb
  have : hit a b = true := List.any_eq_true.2 ⟨k, hk, List.any_eq_true.2 ⟨k, hb, by simp⟩⟩
  rw [h] at this; cases this

theorem apart_ok {ms : List Nat} {rw : List Rw} (h : apartAll ms rw = true) {i j : Nat} {x y : Rw} (hij : i < j) (hx : rw[i]? = some x) (hy : rw[j]? = some y) (hb : (ms.getD j 0).testBit i = false) :
    (∀ k ∈ x.2.map wkey, k ∉ y.1) ∧ (∀ k ∈ x.2.map wkey, k ∉ y.2.map wkey) ∧ ∀ k ∈ x.1, k ∉ y.2.map wkey := by
  have hjl : j < rw.length := by
    rcases Nat.lt_or_ge j rw.length with h | h
    · exact h
    · rw [List.getElem?_eq_none h] at hy; cases hy
  have h1 := List.all_eq_true.1 (List.all_eq_true.1 h j (List.mem_range.2 hjl)) i (List.mem_range.2 hij)
  rw [hb, Bool.false_or, List.getD_eq_getElem?_getD, List.getD_eq_getElem?_getD, hx, hy] at h1
  simp only [Option.getD_some, Bool.and_eq_true, Bool.not_eq_true'] at h1
  exact ⟨hit_false h1.1.1, hit_false h1.1.2, hit_false h1.2⟩

theorem trace_any (H : TabOk P T) (hB : ∀ t e, T.elem t = some e → 0 < T.bytes e) {ops : Array Oper} {Qx : Exit → Act → World → Prop} {σ σ' : St} {rw : List Rw}
    (ht : Trace P T C.F ops ops.toList σ rw σ') (hb : backward 0 ops.toList = true) (hap : apartAll (masks 0 ops.toList []) rw = true) (hQ : ∀ g a w, Rep P C σ' g a w → Qx .normal a w) :
    ∀ (fuel : Nat) (listed : Array Bool) (g : Gh) (a : Act) (w : World), listed.size = ops.size → listed.toList.count false = fuel → Closed ops (fun m => listed.getD m false) →
      Rep P C (upd (fun m => listed.getD m false) 0 rw σ) g a w → wpAny P .any ops Qx fuel listed a w := by
  obtain ⟨t1, t2, t3⟩ := ht.at_ (k := 0)
  have hlen : ops.toList.length = ops.size := by simp
  have hsz : ∀ {listed : Array Bool} {j : Nat}, listed.size = ops.size → listed.getD j false = true → j < ops.size := by
    intro listed j hs h
    rcases Nat.lt_or_ge j listed.size with h' | h'
    · omega
    · simp [Array.getElem?_eq_none h'] at h
  have htf : ∀ {listed : Array Bool} {j : Nat}, listed.size = ops.size → j < ops.size → listed.getD j false = false → listed.getD j true = false := by
    intro listed j hs hj h
    have hj' : j < listed.size := by omega
    simpa [Array.getD_eq_getD_getElem?, Array.getElem?_eq_getElem hj'] using h
  have hft : ∀ {listed : Array Bool} {j : Nat}, listed.getD j true = false → j < listed.size ∧ listed.getD j false = false := by
    intro listed j h
    rcases Nat.lt_or_ge j listed.size with h' | h'
    · exact ⟨h', by simpa [Array.getD_eq_getD_getElem?, Array.getElem?_eq_getElem h'] using h⟩
    · simp [Array.getElem?_eq_none h'] at h
  have done : ∀ {listed : Array Bool} {g : Gh} {a : Act} {w : World}, listed.size = ops.size → Region.ready .any ops listed = [] → Rep P C (upd (fun m => listed.getD m false) 0 rw σ) g a w → Qx .normal a w := by
    intro listed g a w hs hr h
    have all : ∀ j, j < ops.size → listed.getD j false = true := by
      intro j
      induction j using Nat.strongRecOn with
      | ind j ih =>
        intro hj
        cases hc : listed.getD j false with
        | true => rfl
        | false =>
          exfalso
          have : j ∈ Region.ready .any ops listed := by
            rw [mem_ready]
            refine ⟨htf hs hj hc, ops[j], Array.getElem?_eq_getElem hj, fun e he hbi => ?_⟩
            have hlt := backward_ok hb j ops[j] (by simp [hj]) e he hbi
            exact ih e.on (by omega) (by omega)
          rw [hr] at this; cases this
    refine hQ g a w ?_
    have e : upd (fun m => listed.getD m false) 0 rw σ = σ' := by
      rw [t2]
      refine Same.ext fun k => upd_same (Same.refl _ _) fun m x hx hne => absurd ?_ hne
      have hm : m < rw.length := by
        rcases Nat.lt_or_ge m rw.length with h | h
        · exact h
        · rw [List.getElem?_eq_none h] at hx; cases hx
      exact all (0 + m) (by omega)
    rw [← e]; exact h
  intro fuel
  induction fuel with
  | zero =>
    intro listed g a w hs hcnt hcl h
    have hr : Region.ready .any ops listed = [] := by
      rw [List.eq_nil_iff_forall_not_mem]
      intro j hj
      rw [mem_ready] at hj
      obtain ⟨h1, h2⟩ := hft hj.1
      have : false ∈ listed.toList := by
        rw [List.mem_iff_getElem?]
        refine ⟨j, ?_⟩
        simpa [Array.getD_eq_getD_getElem?, Array.getElem?_eq_getElem h1] using h2
      exact absurd hcnt (Nat.pos_iff_ne_zero.1 (List.count_pos_iff.2 this))
    exact ⟨hr, done hs hr h⟩
  | succ fuel ih =>
    intro listed g a w hs hcnt hcl h
    refine ⟨fun hr => done hs hr h, fun j hj => ?_⟩
    rw [mem_ready] at hj
    obtain ⟨hj1, o, ho, hpar⟩ := hj
    obtain ⟨hjs, hjf⟩ := hft hj1
    obtain ⟨c, ws, ps, rs, hrw, hf, hq, hp⟩ := t3 j o (by simpa using ho)
    have hgood := fun m (hm : m < ops.size) => masks_good (ops := ops) (L := fun m => listed.getD m false) hcl (fun m hm => hsz hs hm) (l := ops.toList) (k := 0) (acc := []) rfl (fun j => by simp)
      (fun m hm => absurd hm (Nat.not_lt_zero m)) m (by simpa using hm)
    have hlt : ∀ {m : Nat} {x : Rw}, rw[m]? = some x → m < ops.size := by
      intro m x hx
      rcases Nat.lt_or_ge m rw.length with h | h
      · omega
      · rw [List.getElem?_eq_none h] at hx; cases hx
    -- an operation ahead in the text, not listed, is no ancestor
    have below : ∀ {m : Nat} {x : Rw}, rw[m]? = some x → m < j → listed.getD m false = false → ∀ k ∈ x.2.map wkey, k ∉ rs := by
      intro m x hx hm hml
      have hbit : ((masks 0 ops.toList []).getD j 0).testBit m = false := by
        cases hc : ((masks 0 ops.toList []).getD j 0).testBit m with
        | false => rfl
        | true => exact absurd (hgood j (by omega) o ho hpar m hc) (by simp only [hml]; simp)
      exact (apart_ok hap hm hx hrw hbit).1
    have above : ∀ {m : Nat} {x : Rw}, rw[m]? = some x → j < m → listed.getD m false = true → (∀ k ∈ ws.map wkey, k ∉ x.2.map wkey) ∧ ∀ k ∈ rs, k ∉ x.2.map wkey := by
      intro m x hx hm hml
      obtain ⟨o', ho'⟩ : ∃ o', ops[m]? = some o' := ⟨_, Array.getElem?_eq_getElem (hlt hx)⟩
      have hbit : ((masks 0 ops.toList []).getD m 0).testBit j = false := by
        cases hc : ((masks 0 ops.toList []).getD m 0).testBit j with
        | false => rfl
        | true => exact absurd (hgood m (hlt hx) o' ho' (hcl m o' ho' hml) j hc) (by simp only [hjf]; simp)
      have := apart_ok hap hm hrw hx hbit
      exact ⟨this.2.1, this.2.2⟩
    have hq' : (gstep P T ops o c).run (upd (fun m => listed.getD m false) 0 rw σ) = some ⟨ws, ps, rs⟩ := by
      refine run_congr hq fun k hk => upd_same (Same.refl _ _) fun m x hx hne => ?_
      simp only [Nat.zero_add] at hne
      by_cases hmj : m < j
      · have hml : listed.getD m false = false := by
          cases hc : listed.getD m false with
          | false => rfl
          | true => simp [hmj, hc] at hne
        intro hkx
        exact below hx hmj hml k hkx hk
      · have hml : listed.getD m false = true := by
          cases hc : listed.getD m false with
          | true => rfl
          | false => simp [hmj, hc] at hne
        have hne' : m ≠ j := by intro e; subst e; rw [hml] at hjf; cases hjf
        exact (above hx (by omega) hml).2 k hk
    refine wpOp_mono ?_ (gstep_ok (Qx := Qx) (i := j) H hB h ho hf ⟨_, _, hq', hp⟩)
    intro a' w' hA
    obtain ⟨g', hA⟩ := hA
    refine ih (listed.setIfInBounds j true) g' a' w' (by simpa using hs) ?_ ?_ ?_
    · have hje : listed.toList[j]'(by simpa using hjs) = false := by
        simpa [Array.getD_eq_getD_getElem?, Array.getElem?_eq_getElem hjs] using hjf
      rw [Array.toList_setIfInBounds, List.count_set (by simpa using hjs), hje]
      simp [hcnt]
    · intro m o' ho' hm e he hbi
      by_cases hmj : m = j
      · subst hmj
        rw [ho] at ho'
        simp only [Option.some.injEq] at ho'
        subst ho'
        exact getD_set_true (hpar e he hbi)
      · have : listed.getD m false = true := by rw [← getD_set_ne false (Ne.symm hmj)]; exact hm
        exact getD_set_true (hcl m o' ho' this e he hbi)
    · rw [upd_add (L := fun m => listed.getD m false) (L' := fun m => (listed.setIfInBounds j true).getD m false) (m := j) hrw (by simpa using hjf) (by simp [hjs]) (fun m hm => getD_set_ne false (Ne.symm (by simpa using hm)))
        (fun m y hm hy hl => (above hy hm (by simpa using hl)).1)]
      exact hA

/-- A region's run is the machine's. -/
theorem region_ok (H : TabOk P T) (hB : ∀ t e, T.elem t = some e → 0 < T.bytes e) (hm : P.follows .mixedOrders = true) {σ : St} {g : Gh} {a : Act} {w : World} (h : Rep P C σ g a w) {id : Nat} {ops : Array Oper} {draw : Bool} {cs : List Orc} {r : Ran}
    (hr : runRegion P T C.F ops draw cs σ = some r) (hp : ∀ p ∈ r.ps, p) {Qx : Exit → Act → World → Prop} (hQ : ∀ g a w, Rep P C r.σ g a w → Qx .normal a w) : (Code.region id ops draw).wp P Qx a w := by
  unfold runRegion at hr
  split at hr
  · rename_i r' hr'
    cases draw with
    | false =>
      simp only [Bool.false_eq_true, if_false, Option.some.injEq] at hr
      subst hr
      refine wp_region ?_
      have := trace_text (k := 0) H hB (runOps_trace hr' hp) (fun j => by simp) h hQ
      simpa [List.range_eq_range'] using this
    | true =>
      simp only [if_true] at hr
      split at hr
      · rename_i hc
        rw [Bool.and_eq_true] at hc
        simp only [Option.some.injEq] at hr
        subst hr
        refine wp_region_any hm (trace_any H hB (runOps_trace hr' hp) hc.1 hc.2 hQ ops.size _ g a _ (by simp) (by simp) ?_ ?_)
        · intro j o ho hj
          exfalso
          revert hj
          simp only [Array.getD_eq_getD_getElem?, Array.getElem?_replicate]
          split <;> simp
        · have hL : (fun m => (Array.replicate ops.size false).getD m false) = fun _ => false := by
            funext m
            simp only [Array.getD_eq_getD_getElem?, Array.getElem?_replicate]
            split <;> rfl
          rw [hL]
          have h0 : ∀ (i : Nat) (rw : List Rw), upd (fun _ => false) i rw σ = σ := by
            intro i rw
            induction rw generalizing i with
            | nil => rfl
            | cons x rw ih => unfold upd; simp only [Bool.false_eq_true, if_false]; exact ih _
          rw [h0]
          exact h.heap rfl rfl rfl
      · cases hr
  · cases hr

end Go.Pi

/- A state is told anew: fewer slots, objects under other names ('pick', 'Weak'). -/
namespace Go.Pi
variable {P : Program} {C : Ctx} {T : Tab}

def look {α : Type} : List (Nat × α) → Nat → Option α
  | [], _ => none
  | (k, x) :: l, n => if n = k then some x else look l n

def St.of (ss : List (Nat × SV)) (os : List (Nat × Obj)) : St := ⟨look ss, look os⟩

def rnAll (ren : List (Nat × Nat)) : List Nat → Option (List Nat)
  | [] => some []
  | n :: ns => match look ren n with
    | some m => match rnAll ren ns with
      | some ms => some (m :: ms)
      | none => none
    | none => none

def rnLV (ren : List (Nat × Nat)) : LV → Option LV
  | .val v => some (.val v)
  | .ro t xs => some (.ro t xs)
  | .fix k j t xs => some (.fix k j t xs)
  | .nil t => some (.nil t)
  | .fn p => some (.fn p)
  | .tr o => match look ren o with
    | some o' => some (.tr o')
    | none => none
  | .sub _ _ _ _ => none
  | .bp o off => match look ren o with
    | some o' => some (.bp o' off)
    | none => none
  | .ep t b i off => match rnLV ren b with
    | some b' => some (.ep t b' i off)
    | none => none
  | .clo f caps => match rnAll ren caps with
    | some caps' => some (.clo f caps')
    | none => none

def rnLVs (ren : List (Nat × Nat)) : List LV → Option (List LV)
  | [] => some []
  | l :: ls => match rnLV ren l with
    | some l' => match rnLVs ren ls with
      | some ls' => some (l' :: ls')
      | none => none
    | none => none

def rnSV (ren : List (Nat × Nat)) : SV → Option SV
  | .v (ag, ls) => match rnLVs ren ls with
    | some ls' => some (.v (ag, ls'))
    | none => none
  | _ => none

def rnObj (ren : List (Nat × Nat)) : Obj → Option Obj
  | .box ls => match rnLVs ren ls with
    | some ls' => some (.box ls')
    | none => none
  | .rbox ls => match rnLVs ren ls with
    | some ls' => some (.rbox ls')
    | none => none
  | .tree t xs _ => some (.tree t xs 0)
  | .ret t xs _ => some (.ret t xs 0)
  | .dead => some .dead
  | _ => none

def pickS (ren : List (Nat × Nat)) (σ : St) : List Nat → Option (List (Nat × SV))
  | [] => some []
  | n :: ns => match σ.s n with
    | some x => match rnSV ren x with
      | some y => match pickS ren σ ns with
        | some r => some ((n, y) :: r)
        | none => none
      | none => none
    | none => none

def pickO (ren : List (Nat × Nat)) (σ : St) : List (Nat × Nat) → Option (List (Nat × Obj))
  | [] => some []
  | (i, i') :: l => match σ.o i with
    | some x => match rnObj ren x with
      | some y => match pickO ren σ l with
        | some r => some ((i', y) :: r)
        | none => none
      | none => none
    | none => none

/-- No name twice. -/
def uniq : List Nat → Bool
  | [] => true
  | n :: ns => !ns.contains n && uniq ns

def pick (live : List Nat) (ren : List (Nat × Nat)) (σ : St) : Option (List (Nat × SV) × List (Nat × Obj)) :=
  if uniq (ren.map (·.1)) && uniq (ren.map (·.2)) then
    match pickS ren σ live, pickO ren σ ren with
    | some ss, some os => some (ss, os)
    | _, _ => none
  else none

theorem look_mem {α : Type} : ∀ {l : List (Nat × α)} {n : Nat} {x : α}, look l n = some x → (n, x) ∈ l
  | [], _, _, h => by cases h
  | (k, y) :: l, n, x, h => by
    unfold look at h
    split at h
    · rename_i e; simp only [Option.some.injEq] at h; subst e; subst h; exact List.mem_cons_self ..
    · exact List.mem_cons_of_mem _ (look_mem h)

theorem mem_look {α : Type} : ∀ {l : List (Nat × α)} {n : Nat} {x : α}, uniq (l.map (·.1)) = true → (n, x) ∈ l → look l n = some x
  | [], _, _, _, h => by cases h
  | (k, y) :: l, n, x, hu, h => by
    simp only [List.map_cons, uniq, Bool.and_eq_true, Bool.not_eq_true'] at hu
    unfold look
    rcases List.mem_cons.1 h with h | hm
    · cases h; simp
    · have h := hm
      have : n ≠ k := by
        intro e
        subst e
        have : (l.map (·.1)).contains n = true := by
          rw [List.contains_iff_mem]
          exact List.mem_map.2 ⟨(n, x), hm, rfl⟩
        rw [hu.1] at this; cases this
      rw [if_neg this]
      exact mem_look hu.2 h

theorem pickS_at {ren : List (Nat × Nat)} {σ : St} : ∀ {live : List Nat} {ss : List (Nat × SV)}, pickS ren σ live = some ss → ∀ n y, look ss n = some y → ∃ x, σ.s n = some x ∧ rnSV ren x = some y
  | [], ss, h, n, y, hl => by
    simp only [pickS, Option.some.injEq] at h
    subst h; cases hl
  | m :: ms, ss, h, n, y, hl => by
    unfold pickS at h
    split at h
    · rename_i x hx
      split at h
      · rename_i y' hy
        split at h
        · rename_i r hr
          simp only [Option.some.injEq] at h
          subst h
          unfold look at hl
          split at hl
          · rename_i e
            simp only [Option.some.injEq] at hl
            subst e; subst hl
            exact ⟨x, hx, hy⟩
          · exact pickS_at hr n y hl
        · cases h
      · cases h
    · cases h

theorem pickO_at {ren : List (Nat × Nat)} {σ : St} : ∀ {l : List (Nat × Nat)} {os : List (Nat × Obj)}, pickO ren σ l = some os →
    (∀ i' y, look os i' = some y → ∃ i x, (i, i') ∈ l ∧ σ.o i = some x ∧ rnObj ren x = some y) ∧ ∀ i i', (i, i') ∈ l → (look os i').isSome
  | [], os, h => by
    simp only [pickO, Option.some.injEq] at h
    subst h
    exact ⟨fun i' y h => (by cases h), fun i i' h => (by cases h)⟩
  | (m, m') :: l, os, h => by
    unfold pickO at h
    split at h
    · rename_i x hx
      split at h
      · rename_i y' hy
        split at h
        · rename_i r hr
          simp only [Option.some.injEq] at h
          subst h
          obtain ⟨h1, h2⟩ := pickO_at hr
          refine ⟨fun i' y hl => ?_, fun i i' hm => ?_⟩
          · unfold look at hl
            split at hl
            · rename_i e
              simp only [Option.some.injEq] at hl
              subst e; subst hl
              exact ⟨m, x, List.mem_cons_self .., hx, hy⟩
            · obtain ⟨i, x', a1, a2, a3⟩ := h1 i' y hl
              exact ⟨i, x', List.mem_cons_of_mem _ a1, a2, a3⟩
          · unfold look
            split
            · rfl
            · rename_i hne
              rcases List.mem_cons.1 hm with hm | hm
              · cases hm; exact absurd rfl hne
              · exact h2 i i' hm
        · cases h
      · cases h
    · cases h

theorem uniq_inj : ∀ {l : List (Nat × Nat)} {i j k : Nat}, uniq (l.map (·.2)) = true → (i, k) ∈ l → (j, k) ∈ l → i = j
  | [], _, _, _, _, h, _ => by cases h
  | (a, b) :: l, i, j, k, hu, h1, h2 => by
    simp only [List.map_cons, uniq, Bool.and_eq_true, Bool.not_eq_true'] at hu
    have no : ∀ x, (x, b) ∈ l → False := by
      intro x hx
      have : (l.map (·.2)).contains b = true := by
        rw [List.contains_iff_mem]
        exact List.mem_map.2 ⟨(x, b), hx, rfl⟩
      rw [hu.1] at this; cases this
    rcases List.mem_cons.1 h1 with h1 | h1 <;> rcases List.mem_cons.1 h2 with h2 | h2
    · cases h1; cases h2; rfl
    · cases h1; exact (no _ h2).elim
    · cases h2; exact (no _ h1).elim
    · exact uniq_inj hu.2 h1 h2

theorem rnObj_inv {ren : List (Nat × Nat)} {x y : Obj} (h : rnObj ren x = some y) : match x with
    | .box ls => ∃ ls', rnLVs ren ls = some ls' ∧ y = .box ls'
    | .rbox ls => ∃ ls', rnLVs ren ls = some ls' ∧ y = .rbox ls'
    | .tree t xs _ => y = .tree t xs 0
    | .ret t xs _ => y = .ret t xs 0
    | .dead => y = .dead
    | _ => False := by
  cases x with
  | box ls =>
    simp only [rnObj] at h ⊢
    cases hl : rnLVs ren ls with
    | none => rw [hl] at h; cases h
    | some ls' => rw [hl] at h; simp only [Option.some.injEq] at h; exact ⟨ls', rfl, h.symm⟩
  | rbox ls =>
    simp only [rnObj] at h ⊢
    cases hl : rnLVs ren ls with
    | none => rw [hl] at h; cases h
    | some ls' => rw [hl] at h; simp only [Option.some.injEq] at h; exact ⟨ls', rfl, h.symm⟩
  | tree t xs γ => simp only [rnObj, Option.some.injEq] at h; exact h.symm
  | ret t xs γ => simp only [rnObj, Option.some.injEq] at h; exact h.symm
  | dead => simp only [rnObj, Option.some.injEq] at h; exact h.symm
  | _ => simp [rnObj] at h

section
variable {σ : St} {g : Gh} {a : Act} {w : World} {ren : List (Nat × Nat)} {O' : Nat → Option Obj} {g' : Gh}

/-- Names turn by 'ren'; what stands behind them is the same. -/
structure Ren (O : Nat → Option Obj) (g : Gh) (w : World) (ren : List (Nat × Nat)) (O' : Nat → Option Obj) (g' : Gh) : Prop where
  L : ∀ b, g'.L b → g.L b
  some_ : ∀ i i', look ren i = some i' → (O i).isSome → (O' i').isSome ∧ g'.hv i' = g.hv i

theorem Ren.rd {O : Nat → Option Obj} (R : Ren O g w ren O' g') {l : Leaf} {v : Value} (h : Rd w (okB w g.L) l v) : Rd w (okB w g'.L) l v :=
  h.mono (fun _ _ => rfl) fun b hb => ⟨hb.1, fun hl => hb.2 (R.L b hl)⟩

theorem Ren.bp {O : Nat → Option Obj} (R : Ren O g w ren O' g') {o o' off : Nat} {v : Value} (hl : look ren o = some o') (h : BpOk O g o off v) : BpOk O' g' o' off v := by
  obtain ⟨h1, blk, h2, h3⟩ := h
  obtain ⟨r1, r2⟩ := R.some_ o o' hl h1
  exact ⟨r1, blk, r2.trans h2, h3⟩

theorem Ren.all {O : Nat → Option Obj} (R : Ren O g w ren O' g') : ∀ {os os' : List Nat} {vs : List Value}, rnAll ren os = some os' → Each (fun o u => BpOk O g o 0 u) os vs → Each (fun o u => BpOk O' g' o 0 u) os' vs
  | [], os', vs, h, he => by
    simp only [rnAll, Option.some.injEq] at h
    subst h
    exact ⟨he.len, fun j l u hl _ => by cases hl⟩
  | n :: ns, os', vs, h, he => by
    unfold rnAll at h
    split at h
    · rename_i m hm
      split at h
      · rename_i ms hms
        simp only [Option.some.injEq] at h
        subst h
        match vs, he with
        | [], he => have := he.len; simp at this
        | v :: vs, he =>
          have ih := Ren.all R hms (vs := vs) ⟨by have := he.len; simpa using this, fun j l u hl hu => he.at_ (j + 1) l u hl hu⟩
          refine ⟨by simp [ih.len], fun j l u hl hu => ?_⟩
          match j with
          | 0 =>
            simp only [List.getElem?_cons_zero, Option.some.injEq] at hl hu
            subst hl; subst hu
            exact R.bp hm (he.at_ 0 n v rfl rfl)
          | j + 1 => exact ih.at_ j l u hl hu
      · cases h
    · cases h

theorem Ren.lv {O : Nat → Option Obj} (R : Ren O g w ren O' g') : ∀ {l l' : LV} {v : Value}, rnLV ren l = some l' → RepLV P C O g w l v → RepLV P C O' g' w l' v
  | .val u, l', v, h, hr => by simp only [rnLV, Option.some.injEq] at h; subst h; exact hr
  | .ro t xs, l', v, h, hr => by simp only [rnLV, Option.some.injEq] at h; subst h; exact R.rd hr
  | .fix k j t xs, l', v, h, hr => by simp only [rnLV, Option.some.injEq] at h; subst h; exact ⟨hr.1, R.rd hr.2⟩
  | .nil t, l', v, h, hr => by simp only [rnLV, Option.some.injEq] at h; subst h; exact hr
  | .fn p, l', v, h, hr => by simp only [rnLV, Option.some.injEq] at h; subst h; exact hr
  | .tr o, l', v, h, hr => by
    unfold rnLV at h
    split at h
    · rename_i o' ho
      simp only [Option.some.injEq] at h; subst h
      obtain ⟨r1, r2⟩ := R.some_ o o' ho hr.1
      exact ⟨r1, hr.2.1.trans r2.symm, hr.2.2⟩
    · cases h
  | .sub o γ i f, l', v, h, hr => by simp [rnLV] at h
  | .bp o off, l', v, h, hr => by
    unfold rnLV at h
    split at h
    · rename_i o' ho
      simp only [Option.some.injEq] at h; subst h
      exact R.bp ho hr
    · cases h
  | .ep t b i off, l', v, h, hr => by
    unfold rnLV at h
    split at h
    · rename_i b' hb
      simp only [Option.some.injEq] at h; subst h
      obtain ⟨vb, blk, o, n, cap, h1, h2⟩ := hr
      exact ⟨vb, blk, o, n, cap, Ren.lv R hb h1, h2⟩
    · cases h
  | .clo f caps, l', v, h, hr => by
    unfold rnLV at h
    split at h
    · rename_i caps' hc
      simp only [Option.some.injEq] at h; subst h
      obtain ⟨vs, h1, h2⟩ := hr
      exact ⟨vs, h1, R.all hc h2⟩
    · cases h

theorem Ren.lvs {O : Nat → Option Obj} (R : Ren O g w ren O' g') : ∀ {ls ls' : List LV} {us : List Value}, rnLVs ren ls = some ls' → Each (RepLV P C O g w) ls us → Each (RepLV P C O' g' w) ls' us ∧ ls'.length = ls.length
  | [], ls', us, h, he => by
    simp only [rnLVs, Option.some.injEq] at h
    subst h
    exact ⟨⟨he.len, fun j l u hl _ => by cases hl⟩, rfl⟩
  | l :: ls, ls', us, h, he => by
    unfold rnLVs at h
    split at h
    · rename_i m hm
      split at h
      · rename_i ms hms
        simp only [Option.some.injEq] at h
        subst h
        match us, he with
        | [], he => have := he.len; simp at this
        | v :: vs, he =>
          obtain ⟨ih, ihl⟩ := Ren.lvs R hms (us := vs) ⟨by have := he.len; simpa using this, fun j l u hl hu => he.at_ (j + 1) l u hl hu⟩
          refine ⟨⟨by simp [ih.len], fun j l u hl hu => ?_⟩, by simp [ihl]⟩
          match j with
          | 0 =>
            simp only [List.getElem?_cons_zero, Option.some.injEq] at hl hu
            subst hl; subst hu
            exact R.lv hm (he.at_ 0 _ v rfl rfl)
          | j + 1 => exact ih.at_ j l u hl hu
      · cases h
    · cases h

theorem Ren.sv {O : Nat → Option Obj} (R : Ren O g w ren O' g') {x x' : SV} {v : Value} (h : rnSV ren x = some x') (hr : RepSV P C O g w x v) : RepSV P C O' g' w x' v := by
  unfold rnSV at h
  split at h
  · rename_i ag ls
    split at h
    · rename_i ls' hl
      simp only [Option.some.injEq] at h; subst h
      obtain ⟨us, h1, h2, h3⟩ := hr
      obtain ⟨r1, r2⟩ := R.lvs hl h2
      exact ⟨us, h1, r1, fun e => r2.trans (h3 e)⟩
    · cases h
  · cases h

end

/-- THE STATE TOLD ANEW stands for the same machine. -/
theorem anew_ok {σ : St} {g : Gh} {a : Act} {w : World} {live : List Nat} {ren : List (Nat × Nat)} {ss : List (Nat × SV)} {os : List (Nat × Obj)} (hp : pick live ren σ = some (ss, os)) (h : Rep P C σ g a w) :
    ∃ g', Rep P C (St.of ss os) g' a w := by
  unfold pick at hp
  split at hp
  · rename_i hu
    rw [Bool.and_eq_true] at hu
    split at hp
    · rename_i ss' os' h1 h2
      simp only [Option.some.injEq, Prod.mk.injEq] at hp
      obtain ⟨rfl, rfl⟩ := hp
      obtain ⟨o1, o2⟩ := pickO_at h2
      -- the name that a new name had
      let back : Nat → Option Nat := look (ren.map fun p => (p.2, p.1))
      have hback : ∀ i i', (i, i') ∈ ren → back i' = some i := by
        intro i i' hm
        refine mem_look ?_ (List.mem_map.2 ⟨(i, i'), hm, rfl⟩)
        have : (ren.map fun p => (p.2, p.1)).map (·.1) = ren.map (·.2) := by simp
        rw [this]; exact hu.2
      have hbm : ∀ i i', back i' = some i → (i, i') ∈ ren := by
        intro i i' hb
        obtain ⟨p, hp, he⟩ := List.mem_map.1 (look_mem hb)
        cases he; exact hp
      let g' : Gh := ⟨fun i' => match back i' with | some i => g.hv i | none => undef, fun i' b => ∃ i, back i' = some i ∧ (look os' i').isSome ∧ g.fp i b⟩
      have hL : ∀ b, g'.L b → g.L b := fun b ⟨i', i, _, _, hf⟩ => ⟨i, hf⟩
      have hv : ∀ i i', (i, i') ∈ ren → g'.hv i' = g.hv i := by
        intro i i' hm
        show (match back i' with | some i => g.hv i | none => undef) = g.hv i
        rw [hback i i' hm]
      have R : Ren σ.o g w ren (look os') g' := by
        exact ⟨hL, fun i i' hl _ => ⟨o2 i i' (look_mem hl), hv i i' (look_mem hl)⟩⟩
      refine ⟨g', h.defers, h.size, h.par, h.grown, h.kept, ?_, ?_, ?_, ?_, ?_⟩
      · rintro i' hn b ⟨i, _, hs, _⟩
        rw [show look os' i' = none from hn] at hs
        cases hs
      · rintro i' b ⟨i, _, _, hf⟩
        exact h.fps i b hf
      · rintro i' j' b ⟨i, hi, _, hf⟩ ⟨j, hj, _, hf'⟩
        have := h.dis i j b hf hf'
        subst this
        have e1 := mem_look hu.1 (hbm _ _ hi)
        have e2 := mem_look hu.1 (hbm _ _ hj)
        rw [e1] at e2
        exact Option.some.inj e2
      · intro i' y hy
        obtain ⟨i, x, hm, hx, hr⟩ := o1 i' y hy
        have hfp : ∀ b, g'.fp i' b ↔ g.fp i b := by
          intro b
          constructor
          · rintro ⟨j, hj, _, hf⟩
            rw [hback i i' hm] at hj
            rw [Option.some.inj hj]; exact hf
          · intro hf
            exact ⟨i, hback i i' hm, by rw [show look os' i' = some y from hy]; rfl, hf⟩
        have hO := h.objs i x hx
        have hi := rnObj_inv hr
        cases x with
        | box ls =>
          obtain ⟨ls', hl, rfl⟩ := hi
          obtain ⟨blk, c, e, b1, b2, b3, b4⟩ := hO
          exact ⟨blk, c, e, (hv i i' hm).trans b1, b2, fun b => (hfp b).trans (b3 b), (R.lvs hl b4).1⟩
        | rbox ls =>
          obtain ⟨ls', hl, rfl⟩ := hi
          obtain ⟨b0, blk, c, e, b1, b2, b3, b4⟩ := hO
          exact ⟨fun b hb => b0 b ((hfp b).1 hb), blk, c, e, (hv i i' hm).trans b1, b2, ⟨b3.1, fun hl' => b3.2 (hL _ hl')⟩, (R.lvs hl b4).1⟩
        | tree t xs γ =>
          have hi' : y = .tree t xs 0 := hi
          clear hi
          subst hi'
          show Own w _ (g'.hv i') (g'.fp i')
          rw [hv i i' hm]
          exact Own.congr hO hfp
        | ret t xs γ =>
          have hi' : y = .ret t xs 0 := hi
          clear hi
          subst hi'
          refine ⟨fun b hb => hO.1 b ((hfp b).1 hb), ?_⟩
          rw [hv i i' hm]
          exact R.rd hO.2
        | dead =>
          have hi' : y = .dead := hi
          clear hi
          subst hi'
          exact fun b hb => hO b ((hfp b).1 hb)
        | _ => exact hi.elim
      · intro n y hy
        obtain ⟨x, hx, hr⟩ := pickS_at h1 n y hy
        obtain ⟨s1, s2⟩ := h.slots n x hx
        exact ⟨s1, R.sv hr s2⟩
    · cases hp
  · cases hp

end Go.Pi

/- Coercions: one cell is told in other words, so that a loop's state has one shape. -/
namespace Go.Pi
variable {P : Program} {C : Ctx} {T : Tab}

inductive Loc where
  | slot (n j : Nat)
  | box (o j : Nat)

/-- 'own l o': the nil slice at l is an empty tree o from now on; 'ro l': the slice at l is only read from now on. -/
inductive Co where
  | own (l : Loc) (o : Nat)
  | ro (l : Loc)

def locQ : Loc → Q (List LV × (LV → Wr))
  | .slot n j => .slot n fun
    | .v (ag, ls) => .ret (ls.drop j, fun l => .s n (.v (ag, ls.set j l)))
    | _ => .fail
  | .box o j => .obj o fun
    | .box ls => .ret (ls.drop j, fun l => .o o (.box (ls.set j l)))
    | _ => .fail

def coQ : Co → Q (List Wr)
  | .own l o => (locQ l).bind fun (ls, k) => match ls with
    | .nil t :: _ => .free o (.ret [.o o (.tree t [] 0), k (.tr o)])
    | _ => .fail
  | .ro l => (locQ l).bind fun (ls, k) => match ls with
    | .nil t :: _ => .ret [k (.ro t [])]
    | .fix _ _ t xs :: _ => .ret [k (.ro t xs)]
    | .tr o :: _ => .obj o fun
      | .tree t xs γ => .ret [.o o (.ret t xs γ), k (.ro t xs)]
      | .ret t xs _ => .ret [k (.ro t xs)]
      | _ => .fail
    | _ => .fail

def cosRun : List Co → St → Option St
  | [], σ => some σ
  | c :: cs, σ => match (coQ c).run σ with
    | some g => match g.ps with
      | [] => cosRun cs (σ.puts g.a)
      | _ => none
    | none => none

section
variable {σ : St} {g : Gh} {a : Act} {w : World}

theorem Each.set {α : Type} {R : α → Value → Prop} {ls : List α} {us : List Value} (h : Each R ls us) {j : Nat} {l : α} {u : Value} (hu : us[j]? = some u) (hl : R l u) : Each R (ls.set j l) us := by
  refine ⟨by simpa using h.len, fun i l' u' hl' hu' => ?_⟩
  rw [List.getElem?_set] at hl'
  split at hl'
  · rename_i e
    subst e
    split at hl'
    · simp only [Option.some.injEq] at hl'
      subst hl'
      rw [hu] at hu'
      rw [← Option.some.inj hu']; exact hl
    · cases hl'
  · exact h.at_ i l' u' hl' hu'

theorem Rep.leafS (h : Rep P C σ g a w) {n j : Nat} {ag : Bool} {ls : List LV} {us : List Value} {l : LV} {u : Value} (hn : n < C.N) (hv : a.tmps.getD n undef = mkv ag us) (hea : Each (RepLV P C σ.o g w) ls us)
    (hag : ag = false → ls.length = 1) (hu : us[j]? = some u) (hl : RepLV P C σ.o g w l u) : Rep P C (σ.put (.s n (.v (ag, ls.set j l)))) g a w where
  defers := h.defers
  size := h.size
  par := h.par
  grown := h.grown
  kept := h.kept
  absent := h.absent
  fps := h.fps
  dis := h.dis
  objs := h.objs
  slots := by
    intro m y hy
    simp only [St.put] at hy
    split at hy
    · rename_i e
      subst e
      simp only [Option.some.injEq] at hy
      subst hy
      exact ⟨hn, us, hv, hea.set hu hl, fun e => by simpa using hag e⟩
    · exact h.slots m y hy

theorem Rep.leafB (h : Rep P C σ g a w) {b j blk : Nat} {ls : List LV} {c : Array Value} {e : TypeId} {l : LV} {u : Value} (hb : σ.o b = some (.box ls)) (h1 : g.hv b = .pointer (some ⟨blk, 0, none⟩)) (h2 : w.heap[blk]? = some (.cells c e (0, 0)))
    (h3 : ∀ x, g.fp b x ↔ x = blk) (hea : Each (RepLV P C σ.o g w) ls c.toList) (hu : c.toList[j]? = some u) (hl : RepLV P C σ.o g w l u) : Rep P C (σ.put (.o b (.box (ls.set j l)))) g a w := by
  have hO : ∀ i, (σ.put (.o b (.box (ls.set j l)))).o i = if i = b then some (.box (ls.set j l)) else σ.o i := fun i => rfl
  refine (h.step (O' := (σ.put (.o b (.box (ls.set j l)))).o) (g' := g) (w' := w) (Up.refl _) (fun _ _ _ => rfl) (fun _ hb => .inl hb) ?_ ?_ ?_ (fun i x hx => (h.fps i x hx).1) h.dis ?_).2
  · intro i hi
    rw [hO]
    split
    · exact ⟨rfl, rfl⟩
    · exact ⟨hi, rfl⟩
  · rintro o γ i f v ⟨s1, s2, s3⟩
    by_cases eo : o = b
    · subst eo
      refine ⟨⟨by rw [hO, if_pos rfl]; rfl, fun t xs γ' _ _ _ h0 => by rw [hO, if_pos rfl] at h0; cases h0⟩, fun t xs γ' h0 => ?_, fun t xs γ' h0 => ?_⟩
      · rw [hO, if_pos rfl] at h0; cases h0
      · rw [hO, if_pos rfl] at h0; cases h0
    · refine ⟨by rw [hO, if_neg eo]; exact s1, fun t xs γ' h0 => ?_, fun t xs γ' h0 => ?_⟩
      · rw [hO, if_neg eo] at h0; exact s2 t xs γ' h0
      · rw [hO, if_neg eo] at h0; exact s3 t xs γ' h0
  · intro i hi
    rw [hO] at hi
    split at hi
    · cases hi
    · exact h.absent i hi
  · intro F i x hx
    rw [hO] at hx
    split at hx
    · rename_i ei
      subst ei
      simp only [Option.some.injEq] at hx
      subst hx
      exact ⟨blk, c, e, h1, h2, h3, (hea.set hu hl).imp fun _ _ => F.lv⟩
    · exact RepObj.keep F rfl (fun _ => Iff.rfl) (fun _ _ => rfl) (h.objs i x hx)

/-- What stands at a place, and how it is told anew. -/
theorem loc_ok (h : Rep P C σ g a w) {l : Loc} {ls : List LV} {k : LV → Wr} (e : Ev σ (locQ l) (ls, k)) {x : LV} {r : List LV} (hls : ls = x :: r) :
    ∃ u, RepLV P C σ.o g w x u ∧ ∀ {σ' : St} {g' : Gh}, Rep P C σ' g' a w → Frm σ.o g w σ'.o g' w → σ'.s = σ.s → (∀ b y, l = .box b y → σ'.o b = σ.o b) → ∀ y, RepLV P C σ'.o g' w y u → Rep P C (σ'.put (k y)) g' a w := by
  have hdrop : ∀ {l0 : List LV} {j : Nat}, l0.drop j = x :: r → l0[j]? = some x := by
    intro l0 j hd
    have := congrArg (·[0]?) hd
    simpa using this
  cases l with
  | slot n j =>
    rw [locQ, Ev_slot] at e
    obtain ⟨y, hy, e⟩ := e
    split at e
    · rename_i ag l0
      rw [Ev_ret] at e
      obtain ⟨e1, rfl⟩ := Prod.mk.inj e
      obtain ⟨hn, us, hv, hea, hag⟩ := h.slots _ _ hy
      have hx := hdrop (e1.trans hls)
      have hj : j < us.length := by rw [hea.len]; exact (List.getElem?_eq_some_iff.1 hx).1
      refine ⟨us[j], hea.at_ j x _ hx (List.getElem?_eq_getElem hj), fun h' F _ _ y hy => ?_⟩
      exact h'.leafS hn hv (hea.imp fun _ _ => F.lv) hag (List.getElem?_eq_getElem hj) hy
    · exact (Ev_fail.1 e).elim
  | box b j =>
    rw [locQ, Ev_obj] at e
    obtain ⟨y, hy, e⟩ := e
    split at e
    · rename_i l0
      rw [Ev_ret] at e
      obtain ⟨e1, rfl⟩ := Prod.mk.inj e
      obtain ⟨blk, c, el, b1, b2, b3, b4⟩ := h.objs _ _ hy
      have hx := hdrop (e1.trans hls)
      have hj : j < c.toList.length := by rw [b4.len]; exact (List.getElem?_eq_some_iff.1 hx).1
      refine ⟨c.toList[j], b4.at_ j x _ hx (List.getElem?_eq_getElem hj), fun {σ' g'} h' F _ hb y hyy => ?_⟩
      have hb1 := (hb b j rfl).trans hy
      obtain ⟨blk', c', el', c1, c2, c3, c4⟩ := h'.objs _ _ hb1
      have hv := (F.ob b (by rw [hy]; rfl)).2
      rw [c1, b1] at hv
      simp only [Value.pointer.injEq, Option.some.injEq, Addr.mk.injEq] at hv
      obtain ⟨rfl, _⟩ := hv
      have hc := b2.symm.trans c2
      simp only [Option.some.injEq, Obj.cells.injEq] at hc
      obtain ⟨rfl, rfl, _⟩ := hc
      exact h'.leafB hb1 c1 c2 c3 c4 (List.getElem?_eq_getElem hj) hyy
    · exact (Ev_fail.1 e).elim

theorem co_ok (h : Rep P C σ g a w) {c : Co} {ws : List Wr} (e : Ev σ (coQ c) ws) : ∃ g', Rep P C (σ.puts ws) g' a w := by
  cases c with
  | own l o =>
    rw [coQ, Ev_bind] at e
    obtain ⟨⟨ls, k⟩, e1, e⟩ := e
    simp only at e
    split at e
    · rename_i t r
      rw [Ev_free, Ev_ret] at e
      obtain ⟨hfree, rfl⟩ := e
      obtain ⟨u, hu, hk⟩ := loc_ok h e1 rfl
      obtain ⟨aa, rfl⟩ := hu
      have hsw := h.swap (os := []) (i := o) (x := .tree t [] 0) (v := .slice aa 0 0) (S := fun _ => False) (w' := w) hfree (Up.refl _) (fun _ _ _ => rfl) (fun b hb => hb.elim)
        (fun F => by
          show Own w (.sl t []) ((g.swap [] o (.slice aa 0 0) fun _ => False).hv o) ((g.swap [] o (.slice aa 0 0) fun _ => False).fp o)
          have e1 : (g.swap [] o (.slice aa 0 0) fun _ => False).hv o = .slice aa 0 0 := by simp [Gh.swap]
          rw [e1]
          exact .nil t aa _ fun b hb => by simp [Gh.swap] at hb)
      have hne : ∀ b y, l = .box b y → b ≠ o := by
        rintro b y rfl rfl
        rw [locQ, Ev_obj] at e1
        obtain ⟨z, hz, _⟩ := e1
        rw [hfree] at hz; cases hz
      refine ⟨_, hk hsw.2 hsw.1 (swap_s [] o _) (fun b y hl => ?_) (.tr o) ⟨?_, ?_, aa, 0, 0, rfl⟩⟩
      · rw [swap_o, if_neg (hne b y hl)]; simp
      · rw [swap_o, if_pos rfl]; rfl
      · simp [Gh.swap]
    · exact (Ev_fail.1 e).elim
  | ro l =>
    rw [coQ, Ev_bind] at e
    obtain ⟨⟨ls, k⟩, e1, e⟩ := e
    simp only at e
    split at e
    · rename_i t r
      rw [Ev_ret] at e; subst e
      obtain ⟨u, hu, hk⟩ := loc_ok h e1 rfl
      obtain ⟨aa, rfl⟩ := hu
      exact ⟨g, hk h Frm.refl rfl (fun _ _ _ => rfl) (.ro t []) (Rd.nil t aa 0)⟩
    · rename_i u0 t xs r
      rw [Ev_ret] at e; subst e
      obtain ⟨u, hu, hk⟩ := loc_ok h e1 rfl
      exact ⟨g, hk h Frm.refl rfl (fun _ _ _ => rfl) (.ro t xs) hu.2⟩
    · rename_i o r
      rw [Ev_obj] at e
      obtain ⟨y, hy, e⟩ := e
      obtain ⟨u, hu, hk⟩ := loc_ok h e1 rfl
      split at e
      · rename_i t xs γ
        rw [Ev_ret] at e; subst e
        have hne : ∀ b y, l = .box b y → b ≠ o := by
          rintro b y0 rfl rfl
          rw [locQ, Ev_obj] at e1
          obtain ⟨z, hz, e1⟩ := e1
          rw [hy] at hz
          cases hz
          exact (Ev_fail.1 e1).elim
        obtain ⟨g2, F, h2, hrd⟩ := h.retire hy
        refine ⟨g2, hk h2 F rfl (fun b y0 hl => ?_) (.ro t xs) ?_⟩
        · show (if b = o then _ else σ.o b) = σ.o b
          rw [if_neg (hne b y0 hl)]
        · have : u = g.hv o := hu.2.1
          rw [this]; exact hrd
      · rename_i t xs γ
        rw [Ev_ret] at e; subst e
        obtain ⟨_, hrd⟩ := h.objs _ _ hy
        refine ⟨g, hk h Frm.refl rfl (fun _ _ _ => rfl) (.ro t xs) ?_⟩
        have : u = g.hv o := hu.2.1
        rw [this]; exact hrd
      · exact (Ev_fail.1 e).elim
    · exact (Ev_fail.1 e).elim

theorem cos_ok : ∀ {cs : List Co} {σ σ' : St} {g : Gh}, cosRun cs σ = some σ' → Rep P C σ g a w → ∃ g', Rep P C σ' g' a w
  | [], σ, σ', g, h, hr => by
    simp only [cosRun, Option.some.injEq] at h
    subst h; exact ⟨g, hr⟩
  | c :: cs, σ, σ', g, h, hr => by
    unfold cosRun at h
    split at h
    · rename_i gt hg
      split at h
      · rename_i hps
        obtain ⟨g1, h1⟩ := co_ok hr ⟨gt.ps, gt.rs, hg, by rw [hps]; intro p hp; cases hp⟩
        exact cos_ok h h1
      · cases h
    · cases h

end
end Go.Pi

/- How a state comes to be split. -/
namespace Go.Pi
variable {P : Program} {C : Ctx}

/-- 'split': an element's slice is told apart; 'pair': a list is told in two parts. -/
inductive Hint where
  | split (s off idx f o2 : Nat)
  | pair (s idx oA oB : Nat)

def hintQ : Hint → Q (List Wr)
  | .split s off idx f o2 => .slot s fun v => (asOne v).bind fun l => match l with
    | .bp ob off0 => .obj ob fun
      | .box ls => match ls[off0 + off]? with
        | some (.tr o) => .obj o fun
          | .tree t xs γ => .slot idx fun vi => (asI vi).bind fun (_, n) => .ask (0 ≤ n ∧ n < (xs.length : Int)) (match (cells t (xs.getD n.toNat (dflt t)))[f]? with
            | some (.sl t' ys) => .free o2 (.ret [.o o (.hole t xs γ n.toNat f o2), .o o2 (.tree t' ys 0)])
            | _ => .fail)
          | _ => .fail
        | _ => .fail
      | _ => .fail
    | _ => .fail
  | .pair s idx oA oB => .slot s fun v => (asOne v).bind fun l => match l with
    | .tr o => .obj o fun
      | .tree t xs _ => .slot idx fun vi => (asI vi).bind fun (_, n) => .ask (0 ≤ n ∧ n ≤ (xs.length : Int)) (if oA = oB then .fail else .free oA (.free oB (.ret [.o o (.pair t xs.length n.toNat oA oB), .o oA (.elems t (xs.take n.toNat)), .o oB (.elems t (xs.drop n.toNat))])))
      | _ => .fail
    | _ => .fail

section
variable {σ : St} {g : Gh} {a : Act} {w : World}

theorem put_o (σ : St) (i : Nat) (x : Obj) (j : Nat) : (σ.put (.o i x)).o j = if j = i then some x else σ.o j := rfl

theorem split_ok (h : Rep P C σ g a w) {o o2 i f : Nat} {t t' : Ty} {xs : List (den t)} {ys : List (den t')} {γ : Nat} (ho : σ.o o = some (.tree t xs γ)) (hi : i < xs.length)
    (hc : (cells t (xs.getD i (dflt t)))[f]? = some (.sl t' ys)) (hf2 : σ.o o2 = none) : ∃ g', Rep P C (σ.puts [.o o (.hole t xs γ i f o2), .o o2 (.tree t' ys 0)]) g' a w := by
  have hO : Own w (.sl t xs) (g.hv o) (g.fp o) := h.objs _ _ ho
  have hne : o ≠ o2 := fun e => by rw [e, hf2] at ho; cases ho
  generalize hvv : g.hv o = vv at hO
  generalize hSS : g.fp o = SS at hO
  cases hO with
  | nil t aa S hS => simp at hi
  | sl _ _ blk off cap c e V F _ hb hsz hlen h63 hcc hn hS hself hdis =>
    have hxi : xs[i]? = some (xs.getD i (dflt t)) := by rw [List.getD_eq_getElem?_getD, List.getElem?_eq_getElem hi]; rfl
    have hfw : f < width t := by rw [← cells_length t (xs.getD i (dflt t))]; exact (List.getElem?_eq_some_iff.1 hc).1
    have hown2 : Own w (.sl t' ys) (V i f) (F i f) := hn i _ hxi f _ hc
    have hfo : ∀ b, g.fp o b ↔ b = blk ∨ ∃ i f, i < xs.length ∧ f < width t ∧ F i f b := fun b => by rw [hSS]; exact hS b
    let g' : Gh := ⟨fun j => if j = o2 then V i f else g.hv j, fun j b => if j = o2 then F i f b else if j = o then g.fp o b ∧ ¬ F i f b else g.fp j b⟩
    have hO' : ∀ j, (σ.puts [.o o (.hole t xs γ i f o2), .o o2 (.tree t' ys 0)]).o j = if j = o2 then some (.tree t' ys 0) else if j = o then some (.hole t xs γ i f o2) else σ.o j := fun j => rfl
    have hFo : ∀ b, F i f b → g.fp o b := fun b hb => (hfo b).2 (.inr ⟨i, f, hi, hfw, hb⟩)
    have hfp : ∀ j b, g'.fp j b → (j = o2 ∧ F i f b) ∨ (j ≠ o2 ∧ j = o ∧ g.fp o b ∧ ¬ F i f b) ∨ (j ≠ o2 ∧ j ≠ o ∧ g.fp j b) := fun j b hb => by
      simp only [g'] at hb
      split at hb
      · rename_i e1; exact .inl ⟨e1, hb⟩
      · rename_i e1
        split at hb
        · rename_i e2; exact .inr (.inl ⟨e1, e2, hb⟩)
        · rename_i e2; exact .inr (.inr ⟨e1, e2, hb⟩)
    refine ⟨g', ?_⟩
    have hst := h.step (O' := (σ.puts [.o o (.hole t xs γ i f o2), .o o2 (.tree t' ys 0)]).o) (g' := g') (w' := w) (Up.refl _) (fun _ _ _ => rfl) ?_ ?_ ?_ ?_ ?_ ?_ ?_
    · exact hst.2
    · rintro b ⟨j, hb⟩
      rcases hfp j b hb with ⟨_, hb⟩ | ⟨_, _, hb, _⟩ | ⟨_, _, hb⟩
      · exact .inl ⟨o, hFo b hb⟩
      · exact .inl ⟨o, hb⟩
      · exact .inl ⟨j, hb⟩
    · intro j hj
      have hj2 : j ≠ o2 := fun e => by rw [e, hf2] at hj; cases hj
      rw [hO', if_neg hj2]
      refine ⟨by split <;> simp_all, by simp [g', hj2]⟩
    · intro p γ0 i0 f0 v hs
      have hp2 : p ≠ o2 := fun e => by have := hs.1.1; rw [e, hf2] at this; cases this
      by_cases hp : p = o
      · subst hp
        have hop : (σ.puts [.o p (.hole t xs γ i f o2), .o o2 (.tree t' ys 0)]).o p = some (.hole t xs γ i f o2) := by rw [hO', if_neg hp2, if_pos rfl]
        refine ⟨⟨by rw [hop]; rfl, fun t0 xs0 γ1 a1 a2 a3 h0 => ?_⟩, (fun t0 xs0 γ1 h0 => by rw [hop] at h0; cases h0), (fun t0 xs0 γ1 h0 => by rw [hop] at h0; cases h0)⟩
        rw [hop] at h0
        have hγ : γ1 = γ := by cases h0; rfl
        rw [hγ]; exact (hs.2.1 _ _ _ ho).1
      · exact hs.frame h (fun _ _ _ => rfl) (by simp [g', hp2]) (by rw [hO', if_neg hp2, if_neg hp])
    · intro j hj b hb
      rw [hO'] at hj
      split at hj
      · cases hj
      · split at hj
        · cases hj
        · rename_i e1 e2
          rcases hfp j b hb with ⟨e, _⟩ | ⟨_, e, _⟩ | ⟨_, _, hb⟩
          · exact e1 e
          · exact e2 e
          · exact h.absent j hj b hb
    · intro j b hb
      rcases hfp j b hb with ⟨_, hb⟩ | ⟨_, _, hb, _⟩ | ⟨_, _, hb⟩
      · exact (h.fps o b (hFo b hb)).1
      · exact (h.fps o b hb).1
      · exact (h.fps j b hb).1
    · intro p q b hp hq
      rcases hfp p b hp with ⟨e1, hp⟩ | ⟨n1, e1, hp, hp'⟩ | ⟨n1, m1, hp⟩ <;> rcases hfp q b hq with ⟨e2, hq⟩ | ⟨n2, e2, hq, hq'⟩ | ⟨n2, m2, hq⟩
      · rw [e1, e2]
      · exact absurd hp hq'
      · exact absurd (h.dis _ _ _ hq (hFo b hp)) m2
      · exact absurd hq hp'
      · rw [e1, e2]
      · exact absurd (h.dis _ _ _ hq hp) m2
      · exact absurd (h.dis _ _ _ hp (hFo b hq)) m1
      · exact absurd (h.dis _ _ _ hp hq) m1
      · exact h.dis _ _ _ hp hq
    · intro Fr j x hx
      rw [hO'] at hx
      split at hx
      · rename_i e1
        subst e1
        obtain rfl := Option.some.inj hx
        show Own w _ (g'.hv j) (g'.fp j)
        have e1 : g'.hv j = V i f := by simp [g']
        rw [e1]
        exact hown2.congr (fun b => by simp [g'])
      · rename_i e1
        split at hx
        · rename_i e2
          subst e2
          obtain rfl := Option.some.inj hx
          refine ⟨by rw [hO', if_pos rfl]; rfl, hi, dflt_cells _ _ _ _ _ hc, ?_, blk, off, cap, ?_, ?_, ?_⟩
          · obtain ⟨aa, cc, e⟩ := hown2.rd.len
            exact ⟨aa, ys.length, cc, by simp [g', e]⟩
          · simp only [g', if_neg hne]; exact hvv
          · refine ⟨c, e, V, F, hb, hsz, hlen, h63, hcc, fun i1 x1 hx1 f1 l1 hl1 _ => hn i1 x1 hx1 f1 l1 hl1, fun b => ?_, fun i1 f1 h1 h2 _ => hself i1 f1 h1 h2, fun i1 f1 j1 g1 b h1 h2 h3 h4 _ _ => hdis i1 f1 j1 g1 b h1 h2 h3 h4⟩
            simp only [g', if_neg hne, if_true]
            rw [hfo]
            constructor
            · rintro ⟨rfl | ⟨i1, f1, h1, h2, h3⟩, hn3⟩
              · exact .inl rfl
              · refine .inr ⟨i1, f1, h1, h2, fun e => ?_, h3⟩
                obtain ⟨rfl, rfl⟩ := e
                exact hn3 h3
            · rintro (rfl | ⟨i1, f1, h1, h2, hne1, h3⟩)
              · exact ⟨.inl rfl, hself i f hi hfw⟩
              · exact ⟨.inr ⟨i1, f1, h1, h2, h3⟩, fun h4 => hne1 (hdis _ _ _ _ _ h1 h2 hi hfw h3 h4)⟩
          · rw [World.cell_of_heap hb, hcc i f hi hfw]; simp [g']
        · rename_i e2
          refine RepObj.keep Fr (by simp [g', e1]) (fun b => by simp [g', e1, e2]) (fun _ _ => rfl) (h.objs j x hx)

theorem pair_ok (h : Rep P C σ g a w) {o oA oB k : Nat} {t : Ty} {xs : List (den t)} {γ : Nat} (ho : σ.o o = some (.tree t xs γ)) (hk : k ≤ xs.length) (hA : σ.o oA = none) (hB : σ.o oB = none) (hAB : oA ≠ oB) :
    ∃ g', Rep P C (σ.puts [.o o (.pair t xs.length k oA oB), .o oA (.elems t (xs.take k)), .o oB (.elems t (xs.drop k))]) g' a w := by
  have hO : Own w (.sl t xs) (g.hv o) (g.fp o) := h.objs _ _ ho
  have hneA : o ≠ oA := fun e => by rw [e, hA] at ho; cases ho
  have hneB : o ≠ oB := fun e => by rw [e, hB] at ho; cases ho
  obtain ⟨aa, cap, hcap, hvo, F, hF, hFsub, hEA, hEB⟩ : ∃ (aa : Option Addr) (cap : Nat), xs.length ≤ cap ∧ g.hv o = .slice aa xs.length cap ∧ ∃ F : Bool → Nat → Prop, (∀ b x, F b x → g.fp o x) ∧ (∀ x, F true x → ¬ F false x) ∧
      (∀ ok : Nat → Prop, (∀ x, g.fp o x → (∀ b, ¬ F b x) → ok x) → ElemsOk w ok t (xs.take k) (.slice (if cap = 0 then aa else aa.map (·.add (0 * width t))) (k - 0) (cap - 0)) (F true)) ∧
      (∀ ok : Nat → Prop, (∀ x, g.fp o x → (∀ b, ¬ F b x) → ok x) → ElemsOk w ok t (xs.drop k) (.slice (if cap = k then aa else aa.map (·.add (k * width t))) (xs.length - k) (cap - k)) (F false)) := by
    generalize hvv : g.hv o = vv at hO
    generalize hSS : g.fp o = SS at hO
    cases hO with
    | nil t aa S hS =>
      simp only [List.length_nil, Nat.le_zero_eq] at hk
      subst hk
      refine ⟨aa, 0, Nat.le_refl _, rfl, fun _ _ => False, fun _ _ h => h.elim, fun _ h => h.elim, fun ok _ => .inl ⟨rfl, ⟨_, _, rfl⟩, fun _ h => h⟩, fun ok _ => .inl ⟨rfl, ⟨_, _, rfl⟩, fun _ h => h⟩⟩
    | sl _ _ blk off cap c e V F _ hb hsz hlen h63 hcc hn hS hself hdis =>
      refine ⟨some ⟨blk, off, none⟩, cap, hlen, rfl, fun b x => if b then ∃ i f, i < k ∧ f < width t ∧ F i f x else ∃ i f, k ≤ i ∧ i < xs.length ∧ f < width t ∧ F i f x, ?_, ?_, ?_, ?_⟩
      · intro b x hx
        cases b with
        | true =>
          simp only [if_true] at hx
          obtain ⟨i, f, h1, h2, h3⟩ := hx
          exact (hS x).2 (.inr ⟨i, f, by omega, h2, h3⟩)
        | false =>
          simp only [Bool.false_eq_true, if_false] at hx
          obtain ⟨i, f, _, h1, h2, h3⟩ := hx
          exact (hS x).2 (.inr ⟨i, f, h1, h2, h3⟩)
      · intro x h1 h2
        simp only [if_true] at h1
        simp only [Bool.false_eq_true, if_false] at h2
        obtain ⟨i, f, a1, a2, a3⟩ := h1
        obtain ⟨j, f', b0, b1, b2, b3⟩ := h2
        have := (hdis i f j f' x (by omega) a2 b1 b2 a3 b3).1
        omega
      · intro ok hok
        have hlt : (xs.take k).length = k := by rw [List.length_take]; omega
        by_cases hk0 : k = 0
        · subst hk0
          exact .inl ⟨by simp, ⟨_, _, rfl⟩, fun b hb => by simp only [if_true] at hb; obtain ⟨i, f, h1, _⟩ := hb; omega⟩
        · refine .inr ⟨blk, off, cap, V, F, ?_, ?_, by omega, fun i f h1 h2 => ?_, fun i x hx f l hl => ?_, fun b => ?_, fun i f j g b h1 h2 h3 h4 => hdis i f j g b (by omega) h2 (by omega) h4⟩
          · rw [if_neg (by omega), hlt]
            simp [hdr, Addr.add_mid]
          · refine hok blk ((hS blk).2 (.inl rfl)) fun b hb => ?_
            cases b with
            | true => simp only [if_true] at hb; obtain ⟨i, f, h1, h2, h3⟩ := hb; exact hself i f (by omega) h2 h3
            | false => simp only [Bool.false_eq_true, if_false] at hb; obtain ⟨i, f, _, h1, h2, h3⟩ := hb; exact hself i f h1 h2 h3
          · rw [World.cell_of_heap hb]; exact hcc i f (by omega) h2
          · rw [List.getElem?_take] at hx
            split at hx
            · exact hn i x hx f l hl
            · cases hx
          · simp only [if_true, hlt]
      · intro ok hok
        have hlt : (xs.drop k).length = xs.length - k := by rw [List.length_drop]
        by_cases hk0 : xs.length - k = 0
        · refine .inl ⟨List.eq_nil_of_length_eq_zero (by omega), ⟨_, _, by rw [hk0]⟩, fun b hb => ?_⟩
          simp only [Bool.false_eq_true, if_false] at hb
          obtain ⟨i, f, h0, h1, _⟩ := hb; omega
        · refine .inr ⟨blk, off + k * width t, cap - k, fun i f => V (k + i) f, fun i f => F (k + i) f, ?_, ?_, by omega, fun i f h1 h2 => ?_, fun i x hx f l hl => ?_, fun b => ?_, fun i f j g b h1 h2 h3 h4 hb1 hb2 => ?_⟩
          · rw [if_neg (by omega), hlt]
            simp [hdr, Addr.add_mid]
          · refine hok blk ((hS blk).2 (.inl rfl)) fun b hb => ?_
            cases b with
            | true => simp only [if_true] at hb; obtain ⟨i, f, h1, h2, h3⟩ := hb; exact hself i f (by omega) h2 h3
            | false => simp only [Bool.false_eq_true, if_false] at hb; obtain ⟨i, f, _, h1, h2, h3⟩ := hb; exact hself i f h1 h2 h3
          · rw [World.cell_of_heap hb]
            have := hcc (k + i) f (by omega) h2
            rw [Nat.add_mul] at this
            rw [← this]; congr 1; omega
          · rw [List.getElem?_drop] at hx
            exact hn (k + i) x hx f l hl
          · simp only [Bool.false_eq_true, if_false, hlt]
            constructor
            · rintro ⟨i, f, h0, h1, h2, h3⟩
              exact ⟨i - k, f, by omega, h2, by rw [show k + (i - k) = i by omega]; exact h3⟩
            · rintro ⟨i, f, h1, h2, h3⟩
              exact ⟨k + i, f, by omega, by omega, h2, h3⟩
          · have := hdis _ _ _ _ b (by omega) h2 (by omega) h4 hb1 hb2
            exact ⟨by omega, this.2⟩
  let g' : Gh := ⟨fun j => if j = oA then .slice (if cap = 0 then aa else aa.map (·.add (0 * width t))) (k - 0) (cap - 0) else if j = oB then .slice (if cap = k then aa else aa.map (·.add (k * width t))) (xs.length - k) (cap - k) else g.hv j,
    fun j b => if j = oA then F true b else if j = oB then F false b else j ≠ o ∧ g.fp j b⟩
  have hO' : ∀ j, (σ.puts [.o o (.pair t xs.length k oA oB), .o oA (.elems t (xs.take k)), .o oB (.elems t (xs.drop k))]).o j = if j = oB then some (.elems t (xs.drop k)) else if j = oA then some (.elems t (xs.take k)) else if j = o then some (.pair t xs.length k oA oB) else σ.o j := fun j => rfl
  have hfp : ∀ j b, g'.fp j b → (j = oA ∧ F true b) ∨ (j ≠ oA ∧ j = oB ∧ F false b) ∨ (j ≠ oA ∧ j ≠ oB ∧ j ≠ o ∧ g.fp j b) := fun j b hb => by
    simp only [g'] at hb
    split at hb
    · rename_i e1; exact .inl ⟨e1, hb⟩
    · rename_i e1
      split at hb
      · rename_i e2; exact .inr (.inl ⟨e1, e2, hb⟩)
      · rename_i e2; exact .inr (.inr ⟨e1, e2, hb⟩)
  have hok : ∀ x, g.fp o x → (∀ b, ¬ F b x) → okB w g'.L x := fun x hx hF => ⟨(h.fps _ _ hx).1, fun ⟨j, hj⟩ => by
    rcases hfp j x hj with ⟨_, h1⟩ | ⟨_, _, h1⟩ | ⟨_, _, hno, h1⟩
    · exact hF _ h1
    · exact hF _ h1
    · exact hno (h.dis _ _ _ h1 hx)⟩
  refine ⟨g', ?_⟩
  have hst := h.step (O' := (σ.puts [.o o (.pair t xs.length k oA oB), .o oA (.elems t (xs.take k)), .o oB (.elems t (xs.drop k))]).o) (g' := g') (w' := w) (Up.refl _) (fun _ _ _ => rfl) ?_ ?_ ?_ ?_ ?_ ?_ ?_
  · exact hst.2
  · rintro b ⟨j, hb⟩
    rcases hfp j b hb with ⟨_, hb⟩ | ⟨_, _, hb⟩ | ⟨_, _, _, hb⟩
    · exact .inl ⟨o, hF _ _ hb⟩
    · exact .inl ⟨o, hF _ _ hb⟩
    · exact .inl ⟨j, hb⟩
  · intro j hj
    have hjA : j ≠ oA := fun e => by rw [e, hA] at hj; cases hj
    have hjB : j ≠ oB := fun e => by rw [e, hB] at hj; cases hj
    rw [hO', if_neg hjB, if_neg hjA]
    refine ⟨by split <;> simp_all, by simp [g', hjA, hjB]⟩
  · intro p γ0 i0 f0 v hs
    have hpA : p ≠ oA := fun e => by have := hs.1.1; rw [e, hA] at this; cases this
    have hpB : p ≠ oB := fun e => by have := hs.1.1; rw [e, hB] at this; cases this
    by_cases hp : p = o
    · subst hp
      have hop : (σ.puts [.o p (.pair t xs.length k oA oB), .o oA (.elems t (xs.take k)), .o oB (.elems t (xs.drop k))]).o p = some (.pair t xs.length k oA oB) := by rw [hO', if_neg hpB, if_neg hpA, if_pos rfl]
      exact ⟨⟨by rw [hop]; rfl, fun t0 xs0 γ1 a1 a2 a3 h0 => by rw [hop] at h0; cases h0⟩, (fun t0 xs0 γ1 h0 => by rw [hop] at h0; cases h0), (fun t0 xs0 γ1 h0 => by rw [hop] at h0; cases h0)⟩
    · exact hs.frame h (fun _ _ _ => rfl) (by simp [g', hpA, hpB]) (by rw [hO', if_neg hpB, if_neg hpA, if_neg hp])
  · intro j hj b hb
    rw [hO'] at hj
    split at hj
    · cases hj
    · split at hj
      · cases hj
      · split at hj
        · cases hj
        · rename_i e1 e2 e3
          rcases hfp j b hb with ⟨e, _⟩ | ⟨_, e, _⟩ | ⟨_, _, _, hb⟩
          · exact e2 e
          · exact e1 e
          · exact h.absent j hj b hb
  · intro j b hb
    rcases hfp j b hb with ⟨_, hb⟩ | ⟨_, _, hb⟩ | ⟨_, _, _, hb⟩
    · exact (h.fps o b (hF _ _ hb)).1
    · exact (h.fps o b (hF _ _ hb)).1
    · exact (h.fps j b hb).1
  · intro p q b hp hq
    rcases hfp p b hp with ⟨e1, hp⟩ | ⟨n1, e1, hp⟩ | ⟨n1, m1, l1, hp⟩ <;> rcases hfp q b hq with ⟨e2, hq⟩ | ⟨n2, e2, hq⟩ | ⟨n2, m2, l2, hq⟩
    · rw [e1, e2]
    · exact absurd hq (hFsub b hp)
    · exact absurd (h.dis _ _ _ hq (hF _ _ hp)) l2
    · exact absurd hp (hFsub b hq)
    · rw [e1, e2]
    · exact absurd (h.dis _ _ _ hq (hF _ _ hp)) l2
    · exact absurd (h.dis _ _ _ hp (hF _ _ hq)) l1
    · exact absurd (h.dis _ _ _ hp (hF _ _ hq)) l1
    · exact h.dis _ _ _ hp hq
  · intro Fr j x hx
    rw [hO'] at hx
    split at hx
    · rename_i e1
      subst e1
      obtain rfl := Option.some.inj hx
      have hjA : j ≠ oA := fun e => hAB e.symm
      show ElemsOk w _ _ _ (g'.hv j) (g'.fp j)
      have e1 : g'.hv j = .slice (if cap = k then aa else aa.map (·.add (k * width t))) (xs.length - k) (cap - k) := by simp [g', hjA]
      have e2 : g'.fp j = F false := by funext b; simp [g', hjA]
      rw [e1, e2]
      exact hEB _ hok
    · rename_i e1
      split at hx
      · rename_i e2
        subst e2
        obtain rfl := Option.some.inj hx
        show ElemsOk w _ _ _ (g'.hv j) (g'.fp j)
        have e1 : g'.hv j = .slice (if cap = 0 then aa else aa.map (·.add (0 * width t))) (k - 0) (cap - 0) := by simp [g']
        have e2 : g'.fp j = F true := by funext b; simp [g']
        rw [e1, e2]
        exact hEA _ hok
      · rename_i e2
        split at hx
        · rename_i e3
          subst e3
          obtain rfl := Option.some.inj hx
          exact ⟨fun b hb => by simp [g', hneA, hneB] at hb, by rw [hO', if_neg hAB, if_pos rfl]; rfl, by rw [hO', if_pos rfl]; rfl, hk, aa, cap, hcap, by simp only [g', if_neg hneA, if_neg hneB]; exact hvo, by simp only [g', if_true], by simp only [g', if_neg (fun e => hAB e.symm : ¬ oB = oA), if_true]⟩
        · rename_i e3
          refine RepObj.keep Fr (by simp [g', e1, e2]) (fun b => by simp [g', e1, e2, e3]) (fun _ _ => rfl) (h.objs j x hx)

theorem hint_ok (h : Rep P C σ g a w) {hi : Hint} {ws : List Wr} (e : Ev σ (hintQ hi) ws) : ∃ g', Rep P C (σ.puts ws) g' a w := by
  cases hi with
  | split s off idx f o2 =>
    rw [hintQ, Ev_slot] at e
    obtain ⟨v, _, e⟩ := e
    rw [Ev_bind] at e
    obtain ⟨l, _, e⟩ := e
    split at e
    · rw [Ev_obj] at e
      obtain ⟨y, _, e⟩ := e
      split at e
      · split at e
        · rename_i o _
          rw [Ev_obj] at e
          obtain ⟨z, hz, e⟩ := e
          split at e
          · rw [Ev_slot] at e
            obtain ⟨vi, _, e⟩ := e
            rw [Ev_bind] at e
            obtain ⟨⟨_, n⟩, _, e⟩ := e
            rw [Ev_ask] at e
            obtain ⟨hn, e⟩ := e
            split at e
            · rename_i hc
              rw [Ev_free, Ev_ret] at e
              obtain ⟨hf, rfl⟩ := e
              exact split_ok h hz (by omega) hc hf
            · exact (Ev_fail.1 e).elim
          · exact (Ev_fail.1 e).elim
        · exact (Ev_fail.1 e).elim
      · exact (Ev_fail.1 e).elim
    · exact (Ev_fail.1 e).elim
  | pair s idx oA oB =>
    rw [hintQ, Ev_slot] at e
    obtain ⟨v, _, e⟩ := e
    rw [Ev_bind] at e
    obtain ⟨l, _, e⟩ := e
    split at e
    · rw [Ev_obj] at e
      obtain ⟨z, hz, e⟩ := e
      split at e
      · rw [Ev_slot] at e
        obtain ⟨vi, _, e⟩ := e
        rw [Ev_bind] at e
        obtain ⟨⟨_, n⟩, _, e⟩ := e
        rw [Ev_ask] at e
        obtain ⟨hn, e⟩ := e
        split at e
        · exact (Ev_fail.1 e).elim
        · rename_i hne
          rw [Ev_free, Ev_free, Ev_ret] at e
          obtain ⟨hfA, hfB, rfl⟩ := e
          exact pair_ok h hz (by omega) hfA hfB hne
      · exact (Ev_fail.1 e).elim
    · exact (Ev_fail.1 e).elim

end
end Go.Pi

/- Code: straight runs through branches; loops by their own laws. -/
namespace Go.Pi
variable {P : Program} {C : Ctx} {T : Tab}

/-- From σ the code leaves by e, at σ'. -/
def Runs (P : Program) (N : Nat × Nat) (c : Code) (σ : St) (e : Exit) (σ' : St) : Prop :=
  ∀ (C : Ctx), C.F = N → ∀ g a w, Rep P C σ g a w → c.wp P (fun e' a' w' => e' = e ∧ ∃ g', Rep P C σ' g' a' w') a w

inductive LoopRuns (P : Program) (N : Nat × Nat) (c : Code) : St → Exit → St → Prop
  | stop {σ σ' : St} {e : Exit} (h : Runs P N c σ e σ') (he : e ≠ .normal) : LoopRuns P N c σ e σ'
  | next {σ σ1 σ' : St} {e : Exit} (h : Runs P N c σ .normal σ1) (h' : LoopRuns P N c σ1 e σ') : LoopRuns P N c σ e σ'

theorem LoopRuns.ok {N : Nat × Nat} {c : Code} {σ σ' : St} {e : Exit} (h : LoopRuns P N c σ e σ') : Runs P N (.loop c) σ e σ' := by
  intro C hC
  have key : ∃ n, ∀ g a w, Rep P C σ g a w → Code.rounds P c (fun e' a' w' => e' = e ∧ ∃ g', Rep P C σ' g' a' w') n a w := by
    induction h with
    | @stop σ σ' e h he =>
      refine ⟨1, fun g a w hr => ?_⟩
      rw [rounds_succ]
      refine wp_mono (h C hC g a w hr) ?_
      rintro e' a' w' ⟨rfl, h'⟩
      cases e' <;> first | exact absurd rfl he | exact ⟨rfl, h'⟩
    | @next σ σ1 σ' e h h' ih =>
      obtain ⟨n, ih⟩ := ih
      refine ⟨n + 1, fun g a w hr => ?_⟩
      rw [rounds_succ]
      refine wp_mono (h C hC g a w hr) ?_
      rintro e' a' w' ⟨rfl, g', hr'⟩
      exact ih g' a' w' hr'
  obtain ⟨n, key⟩ := key
  intro g a w hr
  exact wp_loop_rounds n (key g a w hr)

theorem Runs.anew {N : Nat × Nat} {c : Code} {σ σ' : St} {e : Exit} (h : Runs P N c σ e σ') {live : List Nat} {ren : List (Nat × Nat)} {ss : List (Nat × SV)} {os : List (Nat × Obj)}
    (hp : pick live ren σ' = some (ss, os)) : Runs P N c σ e (St.of ss os) := by
  intro C hC g a w hr
  refine wp_mono (h C hC g a w hr) ?_
  rintro e' a' w' ⟨he, g', hr'⟩
  exact ⟨he, anew_ok hp hr'⟩

theorem Runs.from {N : Nat × Nat} {c : Code} {σ σ' : St} {e : Exit} {live : List Nat} {ren : List (Nat × Nat)} {ss : List (Nat × SV)} {os : List (Nat × Obj)}
    (hp : pick live ren σ = some (ss, os)) (h : Runs P N c (St.of ss os) e σ') : Runs P N c σ e σ' := by
  intro C hC g a w hr
  obtain ⟨g', hr'⟩ := anew_ok hp hr
  exact h C hC g' a w hr'

/-- A loop's law, as a run uses it: the state is told anew, the loop leaves by e. -/
structure LoopOrc where
  co : List Co := []
  live : List Nat
  ren : List (Nat × Nat)
  e : Exit
  ss : List (Nat × SV)
  os : List (Nat × Obj)

structure Out where
  e : Exit
  σ : St
  ps : List Prop
  cs : List Orc
  ls : List LoopOrc

def leave (id : Nat) : Exit → Exit
  | .exit id' => if id' = id then .normal else .exit id'
  | e => e

section
variable (P : Program) (T : Tab) (N : Nat × Nat)

def runCode : Code → List Orc → List LoopOrc → St → Option Out
  | .skip, cs, ls, σ => some ⟨.normal, σ, [], cs, ls⟩
  | .region _ ops draw, cs, ls, σ => match runRegion P T N ops draw cs σ with
    | some r => some ⟨.normal, r.σ, r.ps, r.cs, ls⟩
    | none => none
  | .seq a b, cs, ls, σ => match runCode a cs ls σ with
    | some r => match r.e with
      | .normal => match runCode b r.cs r.ls r.σ with
        | some r' => some ⟨r'.e, r'.σ, r.ps ++ r'.ps, r'.cs, r'.ls⟩
        | none => none
      | _ => some r
    | none => none
  | .cond c x y, cs, ls, σ => match ((opd T 0 c).bind asB).run σ with
    | some g => match cs with
      | k :: cs => if k.g then (match runCode x cs ls σ with
          | some r => some ⟨r.e, r.σ, g.ps ++ (g.a = true) :: r.ps, r.cs, r.ls⟩
          | none => none)
        else (match runCode y cs ls σ with
          | some r => some ⟨r.e, r.σ, g.ps ++ (g.a = false) :: r.ps, r.cs, r.ls⟩
          | none => none)
      | [] => none
    | none => none
  | .block id c, cs, ls, σ => match runCode c cs ls σ with
    | some r => some ⟨leave id r.e, r.σ, r.ps, r.cs, r.ls⟩
    | none => none
  | .loop c, cs, ls, σ => match ls with
    | l :: ls => match cosRun l.co σ with
      | some σ1 => match pick l.live l.ren σ1 with
        | some (ss, os) => some ⟨l.e, St.of l.ss l.os, [LoopRuns P N c (St.of ss os) l.e (St.of l.ss l.os)], cs, ls⟩
        | none => none
      | none => none
    | [] => none
  | .exit id, cs, ls, σ => some ⟨.exit id, σ, [], cs, ls⟩
  | .ret, cs, ls, σ => some ⟨.ret, σ, [], cs, ls⟩
  | _, _, _, _ => none

end

theorem code_ok (H : TabOk P T) (hB : ∀ t e, T.elem t = some e → 0 < T.bytes e) (hm : P.follows .mixedOrders = true) {N : Nat × Nat} : ∀ {c : Code} {cs : List Orc} {ls : List LoopOrc} {σ : St} {r : Out},
    runCode P T N c cs ls σ = some r → (∀ p ∈ r.ps, p) → Runs P N c σ r.e r.σ
  | .skip, cs, ls, σ, r, h, hp => by
    simp only [runCode, Option.some.injEq] at h
    subst h
    intro C hC g a w hr
    exact wp_skip ⟨rfl, g, hr⟩
  | .region id ops draw, cs, ls, σ, r, h, hp => by
    unfold runCode at h
    split at h
    · rename_i r' hr'
      simp only [Option.some.injEq] at h
      subst h
      intro C hC g a w hr
      subst hC
      exact region_ok H hB hm hr hr' hp fun g a w hr => ⟨rfl, g, hr⟩
    · cases h
  | .seq x y, cs, ls, σ, r, h, hp => by
    unfold runCode at h
    split at h
    · rename_i r1 h1
      intro C hC g a w hr
      refine wp_seq ?_
      split at h
      · rename_i he
        split at h
        · rename_i r2 h2
          simp only [Option.some.injEq] at h
          subst h
          refine wp_mono (code_ok H hB hm h1 (fun p hm' => hp p (List.mem_append_left _ hm')) C hC g a w hr) ?_
          rintro e' a' w' ⟨rfl, g', hr'⟩
          rw [he]
          exact code_ok H hB hm h2 (fun p hm' => hp p (List.mem_append_right _ hm')) C hC g' a' w' hr'
        · cases h
      · rename_i he
        simp only [Option.some.injEq] at h
        subst h
        refine wp_mono (code_ok H hB hm h1 hp C hC g a w hr) ?_
        rintro e' a' w' ⟨rfl, h'⟩
        revert he h'
        cases r1.e <;> intro he h' <;> first | exact absurd rfl he | exact ⟨rfl, h'⟩
    · cases h
  | .cond c x y, cs, ls, σ, r, h, hp => by
    unfold runCode at h
    split at h
    · rename_i gt hg
      have hb : ∀ (hps : ∀ p ∈ gt.ps, p) {C : Ctx} {g : Gh} {a : Act} {w : World}, Rep P C σ g a w → a.eval c = .bool gt.a := by
        intro hps C g a w hr
        have e : Ev σ ((opd T 0 c).bind asB) gt.a := ⟨gt.ps, gt.rs, hg, hps⟩
        rw [Ev_bind] at e
        obtain ⟨v, e1, e2⟩ := e
        have hv := opd_ok hr e1
        rw [asB_ok e2] at hv
        obtain ⟨us, v1, v2, _⟩ := hv
        obtain ⟨u, rfl, v3⟩ := v2.one
        rw [v1, mkv_one, v3.1]
      split at h
      · rename_i k cs'
        split at h
        · split at h
          · rename_i r1 h1
            simp only [Option.some.injEq] at h
            subst h
            have hp1 := hp (gt.a = true) (List.mem_append_right _ (List.mem_cons_self ..))
            intro C hC g a w hr
            refine wp_cond_true ?_ (code_ok H hB hm h1 (fun p hm' => hp p (List.mem_append_right _ (List.mem_cons_of_mem _ hm'))) C hC g a w hr)
            rw [hb (fun p hm' => hp p (List.mem_append_left _ hm')) hr, hp1]
          · cases h
        · split at h
          · rename_i r1 h1
            simp only [Option.some.injEq] at h
            subst h
            have hp1 := hp (gt.a = false) (List.mem_append_right _ (List.mem_cons_self ..))
            intro C hC g a w hr
            refine wp_cond_false ?_ (code_ok H hB hm h1 (fun p hm' => hp p (List.mem_append_right _ (List.mem_cons_of_mem _ hm'))) C hC g a w hr)
            rw [hb (fun p hm' => hp p (List.mem_append_left _ hm')) hr, hp1]
          · cases h
      · cases h
    · cases h
  | .block id c, cs, ls, σ, r, h, hp => by
    unfold runCode at h
    split at h
    · rename_i r1 h1
      simp only [Option.some.injEq] at h
      subst h
      intro C hC g a w hr
      refine wp_block (wp_mono (code_ok H hB hm h1 hp C hC g a w hr) ?_)
      rintro e' a' w' ⟨rfl, h'⟩
      show Exit.inBlock id _ r1.e a' w'
      cases r1.e with
      | exit id' =>
        by_cases hid : id' = id
        · simp only [Exit.inBlock, hid, if_true, leave]; exact ⟨trivial, h'⟩
        · simp only [Exit.inBlock, hid, if_false, leave]; exact ⟨trivial, h'⟩
      | _ => exact ⟨rfl, h'⟩
    · cases h
  | .loop c, cs, ls, σ, r, h, hp => by
    unfold runCode at h
    split at h
    · rename_i l ls'
      split at h
      · rename_i σ1 hco
        split at h
        · rename_i ss os hpk
          simp only [Option.some.injEq] at h
          subst h
          have hl := Runs.from hpk (LoopRuns.ok (hp _ (List.mem_cons_self ..)))
          intro C hC g a w hr
          obtain ⟨g1, hr1⟩ := cos_ok hco hr
          exact hl C hC g1 a w hr1
        · cases h
      · cases h
    · cases h
  | .exit id, cs, ls, σ, r, h, hp => by
    simp only [runCode, Option.some.injEq] at h
    subst h
    intro C hC g a w hr
    exact wp_exit ⟨rfl, g, hr⟩
  | .ret, cs, ls, σ, r, h, hp => by
    simp only [runCode, Option.some.injEq] at h
    subst h
    intro C hC g a w hr
    exact wp_ret ⟨rfl, g, hr⟩
  | .rangeFunc .., _, _, _, _, h, _ => by simp [runCode] at h
  | .scope _, _, _, _, _, h, _ => by simp [runCode] at h
  | .label _, _, _, _, _, h, _ => by simp [runCode] at h
  | .goto _, _, _, _, _, h, _ => by simp [runCode] at h
  | .refuse _, _, _, _, _, h, _ => by simp [runCode] at h

/-- A run whose end is told anew. -/
def runTo (P : Program) (T : Tab) (N : Nat × Nat) (c : Code) (cs : List Orc) (ls : List LoopOrc) (co : List Co) (live : List Nat) (ren : List (Nat × Nat)) (σ : St) : Option (Exit × List (Nat × SV) × List (Nat × Obj) × List Prop) :=
  match runCode P T N c cs ls σ with
  | some r => match cosRun co r.σ with
    | some σ' => match pick live ren σ' with
      | some (ss, os) => some (r.e, ss, os, r.ps)
      | none => none
    | none => none
  | none => none

theorem to_ok (H : TabOk P T) (hB : ∀ t e, T.elem t = some e → 0 < T.bytes e) (hm : P.follows .mixedOrders = true) {N : Nat × Nat} {c : Code} {cs : List Orc} {ls : List LoopOrc} {co : List Co} {live : List Nat} {ren : List (Nat × Nat)} {σ : St}
    {e : Exit} {ss : List (Nat × SV)} {os : List (Nat × Obj)} {ps : List Prop} (h : runTo P T N c cs ls co live ren σ = some (e, ss, os, ps)) (hp : ∀ p ∈ ps, p) : Runs P N c σ e (St.of ss os) := by
  unfold runTo at h
  split at h
  · rename_i r hr
    split at h
    · rename_i σ' hco
      split at h
      · rename_i ss' os' hpk
        simp only [Option.some.injEq, Prod.mk.injEq] at h
        obtain ⟨rfl, rfl, rfl, rfl⟩ := h
        intro C hC g a w hrep
        refine wp_mono (code_ok H hB hm hr hp C hC g a w hrep) ?_
        rintro e' a' w' ⟨he, g', h'⟩
        obtain ⟨g1, h1⟩ := cos_ok hco h'
        exact ⟨he, anew_ok hpk h1⟩
      · cases h
    · cases h
  · cases h

end Go.Pi

/- A function's run: how it starts, what it hands back. -/
namespace Go.Pi
variable {P : Program} {C : Ctx} {T : Tab}

def pid (N k j : Nat) : Nat := (N + k) * 64 + j

def fixLVs (k : Nat) : Nat → List Leaf → List LV
  | _, [] => []
  | j, .val v :: ls => .val v :: fixLVs k (j + 1) ls
  | j, .sl t xs :: ls => .fix k j t xs :: fixLVs k (j + 1) ls

def mvLVs (N k : Nat) : Nat → List Leaf → List LV
  | _, [] => []
  | j, .val v :: ls => .val v :: mvLVs N k (j + 1) ls
  | j, .sl _ _ :: ls => .tr (pid N k j) :: mvLVs N k (j + 1) ls

def mvObjs (N k : Nat) : Nat → List Leaf → List (Nat × Obj)
  | _, [] => []
  | j, .val _ :: ls => mvObjs N k (j + 1) ls
  | j, .sl t xs :: ls => (pid N k j, .tree t xs 0) :: mvObjs N k (j + 1) ls

def adSlot (N k : Nat) : AD → SV
  | .v x => .v (x.1, x.2.map roLV)
  | .ptr _ _ => .v (false, [.bp (pid N k 0) 0])
  | .rptr _ => .v (false, [.bp (pid N k 0) 0])
  | .mv x => .v (x.1, mvLVs N k 0 x.2)
  | .fn p => .v (false, [.fn p])
  | .mut .. => .undef

def adObjs (N : Nat) (k : Nat) : AD → List (Nat × Obj)
  | .ptr pre _ => [(pid N k 0, .box (fixLVs k 0 pre))]
  | .rptr ls => [(pid N k 0, .rbox (ls.map roLV))]
  | .mv x => mvObjs N k 0 x.2
  | _ => []

def adOk : AD → Bool
  | .v x => x.2.all leafPlain
  | .ptr pre _ => pre.all leafPlain
  | .rptr ls => ls.all leafPlain
  | .mv x => x.2.all leafPlain && decide (x.2.length ≤ 64)
  | .mut .. => false
  | .fn _ => true

def initS (N : Nat) : Nat → List AD → List (Nat × SV)
  | _, [] => []
  | k, a :: as => (k, adSlot N k a) :: initS N (k + 1) as

def initO (N : Nat) : Nat → List AD → List (Nat × Obj)
  | _, [] => []
  | k, a :: as => adObjs N k a ++ initO N (k + 1) as

def resQ (T : Tab) : List ResultVar → Q (List VD)
  | [] => .ret []
  | .tmp t :: rs => .slot t fun v => (asVD v).bind fun vd => (resQ T rs).bind fun vds => .ret (vd :: vds)
  | .cell a t :: rs => .slot a fun v => (asOne v).bind fun l => match l, T.ty t with
    | .bp ob off, some ty => .obj ob fun
      | .box ls => if off + width ty ≤ ls.length then (resQ T rs).bind fun vds => .ret ((isAgg ty, (ls.drop off).take (width ty)) :: vds) else .fail
      | _ => .fail
    | _, _ => .fail

def split : List VD → List Leaf → List Cn
  | [], _ => []
  | vd :: vds, xs => (vd.1, xs.take vd.2.length) :: split vds (xs.drop vd.2.length)

def rdOf (vds : List VD) (xs : List Leaf) : RD :=
  match vds with
  | [vd] => .one (vd.1, xs)
  | _ => .tup (split vds xs)

/-- A box that was lent, as it is handed back. -/
def postQ (k : Nat) : Nat → List LV → Q (List Leaf)
  | _, [] => .ret []
  | j, .val v :: ls => (postQ k (j + 1) ls).bind fun xs => .ret (.val v :: xs)
  | j, .fix k' j' t xs :: ls => if k' = k ∧ j' = j then (postQ k (j + 1) ls).bind fun ys => .ret (.sl t xs :: ys) else .fail
  | _, _ => .fail

def postsQ (N : Nat) : Nat → List AD → Q Unit
  | _, [] => .ret ()
  | k, .ptr pre post :: as => .slot k fun
    | .v (false, [.bp ob 0]) => .obj ob fun
      | .box ls => (postQ k 0 ls).bind fun p => .ask (p = post ∧ post.length = pre.length) (postsQ N (k + 1) as)
      | _ => .fail
    | _ => .fail
  | k, _ :: as => postsQ N (k + 1) as

def finQ (T : Tab) (N : Nat) (as : List AD) (rs : List ResultVar) : Q RD :=
  (postsQ N 0 as).bind fun _ => (resQ T rs).bind fun vds => (given (vds.flatMap (·.2))).bind fun (xs, _) => .ret (rdOf vds xs)

def done : Exit → Bool
  | .normal => true
  | .ret => true
  | _ => false

def isPtr : AD → Bool
  | .ptr _ _ => true
  | _ => false

/-- The slots that stay: up to the last lent box. -/
def loOf : List AD → Nat
  | [] => 0
  | a :: as => if isPtr a || decide (loOf as ≠ 0) then loOf as + 1 else 0

theorem loOf_le : ∀ as : List AD, loOf as ≤ as.length
  | [] => Nat.le_refl _
  | a :: as => by
    have := loOf_le as
    unfold loOf
    split
    · simp; omega
    · omega

theorem loOf_lt : ∀ {as : List AD} {k : Nat} {pre post : List Leaf}, as[k]? = some (.ptr pre post) → k < loOf as
  | [], k, pre, post, h => by cases h
  | a :: as, 0, pre, post, h => by
    simp only [List.getElem?_cons_zero, Option.some.injEq] at h
    subst h
    simp [loOf, isPtr]
  | a :: as, k + 1, pre, post, h => by
    have := loOf_lt (as := as) (k := k) (by simpa using h)
    unfold loOf
    rw [if_pos (by simp; right; omega)]
    omega

section
variable {σ : St} {g : Gh} {a : Act} {w : World}

theorem Each.append {α : Type} {R : α → Value → Prop} {ls ls' : List α} {us us' : List Value} (h : Each R ls us) (h' : Each R ls' us') : Each R (ls ++ ls') (us ++ us') := by
  refine ⟨by simp [h.len, h'.len], fun j l u hl hu => ?_⟩
  rcases Nat.lt_or_ge j ls.length with hj | hj
  · rw [List.getElem?_append_left hj] at hl
    rw [List.getElem?_append_left (by rw [h.len]; exact hj)] at hu
    exact h.at_ j l u hl hu
  · rw [List.getElem?_append_right hj] at hl
    rw [List.getElem?_append_right (by rw [h.len]; exact hj), h.len] at hu
    exact h'.at_ _ l u hl hu

def resV (t : ResultVar) (tmps : Array Value) : Sem Value :=
  match t with
  | .tmp t => pure (tmps.getD t undef)
  | .cell a t => do loadVar t (← asAddr (tmps.getD a undef))

theorem resQ_ok (H : TabOk P T) (h : Rep P C σ g a w) : ∀ {rs : List ResultVar} {vds : List VD}, Ev σ (resQ T rs) vds →
    ∃ us, (rs.mapM (resV · a.tmps)).run P w = .ok (parts vds us) w ∧ Each (RepLV P C σ.o g w) (vds.flatMap (·.2)) us ∧ ∀ x ∈ vds, x.1 = false → x.2.length = 1
  | [], vds, e => by
    rw [resQ, Ev_ret] at e
    subst e
    exact ⟨[], by simp [parts], ⟨rfl, fun j l u hl _ => by cases hl⟩, fun x hx => by cases hx⟩
  | .tmp t :: rs, vds, e => by
    rw [resQ, Ev_slot] at e
    obtain ⟨x, hx, e⟩ := e
    rw [Ev_bind] at e
    obtain ⟨vd, e1, e⟩ := e
    rw [Ev_bind] at e
    obtain ⟨vds', e2, e⟩ := e
    rw [Ev_ret] at e
    subst e
    obtain rfl := asVD_ok e1
    obtain ⟨us, hv, hea, hag⟩ := (h.slots _ _ hx).2
    obtain ⟨us', i1, i2, i3⟩ := resQ_ok H h e2
    refine ⟨us ++ us', ?_, by simpa using hea.append i2, fun y hy => ?_⟩
    · have hrun' : (resV (.tmp t) a.tmps).run P w = .ok (mkv vd.1 us) w := by simp only [resV, Sem.run_pure, hv]
      rw [List.mapM_cons]
      simp only [Sem.run_bind, i1, hrun', Sem.run_pure, Result.andThen_ok]
      rw [parts, List.take_left' hea.len, List.drop_left' hea.len]
    · rcases List.mem_cons.1 hy with rfl | hy
      · exact hag
      · exact i3 y hy
  | .cell ad t :: rs, vds, e => by
    rw [resQ, Ev_slot] at e
    obtain ⟨x, hx, e⟩ := e
    rw [Ev_bind] at e
    obtain ⟨l, e1, e⟩ := e
    obtain rfl := asOne_ok e1
    split at e
    · rename_i ob off ty hty
      rw [Ev_obj] at e
      obtain ⟨y, hy, e⟩ := e
      split at e
      · rename_i ls
        split at e
        · rename_i hle
          rw [Ev_bind] at e
          obtain ⟨vds', e2, e⟩ := e
          rw [Ev_ret] at e
          subst e
          obtain ⟨us', i1, i2, i3⟩ := resQ_ok H h e2
          have hv := (h.slots _ _ hx).2
          obtain ⟨us0, hv0, hv1, _⟩ := hv
          obtain ⟨u0, rfl, hv2⟩ := hv1.one
          obtain ⟨hs, blk, hb, hx0⟩ := hv2
          obtain ⟨blk', cc, el, hb', hheap, _, hea⟩ := h.objs _ _ hy
          rw [hb] at hb'; simp only [Value.pointer.injEq, Option.some.injEq, Addr.mk.injEq] at hb'
          obtain ⟨rfl, _⟩ := hb'
          have hr : w.rangeAt blk off ((cc.toList.drop off).take (width ty)) := fun j v hv => by
            rw [World.cell_of_heap hheap]
            simp only [List.getElem?_take, List.getElem?_drop] at hv
            split at hv
            · simpa using hv
            · cases hv
          have hlen : ((cc.toList.drop off).take (width ty)).length = width ty := by
            have := hea.len; rw [List.length_take, List.length_drop]; omega
          have hrun := load_run H hty (w := w) (b := blk) (o := off) (us := (cc.toList.drop off).take (width ty)) hlen hr
          have hrun' : (resV (.cell ad t) a.tmps).run P w = .ok (mkv (isAgg ty) ((cc.toList.drop off).take (width ty))) w := by
            have e0 : a.tmps.getD ad undef = .pointer (some ⟨blk, off, none⟩) := by rw [hv0, mkv_one, hx0]
            simp only [resV, e0]
            exact hrun
          refine ⟨(cc.toList.drop off).take (width ty) ++ us', ?_, by simpa using (hea.sub off (width ty)).append i2, fun y hy => ?_⟩
          · rw [List.mapM_cons]
            simp only [Sem.run_bind, i1, hrun', Sem.run_pure, Result.andThen_ok]
            have hl2 : ((cc.toList.drop off).take (width ty)).length = ((ls.drop off).take (width ty)).length := (hea.sub off (width ty)).len
            rw [parts]
            simp only
            rw [List.take_left' hl2, List.drop_left' hl2]
          · rcases List.mem_cons.1 hy with rfl | hy
            · intro hag
              have := width_one hag
              simp only [List.length_take, List.length_drop]; omega
            · exact i3 y hy
        · exact (Ev_fail.1 e).elim
      · exact (Ev_fail.1 e).elim
    · exact (Ev_fail.1 e).elim

def oneOrTup : List Value → Value
  | [v] => v
  | vs => .tuple vs.toArray

theorem results_run {fn : Func} {tmps : Array Value} {vs : List Value} (h : (fn.results.toList.mapM (resV · tmps)).run P w = .ok vs w) :
    (results fn tmps).run P w = .ok (oneOrTup vs) w := by
  have e : results fn tmps = (do let vs ← fn.results.mapM (resV · tmps); pure (if h : vs.size = 1 then vs[0] else .tuple vs)) := by
    unfold results
    congr 1
  rw [e, Array.mapM_eq_mapM_toList]
  simp only [Sem.run_bind, Sem.run_map, h, Result.andThen_ok, Sem.run_pure]
  match vs with
  | [] => rfl
  | [v] => rfl
  | v :: v' :: vs => simp [oneOrTup]

end
end Go.Pi

/- A function's start: what its arguments are is what the abstract state says. -/
namespace Go.Pi
variable {P : Program} {T : Tab}

theorem pid_inj {N k j k' j' : Nat} (h : pid N k j = pid N k' j') (hj : j < 64) (hj' : j' < 64) : k = k' ∧ j = j' := by
  unfold pid at h; omega

theorem initS_at {N : Nat} : ∀ {as : List AD} {k n : Nat} {x : SV}, look (initS N k as) n = some x → k ≤ n ∧ ∃ a, as[n - k]? = some a ∧ x = adSlot N n a
  | [], k, n, x, h => by cases h
  | a :: as, k, n, x, h => by
    unfold initS look at h
    split at h
    · rename_i e
      simp only [Option.some.injEq] at h
      subst e
      exact ⟨Nat.le_refl _, a, by simp, h.symm⟩
    · obtain ⟨h1, a', h2, h3⟩ := initS_at h
      refine ⟨by omega, a', ?_, h3⟩
      rw [show n - k = (n - (k + 1)) + 1 by omega]
      simpa using h2

theorem initO_mem {N : Nat} : ∀ {as : List AD} {k : Nat} {p : Nat × Obj}, p ∈ initO N k as → ∃ m a, as[m]? = some a ∧ p ∈ adObjs N (k + m) a
  | [], k, p, h => by cases h
  | a :: as, k, p, h => by
    unfold initO at h
    rcases List.mem_append.1 h with h | h
    · exact ⟨0, a, rfl, h⟩
    · obtain ⟨m, a', h1, h2⟩ := initO_mem h
      refine ⟨m + 1, a', by simpa using h1, ?_⟩
      rw [show k + (m + 1) = k + 1 + m by omega]; exact h2

theorem initO_has {N : Nat} : ∀ {as : List AD} {k m : Nat} {a : AD} {p : Nat × Obj}, as[m]? = some a → p ∈ adObjs N (k + m) a → p ∈ initO N k as
  | [], k, m, a, p, h, _ => by cases h
  | b :: as, k, 0, a, p, h, hp => by
    simp only [List.getElem?_cons_zero, Option.some.injEq] at h
    subst h
    unfold initO
    exact List.mem_append_left _ hp
  | b :: as, k, m + 1, a, p, h, hp => by
    unfold initO
    refine List.mem_append_right _ (initO_has (m := m) (a := a) (by simpa using h) ?_)
    rw [show k + 1 + m = k + (m + 1) by omega]; exact hp

theorem look_isSome {α : Type} : ∀ {l : List (Nat × α)} {p : Nat × α}, p ∈ l → (look l p.1).isSome
  | [], _, h => by cases h
  | (k, x) :: l, p, h => by
    unfold look
    split
    · rfl
    · rename_i hne
      rcases List.mem_cons.1 h with h | h
      · subst h; exact absurd rfl hne
      · exact look_isSome h

theorem mvObjs_mem {N k : Nat} : ∀ {ls : List Leaf} {j : Nat} {p : Nat × Obj}, p ∈ mvObjs N k j ls ↔ ∃ m t, ∃ (xs : List (den t)), ls[m]? = some (.sl t xs) ∧ p = (pid N k (j + m), .tree t xs 0)
  | [], j, p => by simp [mvObjs]
  | .val v :: ls, j, p => by
    unfold mvObjs
    rw [mvObjs_mem]
    constructor
    · rintro ⟨m, t, xs, h, e⟩
      exact ⟨m + 1, t, xs, by simpa using h, by rw [e, show j + 1 + m = j + (m + 1) by omega]⟩
    · rintro ⟨m, t, xs, h, e⟩
      match m with
      | 0 => simp at h
      | m + 1 => exact ⟨m, t, xs, by simpa using h, by rw [e, show j + 1 + m = j + (m + 1) by omega]⟩
  | .sl t' ys :: ls, j, p => by
    unfold mvObjs
    rw [List.mem_cons, mvObjs_mem]
    constructor
    · rintro (h | ⟨m, t, xs, h, e⟩)
      · exact ⟨0, t', ys, rfl, h⟩
      · exact ⟨m + 1, t, xs, by simpa using h, by rw [e, show j + 1 + m = j + (m + 1) by omega]⟩
    · rintro ⟨m, t, xs, h, e⟩
      match m with
      | 0 =>
        left
        simp only [List.getElem?_cons_zero, Option.some.injEq] at h
        cases h
        exact e
      | m + 1 => exact .inr ⟨m, t, xs, by simpa using h, by rw [e, show j + 1 + m = j + (m + 1) by omega]⟩

theorem mvLVs_at {N k : Nat} : ∀ {ls : List Leaf} {j m : Nat}, (mvLVs N k j ls)[m]? = (ls[m]?).map fun | .val v => .val v | .sl _ _ => .tr (pid N k (j + m))
  | [], j, m => by simp [mvLVs]
  | .val v :: ls, j, 0 => rfl
  | .sl _ _ :: ls, j, 0 => rfl
  | .val v :: ls, j, m + 1 => by
    unfold mvLVs
    rw [List.getElem?_cons_succ, List.getElem?_cons_succ, mvLVs_at, show j + 1 + m = j + (m + 1) by omega]
  | .sl _ _ :: ls, j, m + 1 => by
    unfold mvLVs
    rw [List.getElem?_cons_succ, List.getElem?_cons_succ, mvLVs_at, show j + 1 + m = j + (m + 1) by omega]

theorem mvLVs_length {N k : Nat} : ∀ {ls : List Leaf} {j : Nat}, (mvLVs N k j ls).length = ls.length
  | [], j => rfl
  | .val v :: ls, j => by simp [mvLVs, mvLVs_length]
  | .sl _ _ :: ls, j => by simp [mvLVs, mvLVs_length]

theorem fixLVs_at {k : Nat} : ∀ {ls : List Leaf} {j m : Nat}, (fixLVs k j ls)[m]? = (ls[m]?).map fun | .val v => .val v | .sl t xs => .fix k (j + m) t xs
  | [], j, m => by simp [fixLVs]
  | .val v :: ls, j, 0 => rfl
  | .sl _ _ :: ls, j, 0 => rfl
  | .val v :: ls, j, m + 1 => by
    unfold fixLVs
    rw [List.getElem?_cons_succ, List.getElem?_cons_succ, fixLVs_at, show j + 1 + m = j + (m + 1) by omega]
  | .sl _ _ :: ls, j, m + 1 => by
    unfold fixLVs
    rw [List.getElem?_cons_succ, List.getElem?_cons_succ, fixLVs_at, show j + 1 + m = j + (m + 1) by omega]

theorem fixLVs_length {k : Nat} : ∀ {ls : List Leaf} {j : Nat}, (fixLVs k j ls).length = ls.length
  | [], j => rfl
  | .val v :: ls, j => by simp [fixLVs, fixLVs_length]
  | .sl _ _ :: ls, j => by simp [fixLVs, fixLVs_length]

theorem ro_each {C : Ctx} {O : Nat → Option Obj} {g : Gh} {w : World} {ls : List Leaf} {us : List Value} {ok : Nat → Prop} (hp : ls.all leafPlain = true) (h : Each (Rd w ok) ls us) (hok : ∀ b, ok b → okB w g.L b) :
    Each (RepLV P C O g w) (ls.map roLV) us := by
  refine ⟨by simpa using h.len, fun j l u hl hu => ?_⟩
  rw [List.getElem?_map] at hl
  cases hx : ls[j]? with
  | none => rw [hx] at hl; cases hl
  | some x =>
    rw [hx] at hl
    simp only [Option.map_some, Option.some.injEq] at hl
    subst hl
    have hr := h.at_ j x u hx hu
    have hpl := List.all_eq_true.1 hp x (List.mem_of_getElem? hx)
    cases x with
    | val v => cases hr; exact ⟨rfl, hpl⟩
    | sl t xs => exact hr.mono (fun _ _ => rfl) hok

/-- The cells of what an argument is. -/
def cellOf : Value → Nat → Value
  | .agg us, j => us.getD j undef
  | v, _ => v

theorem cellOf_mkv {ag : Bool} {us : List Value} {j : Nat} {t : Ty} {xs : List (den t)} {w : World} {S : Nat → Prop} {u : Value} (h1 : ag = false → us.length = 1) (hu : us[j]? = some u) (ho : Own w (.sl t xs) u S) : cellOf (mkv ag us) j = u := by
  cases ag with
  | true => simp [mkv, cellOf, hu]
  | false =>
    match us, h1 rfl with
    | [v], _ =>
      match j with
      | 0 =>
        simp only [List.getElem?_cons_zero, Option.some.injEq] at hu
        subst hu
        cases ho <;> rfl
      | j + 1 => simp at hu

/-- The ghost that a start has. -/
def ghost (N : Nat) (vs : List Value) (S : Nat → Nat → Nat → Prop) : Gh :=
  ⟨fun i => cellOf (vs.getD (i / 64 - N) undef) (i % 64), fun i b => ∃ k j, i = pid N k j ∧ j < 64 ∧ S k j b⟩

/-- The cells that lent boxes hold at the start. -/
def lentOf (w : World) (vs : List Value) (k j : Nat) : Value :=
  match vs.getD k undef with
  | .pointer (some ⟨b, _, _⟩) => match w.heap[b]? with
    | some (.cells c _ _) => c.getD j undef
    | _ => undef
  | _ => undef

theorem ghost_hv {N k j : Nat} {vs : List Value} {S : Nat → Nat → Nat → Prop} (hj : j < 64) : (ghost N vs S).hv (pid N k j) = cellOf (vs.getD k undef) j := by
  show cellOf (vs.getD (pid N k j / 64 - N) undef) (pid N k j % 64) = _
  rw [show pid N k j / 64 - N = k by unfold pid; omega, show pid N k j % 64 = j by unfold pid; omega]

theorem ghost_fp {N k j : Nat} {vs : List Value} {S : Nat → Nat → Nat → Prop} (hj : j < 64) (b : Nat) : (ghost N vs S).fp (pid N k j) b ↔ S k j b := by
  constructor
  · rintro ⟨k', j', e, hj', h⟩
    obtain ⟨rfl, rfl⟩ := pid_inj e hj hj'
    exact h
  · exact fun h => ⟨k, j, rfl, hj, h⟩

theorem start_ok {w : World} {vs : List Value} {as : List AD} {S : Nat → Nat → Nat → Prop} {N : Nat} (hN : as.length ≤ N) (hok : as.all adOk = true) (hlen : vs.length = as.length)
    (hSb : ∀ k j b, S k j b → b < w.heap.size ∧ k < as.length) (hSd : ∀ k j k' j' b, S k j b → S k' j' b → k = k' ∧ j = j')
    (harg : ∀ (k : Nat) a v, as[k]? = some a → vs[k]? = some v → ArgOk P w (fun b => ∃ k j, S k j b) v (S k) a) :
    Rep P ⟨(loOf as, N), fun k => vs.getD k undef, w, fun b => ∃ k j, S k j b, lentOf w vs⟩ (St.of (initS N 0 as) (initO N 0 as)) (ghost N vs S)
      { tmps := vs.toArray ++ Array.replicate (N - vs.toArray.size) undef, defers := [] } w := by
  have hget : ∀ {k : Nat} {a : AD}, as[k]? = some a → vs[k]? = some (vs.getD k undef) ∧ adOk a = true := by
    intro k a ha
    have hk : k < vs.length := by rw [hlen]; exact (List.getElem?_eq_some_iff.1 ha).1
    exact ⟨by simp [List.getD_eq_getElem?_getD, List.getElem?_eq_getElem hk], List.all_eq_true.1 hok a (List.mem_of_getElem? ha)⟩
  have hL : ∀ b, (ghost N vs S).L b → ∃ k j, S k j b := fun b ⟨i, k, j, _, _, h⟩ => ⟨k, j, h⟩
  have hokB : ∀ b, okB w (fun b => ∃ k j, S k j b) b → okB w (ghost N vs S).L b := fun b hb => ⟨hb.1, fun h => hb.2 (hL b h)⟩
  -- where blocks go along, an object stands
  have hS : ∀ k j b, S k j b → j < 64 ∧ (look (initO N 0 as) (pid N k j)).isSome := by
    intro k j b h
    have hk := (hSb k j b h).2
    have ha : as[k]? = some as[k] := List.getElem?_eq_getElem hk
    obtain ⟨hv, hao⟩ := hget ha
    have harg := harg k _ _ ha hv
    have hin : ∀ p, p ∈ adObjs N k as[k] → p ∈ initO N 0 as := fun p hp => initO_has (k := 0) (m := k) ha (by simpa using hp)
    cases hc : as[k] with
    | v x => rw [hc] at harg; exact absurd h (harg.1 j b)
    | rptr ls => rw [hc] at harg; exact absurd h (harg.1 j b)
    | fn p => rw [hc] at harg; exact absurd h (harg.1 j b)
    | «mut» x ys => rw [hc] at hao; cases hao
    | ptr pre post =>
      rw [hc] at harg
      obtain ⟨_, blk, c, e, h1, h2, h3, h4⟩ := harg
      obtain ⟨rfl, _⟩ := (h3 j b).1 h
      exact ⟨by omega, look_isSome (hin (pid N k 0, _) (by rw [hc]; exact List.mem_cons_self ..))⟩
    | mv x =>
      rw [hc] at harg hao
      obtain ⟨us, h1, h2, h3, h4, h5⟩ := harg
      have hj := h5 j b h
      have hle : x.2.length ≤ 64 := by
        simp only [adOk, Bool.and_eq_true, decide_eq_true_eq] at hao; exact hao.2
      refine ⟨by omega, ?_⟩
      have hx : x.2[j]? = some x.2[j] := List.getElem?_eq_getElem hj
      have hu : us[j]? = some (us[j]'(by omega)) := List.getElem?_eq_getElem (by omega)
      have ho := h4 j _ _ hx hu
      cases hxj : x.2[j] with
      | val v0 =>
        rw [hxj] at ho
        generalize us[j]'(by omega) = u0 at ho
        cases ho with
        | val v S hS => exact absurd h (hS b)
      | sl t xs => exact look_isSome (hin (pid N k j, .tree t xs 0) (by rw [hc]; exact mvObjs_mem.2 ⟨j, t, xs, by rw [hx, hxj], by rw [Nat.zero_add]⟩))
  refine ⟨rfl, ?_, ?_, Up.refl _, fun _ _ _ => rfl, ?_, ?_, ?_, ?_, ?_⟩
  · show (vs.toArray ++ Array.replicate (N - vs.toArray.size) undef).size = N
    simp [hlen]; omega
  · intro k hk
    have hk : k < as.length := Nat.lt_of_lt_of_le hk (loOf_le as)
    show (vs.toArray ++ Array.replicate (N - vs.toArray.size) undef).getD k undef = vs.getD k undef
    rw [Array.getD_eq_getD_getElem?, Array.getElem?_append_left (by simp [hlen]; exact hk), List.getD_eq_getElem?_getD]
    simp
  · rintro i hi b ⟨k, j, rfl, hj, h⟩
    have := (hS k j b h).2
    rw [show look (initO N 0 as) (pid N k j) = none from hi] at this
    cases this
  · rintro i b ⟨k, j, rfl, hj, h⟩
    exact ⟨(hSb k j b h).1, fun _ => ⟨k, j, h⟩⟩
  · rintro i i' b ⟨k, j, rfl, hj, h⟩ ⟨k', j', rfl, hj', h'⟩
    obtain ⟨rfl, rfl⟩ := hSd _ _ _ _ _ h h'
    rfl
  · intro i x hx
    obtain ⟨m, a, ha, hm⟩ := initO_mem (look_mem hx)
    simp only [Nat.zero_add] at hm
    obtain ⟨hv, hao⟩ := hget ha
    have harg := harg m a _ ha hv
    have hfp0 := ghost_fp (N := N) (k := m) (j := 0) (vs := vs) (S := S) (by omega)
    have hhv0 := ghost_hv (N := N) (k := m) (j := 0) (vs := vs) (S := S) (by omega)
    cases a with
    | v y => cases hm
    | fn p => cases hm
    | «mut» y ys => cases hm
    | ptr pre post =>
      simp only [adObjs, List.mem_singleton, Prod.mk.injEq] at hm
      obtain ⟨rfl, rfl⟩ := hm
      obtain ⟨_, blk, c, e, h1, h2, h3, h4⟩ := harg
      refine ⟨blk, c, e, by rw [hhv0, h1]; rfl, h2, fun b => (hfp0 b).trans ((h3 0 b).trans ⟨fun h => h.2, fun h => ⟨rfl, h⟩⟩), ?_⟩
      refine ⟨by rw [fixLVs_length]; exact h4.len, fun j l u hl hu => ?_⟩
      rw [fixLVs_at] at hl
      cases hp : pre[j]? with
      | none => rw [hp] at hl; cases hl
      | some y =>
        rw [hp] at hl
        simp only [Option.map_some, Option.some.injEq] at hl
        have hr := h4.at_ j y u hp hu
        have hpl := List.all_eq_true.1 hao y (List.mem_of_getElem? hp)
        subst hl
        cases y with
        | val v0 => cases hr; exact ⟨rfl, hpl⟩
        | sl t xs =>
          refine ⟨?_, hr.mono (fun _ _ => rfl) hokB⟩
          show u = lentOf w vs m (0 + j)
          unfold lentOf
          rw [h1]
          simp only
          rw [h2]
          simp only [Nat.zero_add]
          rw [Array.getD_eq_getD_getElem?, ← Array.getElem?_toList, hu]; rfl
    | rptr ls =>
      simp only [adObjs, List.mem_singleton, Prod.mk.injEq] at hm
      obtain ⟨rfl, rfl⟩ := hm
      obtain ⟨h0, blk, c, e, h1, h2, h3, h4⟩ := harg
      exact ⟨fun b hb => h0 0 b ((hfp0 b).1 hb), blk, c, e, by rw [hhv0, h1]; rfl, h2, hokB _ h3, ro_each hao h4 hokB⟩
    | mv y =>
      obtain ⟨j, t, xs, hj, hp⟩ := mvObjs_mem.1 hm
      simp only [Nat.zero_add, Prod.mk.injEq] at hp
      obtain ⟨rfl, rfl⟩ := hp
      obtain ⟨us, h1, h2, h3, h4, h5⟩ := harg
      have hjl := (List.getElem?_eq_some_iff.1 hj).1
      have hle : y.2.length ≤ 64 := by
        simp only [adOk, Bool.and_eq_true, decide_eq_true_eq] at hao; exact hao.2
      have hu : us[j]? = some (us[j]'(by omega)) := List.getElem?_eq_getElem (by omega)
      have ho := h4 j _ _ hj hu
      show Own w (.sl t xs) ((ghost N vs S).hv (pid N m j)) _
      rw [ghost_hv (by omega), h1, cellOf_mkv (fun e => by rw [h3]; exact h2 e) hu ho]
      exact ho.congr fun b => ghost_fp (by omega) b
  · intro n x hx
    obtain ⟨_, a, ha, rfl⟩ := initS_at hx
    simp only [Nat.sub_zero] at ha
    obtain ⟨hv, hao⟩ := hget ha
    have hn := (List.getElem?_eq_some_iff.1 ha).1
    have harg := harg n a _ ha hv
    refine ⟨Nat.lt_of_lt_of_le hn hN, ?_⟩
    have hval : (vs.toArray ++ Array.replicate (N - vs.toArray.size) undef).getD n undef = vs.getD n undef := by
      rw [Array.getD_eq_getD_getElem?, Array.getElem?_append_left (by simp [hlen]; exact hn), List.getD_eq_getElem?_getD]
      simp
    show RepSV P _ _ _ w (adSlot N n a) ((vs.toArray ++ Array.replicate (N - vs.toArray.size) undef).getD n undef)
    rw [hval]
    have hin : ∀ p, p ∈ adObjs N n a → p ∈ initO N 0 as := fun p hp => initO_has (k := 0) (m := n) ha (by simpa using hp)
    have hhv0 := ghost_hv (N := N) (k := n) (j := 0) (vs := vs) (S := S) (by omega)
    cases a with
    | v y =>
      obtain ⟨_, us, h1, h2, h3⟩ := harg
      exact ⟨us, h1, ro_each hao h2 hokB, fun e => by simpa using h3 e⟩
    | fn p => exact RepSV.mk1 harg.2
    | «mut» y ys => cases hao
    | ptr pre post =>
      obtain ⟨_, blk, c, e, h1, h2, h3, h4⟩ := harg
      refine RepSV.mk1 ⟨look_isSome (hin (pid N n 0, _) (List.mem_cons_self ..)), blk, by rw [hhv0, h1]; rfl, h1⟩
    | rptr ls =>
      obtain ⟨_, blk, c, e, h1, h2, h3, h4⟩ := harg
      refine RepSV.mk1 ⟨look_isSome (hin (pid N n 0, _) (List.mem_cons_self ..)), blk, by rw [hhv0, h1]; rfl, h1⟩
    | mv y =>
      obtain ⟨us, h1, h2, h3, h4, h5⟩ := harg
      have hle : y.2.length ≤ 64 ∧ y.2.all leafPlain = true := by
        simp only [adOk, Bool.and_eq_true, decide_eq_true_eq] at hao; exact ⟨hao.2, hao.1⟩
      refine ⟨us, h1, ⟨by rw [mvLVs_length]; exact h3, fun j l u hl hu => ?_⟩, fun e => by rw [mvLVs_length]; exact h2 e⟩
      rw [mvLVs_at] at hl
      cases hp : y.2[j]? with
      | none => rw [hp] at hl; cases hl
      | some z =>
        rw [hp] at hl
        simp only [Option.map_some, Option.some.injEq] at hl
        have hr := h4 j z u hp hu
        have hpl := List.all_eq_true.1 hle.2 z (List.mem_of_getElem? hp)
        have hjl := (List.getElem?_eq_some_iff.1 hp).1
        subst hl
        cases z with
        | val v0 => cases hr; exact ⟨rfl, hpl⟩
        | sl t xs =>
          refine ⟨look_isSome (hin (pid N n (0 + j), .tree t xs 0) (mvObjs_mem.2 ⟨j, t, xs, hp, rfl⟩)), ?_, ?_⟩
          · rw [Nat.zero_add, ghost_hv (by omega), h1, cellOf_mkv (fun e => by rw [h3]; exact h2 e) hu hr]
          · cases hr
            · exact ⟨_, _, _, rfl⟩
            · exact ⟨_, _, _, rfl⟩

end Go.Pi

/- A function's contract out of its run. -/
namespace Go.Pi
variable {P : Program} {T : Tab}

theorem postQ_ok {C : Ctx} {σ : St} {g : Gh} {w : World} {O : Nat → Option Obj} {k : Nat} : ∀ {ls : List LV} {j : Nat} {p : List Leaf} {us : List Value}, Ev σ (postQ k j ls) p → Each (RepLV P C O g w) ls us →
    p.length = ls.length ∧ ∀ (m : Nat) x, p[m]? = some x → ∀ v, us[m]? = some v → match x with | .val y => v = y | .sl _ _ => v = C.fx k (j + m)
  | [], j, p, us, e, _ => by
    rw [postQ, Ev_ret] at e
    subst e
    exact ⟨rfl, fun m x h => by cases h⟩
  | l :: ls, j, p, us, e, he => by
    obtain ⟨v0, us', rfl, h1, h2⟩ := he.cons
    cases l with
    | val y =>
      rw [postQ, Ev_bind] at e
      obtain ⟨q, e1, e⟩ := e
      rw [Ev_ret] at e
      subst e
      obtain ⟨i1, i2⟩ := postQ_ok e1 h2
      refine ⟨by simp [i1], fun m x hx v hv => ?_⟩
      match m with
      | 0 =>
        simp only [List.getElem?_cons_zero, Option.some.injEq] at hx hv
        subst hx; subst hv
        exact h1.1
      | m + 1 =>
        have := i2 m x (by simpa using hx) v (by simpa using hv)
        rw [show j + (m + 1) = j + 1 + m by omega]; exact this
    | fix k' j' t xs =>
      unfold postQ at e
      split at e
      · rename_i hy
        obtain ⟨hy1, hy2⟩ := hy
        subst hy1
        subst hy2
        rw [Ev_bind] at e
        obtain ⟨q, e1, e⟩ := e
        rw [Ev_ret] at e
        subst e
        obtain ⟨i1, i2⟩ := postQ_ok e1 h2
        refine ⟨by simp [i1], fun m x hx v hv => ?_⟩
        match m with
        | 0 =>
          simp only [List.getElem?_cons_zero, Option.some.injEq] at hx hv
          subst hx; subst hv
          exact h1.1
        | m + 1 =>
          have := i2 m x (by simpa using hx) v (by simpa using hv)
          rw [show j' + (m + 1) = j' + 1 + m by omega]; exact this
      · exact (Ev_fail.1 e).elim
    | _ => exact (Ev_fail.1 e).elim

theorem postsQ_ok {C : Ctx} {σ : St} {g : Gh} {a : Act} {w : World} (h : Rep P C σ g a w) {N : Nat} : ∀ {as : List AD} {k : Nat}, Ev σ (postsQ N k as) () → ∀ m pre post, as[m]? = some (.ptr pre post) →
    post.length = pre.length ∧ ∃ ob ls blk c e, σ.o ob = some (.box ls) ∧ a.tmps.getD (k + m) undef = .pointer (some ⟨blk, 0, none⟩) ∧ w.heap[blk]? = some (.cells c e (0, 0)) ∧ (∀ b, g.fp ob b ↔ b = blk) ∧
      c.size = post.length ∧ ∀ (j : Nat) x, post[j]? = some x → ∀ v, c[j]? = some v → match x with | .val y => v = y | .sl _ _ => v = C.fx (k + m) j
  | [], k, _, m, pre, post, hm => by cases hm
  | .ptr pre' post' :: as, k, e, m, pre, post, hm => by
    rw [postsQ, Ev_slot] at e
    obtain ⟨x, hx, e⟩ := e
    split at e
    · rename_i ob
      rw [Ev_obj] at e
      obtain ⟨y, hy, e⟩ := e
      split at e
      · rename_i ls
        rw [Ev_bind] at e
        obtain ⟨p, e1, e⟩ := e
        rw [Ev_ask] at e
        obtain ⟨⟨hp1, hp2⟩, e⟩ := e
        match m with
        | m + 1 =>
          have := postsQ_ok h e m pre post (by simpa using hm)
          rw [show k + (m + 1) = k + 1 + m by omega]; exact this
        | 0 =>
          simp only [List.getElem?_cons_zero, Option.some.injEq, AD.ptr.injEq] at hm
          obtain ⟨rfl, rfl⟩ := hm
          obtain ⟨us0, hv0, hv1, _⟩ := (h.slots _ _ hx).2
          obtain ⟨u0, rfl, hv2⟩ := hv1.one
          obtain ⟨hs, blk, hb, hx0⟩ := hv2
          obtain ⟨blk', c, el, hb', hheap, hfp, hea⟩ := h.objs _ _ hy
          rw [hb] at hb'; simp only [Value.pointer.injEq, Option.some.injEq, Addr.mk.injEq] at hb'
          obtain ⟨rfl, _⟩ := hb'
          obtain ⟨i1, i2⟩ := postQ_ok e1 hea
          refine ⟨hp2, ob, ls, blk, c, el, hy, by rw [Nat.add_zero, hv0, mkv_one, hx0], hheap, hfp, ?_, ?_⟩
          · rw [← hp1, i1, ← hea.len]; simp
          · intro j x hx v hv
            rw [← hp1] at hx
            have := i2 j x hx v (by simpa using hv)
            cases x <;> simpa using this
      · exact (Ev_fail.1 e).elim
    · exact (Ev_fail.1 e).elim
  | .v _ :: as, k, e, m, pre, post, hm => by
    match m with
    | 0 => simp at hm
    | m + 1 => have := postsQ_ok h (as := as) (k := k + 1) e m pre post (by simpa using hm); rw [show k + (m + 1) = k + 1 + m by omega]; exact this
  | .rptr _ :: as, k, e, m, pre, post, hm => by
    match m with
    | 0 => simp at hm
    | m + 1 => have := postsQ_ok h (as := as) (k := k + 1) e m pre post (by simpa using hm); rw [show k + (m + 1) = k + 1 + m by omega]; exact this
  | .mut _ _ :: as, k, e, m, pre, post, hm => by
    match m with
    | 0 => simp at hm
    | m + 1 => have := postsQ_ok h (as := as) (k := k + 1) e m pre post (by simpa using hm); rw [show k + (m + 1) = k + 1 + m by omega]; exact this
  | .mv _ :: as, k, e, m, pre, post, hm => by
    match m with
    | 0 => simp at hm
    | m + 1 => have := postsQ_ok h (as := as) (k := k + 1) e m pre post (by simpa using hm); rw [show k + (m + 1) = k + 1 + m by omega]; exact this
  | .fn _ :: as, k, e, m, pre, post, hm => by
    match m with
    | 0 => simp at hm
    | m + 1 => have := postsQ_ok h (as := as) (k := k + 1) e m pre post (by simpa using hm); rw [show k + (m + 1) = k + 1 + m by omega]; exact this

theorem split_parts : ∀ {vds : List VD} {xs : List Leaf} {us : List Value}, xs.length = (vds.flatMap (·.2)).length → parts (split vds xs) us = parts vds us ∧ (split vds xs).flatMap (·.2) = xs ∧
    ((∀ x ∈ vds, x.1 = false → x.2.length = 1) → ∀ x ∈ split vds xs, x.1 = false → x.2.length = 1)
  | [], xs, us, h => by
    have : xs = [] := by simpa using h
    subst this
    exact ⟨rfl, rfl, fun _ x hx => by cases hx⟩
  | vd :: vds, xs, us, h => by
    have hl : vd.2.length ≤ xs.length := by
      rw [h]; simp
    have ht : (xs.take vd.2.length).length = vd.2.length := by rw [List.length_take]; omega
    obtain ⟨i1, i2, i3⟩ := split_parts (vds := vds) (xs := xs.drop vd.2.length) (us := us.drop vd.2.length) (by rw [List.length_drop, h]; simp)
    refine ⟨?_, ?_, fun hh x hx => ?_⟩
    · rw [split, parts, parts]
      simp only [ht, i1]
    · rw [split, List.flatMap_cons, i2, List.take_append_drop]
    · rw [split] at hx
      rcases List.mem_cons.1 hx with rfl | hx
      · intro he
        simp only [ht]
        exact hh vd (List.mem_cons_self ..) he
      · exact i3 (fun y hy => hh y (List.mem_cons_of_mem _ hy)) x hx

/-- THE CONTRACT OUT OF A RUN. -/
theorem call_of_runs {f : FuncId} {fn : Func} {as : List AD} {rd : RD} {c : Code} {e0 : Exit} {σf : St} (hf : P.funcs[f]? = some fn) (hn : (fn.name == "runtime.NumGoroutine") = false) (hbody : fn.body = some c) (H : TabOk P T)
    (hok : as.all adOk = true) (hN : as.length ≤ fn.ntmps) (hr : Runs P (loOf as, fn.ntmps) c (St.of (initS fn.ntmps 0 as) (initO fn.ntmps 0 as)) e0 σf) (hdone : done e0 = true) (hev : Ev σf (finQ T fn.ntmps as fn.results.toList) rd) : PCall P f as rd := by
  refine ⟨⟨fn, hf, hn, by rw [hbody]; rfl⟩, ?_⟩
  intro w vs S hlen hSb hSd harg
  have hstart := start_ok (P := P) hN hok hlen hSb hSd harg
  have hruns := hr _ rfl _ _ _ hstart
  refine calls_of_wp hf hbody (wp_mono hruns ?_)
  rintro e' a' w' ⟨rfl, g', h'⟩
  unfold finQ at hev
  rw [Ev_bind] at hev
  obtain ⟨_, ev1, hev⟩ := hev
  rw [Ev_bind] at hev
  obtain ⟨vds, ev2, hev⟩ := hev
  rw [Ev_bind] at hev
  obtain ⟨⟨xs, os⟩, ev3, hev⟩ := hev
  rw [Ev_ret] at hev
  obtain ⟨us, r1, r2, r3⟩ := resQ_ok H h' ev2
  obtain ⟨q1, q2, q3, q4, q5, q6⟩ := given_ok h' ev3 r2
  have hposts := postsQ_ok h' ev1
  have hpar : ∀ k, k < loOf as → a'.tmps.getD k undef = vs.getD k undef := fun k hk => h'.par k hk
  have hvk : ∀ {k : Nat} {v : Value}, vs[k]? = some v → vs.getD k undef = v := by
    intro k v hv; simp [List.getD_eq_getElem?_getD, hv]
  -- what comes back belongs to the caller
  have hA : ∀ o b, (∃ t ys γ, σf.o o = some (.tree t ys γ)) → g'.fp o b → (w.heap.size ≤ b ∧ b < w'.heap.size) ∨ ∃ (k : Nat) (j : Nat) (a : AD), as[k]? = some a ∧ a.moves = true ∧ S k j b := by
    rintro o b ⟨t, ys, γ, ho⟩ hb
    obtain ⟨f1, f2⟩ := h'.fps o b hb
    rcases Nat.lt_or_ge b w.heap.size with hlt | hge
    · obtain ⟨k, j, hs⟩ := f2 hlt
      have hk := (hSb k j b hs).2
      have ha : as[k]? = some as[k] := List.getElem?_eq_getElem hk
      have hv : vs[k]? = some (vs[k]'(by omega)) := List.getElem?_eq_getElem (by omega)
      have hao := List.all_eq_true.1 hok as[k] (List.mem_of_getElem? ha)
      have har := harg k _ _ ha hv
      cases hc : as[k] with
      | v x => rw [hc] at har; exact absurd hs (har.1 j b)
      | rptr ls => rw [hc] at har; exact absurd hs (har.1 j b)
      | fn p => rw [hc] at har; exact absurd hs (har.1 j b)
      | «mut» x ys => rw [hc] at hao; cases hao
      | mv x => exact .inr ⟨k, j, .mv x, by rw [ha, hc], rfl, hs⟩
      | ptr pre post =>
        exfalso
        rw [hc] at har
        obtain ⟨_, blk, c0, e0, a1, a2, a3, a4⟩ := har
        obtain ⟨_, ob, ls', blk', c1, e1, b1, b2, b3, b4, _⟩ := hposts k pre post (by rw [ha, hc])
        rw [Nat.zero_add, hpar k (loOf_lt (by rw [ha, hc])), hvk hv, a1] at b2
        simp only [Value.pointer.injEq, Option.some.injEq, Addr.mk.injEq] at b2
        obtain ⟨rfl, _⟩ := b2
        have hbb := ((a3 j b).1 hs).2
        have := h'.dis o ob b hb ((b4 b).2 hbb)
        subst this
        rw [ho] at b1; cases b1
    · exact .inl ⟨hge, f1⟩
  have hmain : a'.defers = [] ∧ ∃ v, (results fn a'.tmps).run P w' = .ok v w' ∧ (∃ rv, Ending.returned v = .returned rv ∧ Up w w' ∧
      (∀ b, b < w.heap.size → ¬ (∃ k j, S k j b) → w'.heap[b]? = w.heap[b]?) ∧
      (∀ (k : Nat) a v, as[k]? = some a → vs[k]? = some v → ArgAfter w w' v (S k) a) ∧
      ResOk w w' as vs (fun b => (w.heap.size ≤ b ∧ b < w'.heap.size) ∨ ∃ (k : Nat) (j : Nat) (a : AD), as[k]? = some a ∧ a.moves = true ∧ S k j b) rv rd) := by
    refine ⟨h'.defers, _, results_run r1, _, rfl, h'.grown, h'.kept, ?_, ?_⟩
    · intro k a v ha hv
      have hk := (List.getElem?_eq_some_iff.1 ha).1
      have har := harg k _ _ ha hv
      have hao := List.all_eq_true.1 hok a (List.mem_of_getElem? ha)
      cases a with
      | ptr pre post =>
        intro blk c e hve hheap
        obtain ⟨hl, ob, ls', blk', c1, e1, b1, b2, b3, b4, b5, b6⟩ := hposts k pre post ha
        rw [Nat.zero_add, hpar k (loOf_lt ha), hvk hv, hve] at b2
        simp only [Value.pointer.injEq, Option.some.injEq, Addr.mk.injEq] at b2
        obtain ⟨rfl, _⟩ := b2
        obtain ⟨_, blk2, c2, e2, a1, a2, a3, a4⟩ := har
        rw [hve] at a1
        simp only [Value.pointer.injEq, Option.some.injEq, Addr.mk.injEq] at a1
        obtain ⟨rfl, _⟩ := a1
        rw [hheap] at a2
        simp only [Option.some.injEq, Obj.cells.injEq] at a2
        obtain ⟨rfl, rfl, _⟩ := a2
        have hcs : c.size = pre.length := by have := a4.len; simpa using this
        refine ⟨c1, e1, b3, by omega, fun j u hj => ?_, fun j t xs hj => ?_⟩
        · have hjl := (List.getElem?_eq_some_iff.1 hj).1
          have hc1 : c1[j]? = some (c1[j]'(by omega)) := Array.getElem?_eq_getElem (by omega)
          have := b6 j _ hj _ hc1
          rw [hc1]; exact congrArg some this
        · have hjl := (List.getElem?_eq_some_iff.1 hj).1
          have hc1 : c1[j]? = some (c1[j]'(by omega)) := Array.getElem?_eq_getElem (by omega)
          have hc0 : c[j]? = some (c[j]'(by omega)) := Array.getElem?_eq_getElem (by omega)
          have := b6 j _ hj _ hc1
          rw [hc1]
          simp only at this
          rw [this, Nat.zero_add]
          unfold lentOf
          rw [hvk hv, hve]
          simp only
          rw [hheap]
          simp only
          rw [Array.getD_eq_getD_getElem?, hc0]; rfl
      | «mut» x ys => cases hao
      | v x => trivial
      | rptr x => trivial
      | mv x => trivial
      | fn x => trivial
    · have hown : Owns w' xs us (fun j b => ∃ l, (vds.flatMap (·.2))[j]? = some l ∧ fpLV g' l b) (fun b => (w.heap.size ≤ b ∧ b < w'.heap.size) ∨ ∃ (k : Nat) (j : Nat) (a : AD), as[k]? = some a ∧ a.moves = true ∧ S k j b) := by
        refine ⟨by rw [r2.len, q1], fun j x u hx hu => ?_, fun j b ⟨l, hl, o, hlo, hb⟩ => ?_, fun i j b ⟨l, hl, o, hlo, hb⟩ ⟨l', hl', o', hlo', hb'⟩ => ?_⟩
        · have hj : j < (vds.flatMap (·.2)).length := by rw [← q1]; exact (List.getElem?_eq_some_iff.1 hx).1
          have hl : (vds.flatMap (·.2))[j]? = some ((vds.flatMap (·.2))[j]) := List.getElem?_eq_getElem hj
          refine (q5 j _ x u hl hx hu).congr fun b => ⟨fun ⟨l, hl', hb⟩ => ?_, fun hb => ⟨_, hl, hb⟩⟩
          rw [hl] at hl'
          rw [Option.some.inj hl']; exact hb
        · subst hlo
          exact hA o b (q4 o ((q3 o).2 (List.mem_of_getElem? hl))) hb
        · subst hlo; subst hlo'
          have := h'.dis o o' b hb hb'
          subst this
          exact q6 i j o hl hl'
      rw [← hev]
      match vds, r1, r2, r3, q1, hown with
      | [vd], r1, r2, r3, q1, hown =>
        refine ⟨us, _, ?_, hown, fun e => ?_⟩
        · have : us.length = vd.2.length := by rw [r2.len]; simp
          show mkv vd.1 (us.take vd.2.length) = mkv vd.1 us
          rw [List.take_of_length_le (by omega)]
        · have := r3 vd (List.mem_cons_self ..) e
          show xs.length = 1
          rw [q1]; simpa using this
      | [], r1, r2, r3, q1, hown =>
        obtain ⟨s1, s2, s3⟩ := split_parts (vds := []) (us := us) q1
        exact ⟨us, _, by rw [s1]; rfl, by rw [s2]; exact hown, s3 r3⟩
      | v1 :: v2 :: vds, r1, r2, r3, q1, hown =>
        obtain ⟨s1, s2, s3⟩ := split_parts (vds := v1 :: v2 :: vds) (us := us) q1
        exact ⟨us, _, by rw [s1]; rfl, by rw [s2]; exact hown, s3 r3⟩
  revert hdone
  cases e' <;> intro hdone <;> first | exact hmain | cases hdone

end Go.Pi

/- The table of types, from a list; its law by one look of the kernel. -/
namespace Go.Pi

structure TEntry where
  ty : Ty
  bytes : Nat
  elem : Option TypeId := none
  off : List (Nat × Nat) := []

def Tab.ofList (l : List (Nat × TEntry)) : Tab where
  ty t := match look l t with
    | some e => some e.ty
    | none => none
  foff t j := match look l t with
    | some e => e.off[j]?
    | none => none
  bytes t := match look l t with
    | some e => e.bytes
    | none => 0
  elem t := match look l t with
    | some e => e.elem
    | none => none

inductive Sh where
  | int (k : IntKind) | bool | str | sl (e : TypeId) | st (off : List (Nat × Nat)) | other

def shapeOf (P : Program) : TypeDesc → Sh
  | .int k => .int k
  | .bool => .bool
  | .string => .str
  | .slice e => .sl e
  | .struct fs => .st (fs.toList.map fun f => (f.offset, match P.info? f.type with | some i => i.size | none => 0))
  | _ => .other

def factsAt (P : Program) (t : TypeId) : Option (Nat × Option Value × Nat × Sh) :=
  match P.info? t, P.underlying t with
  | some i, some u => some (i.size, i.zero, i.bytes, shapeOf P u)
  | _, _ => none

def TEntry.facts (e : TEntry) : Option (Nat × Option Value × Nat × Sh) :=
  some (width e.ty, some (zeroVal e.ty), e.bytes, match e.ty with
    | .int k => .int k
    | .bool => .bool
    | .str => .str
    | .sl _ => .sl (e.elem.getD 0)
    | .st _ => .st e.off)

def TEntry.fine (l : List (Nat × TEntry)) (e : TEntry) : Bool :=
  (match e.ty with
    | .sl te => match e.elem with
      | some el => match look l el with
        | some e' => decide (e'.ty = te) && decide (0 < e'.bytes)
        | none => false
      | none => false
    | _ => e.elem.isNone) && (match e.ty with | .st _ => e.off.all fun p => decide (p.2 ≠ 0) | _ => e.off.isEmpty)

theorem tabOk_of {P : Program} {l : List (Nat × TEntry)} (hm : P.follows .mixedOrders = true) (h1 : l.map (fun p => factsAt P p.1) = l.map (fun p => p.2.facts)) (h2 : l.all (fun p => p.2.fine l) = true) :
    TabOk P (Tab.ofList l) ∧ ∀ t e, (Tab.ofList l).elem t = some e → 0 < (Tab.ofList l).bytes e := by
  have hat : ∀ {t : Nat} {e : TEntry}, look l t = some e → factsAt P t = e.facts ∧ e.fine l = true := by
    intro t e h
    have hm := look_mem h
    obtain ⟨j, hj⟩ := List.mem_iff_getElem?.1 hm
    have a := congrArg (·[j]?) h1
    simp only [List.getElem?_map, hj, Option.map_some, Option.some.injEq] at a
    exact ⟨a, List.all_eq_true.1 h2 _ hm⟩
  have hf : ∀ {t : Nat} {e : TEntry}, look l t = some e → ∃ i u, P.info? t = some i ∧ P.underlying t = some u ∧ i.size = width e.ty ∧ i.zero = some (zeroVal e.ty) ∧ i.bytes = e.bytes ∧
      shapeOf P u = (match e.ty with | .int k => .int k | .bool => .bool | .str => .str | .sl _ => .sl (e.elem.getD 0) | .st _ => .st e.off) := by
    intro t e h
    have a := (hat h).1
    unfold factsAt TEntry.facts at a
    split at a
    · rename_i i u hi hu
      simp only [Option.some.injEq, Prod.mk.injEq] at a
      exact ⟨i, u, hi, hu, a.1, a.2.1, a.2.2.1, a.2.2.2⟩
    · cases a
  have hty : ∀ {t : Nat} {ty : Ty}, (Tab.ofList l).ty t = some ty → ∃ e, look l t = some e ∧ e.ty = ty := by
    intro t ty h
    simp only [Tab.ofList] at h
    split at h
    · rename_i e he; exact ⟨e, he, Option.some.inj h⟩
    · cases h
  have hel : ∀ {t el : Nat}, (Tab.ofList l).elem t = some el → ∃ e te e', look l t = some e ∧ e.ty = .sl te ∧ e.elem = some el ∧ look l el = some e' ∧ e'.ty = te ∧ 0 < e'.bytes := by
    intro t el h
    simp only [Tab.ofList] at h
    split at h
    · rename_i e he
      have hfi := (hat he).2
      unfold TEntry.fine at hfi
      rw [Bool.and_eq_true] at hfi
      have h0 := hfi.1
      split at h0
      · rename_i te hte
        rw [h] at h0
        simp only at h0
        split at h0
        · rename_i e' he'
          simp only [Bool.and_eq_true, decide_eq_true_eq] at h0
          exact ⟨e, te, e', he, hte, h, he', h0.1, h0.2⟩
        · cases h0
      · rw [h] at h0; cases h0
    · cases h
  refine ⟨⟨hm, ?_, ?_, ?_, ?_, ?_, ?_, ?_, ?_⟩, ?_⟩
  · intro t ty h
    obtain ⟨e, he, rfl⟩ := hty h
    obtain ⟨i, u, a1, a2, a3, a4, a5, a6⟩ := hf he
    refine ⟨i, a1, a3, a4, ?_⟩
    simp only [Tab.ofList, he]; exact a5
  · intro t k h
    obtain ⟨e, he, hk⟩ := hty h
    obtain ⟨i, u, a1, a2, a3, a4, a5, a6⟩ := hf he
    rw [hk] at a6
    rw [a2]
    cases u <;> simp [shapeOf] at a6
    rw [a6]
  · intro t h
    obtain ⟨e, he, hk⟩ := hty h
    obtain ⟨i, u, a1, a2, a3, a4, a5, a6⟩ := hf he
    rw [hk] at a6
    rw [a2]
    cases u <;> simp [shapeOf] at a6
    rfl
  · intro t h
    obtain ⟨e, he, hk⟩ := hty h
    obtain ⟨i, u, a1, a2, a3, a4, a5, a6⟩ := hf he
    rw [hk] at a6
    rw [a2]
    cases u <;> simp [shapeOf] at a6
    rfl
  · intro t te h
    obtain ⟨e, he, hk⟩ := hty h
    obtain ⟨i, u, a1, a2, a3, a4, a5, a6⟩ := hf he
    have hfi := (hat he).2
    unfold TEntry.fine at hfi
    rw [Bool.and_eq_true] at hfi
    have h0 := hfi.1
    rw [hk] at h0 a6
    simp only at h0 a6
    split at h0
    · rename_i el hel
      split at h0
      · rename_i e' he'
        simp only [Bool.and_eq_true, decide_eq_true_eq] at h0
        rw [hel] at a6
        rw [a2]
        cases u <;> simp [shapeOf] at a6
        subst a6
        exact ⟨_, rfl, by simp only [Tab.ofList, he]; exact hel, by simp only [Tab.ofList, he', h0.1]⟩
      · cases h0
    · cases h0
  · intro t n h
    obtain ⟨e, he, hk⟩ := hty h
    obtain ⟨i, u, a1, a2, a3, a4, a5, a6⟩ := hf he
    have hfi := (hat he).2
    unfold TEntry.fine at hfi
    rw [Bool.and_eq_true] at hfi
    have h0 := hfi.2
    rw [hk] at h0 a6
    simp only at h0 a6
    rw [a2]
    cases u <;> simp [shapeOf] at a6
    rename_i fs
    refine ⟨fs, rfl, fun f hf => ?_⟩
    have := List.all_eq_true.1 h0 (f.offset, match P.info? f.type with | some i => i.size | none => 0) (by rw [← a6]; exact List.mem_map.2 ⟨f, Array.mem_def.1 hf, rfl⟩)
    simp only [decide_eq_true_eq] at this
    cases hi : P.info? f.type with
    | none => rw [hi] at this; exact absurd rfl this
    | some i => rfl
  · intro t j k n h
    have : ∃ e, look l t = some e ∧ e.off[j]? = some (k, n) := by
      simp only [Tab.ofList] at h
      split at h
      · rename_i e he; exact ⟨e, he, h⟩
      · cases h
    obtain ⟨e, he, hk⟩ := this
    obtain ⟨i, u, a1, a2, a3, a4, a5, a6⟩ := hf he
    have hfi := (hat he).2
    unfold TEntry.fine at hfi
    rw [Bool.and_eq_true] at hfi
    have h0 := hfi.2
    split at h0
    · rename_i n' hn'
      rw [hn'] at a6
      simp only at a6
      cases u <;> simp [shapeOf] at a6
      rename_i fs
      have hj := hk
      rw [← a6, List.getElem?_map] at hj
      cases hfj : fs.toList[j]? with
      | none => rw [hfj] at hj; cases hj
      | some f =>
        rw [hfj] at hj
        simp only [Option.map_some, Option.some.injEq, Prod.mk.injEq] at hj
        have hne := List.all_eq_true.1 h0 (k, n) (List.mem_of_getElem? hk)
        simp only [decide_eq_true_eq] at hne
        cases hi : P.info? f.type with
        | none => rw [hi] at hj; exact absurd hj.2.symm hne
        | some i' =>
          rw [hi] at hj
          exact ⟨fs, f, i', a2, by rw [← Array.getElem?_toList]; exact hfj, hj.1, hi, hj.2, hne⟩
    · rw [List.isEmpty_iff] at h0
      rw [h0] at hk; cases hk
  · intro t el h
    obtain ⟨e, te, e', he, hk, hel', he', _, _⟩ := hel h
    obtain ⟨i, u, a1, a2, a3, a4, a5, a6⟩ := hf he
    rw [hk, hel'] at a6
    rw [a2]
    cases u <;> simp [shapeOf] at a6
    rw [a6]
  · intro t el h
    obtain ⟨e, te, e', he, hk, hel', he', _, hb⟩ := hel h
    simp only [Tab.ofList, he']; exact hb

end Go.Pi

/- The run as a function of its decisions ('ex..'): straight code; calls and loops go by their own functions. -/
namespace Go.Pi
noncomputable section

def pb (p : Prop) : Bool := @decide p (Classical.propDecidable p)
def need {α : Type} (p : Prop) (x : Option α) : Option α := @Bool.rec (fun _ => Option α) none x (pb p)
def fork {α : Type} (b : Bool) (x y : Option α) : Option α := @Bool.rec (fun _ => Option α) y x b
def bnd {α β : Type} (m : Option α) (k : α → Option β) : Option β := @Option.rec α (fun _ => Option β) none k m

theorem need_some {α : Type} {p : Prop} {x : Option α} {r : α} (h : need p x = some r) : p ∧ x = some r := by
  by_cases hp : p
  · have : pb p = true := by simp [pb, hp]
    unfold need at h; rw [this] at h; exact ⟨hp, h⟩
  · have : pb p = false := by simp [pb, hp]
    unfold need at h; rw [this] at h; cases h
theorem fork_some {α : Type} {b : Bool} {x y : Option α} {r : α} (h : fork b x y = some r) : (b = true ∧ x = some r) ∨ (b = false ∧ y = some r) := by
  cases b
  · exact .inr ⟨rfl, h⟩
  · exact .inl ⟨rfl, h⟩
theorem bnd_some {α β : Type} {m : Option α} {k : α → Option β} {r : β} (h : bnd m k = some r) : ∃ v, m = some v ∧ k v = some r := by
  cases m with
  | none => cases h
  | some v => exact ⟨v, rfl, h⟩

/-- A question's answer; what it asks for is looked at. -/
def exQ {α R : Type} : Q α → St → (α → List Key → Option R) → Option R
  | .ret a, _, k => k a []
  | .slot n q, σ, k => match σ.s n with
    | some x => exQ (q x) σ fun a rs => k a (.s n :: rs)
    | none => none
  | .obj n q, σ, k => match σ.o n with
    | some x => exQ (q x) σ fun a rs => k a (.o n :: rs)
    | none => none
  | .free n q, σ, k => match σ.o n with
    | none => exQ q σ fun a rs => k a (.o n :: rs)
    | some _ => none
  | .ask p q, σ, k => need p (exQ q σ k)
  | .fail, _, _ => none

theorem exQ_ok {α R : Type} {σ : St} : ∀ {q : Q α} {k : α → List Key → Option R} {r : R}, exQ q σ k = some r → ∃ gt, q.run σ = some gt ∧ (∀ p ∈ gt.ps, p) ∧ k gt.a gt.rs = some r
  | .ret a, k, r, h => ⟨⟨a, [], []⟩, rfl, (fun p hp => by cases hp), h⟩
  | .slot n q, k, r, h => by
    unfold exQ at h
    split at h
    · rename_i x hx
      obtain ⟨gt, h1, h2, h3⟩ := exQ_ok h
      exact ⟨⟨gt.a, gt.ps, .s n :: gt.rs⟩, by simp [Q.run, hx, h1], h2, h3⟩
    · cases h
  | .obj n q, k, r, h => by
    unfold exQ at h
    split at h
    · rename_i x hx
      obtain ⟨gt, h1, h2, h3⟩ := exQ_ok h
      exact ⟨⟨gt.a, gt.ps, .o n :: gt.rs⟩, by simp [Q.run, hx, h1], h2, h3⟩
    · cases h
  | .free n q, k, r, h => by
    unfold exQ at h
    split at h
    · rename_i hx
      obtain ⟨gt, h1, h2, h3⟩ := exQ_ok h
      exact ⟨⟨gt.a, gt.ps, .o n :: gt.rs⟩, by simp [Q.run, hx, h1], h2, h3⟩
    · cases h
  | .ask p q, k, r, h => by
    unfold exQ at h
    obtain ⟨hp, h⟩ := need_some h
    obtain ⟨gt, h1, h2, h3⟩ := exQ_ok h
    refine ⟨⟨gt.a, p :: gt.ps, gt.rs⟩, by simp [Q.run, h1], fun q hq => ?_, h3⟩
    rcases List.mem_cons.1 hq with rfl | hq
    · exact hp
    · exact h2 q hq
  | .fail, k, r, h => by cases h

theorem run_bind {α β : Type} {σ : St} : ∀ {q : Q α} {f : α → Q β} {gt : Got β}, (q.bind f).run σ = some gt → ∃ g1 g2, q.run σ = some g1 ∧ (f g1.a).run σ = some g2 ∧ gt = ⟨g2.a, g1.ps ++ g2.ps, g1.rs ++ g2.rs⟩
  | .ret a, f, gt, h => ⟨⟨a, [], []⟩, gt, rfl, h, rfl⟩
  | .slot n q, f, gt, h => by
    unfold Q.bind at h
    unfold Q.run at h
    split at h
    · rename_i x hx
      split at h
      · rename_i g' hg
        obtain ⟨g1, g2, h1, h2, h3⟩ := run_bind hg
        simp only [Option.some.injEq] at h
        subst h; subst h3
        exact ⟨⟨g1.a, g1.ps, .s n :: g1.rs⟩, g2, by simp [Q.run, hx, h1], h2, rfl⟩
      · cases h
    · cases h
  | .obj n q, f, gt, h => by
    unfold Q.bind at h
    unfold Q.run at h
    split at h
    · rename_i x hx
      split at h
      · rename_i g' hg
        obtain ⟨g1, g2, h1, h2, h3⟩ := run_bind hg
        simp only [Option.some.injEq] at h
        subst h; subst h3
        exact ⟨⟨g1.a, g1.ps, .o n :: g1.rs⟩, g2, by simp [Q.run, hx, h1], h2, rfl⟩
      · cases h
    · cases h
  | .free n q, f, gt, h => by
    unfold Q.bind at h
    unfold Q.run at h
    split at h
    · rename_i hx
      split at h
      · rename_i g' hg
        obtain ⟨g1, g2, h1, h2, h3⟩ := run_bind hg
        simp only [Option.some.injEq] at h
        subst h; subst h3
        exact ⟨⟨g1.a, g1.ps, .o n :: g1.rs⟩, g2, by simp [Q.run, hx, h1], h2, rfl⟩
      · cases h
    · cases h
  | .ask p q, f, gt, h => by
    unfold Q.bind at h
    unfold Q.run at h
    split at h
    · rename_i g' hg
      obtain ⟨g1, g2, h1, h2, h3⟩ := run_bind hg
      simp only [Option.some.injEq] at h
      subst h; subst h3
      exact ⟨⟨g1.a, p :: g1.ps, g1.rs⟩, g2, by simp [Q.run, h1], h2, rfl⟩
    · cases h
  | .fail, f, gt, h => by simp [Q.bind, Q.run] at h

/-- An answer for which nothing is asked. -/
def val {α : Type} (q : Q α) (σ : St) : Option α := match q.run σ with
  | some g => match g.ps with
    | [] => some g.a
    | _ => none
  | none => none
theorem val_run {α : Type} {q : Q α} {σ : St} {a : α} (h : val q σ = some a) : ∃ rs, q.run σ = some ⟨a, [], rs⟩ := by
  unfold val at h
  split at h
  · rename_i gt hg
    split at h
    · rename_i hps
      simp only [Option.some.injEq] at h
      subst h
      exact ⟨gt.rs, by rw [hg]; cases gt; simp_all⟩
    · cases h
  · cases h
theorem val_ev {α : Type} {q : Q α} {σ : St} {a : α} (h : val q σ = some a) : Ev σ q a := by
  obtain ⟨rs, h⟩ := val_run h
  exact ⟨[], rs, h, fun p hp => by cases hp⟩
theorem Ev_det {α : Type} {q : Q α} {σ : St} {a b : α} (h : Ev σ q a) (h' : Ev σ q b) : a = b := by
  obtain ⟨_, _, h1, _⟩ := h
  obtain ⟨_, _, h2, _⟩ := h'
  rw [h1] at h2
  simp only [Option.some.injEq, Got.mk.injEq] at h2
  exact h2.1

/-- What is known of slots that hold decisions. -/
abbrev Kn := List (Nat × Option Bool)
def lit (v : Bool) : SV := .v (false, [.val (.bool v)])
def KnOk (kn : Kn) (σ : St) : Prop := ∀ t v, look kn t = some (some v) → σ.s t = some (lit v)

def kval (kn : Kn) : Operand → Option Bool
  | .const (.bool b) => some b
  | .tmp t => match look kn t with
    | some v => v
    | none => none
  | _ => none
def knOf (kn : Kn) (o : Oper) (pk : Bool) : Option Bool :=
  match o.op with
  | .move x => kval kn x
  | .assign x => kval kn x
  | .pick _ x y => match pk with
    | true => kval kn x
    | false => kval kn y
  | _ => none
def knPut (kn : Kn) (d : Option Tmp) (v : Option Bool) : Kn := match d with
  | some d => (d, v) :: kn
  | none => kn

/-- Only the operation's own slot is written. -/
def slotsOnly (d : Option Tmp) : List Wr → Bool
  | [] => true
  | .o _ _ :: ws => slotsOnly d ws
  | .s n _ :: ws => match d with
    | some d => match Nat.beq n d with
      | true => slotsOnly (some d) ws
      | false => false
    | none => false

theorem slotsOnly_ok {d : Option Tmp} : ∀ {ws : List Wr} {σ : St}, slotsOnly d ws = true → ∀ n, d ≠ some n → (σ.puts ws).s n = σ.s n
  | [], σ, _, n, _ => rfl
  | .o i x :: ws, σ, h, n, hn => by
    unfold slotsOnly at h
    rw [St.puts, slotsOnly_ok h n hn]; rfl
  | .s m x :: ws, σ, h, n, hn => by
    unfold slotsOnly at h
    split at h
    · rename_i d'
      split at h
      · rename_i he
        rw [St.puts, slotsOnly_ok h n hn]
        have := Nat.eq_of_beq_eq_true he
        subst this
        simp only [St.put]
        rw [if_neg (fun e => hn (by rw [e]))]
      · cases h
    · cases h

/-- How a callee takes its arguments. -/
inductive Md where
  | v | ptr | mv | fn

/-- How arguments come to be handed over: before, how, behind. -/
inductive Hw : List AD → List How → List AD → Prop
  | nil : Hw [] [] []
  | v {x : Cn} {as hs bs} (h : Hw as hs bs) : Hw (.v x :: as) (.ro :: hs) (.v x :: bs)
  | ptr {pre q post : List Leaf} {as hs bs} (h : Hw as hs bs) : Hw (.ptr pre q :: as) (.ptr post :: hs) (.ptr pre post :: bs)
  | mv {x : Cn} {as hs bs} (h : Hw as hs bs) : Hw (.mv x :: as) (.mv :: hs) (.mv x :: bs)
  | fn {p : FnP} {as hs bs} (h : Hw as hs bs) : Hw (.fn p :: as) (.fn p :: hs) (.fn p :: bs)

/-- A callee by its function. -/
structure Entry (P : Program) : Type 1 where
  k : FuncId
  ms : List Md
  call : {R : Type} → List AD → (List How → RD → Option R) → Option R
  ok : ∀ {R : Type} {pre : List AD} {κ : List How → RD → Option R} {r : R}, call pre κ = some r → ∃ hs rd bs, κ hs rd = some r ∧ Hw pre hs bs ∧ PCall P k bs rd

/-- A closure's function. -/
structure CloE (P : Program) where
  k : FuncId
  f : List (List Leaf) → Option FnP
  ok : ∀ {caps : List (List Leaf)} {p : FnP}, f caps = some p → CloOk P k caps p

def findE {P : Program} : List (Entry P) → FuncId → Option (Entry P)
  | [], _ => none
  | e :: es, f => match Nat.beq e.k f with
    | true => some e
    | false => findE es f
def findC {P : Program} : List (CloE P) → FuncId → Option (CloE P)
  | [], _ => none
  | e :: es, f => match Nat.beq e.k f with
    | true => some e
    | false => findC es f
theorem findE_ok {P : Program} : ∀ {es : List (Entry P)} {f : FuncId} {e : Entry P}, findE es f = some e → e.k = f
  | [], _, _, h => by cases h
  | e :: es, f, e', h => by
    unfold findE at h
    split at h
    · rename_i he
      simp only [Option.some.injEq] at h
      subst h
      exact Nat.eq_of_beq_eq_true he
    · exact findE_ok h
theorem findC_ok {P : Program} : ∀ {es : List (CloE P)} {f : FuncId} {e : CloE P}, findC es f = some e → e.k = f
  | [], _, _, h => by cases h
  | e :: es, f, e', h => by
    unfold findC at h
    split at h
    · rename_i he
      simp only [Option.some.injEq] at h
      subst h
      exact Nat.eq_of_beq_eq_true he
    · exact findC_ok h

section
variable {P : Program}

def preArg (cs : List (CloE P)) : Md → SV → Q AD
  | .v, .v (ag, ls) => (conts ls).bind fun xs => .ret (.v (ag, xs))
  | .ptr, .v (false, [.bp o 0]) => .obj o fun
    | .box ls => (conts ls).bind fun pre => .ret (.ptr pre pre)
    | _ => .fail
  | .mv, .v (ag, ls) => (given ls).bind fun (xs, _) => .ret (.mv (ag, xs))
  | .fn, .v (false, [.fn p]) => .ret (.fn p)
  | .fn, .v (false, [.clo f caps]) => (boxConts caps).bind fun xss => match findC cs f with
    | some e => match e.f xss with
      | some p => .ret (.fn p)
      | none => .fail
    | none => .fail
  | _, _ => .fail

def preArgs (cs : List (CloE P)) : List Md → List SV → Q (List AD)
  | [], [] => .ret []
  | m :: ms, x :: xs => (preArg cs m x).bind fun a => (preArgs cs ms xs).bind fun as => .ret (a :: as)
  | _, _ => .fail

/-- A question that asks for nothing. -/
def _root_.Go.Pi.Q.na {α : Type} : Q α → Prop
  | .ret _ => True
  | .slot _ k => ∀ x, (k x).na
  | .obj _ k => ∀ x, (k x).na
  | .free _ k => k.na
  | .ask _ _ => False
  | .fail => True

theorem na_bind {α β : Type} : ∀ {q : Q α} {f : α → Q β}, q.na → (∀ a, (f a).na) → (q.bind f).na
  | .ret a, f, _, hf => hf a
  | .slot n k, f, h, hf => fun x => na_bind (h x) hf
  | .obj n k, f, h, hf => fun x => na_bind (h x) hf
  | .free n k, f, h, hf => na_bind (q := k) h hf
  | .ask p k, f, h, _ => h.elim
  | .fail, _, _, _ => trivial

theorem na_run {α : Type} {σ : St} : ∀ {q : Q α} {gt : Got α}, q.na → q.run σ = some gt → gt.ps = []
  | .ret a, gt, _, h => by simp only [Q.run, Option.some.injEq] at h; subst h; rfl
  | .slot n k, gt, hn, h => by
    unfold Q.run at h
    split at h
    · split at h
      · rename_i g' hg
        simp only [Option.some.injEq] at h; subst h
        have := na_run (hn _) hg
        exact this
      · cases h
    · cases h
  | .obj n k, gt, hn, h => by
    unfold Q.run at h
    split at h
    · split at h
      · rename_i g' hg
        simp only [Option.some.injEq] at h; subst h
        have := na_run (hn _) hg
        exact this
      · cases h
    · cases h
  | .free n k, gt, hn, h => by
    unfold Q.run at h
    split at h
    · split at h
      · rename_i g' hg
        simp only [Option.some.injEq] at h; subst h
        have := na_run (q := k) hn hg
        exact this
      · cases h
    · cases h
  | .ask p k, gt, hn, _ => hn.elim
  | .fail, gt, _, h => by cases h

theorem na_ev {α : Type} {σ : St} {q : Q α} {gt : Got α} (hn : q.na) (h : q.run σ = some gt) : Ev σ q gt.a := by
  have := na_run hn h
  exact ⟨gt.ps, gt.rs, h, by rw [this]; intro p hp; cases hp⟩

theorem cont_na (l : LV) : (cont l).na := by
  unfold cont
  split
  all_goals first
    | exact trivial
    | (intro x; dsimp only; split <;> first | exact trivial | (split <;> first | exact trivial | (split <;> exact trivial)))
theorem conts_na : ∀ ls : List LV, (conts ls).na
  | [] => trivial
  | l :: ls => na_bind (cont_na l) fun _ => na_bind (conts_na ls) fun _ => trivial
theorem given_na : ∀ ls : List LV, (given ls).na
  | [] => trivial
  | l :: ls => by
    cases l with
    | val v => exact na_bind (given_na ls) fun _ => trivial
    | nil t => exact na_bind (given_na ls) fun _ => trivial
    | tr o =>
      intro x
      dsimp only
      split
      · refine na_bind (given_na ls) fun a => ?_
        obtain ⟨xs, os⟩ := a
        show Q.na (if _ then _ else _)
        split <;> exact trivial
      · exact trivial
    | _ => exact trivial
theorem boxConts_na : ∀ ls : List Nat, (boxConts ls).na
  | [] => trivial
  | l :: ls => by
    unfold boxConts
    intro x
    dsimp only
    split <;> first | exact trivial | exact na_bind (conts_na _) fun _ => na_bind (boxConts_na ls) fun _ => trivial
theorem boxObjs_na : ∀ ls : List Nat, (boxObjs ls).na
  | [] => trivial
  | l :: ls => by
    unfold boxObjs
    intro x
    dsimp only
    split <;> first | exact trivial | exact na_bind (boxObjs_na ls) fun _ => trivial

/-- What the step makes of an argument is what was told of it. -/
theorem arg_hw {σ : St} {cs : List (CloE P)} {m : Md} {x : SV} {a b : AD} {h : How} (e : Ev σ (preArg cs m x) a) (hw : Hw [a] [h] [b]) {gt : Got (AD × List Wr × List Nat)} (hr : (arg P h x).run σ = some gt) :
    gt.a.1 = b ∧ ∀ p ∈ gt.ps, p := by
  have key : ∀ {q : Q (AD × List Wr × List Nat)}, (arg P h x) = q → q.na → (∀ y, Ev σ q y → y.1 = b) → gt.a.1 = b ∧ ∀ p ∈ gt.ps, p := by
    intro q hq hn hy
    rw [hq] at hr
    exact ⟨hy _ (na_ev hn hr), by rw [na_run hn hr]; intro p hp; cases hp⟩
  unfold preArg at e
  split at e
  · rename_i ag ls
    rw [Ev_bind] at e
    obtain ⟨xs, e1, e⟩ := e
    rw [Ev_ret] at e; subst e
    cases hw with
    | v _ =>
      refine key rfl (na_bind (conts_na _) fun _ => trivial) fun y hy => ?_
      rw [arg, Ev_bind] at hy
      obtain ⟨xs', h1, hy⟩ := hy
      rw [Ev_ret] at hy; subst hy
      rw [Ev_det h1 e1]
  · rename_i o
    rw [Ev_obj] at e
    obtain ⟨y, hy, e⟩ := e
    split at e
    · rename_i ls
      rw [Ev_bind] at e
      obtain ⟨pre, e1, e⟩ := e
      rw [Ev_ret] at e; subst e
      cases hw with
      | ptr _ =>
        refine key rfl (fun z => ?_) fun y' hy' => ?_
        · dsimp only
          split
          · exact na_bind (conts_na _) fun _ => by split <;> exact trivial
          · exact trivial
        · rw [arg, Ev_obj] at hy'
          obtain ⟨z, hz, hy'⟩ := hy'
          rw [hy] at hz
          simp only [Option.some.injEq] at hz
          subst hz
          simp only at hy'
          rw [Ev_bind] at hy'
          obtain ⟨pre', h1, hy'⟩ := hy'
          split at hy'
          · rw [Ev_ret] at hy'; subst hy'
            rw [Ev_det h1 e1]
          · exact (Ev_fail.1 hy').elim
    · exact (Ev_fail.1 e).elim
  · rename_i ag ls
    rw [Ev_bind] at e
    obtain ⟨⟨xs, os⟩, e1, e⟩ := e
    rw [Ev_ret] at e; subst e
    cases hw with
    | mv _ =>
      refine key rfl (na_bind (given_na _) fun _ => trivial) fun y hy => ?_
      rw [arg, Ev_bind] at hy
      obtain ⟨⟨xs', os'⟩, h1, hy⟩ := hy
      rw [Ev_ret] at hy; subst hy
      have := Ev_det h1 e1
      simp only [Prod.mk.injEq] at this
      simp only [this.1]
  · rename_i p
    rw [Ev_ret] at e; subst e
    cases hw with
    | fn _ =>
      refine key rfl trivial fun y hy => ?_
      rw [arg, Ev_ret] at hy; subst hy; rfl
  · rename_i f caps
    rw [Ev_bind] at e
    obtain ⟨xss, e1, e⟩ := e
    split at e
    · rename_i ce hce
      split at e
      · rename_i p hp
        rw [Ev_ret] at e; subst e
        cases hw with
        | fn _ =>
          have hok := ce.ok hp
          rw [findC_ok hce] at hok
          unfold arg at hr
          simp only at hr
          obtain ⟨g1, g2, r1, r2, rfl⟩ := run_bind hr
          obtain ⟨g3, g4, r3, r4, rfl⟩ := run_bind r2
          have h1 := Ev_det (na_ev (boxConts_na _) r1) e1
          have n1 := na_run (boxConts_na _) r1
          have n3 := na_run (boxObjs_na _) r3
          simp only [Q.run, Option.some.injEq] at r4
          subst r4
          simp only [n1, n3, List.nil_append]
          refine ⟨trivial, fun q hq => ?_⟩
          simp only [List.mem_cons, List.not_mem_nil, or_false] at hq
          subst hq
          rw [h1]; exact hok
      · exact (Ev_fail.1 e).elim
    · exact (Ev_fail.1 e).elim
  · exact (Ev_fail.1 e).elim

theorem Hw.cons {a : AD} {as : List AD} {hs : List How} {bs : List AD} (h : Hw (a :: as) hs bs) : ∃ h0 hs' b bs', hs = h0 :: hs' ∧ bs = b :: bs' ∧ Hw [a] [h0] [b] ∧ Hw as hs' bs' := by
  cases h with
  | v h => exact ⟨_, _, _, _, rfl, rfl, .v .nil, h⟩
  | ptr h => exact ⟨_, _, _, _, rfl, rfl, .ptr .nil, h⟩
  | mv h => exact ⟨_, _, _, _, rfl, rfl, .mv .nil, h⟩
  | fn h => exact ⟨_, _, _, _, rfl, rfl, .fn .nil, h⟩

theorem args_hw {σ : St} {cs : List (CloE P)} : ∀ {ms : List Md} {xs : List SV} {as bs : List AD} {hs : List How} {gt : Got (List AD × List Wr × List Nat)}, Ev σ (preArgs cs ms xs) as → Hw as hs bs → (args P hs xs).run σ = some gt →
    gt.a.1 = bs ∧ ∀ p ∈ gt.ps, p
  | [], [], as, bs, hs, gt, e, hw, hr => by
    rw [preArgs, Ev_ret] at e; subst e
    cases hw
    simp only [args, Q.run, Option.some.injEq] at hr
    subst hr
    exact ⟨rfl, fun p hp => by cases hp⟩
  | m :: ms, x :: xs, as, bs, hs, gt, e, hw, hr => by
    rw [preArgs, Ev_bind] at e
    obtain ⟨a, e1, e⟩ := e
    rw [Ev_bind] at e
    obtain ⟨as', e2, e⟩ := e
    rw [Ev_ret] at e; subst e
    obtain ⟨h0, hs', b, bs', rfl, rfl, w1, w2⟩ := hw.cons
    rw [args] at hr
    obtain ⟨g1, g2, r1, r2, rfl⟩ := run_bind hr
    obtain ⟨g3, g4, r3, r4, rfl⟩ := run_bind r2
    simp only [Q.run, Option.some.injEq] at r4
    subst r4
    obtain ⟨i1, i2⟩ := arg_hw e1 w1 r1
    obtain ⟨i3, i4⟩ := args_hw e2 w2 r3
    refine ⟨by simp only [i1, i3], fun p hp => ?_⟩
    rcases List.mem_append.1 hp with hp | hp
    · exact i2 p hp
    · rcases List.mem_append.1 hp with hp | hp
      · exact i4 p hp
      · cases hp
  | [], x :: xs, as, bs, hs, gt, e, _, _ => by rw [preArgs] at e; exact (Ev_fail.1 e).elim; all_goals simp
  | m :: ms, [], as, bs, hs, gt, e, _, _ => by rw [preArgs] at e; exact (Ev_fail.1 e).elim; all_goals simp

end
end
end Go.Pi

/- The run as a function of its decisions: operations, regions, code. -/
namespace Go.Pi
noncomputable section
variable {P : Program} {T : Tab}

/-- A loop by its own function. -/
structure LoopE (P : Program) (N : Nat × Nat) (c : Code) : Type 1 where
  A : Type
  can : St → Option A
  call : {R : Type} → A → (Exit → St → Option R) → Option R
  ok : ∀ {R : Type} {σ : St} {pl : A} {κ : Exit → St → Option R} {r : R}, can σ = some pl → call pl κ = some r → ∃ e σ', Runs P N c σ e σ' ∧ κ e σ' = some r

def child : Nat → Code → Code
  | 0, .seq a _ => a
  | _, .seq _ b => b
  | 0, .cond _ x _ => x
  | _, .cond _ _ y => y
  | _, .block _ c => c
  | _, .loop c => c
  | _, c => c
/-- The code at a place; the place is told from its end. -/
def codeAt (body : Code) : List Nat → Code
  | [] => body
  | i :: p => child i (codeAt body p)

structure Env (P : Program) (N : Nat × Nat) (body : Code) : Type 1 where
  fs : List (Entry P)
  cs : List (CloE P)
  ls : List ((p : List Nat) × LoopE P N (codeAt body p))
  hs : List (List Nat × Hint)

def eqP : List Nat → List Nat → Bool
  | [], [] => true
  | a :: as, b :: bs => match Nat.beq a b with
    | true => eqP as bs
    | false => false
  | _, _ => false
theorem eqP_ok : ∀ {a b : List Nat}, eqP a b = true → a = b
  | [], [], _ => rfl
  | a :: as, b :: bs, h => by
    unfold eqP at h
    split at h
    · rename_i he
      rw [Nat.eq_of_beq_eq_true he, eqP_ok h]
    · cases h
  | [], _ :: _, h => by cases h
  | _ :: _, [], h => by cases h

def exKnow {R : Type} (kn : Kn) (d : Nat) (b : Bool) (k : Bool → Kn → Option R) : Option R :=
  match look kn d with
  | some (some v) => k v kn
  | _ => fork b (k true ((d, some true) :: kn)) (k false ((d, some false) :: kn))

theorem exKnow_ok {R : Type} {σ : St} {kn : Kn} {d : Nat} {b : Bool} {k : Bool → Kn → Option R} {r : R} (hk : KnOk kn σ) (hd : σ.s d = some (lit b)) (h : exKnow kn d b k = some r) :
    ∃ v kn', b = v ∧ KnOk kn' σ ∧ k v kn' = some r := by
  unfold exKnow at h
  split at h
  · rename_i v hv
    have := hk d v hv
    rw [hd] at this
    simp only [lit, Option.some.injEq, SV.v.injEq, Prod.mk.injEq, List.cons.injEq, LV.val.injEq, Value.bool.injEq, and_true, true_and] at this
    exact ⟨v, kn, this, hk, h⟩
  · have ext : ∀ v, b = v → KnOk ((d, some v) :: kn) σ := by
      intro v hv t u ht
      unfold look at ht
      split at ht
      · rename_i e
        simp only [Option.some.injEq] at ht
        subst ht; subst e; subst hv
        exact hd
      · exact hk t u ht
    rcases fork_some h with ⟨hb, h⟩ | ⟨hb, h⟩
    · exact ⟨true, _, hb, ext _ hb, h⟩
    · exact ⟨false, _, hb, ext _ hb, h⟩

section
variable (T)
def fnArgs (ts : List TypeId) (xs : List Operand) : Q (List Cn) :=
  (opds T ts xs).bind fun vs => (args P [] vs).bind fun (ads, _, _) => match cnsOf ads with
    | some cs => .ret cs
    | none => .fail

def exCall {R : Type} (fs : List (Entry P)) (cs : List (CloE P)) (o : Oper) (f : FuncId) (xs : List Operand) (ts : List TypeId) (σ : St) (k : List Wr → List Key → Option R) : Option R :=
  match val (opds T ts xs) σ with
  | some vs => match findE fs f with
    | some e => match val (preArgs cs e.ms vs) σ with
      | some pre => e.call pre fun hs rd => match (step P T o { rd := rd, how := hs } false).run σ with
        | some g => k g.a g.rs
        | none => none
      | none => none
    | none => none
  | none => none

def exCallv {R : Type} (o : Oper) (f : Tmp) (xs : List Operand) (ts : List TypeId) (σ : St) (k : List Wr → List Key → Option R) : Option R :=
  match σ.s f with
  | some (.v (false, [.fn p])) => match val (fnArgs (P := P) T ts xs) σ with
    | some cs => bnd (p cs) fun r => match (step P T o { rd := .one (false, [.val (.bool r)]) } false).run σ with
      | some g => k g.a g.rs
      | none => none
    | none => none
  | _ => none

def exPick {R : Type} (o : Oper) (v : Bool) (σ : St) (kn : Kn) (k : Bool → Kn → List Wr → List Key → Option R) : Option R :=
  match (step P T o {} v).run σ with
  | some g => k v kn g.a g.rs
  | none => none

def isX : Option Obj → Bool
  | some (.hole _ _ _ _ _ _) => true
  | some (.pair _ _ _ _ _) => true
  | some (.elems _ _) => true
  | _ => false
def trX (σ : St) : Option SV → Bool
  | some (.v (false, [.tr o])) => isX (σ.o o)
  | some (.v (false, [.ep _ (.tr o) _ _])) => isX (σ.o o)
  | _ => false
/-- Does the operation meet what is split? -/
def useX (o : Oper) (σ : St) : Bool :=
  match o.op with
  | .load _ a => trX σ (val (opd T 0 a) σ)
  | .store _ a _ => trX σ (val (opd T 0 a) σ)
  | .indexAddr t x _ => trX σ (val (opd T t x) σ)
  | .slice t x _ _ _ => trX σ (val (opd T t x) σ)
  | .call { callee := .builtin .append, args := xs, .. } => match xs.toList with
    | [_, y] => trX σ (val (opd T 0 y) σ)
    | _ => false
  | _ => false

def exStep {R : Type} (fs : List (Entry P)) (cs : List (CloE P)) (o : Oper) (σ : St) (kn : Kn) (k : Bool → Kn → List Wr → List Key → Option R) : Option R :=
  match o.op with
  | .pick c _ _ => match c with
    | .tmp t => match σ.s t with
      | some (.v (false, [.val (.bool b)])) => exKnow kn t b fun v kn' => exPick (P := P) T o v σ kn' k
      | _ => none
    | .const (.bool v) => exPick (P := P) T o v σ kn k
    | _ => none
  | .call { callee := .value (.func f), args := xs, argTypes := ts } => exCall T fs cs o f xs.toList ts.toList σ (k false kn)
  | .call { callee := .value (.tmp f), args := xs, argTypes := ts } => exCallv (P := P) T o f xs.toList ts.toList σ (k false kn)
  | _ => match useX T o σ with
    | true => exQ (stepX T o) σ (k false kn)
    | false => exQ (step P T o {} false) σ (k false kn)

def exFin {R : Type} (o : Oper) (k : Kn → List Wr → List Key → Option R) (pk : Bool) (kn : Kn) (ws : List Wr) (rs : List Key) : Option R :=
  match slotsOnly o.dst ws with
  | true => k (knPut kn o.dst (knOf kn o pk)) ws rs
  | false => none

def exOp {R : Type} (fs : List (Entry P)) (cs : List (CloE P)) (ops : Array Oper) (o : Oper) (σ : St) (kn : Kn) (k : Kn → List Wr → List Key → Option R) : Option R :=
  match o.guard with
  | none => exStep T fs cs o σ kn (exFin o k)
  | some (j, want) => match (ops[j]?).bind (·.dst) with
    | some d => match σ.s d with
      | some .undef => k (knPut kn o.dst none) (slotW o.dst .undef) [.s d]
      | some (.v (false, [.val (.bool b)])) => exKnow kn d b fun v kn' => match v, want with
        | true, true => exStep T fs cs o σ kn' (exFin o fun kn ws rs => k kn ws (.s d :: rs))
        | false, false => exStep T fs cs o σ kn' (exFin o fun kn ws rs => k kn ws (.s d :: rs))
        | _, _ => k (knPut kn' o.dst none) (slotW o.dst .undef) [.s d]
      | _ => none
    | none => none

def exOps {R : Type} (fs : List (Entry P)) (cs : List (CloE P)) (N : Nat × Nat) (ops : Array Oper) : List Oper → St → Kn → (St → Kn → List Rw → Option R) → Option R
  | [], σ, kn, k => k σ kn []
  | o :: os, σ, kn, k => match fits N o with
    | true => exOp T fs cs ops o σ kn fun kn' ws rs => exOps fs cs N ops os (σ.puts ws) kn' fun σ' kn'' rw => k σ' kn'' ((rs, ws) :: rw)
    | false => none

def exLoop {R : Type} {N : Nat × Nat} {body : Code} : List ((p : List Nat) × LoopE P N (codeAt body p)) → List Nat → St → (Exit → St → Option R) → Option R
  | [], _, _, _ => none
  | l :: ls, p, σ, k => match eqP l.1 p with
    | true => match l.2.can σ with
      | some pl => l.2.call pl k
      | none => exLoop ls p σ k
    | false => exLoop ls p σ k

def hintAt : List (List Nat × Hint) → List Nat → Option Hint
  | [], _ => none
  | (q, h) :: hs, p => match eqP q p with
    | true => some h
    | false => hintAt hs p
def exHint {R : Type} (h : Option Hint) (σ : St) (k : St → Option R) : Option R :=
  match h with
  | none => k σ
  | some h => exQ (hintQ h) σ fun ws _ => match slotsOnly none ws with
    | true => k (σ.puts ws)
    | false => none

def exCode {R : Type} {N : Nat × Nat} {body : Code} (E : Env P N body) : Code → List Nat → St → Kn → (Exit → St → Kn → Option R) → Option R
  | .skip, _, σ, kn, k => k .normal σ kn
  | .region _ ops draw, p, σ, kn, k => exHint (hintAt E.hs p) σ fun σ1 => exOps T E.fs E.cs N ops ops.toList σ1 kn fun σ' kn' rw => match draw with
    | true => match backward 0 ops.toList && apartAll (masks 0 ops.toList []) rw with
      | true => k .normal σ' kn'
      | false => none
    | false => k .normal σ' kn'
  | .seq a b, p, σ, kn, k => exCode E a (0 :: p) σ kn fun e σ' kn' => match e with
    | .normal => exCode E b (1 :: p) σ' kn' k
    | e => k e σ' kn'
  | .cond c x y, p, σ, kn, k => match c with
    | .tmp t => match σ.s t with
      | some (.v (false, [.val (.bool b)])) => exKnow kn t b fun v kn' => match v with
        | true => exCode E x (0 :: p) σ kn' k
        | false => exCode E y (1 :: p) σ kn' k
      | _ => none
    | .const (.bool v) => match v with
      | true => exCode E x (0 :: p) σ kn k
      | false => exCode E y (1 :: p) σ kn k
    | _ => none
  | .block id c, p, σ, kn, k => exCode E c (0 :: p) σ kn fun e σ' kn' => k (leave id e) σ' kn'
  | .loop _, p, σ, _, k => exLoop E.ls p σ fun e σ' => k e σ' []
  | .exit id, _, σ, kn, k => k (.exit id) σ kn
  | .ret, _, σ, kn, k => k .ret σ kn
  | _, _, _, _, _ => none
end

end
end Go.Pi

/- The run as a function of its decisions: what it says is what the machine does. -/
namespace Go.Pi
variable {P : Program} {T : Tab}

theorem frees_na : ∀ l : List (Nat × Obj), (frees l).na
  | [] => trivial
  | (n, x) :: l => frees_na l
theorem result_na (d : Option Tmp) (rd : RD) : (result d rd).na := by
  unfold result
  cases rd with
  | one x => exact na_bind (frees_na _) fun _ => trivial
  | tup xs => exact na_bind (frees_na _) fun _ => trivial
  | ptr ls => exact trivial

theorem step_irr {o : Oper} {g p x g' p' x' : Bool} {rd : RD} {hs : List How} {pk : Bool} : step P T o ⟨g, p, x, rd, hs⟩ pk = step P T o ⟨g', p', x', rd, hs⟩ pk := by
  unfold step; rfl

theorem exCall_ok {R : Type} {fs : List (Entry P)} {cs : List (CloE P)} {o : Oper} {f : FuncId} {xs : Array Operand} {ts : Array TypeId} {σ : St} {k : List Wr → List Key → Option R} {r : R}
    (ho : o.op = .call { callee := .value (.func f), args := xs, argTypes := ts }) (h : exCall T fs cs o f xs.toList ts.toList σ k = some r) :
    ∃ rd hs gt, (∀ g p, (step P T o ⟨g, p, false, rd, hs⟩ false).run σ = some gt) ∧ (∀ p ∈ gt.ps, p) ∧ k gt.a gt.rs = some r := by
  unfold exCall at h
  split at h
  · rename_i vs hvs
    split at h
    · rename_i e he
      split at h
      · rename_i pre hpre
        obtain ⟨hs, rd, bs, h1, h2, h3⟩ := e.ok h
        split at h1
        · rename_i gt hg
          refine ⟨rd, hs, gt, fun g p => by rw [← hg]; exact congrArg (fun q => q.run σ) step_irr, ?_, h1⟩
          unfold step at hg
          rw [ho] at hg
          simp only at hg
          obtain ⟨g1, g2, r1, r2, rfl⟩ := run_bind hg
          obtain ⟨rs0, r0⟩ := val_run hvs
          rw [r0] at r1
          simp only [Option.some.injEq] at r1
          subst r1
          obtain ⟨g3, g4, r3, r4, rfl⟩ := run_bind r2
          obtain ⟨i1, i2⟩ := args_hw (val_ev hpre) h2 r3
          obtain ⟨⟨ads, ws, os⟩, ps3, rs3⟩ := g3
          simp only at r4 i1 i2
          subst i1
          split at r4
          · unfold Q.run at r4
            split at r4
            · rename_i g5 r5
              simp only [Option.some.injEq] at r4
              subst r4
              have hn : g5.ps = [] := na_run (na_bind (result_na _ _) fun _ => by exact trivial) r5
              intro p hp
              simp only [List.nil_append, hn] at hp
              rcases List.mem_append.1 hp with hp | hp
              · exact i2 p hp
              · simp only [List.mem_cons, List.not_mem_nil, or_false] at hp
                subst hp
                rw [← findE_ok he]; exact h3
            · cases r4
          · cases r4
        · cases h1
      · cases h
    · cases h
  · cases h

theorem exCallv_ok {R : Type} {o : Oper} {f : Tmp} {xs : Array Operand} {ts : Array TypeId} {σ : St} {k : List Wr → List Key → Option R} {r : R}
    (ho : o.op = .call { callee := .value (.tmp f), args := xs, argTypes := ts }) (h : exCallv (P := P) T o f xs.toList ts.toList σ k = some r) :
    ∃ rd hs gt, (∀ g p, (step P T o ⟨g, p, false, rd, hs⟩ false).run σ = some gt) ∧ (∀ p ∈ gt.ps, p) ∧ k gt.a gt.rs = some r := by
  unfold exCallv at h
  split at h
  · rename_i p hp
    split at h
    · rename_i cs hcs
      obtain ⟨b, hb, h⟩ := bnd_some h
      split at h
      · rename_i gt hg
        refine ⟨_, _, gt, fun g p => by rw [← hg]; exact congrArg (fun q => q.run σ) step_irr, ?_, h⟩
        unfold step at hg
        rw [ho] at hg
        simp only at hg
        unfold Q.run at hg
        rw [hp] at hg
        simp only at hg
        split at hg
        · rename_i g' hg'
          simp only [Option.some.injEq] at hg
          subst hg
          obtain ⟨g1, g2, r1, r2, rfl⟩ := run_bind hg'
          simp only [asOne, Q.run, Option.some.injEq] at r1
          subst r1
          simp only at r2
          obtain ⟨g3, g4, r3, r4, rfl⟩ := run_bind r2
          obtain ⟨g5, g6, r5, r6, rfl⟩ := run_bind r4
          obtain ⟨rs0, r0⟩ := val_run hcs
          unfold fnArgs at r0
          obtain ⟨k3, k4, t3, t4, e1⟩ := run_bind r0
          rw [r3] at t3
          simp only [Option.some.injEq] at t3
          subst t3
          obtain ⟨k5, k6, t5, t6, e2⟩ := run_bind t4
          rw [r5] at t5
          simp only [Option.some.injEq] at t5
          subst t5
          subst e2
          simp only [Got.mk.injEq] at e1
          obtain ⟨e1a, e1b, _⟩ := e1
          obtain ⟨⟨ads, ws, os⟩, ps5, rs5⟩ := g5
          simp only at r6 t6 e1b
          have e1b := e1b.symm
          rw [List.append_eq_nil_iff, List.append_eq_nil_iff] at e1b
          obtain ⟨n3, n5, n6⟩ := e1b
          split at t6
          · rename_i cs' hm
            simp only [Q.run, Option.some.injEq] at t6
            subst t6
            simp only at e1a
            subst e1a
            rw [hm] at r6
            simp only [Q.run, Option.some.injEq] at r6
            subst r6
            intro q hq
            simp only [n3, n5, List.nil_append, List.mem_cons, List.not_mem_nil, or_false] at hq
            subst hq
            exact hb
          · cases t6
        · cases hg
      · cases h
    · cases h
  · cases h

theorem opd_na (ty : TypeId) (x : Operand) : (opd T ty x).na := by
  unfold opd
  split
  · exact fun _ => trivial
  · split <;> exact trivial
  · split <;> exact trivial
  · exact trivial
  · exact trivial

theorem kval_ok {kn : Kn} {σ : St} (hk : KnOk kn σ) {x : Operand} {u : Bool} (hu : kval kn x = some u) {ty : TypeId} {v : SV} (e : Ev σ (opd T ty x) v) : v = lit u := by
  unfold kval at hu
  split at hu
  · simp only [Option.some.injEq] at hu
    subst hu
    rw [opd] at e
    · simp only [plain, if_true] at e
      rw [Ev_ret] at e
      exact e.symm
    · intro h; cases h
  · rename_i t
    split at hu
    · rename_i v' hv'
      subst hu
      rw [opd, Ev_slot] at e
      obtain ⟨y, hy, e⟩ := e
      rw [Ev_ret] at e
      rw [hk t u hv'] at hy
      simp only [Option.some.injEq] at hy
      rw [← e, ← hy]
    · cases hu
  · cases hu

theorem exPick_ok {R : Type} {o : Oper} {c x y : Operand} (ho : o.op = .pick c x y) {v : Bool} {σ : St} {kn : Kn} {k : Bool → Kn → List Wr → List Key → Option R} {r : R} (hk : KnOk kn σ)
    (hb : ∀ b, Ev σ ((opd T 0 c).bind asB) b → b = v) (h : exPick (P := P) T o v σ kn k = some r) :
    ∃ pk kn' gt, (∀ g, ∃ c : Orc, c.g = g ∧ (stepG P T o c).run σ = some gt) ∧ (∀ p ∈ gt.ps, p) ∧ KnOk kn' σ ∧ k pk kn' gt.a gt.rs = some r ∧ (∀ u, knOf kn' o pk = some u → gt.a = slotW o.dst (lit u)) := by
  unfold exPick at h
  split at h
  · rename_i gt hg
    refine ⟨v, kn, gt, fun g => ⟨⟨g, v, false, .tup [], []⟩, rfl, by rw [← hg]; exact congrArg (fun q => q.run σ) step_irr⟩, ?_, hk, h, ?_⟩
    all_goals
      unfold step at hg
      rw [ho] at hg
      simp only at hg
      obtain ⟨g1, g2, r1, r2, rfl⟩ := run_bind hg
      obtain ⟨g3, g4, r3, r4, rfl⟩ := run_bind r2
      have n1 := na_run (opd_na _ _) r1
      have na3 : ∀ v, (asB v).na := fun v => by unfold asB; split <;> exact trivial
      have n3 := na_run (na3 _) r3
      have hv := hb g3.a (Ev_bind.2 ⟨_, na_ev (opd_na _ _) r1, na_ev (na3 _) r3⟩)
      unfold Q.run at r4
      split at r4
      · rename_i g5 r5
        simp only [Option.some.injEq] at r4
        subst r4
        obtain ⟨g6, g7, r6, r7, rfl⟩ := run_bind r5
        simp only [Q.run, Option.some.injEq] at r7
        subst r7
        have n6 := na_run (opd_na _ _) r6
        first
        | (intro p hp
           simp only [n1, n3, n6, List.nil_append, List.append_nil, List.mem_cons, List.not_mem_nil, or_false] at hp
           subst hp; exact hv)
        | (intro u hu
           unfold knOf at hu
           rw [ho] at hu
           simp only at hu ⊢
           have hev := na_ev (opd_na (T := T) _ _) r6
           cases v with
           | true => simp only [if_true] at hev; rw [kval_ok hk hu hev]
           | false => simp only [Bool.false_eq_true, if_false] at hev; rw [kval_ok hk hu hev])
      · cases r4
  · cases h

theorem move_knows {o : Oper} {σ : St} {kn : Kn} {gt : Got (List Wr)} {rd : RD} {hs : List How} (hk : KnOk kn σ) (hnp : ∀ c x y, o.op ≠ .pick c x y) (hg : (step P T o ⟨true, true, false, rd, hs⟩ false).run σ = some gt) (hp : ∀ p ∈ gt.ps, p) :
    ∀ u, knOf kn o false = some u → gt.a = slotW o.dst (lit u) := by
  intro u hu
  have e : Ev σ (step P T o ⟨true, true, false, rd, hs⟩ false) gt.a := ⟨gt.ps, gt.rs, hg, hp⟩
  unfold knOf at hu
  split at hu
  · rename_i x ho
    unfold step at e
    rw [ho] at e
    simp only at e
    rw [Ev_bind] at e
    obtain ⟨v, e1, e⟩ := e
    rw [Ev_ret] at e
    rw [← e, kval_ok hk hu e1]
  · rename_i x ho
    unfold step at e
    rw [ho] at e
    simp only at e
    rw [Ev_bind] at e
    obtain ⟨v, e1, e⟩ := e
    rw [Ev_ret] at e
    rw [← e, kval_ok hk hu e1]
  · rename_i c x y ho
    exact absurd ho (hnp _ _ _)
  · cases hu

theorem exStep_ok {R : Type} {fs : List (Entry P)} {cs : List (CloE P)} {o : Oper} {σ : St} {kn : Kn} {k : Bool → Kn → List Wr → List Key → Option R} {r : R} (hk : KnOk kn σ) (h : exStep T fs cs o σ kn k = some r) :
    ∃ pk kn' gt, (∀ g, ∃ c : Orc, c.g = g ∧ (stepG P T o c).run σ = some gt) ∧ (∀ p ∈ gt.ps, p) ∧ KnOk kn' σ ∧ k pk kn' gt.a gt.rs = some r ∧ (∀ u, knOf kn' o pk = some u → gt.a = slotW o.dst (lit u)) := by
  unfold exStep at h
  split at h
  · rename_i c x y ho
    split at h
    · rename_i t
      split at h
      · rename_i b hb
        obtain ⟨v, kn', h1, h2, h3⟩ := exKnow_ok hk hb h
        refine exPick_ok ho h2 (fun b' e => ?_) h3
        rw [Ev_bind] at e
        obtain ⟨y', e1, e2⟩ := e
        rw [opd, Ev_slot] at e1
        obtain ⟨z, hz, e1⟩ := e1
        rw [Ev_ret] at e1
        rw [hb] at hz
        simp only [Option.some.injEq] at hz
        rw [← e1, ← hz] at e2
        unfold asB at e2
        rw [Ev_ret] at e2
        rw [← e2]; exact h1
      · cases h
    · rename_i v
      refine exPick_ok ho hk (fun b' e => ?_) h
      rw [Ev_bind] at e
      obtain ⟨y', e1, e2⟩ := e
      have : y' = lit v := kval_ok (kn := []) (fun t u ht => by cases ht) (u := v) rfl e1
      subst this
      unfold asB lit at e2
      simp only at e2
      rw [Ev_ret] at e2
      exact e2.symm
    · cases h
  · rename_i f xs ts ho
    obtain ⟨rd, hs, gt, h1, h2, h3⟩ := exCall_ok ho h
    exact ⟨false, kn, gt, fun g => ⟨⟨g, false, false, rd, hs⟩, rfl, h1 g false⟩, h2, hk, h3, move_knows hk (fun c x y e => by rw [ho] at e; cases e) (h1 _ _) h2⟩
  · rename_i f xs ts ho
    obtain ⟨rd, hs, gt, h1, h2, h3⟩ := exCallv_ok ho h
    exact ⟨false, kn, gt, fun g => ⟨⟨g, false, false, rd, hs⟩, rfl, h1 g false⟩, h2, hk, h3, move_knows hk (fun c x y e => by rw [ho] at e; cases e) (h1 _ _) h2⟩
  · rename_i hnp _ _
    split at h
    · obtain ⟨gt, h1, h2, h3⟩ := exQ_ok h
      refine ⟨false, kn, gt, fun g => ⟨⟨g, true, true, .tup [], []⟩, rfl, h1⟩, h2, hk, h3, fun u hu => ?_⟩
      exfalso
      unfold knOf at hu
      split at hu
      · rename_i ho; unfold stepX at h1; rw [ho] at h1; cases h1
      · rename_i ho; unfold stepX at h1; rw [ho] at h1; cases h1
      · rename_i ho; exact hnp _ _ _ ho
      · cases hu
    · obtain ⟨gt, h1, h2, h3⟩ := exQ_ok h
      exact ⟨false, kn, gt, fun g => ⟨⟨g, false, false, .tup [], []⟩, rfl, by rw [← h1]; exact congrArg (fun q => q.run σ) step_irr⟩, h2, hk, h3, move_knows hk hnp h1 h2⟩

theorem puts_slotW {σ : St} {d : Option Tmp} {x : SV} : (σ.puts (slotW d x)).s = fun n => if d = some n then some x else σ.s n := by
  funext n
  cases d with
  | none => simp [slotW, St.puts]
  | some d =>
    simp only [slotW, St.puts, St.put, Option.some.injEq]
    by_cases e : n = d
    · subst e; simp
    · rw [if_neg e, if_neg (fun h => e h.symm)]

theorem KnOk.put {kn : Kn} {σ : St} {d : Option Tmp} {ws : List Wr} {v : Option Bool} (hk : KnOk kn σ) (hs : slotsOnly d ws = true) (hv : ∀ u, v = some u → ws = slotW d (lit u)) : KnOk (knPut kn d v) (σ.puts ws) := by
  intro t u ht
  cases d with
  | none =>
    simp only [knPut] at ht
    rw [slotsOnly_ok hs t (by simp)]
    exact hk t u ht
  | some d =>
    simp only [knPut] at ht
    unfold look at ht
    split at ht
    · rename_i e
      subst e
      simp only [Option.some.injEq] at ht
      rw [hv u ht, puts_slotW]
      simp
    · rename_i e
      rw [slotsOnly_ok hs t (by simp only [ne_eq, Option.some.injEq]; exact fun h => e h.symm)]
      exact hk t u ht

theorem exFin_ok {R : Type} {o : Oper} {k : Kn → List Wr → List Key → Option R} {pk : Bool} {kn : Kn} {ws : List Wr} {rs : List Key} {r : R} {σ : St} (hk : KnOk kn σ) (hv : ∀ u, knOf kn o pk = some u → ws = slotW o.dst (lit u)) (h : exFin o k pk kn ws rs = some r) :
    ∃ kn', KnOk kn' (σ.puts ws) ∧ k kn' ws rs = some r := by
  unfold exFin at h
  split at h
  · rename_i hs
    exact ⟨_, hk.put hs hv, h⟩
  · cases h

theorem slotsOnly_slotW (d : Option Tmp) (x : SV) : slotsOnly d (slotW d x) = true := by
  cases d with
  | none => rfl
  | some d => simp [slotW, slotsOnly]

theorem exOp_ok {R : Type} {fs : List (Entry P)} {cs : List (CloE P)} {ops : Array Oper} {o : Oper} {σ : St} {kn : Kn} {k : Kn → List Wr → List Key → Option R} {r : R} (hk : KnOk kn σ) (h : exOp T fs cs ops o σ kn k = some r) :
    ∃ c kn' gt, (gstep P T ops o c).run σ = some gt ∧ (∀ p ∈ gt.ps, p) ∧ KnOk kn' (σ.puts gt.a) ∧ k kn' gt.a gt.rs = some r := by
  unfold exOp at h
  split at h
  · rename_i hg
    obtain ⟨pk, kn', gt, h1, h2, h3, h4, h5⟩ := exStep_ok hk h
    obtain ⟨kn2, h6, h7⟩ := exFin_ok h3 h5 h4
    obtain ⟨c, _, h1⟩ := h1 true
    exact ⟨c, kn2, gt, by unfold gstep; rw [hg]; exact h1, h2, h6, h7⟩
  · rename_i j want hg
    split at h
    · rename_i d hd
      have hrun : ∀ {c : Orc} {q : SV → Q (List Wr)}, (gstep P T ops o c) = .slot d q → ∀ x g', σ.s d = some x → (q x).run σ = some g' → (gstep P T ops o c).run σ = some ⟨g'.a, g'.ps, .s d :: g'.rs⟩ := by
        intro c q hq x g' hx hr
        rw [hq]; simp [Q.run, hx, hr]
      split at h
      · rename_i hx
        refine ⟨{}, _, ⟨slotW o.dst .undef, [], [.s d]⟩, ?_, (fun p hp => by cases hp), hk.put (slotsOnly_slotW _ _) (fun u hu => by cases hu), h⟩
        unfold gstep
        rw [hg]
        simp only [hd]
        simp [Q.run, hx]
      · rename_i b hx
        obtain ⟨v, kn', hb, hk', h⟩ := exKnow_ok hk hx h
        have hgo : ∀ {r : R} {kn1 : Kn}, KnOk kn1 σ → exStep T fs cs o σ kn1 (exFin o fun kn ws rs => k kn ws (.s d :: rs)) = some r → v = want →
            ∃ c kn' gt, (gstep P T ops o c).run σ = some gt ∧ (∀ p ∈ gt.ps, p) ∧ KnOk kn' (σ.puts gt.a) ∧ k kn' gt.a gt.rs = some r := by
          intro r kn1 hk1 h hvw
          obtain ⟨pk, kn', gt, h1, h2, h3, h4, h5⟩ := exStep_ok hk1 h
          obtain ⟨kn2, h6, h7⟩ := exFin_ok h3 h5 h4
          obtain ⟨c, hcg, h1⟩ := h1 want
          refine ⟨c, kn2, ⟨gt.a, (b = want) :: gt.ps, .s d :: gt.rs⟩, ?_, ?_, h6, h7⟩
          · unfold gstep
            rw [hg]
            simp only [hd]
            simp [Q.run, hx, h1, hcg]
          · intro p hp
            rcases List.mem_cons.1 hp with rfl | hp
            · rw [hb, hvw]
            · exact h2 p hp
        have hno : ∀ {r : R} {kn1 : Kn}, KnOk kn1 σ → k (knPut kn1 o.dst none) (slotW o.dst .undef) [.s d] = some r → v ≠ want →
            ∃ c kn' gt, (gstep P T ops o c).run σ = some gt ∧ (∀ p ∈ gt.ps, p) ∧ KnOk kn' (σ.puts gt.a) ∧ k kn' gt.a gt.rs = some r := by
          intro r kn1 hk1 h hvw
          refine ⟨⟨v, true, false, .tup [], []⟩, _, ⟨slotW o.dst .undef, [b = v], [.s d]⟩, ?_, ?_, hk1.put (slotsOnly_slotW _ _) (fun u hu => by cases hu), h⟩
          · unfold gstep
            rw [hg]
            simp only [hd]
            simp [Q.run, hx, hvw]
          · intro p hp
            simp only [List.mem_cons, List.not_mem_nil, or_false] at hp
            subst hp; exact hb
        split at h
        · exact hgo hk' h rfl
        · exact hgo hk' h rfl
        · rename_i n1 n2
          refine hno hk' h (fun e => ?_)
          subst e
          cases v
          · exact n2 rfl rfl
          · exact n1 rfl rfl
      · cases h
    · cases h

theorem exOps_ok {R : Type} {fs : List (Entry P)} {cs : List (CloE P)} {N : Nat × Nat} {ops : Array Oper} : ∀ {l : List Oper} {σ : St} {kn : Kn} {k : St → Kn → List Rw → Option R} {r : R}, KnOk kn σ → exOps T fs cs N ops l σ kn k = some r →
    ∃ rw σ' kn', Trace P T N ops l σ rw σ' ∧ KnOk kn' σ' ∧ k σ' kn' rw = some r
  | [], σ, kn, k, r, hk, h => ⟨[], σ, kn, .nil σ, hk, h⟩
  | o :: os, σ, kn, k, r, hk, h => by
    unfold exOps at h
    split at h
    · rename_i hf
      obtain ⟨c, kn', gt, h1, h2, h3, h4⟩ := exOp_ok hk h
      obtain ⟨rw, σ', kn2, t1, t2, t3⟩ := exOps_ok h3 h4
      exact ⟨_, σ', kn2, .cons hf h1 h2 t1, t2, t3⟩
    · cases h

/-- A region's run is the machine's. -/
theorem region_runs (H : TabOk P T) (hB : ∀ t e, T.elem t = some e → 0 < T.bytes e) (hm : P.follows .mixedOrders = true) {N : Nat × Nat} {id : Nat} {ops : Array Oper} {draw : Bool} {σ σ' : St} {rw : List Rw} (ht : Trace P T N ops ops.toList σ rw σ')
    (hd : draw = true → backward 0 ops.toList = true ∧ apartAll (masks 0 ops.toList []) rw = true) : Runs P N (.region id ops draw) σ .normal σ' := by
  intro C hC g a w h
  subst hC
  have hQ : ∀ g a w, Rep P C σ' g a w → (fun (e' : Exit) a' w' => e' = .normal ∧ ∃ g', Rep P C σ' g' a' w') .normal a w := fun g a w h => ⟨rfl, g, h⟩
  cases draw with
  | false =>
    refine wp_region ?_
    have := trace_text (Qx := fun e' a' w' => e' = .normal ∧ ∃ g', Rep P C σ' g' a' w') (k := 0) H hB ht (fun j => by simp) h hQ
    simpa [List.range_eq_range'] using this
  | true =>
    obtain ⟨hc1, hc2⟩ := hd rfl
    refine wp_region_any hm (trace_any (Qx := fun e' a' w' => e' = .normal ∧ ∃ g', Rep P C σ' g' a' w') H hB ht hc1 hc2 hQ ops.size _ g a _ (by simp) (by simp) ?_ ?_)
    · intro j o ho hj
      exfalso
      revert hj
      simp only [Array.getD_eq_getD_getElem?, Array.getElem?_replicate]
      split <;> simp
    · have hL : (fun m => (Array.replicate ops.size false).getD m false) = fun _ => false := by
        funext m
        simp only [Array.getD_eq_getD_getElem?, Array.getElem?_replicate]
        split <;> rfl
      rw [hL]
      have h0 : ∀ (i : Nat) (rw : List Rw), upd (fun _ => false) i rw σ = σ := by
        intro i rw
        induction rw generalizing i with
        | nil => rfl
        | cons x rw ih => unfold upd; simp only [Bool.false_eq_true, if_false]; exact ih _
      rw [h0]
      exact h.heap rfl rfl rfl

theorem exLoop_ok {R : Type} {N : Nat × Nat} {body : Code} : ∀ {ls : List ((p : List Nat) × LoopE P N (codeAt body p))} {p : List Nat} {σ : St} {k : Exit → St → Option R} {r : R}, exLoop ls p σ k = some r →
    ∃ e σ', Runs P N (codeAt body p) σ e σ' ∧ k e σ' = some r
  | [], p, σ, k, r, h => by cases h
  | l :: ls, p, σ, k, r, h => by
    unfold exLoop at h
    split at h
    · rename_i hp
      split at h
      · rename_i pl hpl
        obtain ⟨e, σ', h1, h2⟩ := l.2.ok hpl h
        rw [eqP_ok hp] at h1
        exact ⟨e, σ', h1, h2⟩
      · exact exLoop_ok h
    · exact exLoop_ok h

theorem Runs.seq {N : Nat × Nat} {x y : Code} {σ σ1 σ2 : St} {e : Exit} (h : Runs P N x σ .normal σ1) (h' : Runs P N y σ1 e σ2) : Runs P N (.seq x y) σ e σ2 := by
  intro C hC g a w hr
  refine wp_seq (wp_mono (h C hC g a w hr) ?_)
  rintro e' a' w' ⟨rfl, g', hr'⟩
  exact h' C hC g' a' w' hr'
theorem Runs.seqOut {N : Nat × Nat} {x y : Code} {σ σ1 : St} {e : Exit} (h : Runs P N x σ e σ1) (he : e ≠ .normal) : Runs P N (.seq x y) σ e σ1 := by
  intro C hC g a w hr
  refine wp_seq (wp_mono (h C hC g a w hr) ?_)
  rintro e' a' w' ⟨rfl, h'⟩
  cases e' <;> first | exact absurd rfl he | exact ⟨rfl, h'⟩
theorem Runs.block {N : Nat × Nat} {id : Nat} {x : Code} {σ σ1 : St} {e : Exit} (h : Runs P N x σ e σ1) : Runs P N (.block id x) σ (leave id e) σ1 := by
  intro C hC g a w hr
  refine wp_block (wp_mono (h C hC g a w hr) ?_)
  rintro e' a' w' ⟨rfl, h'⟩
  show Exit.inBlock id _ e' a' w'
  cases e' with
  | exit id' =>
    unfold Exit.inBlock leave
    by_cases he : id' = id
    · subst he; simp; exact h'
    · simp [he]; exact h'
  | _ => exact ⟨rfl, h'⟩
theorem Runs.cond {N : Nat × Nat} {c : Operand} {x y : Code} {σ σ1 : St} {e : Exit} {v : Bool} (hv : Ev σ ((opd T 0 c).bind asB) v) (h : Runs P N (if v then x else y) σ e σ1) : Runs P N (.cond c x y) σ e σ1 := by
  intro C hC g a w hr
  have hb : a.eval c = .bool v := by
    rw [Ev_bind] at hv
    obtain ⟨u, e1, e2⟩ := hv
    have hv := opd_ok hr e1
    rw [asB_ok e2] at hv
    obtain ⟨us, v1, v2, _⟩ := hv
    obtain ⟨u, rfl, v3⟩ := v2.one
    rw [v1, mkv_one, v3.1]
  cases v with
  | true => exact wp_cond_true hb (h C hC g a w hr)
  | false => exact wp_cond_false hb (h C hC g a w hr)

theorem exHint_ok {R : Type} {hi : Option Hint} {σ : St} {kn : Kn} {k : St → Option R} {r : R} (hk : KnOk kn σ) (h : exHint hi σ k = some r) :
    ∃ σ0, KnOk kn σ0 ∧ (∀ {N : Nat × Nat} (c : Code) {e : Exit} {σ' : St}, Runs P N c σ0 e σ' → Runs P N c σ e σ') ∧ k σ0 = some r := by
  unfold exHint at h
  split at h
  · exact ⟨σ, hk, fun c _ _ h => h, h⟩
  · obtain ⟨gt, h1, h2, h3⟩ := exQ_ok h
    split at h3
    · rename_i hs
      refine ⟨σ.puts gt.a, fun t v ht => ?_, fun c e σ' hr C hC g a w hrep => ?_, h3⟩
      · rw [slotsOnly_ok hs t (by simp)]
        exact hk t v ht
      · obtain ⟨g', hrep'⟩ := hint_ok hrep ⟨gt.ps, gt.rs, h1, h2⟩
        exact hr C hC g' a w hrep'
    · cases h3

theorem exCode_ok (H : TabOk P T) (hB : ∀ t e, T.elem t = some e → 0 < T.bytes e) (hm : P.follows .mixedOrders = true) {R : Type} {N : Nat × Nat} {body : Code} {E : Env P N body} :
    ∀ {c : Code} {p : List Nat} {σ : St} {kn : Kn} {k : Exit → St → Kn → Option R} {r : R}, codeAt body p = c → KnOk kn σ → exCode T E c p σ kn k = some r →
    ∃ e σ' kn', Runs P N c σ e σ' ∧ KnOk kn' σ' ∧ k e σ' kn' = some r
  | .skip, p, σ, kn, k, r, hc, hk, h => ⟨.normal, σ, kn, (fun C hC g a w hr => wp_skip ⟨rfl, g, hr⟩), hk, h⟩
  | .region id ops draw, p, σ, kn, k, r, hc, hk, h => by
    unfold exCode at h
    obtain ⟨σ0, hk0, hre, h⟩ := exHint_ok hk h
    obtain ⟨rw, σ', kn', h1, h2, h3⟩ := exOps_ok hk0 h
    cases draw with
    | true =>
      simp only at h3
      split at h3
      · rename_i hb
        rw [Bool.and_eq_true] at hb
        exact ⟨_, _, _, hre _ (region_runs H hB hm h1 (fun _ => hb)), h2, h3⟩
      · cases h3
    | false => exact ⟨_, _, _, hre _ (region_runs H hB hm h1 (fun e => by cases e)), h2, h3⟩
  | .seq x y, p, σ, kn, k, r, hc, hk, h => by
    unfold exCode at h
    obtain ⟨e, σ1, kn1, h1, h2, h3⟩ := exCode_ok H hB hm (c := x) (p := 0 :: p) (by rw [codeAt, hc]; rfl) hk h
    split at h3
    · obtain ⟨e', σ2, kn2, h4, h5, h6⟩ := exCode_ok H hB hm (c := y) (p := 1 :: p) (by rw [codeAt, hc]; rfl) h2 h3
      exact ⟨e', σ2, kn2, h1.seq h4, h5, h6⟩
    · rename_i he
      exact ⟨e, σ1, kn1, h1.seqOut he, h2, h3⟩
  | .cond c x y, p, σ, kn, k, r, hc, hk, h => by
    unfold exCode at h
    have go : ∀ {v : Bool} {kn' : Kn}, Ev σ ((opd T 0 c).bind asB) v → KnOk kn' σ → (match v with | true => exCode T E x (0 :: p) σ kn' k | false => exCode T E y (1 :: p) σ kn' k) = some r →
        ∃ e σ' kn', Runs P N (.cond c x y) σ e σ' ∧ KnOk kn' σ' ∧ k e σ' kn' = some r := by
      intro v kn' hv hk' h
      cases v with
      | true =>
        obtain ⟨e, σ1, kn1, h1, h2, h3⟩ := exCode_ok H hB hm (c := x) (p := 0 :: p) (by rw [codeAt, hc]; rfl) hk' h
        exact ⟨e, σ1, kn1, Runs.cond hv (by simpa using h1), h2, h3⟩
      | false =>
        obtain ⟨e, σ1, kn1, h1, h2, h3⟩ := exCode_ok H hB hm (c := y) (p := 1 :: p) (by rw [codeAt, hc]; rfl) hk' h
        exact ⟨e, σ1, kn1, Runs.cond hv (by simpa using h1), h2, h3⟩
    split at h
    · rename_i t
      split at h
      · rename_i b hb
        obtain ⟨v, kn', h1, h2, h3⟩ := exKnow_ok hk hb h
        refine go (v := v) ?_ h2 h3
        rw [Ev_bind]
        refine ⟨lit b, ?_, ?_⟩
        · rw [opd, Ev_slot]; exact ⟨_, hb, Ev_ret.2 rfl⟩
        · unfold asB lit; rw [h1]; exact Ev_ret.2 rfl
      · cases h
    · rename_i v
      refine go (v := v) ?_ hk h
      rw [Ev_bind]
      refine ⟨lit v, ?_, ?_⟩
      · rw [opd]
        · simp only [plain, if_true]; exact Ev_ret.2 rfl
        · intro h; cases h
      · unfold asB lit; exact Ev_ret.2 rfl
    · cases h
  | .block id c, p, σ, kn, k, r, hc, hk, h => by
    unfold exCode at h
    obtain ⟨e, σ1, kn1, h1, h2, h3⟩ := exCode_ok H hB hm (c := c) (p := 0 :: p) (by rw [codeAt, hc]; rfl) hk h
    exact ⟨_, σ1, kn1, h1.block, h2, h3⟩
  | .loop c, p, σ, kn, k, r, hc, hk, h => by
    unfold exCode at h
    obtain ⟨e, σ', h1, h2⟩ := exLoop_ok h
    rw [hc] at h1
    exact ⟨e, σ', [], h1, (fun t v ht => by cases ht), h2⟩
  | .exit id, p, σ, kn, k, r, hc, hk, h => ⟨.exit id, σ, kn, (fun C hC g a w hr => wp_exit ⟨rfl, g, hr⟩), hk, h⟩
  | .ret, p, σ, kn, k, r, hc, hk, h => ⟨.ret, σ, kn, (fun C hC g a w hr => wp_ret ⟨rfl, g, hr⟩), hk, h⟩
  | .scope _, p, σ, kn, k, r, hc, hk, h => by cases h

end Go.Pi

/- Shapes of states: a state is told by its shape and its payload. -/
namespace Go.Pi
noncomputable section

inductive SL where
  | val | nilp | ro | fn
  | fix (k j : Nat)
  | nil (t : Ty)
  | tr (o : Nat)
  | bp (o off : Nat)
  | clo (f : FuncId) (caps : List Nat)

inductive SO where
  | box (ls : List SL)
  | rbox (ls : List SL)
  | tree | ret | dead

structure Shp where
  s : List (Nat × Bool × List SL)
  o : List (Nat × SO)

inductive Pay where
  | l (x : Leaf)
  | f (p : FnP)

def fillLV : SL → List Pay → LV × List Pay
  | .val, .l (.val v) :: r => (.val v, r)
  | .nilp, r => (.val (.pointer none), r)
  | .ro, .l (.sl t xs) :: r => (.ro t xs, r)
  | .fix k j, .l (.sl t xs) :: r => (.fix k j t xs, r)
  | .nil t, r => (.nil t, r)
  | .tr o, r => (.tr o, r)
  | .bp o off, r => (.bp o off, r)
  | .clo f caps, r => (.clo f caps, r)
  | .fn, .f p :: r => (.fn p, r)
  | _, r => (.val undef, r)

def fillLVs : List SL → List Pay → List LV × List Pay
  | [], r => ([], r)
  | s :: ss, r => ((fillLV s r).1 :: (fillLVs ss (fillLV s r).2).1, (fillLVs ss (fillLV s r).2).2)

def fillS : List (Nat × Bool × List SL) → List Pay → List (Nat × SV) × List Pay
  | [], r => ([], r)
  | (n, ag, ls) :: ss, r => ((n, .v (ag, (fillLVs ls r).1)) :: (fillS ss (fillLVs ls r).2).1, (fillS ss (fillLVs ls r).2).2)

def fillOb : SO → List Pay → Obj × List Pay
  | .box ls, r => (.box (fillLVs ls r).1, (fillLVs ls r).2)
  | .rbox ls, r => (.rbox (fillLVs ls r).1, (fillLVs ls r).2)
  | .tree, .l (.sl t xs) :: r => (.tree t xs 0, r)
  | .ret, .l (.sl t xs) :: r => (.ret t xs 0, r)
  | _, r => (.dead, r)

def fillO : List (Nat × SO) → List Pay → List (Nat × Obj)
  | [], _ => []
  | (n, x) :: os, r => (n, (fillOb x r).1) :: fillO os (fillOb x r).2

def fillSt (sh : Shp) (pl : List Pay) : St := St.of (fillS sh.s pl).1 (fillO sh.o (fillS sh.s pl).2)

def eqTy (a b : Ty) : Bool := decide (a = b)

def unLV : SL → LV → Option (List Pay)
  | .val, .val v => some [.l (.val v)]
  | .nilp, .val (.pointer none) => some []
  | .ro, .ro t xs => some [.l (.sl t xs)]
  | .fix k j, .fix k' j' t xs => match Nat.beq k k' with
    | true => match Nat.beq j j' with
      | true => some [.l (.sl t xs)]
      | false => none
    | false => none
  | .nil t, .nil t' => match eqTy t t' with
    | true => some []
    | false => none
  | .tr o, .tr o' => match Nat.beq o o' with
    | true => some []
    | false => none
  | .bp o off, .bp o' off' => match Nat.beq o o' with
    | true => match Nat.beq off off' with
      | true => some []
      | false => none
    | false => none
  | .clo f caps, .clo f' caps' => match Nat.beq f f' with
    | true => match eqP caps caps' with
      | true => some []
      | false => none
    | false => none
  | .fn, .fn p => some [.f p]
  | _, _ => none

def unLVs : List SL → List LV → Option (List Pay)
  | [], [] => some []
  | s :: ss, l :: ls => match unLV s l with
    | some a => match unLVs ss ls with
      | some b => some (a ++ b)
      | none => none
    | none => none
  | _, _ => none

def unS : List (Nat × Bool × List SL) → List (Nat × SV) → Option (List Pay)
  | [], [] => some []
  | (n, ag, sls) :: ss, (n', .v (ag', ls)) :: r => match Nat.beq n n' with
    | true => match ag == ag' with
      | true => match unLVs sls ls with
        | some a => match unS ss r with
          | some b => some (a ++ b)
          | none => none
        | none => none
      | false => none
    | false => none
  | _, _ => none

def unOb : SO → Obj → Option (List Pay)
  | .box sls, .box ls => unLVs sls ls
  | .rbox sls, .rbox ls => unLVs sls ls
  | .tree, .tree t xs 0 => some [.l (.sl t xs)]
  | .ret, .ret t xs 0 => some [.l (.sl t xs)]
  | .dead, .dead => some []
  | _, _ => none

def unO : List (Nat × SO) → List (Nat × Obj) → Option (List Pay)
  | [], [] => some []
  | (n, x) :: ss, (n', y) :: r => match Nat.beq n n' with
    | true => match unOb x y with
      | some a => match unO ss r with
        | some b => some (a ++ b)
        | none => none
      | none => none
    | false => none
  | _, _ => none

theorem unLV_ok {s : SL} {l : LV} {a : List Pay} (h : unLV s l = some a) (r : List Pay) : fillLV s (a ++ r) = (l, r) := by
  unfold unLV at h
  split at h
  · simp only [Option.some.injEq] at h; subst h; rfl
  · simp only [Option.some.injEq] at h; subst h; rfl
  · simp only [Option.some.injEq] at h; subst h; rfl
  · split at h
    · rename_i e1
      split at h
      · rename_i e2
        simp only [Option.some.injEq] at h; subst h
        rw [Nat.eq_of_beq_eq_true e1, Nat.eq_of_beq_eq_true e2]; rfl
      · cases h
    · cases h
  · split at h
    · rename_i e1
      simp only [Option.some.injEq] at h; subst h
      rw [of_decide_eq_true e1]; rfl
    · cases h
  · split at h
    · rename_i e1
      simp only [Option.some.injEq] at h; subst h
      rw [Nat.eq_of_beq_eq_true e1]; rfl
    · cases h
  · split at h
    · rename_i e1
      split at h
      · rename_i e2
        simp only [Option.some.injEq] at h; subst h
        rw [Nat.eq_of_beq_eq_true e1, Nat.eq_of_beq_eq_true e2]; rfl
      · cases h
    · cases h
  · split at h
    · rename_i e1
      split at h
      · rename_i e2
        simp only [Option.some.injEq] at h; subst h
        rw [Nat.eq_of_beq_eq_true e1, eqP_ok e2]; rfl
      · cases h
    · cases h
  · simp only [Option.some.injEq] at h; subst h; rfl
  · cases h

theorem unLVs_ok : ∀ {ss : List SL} {ls : List LV} {a : List Pay}, unLVs ss ls = some a → ∀ r, fillLVs ss (a ++ r) = (ls, r)
  | [], [], a, h, r => by simp only [unLVs, Option.some.injEq] at h; subst h; rfl
  | s :: ss, l :: ls, a, h, r => by
    unfold unLVs at h
    split at h
    · rename_i a1 h1
      split at h
      · rename_i b1 h2
        simp only [Option.some.injEq] at h; subst h
        have e1 := unLV_ok h1 (b1 ++ r)
        have e2 := unLVs_ok h2 r
        rw [List.append_assoc, fillLVs, e1, e2]
      · cases h
    · cases h
  | [], _ :: _, a, h, r => by cases h
  | _ :: _, [], a, h, r => by cases h

theorem unS_ok : ∀ {ss : List (Nat × Bool × List SL)} {ls : List (Nat × SV)} {a : List Pay}, unS ss ls = some a → ∀ r, fillS ss (a ++ r) = (ls, r)
  | [], [], a, h, r => by simp only [unS, Option.some.injEq] at h; subst h; rfl
  | (n, ag, sls) :: ss, (n', .v (ag', ls)) :: l, a, h, r => by
    unfold unS at h
    split at h
    · rename_i e1
      split at h
      · rename_i e2
        split at h
        · rename_i a1 h1
          split at h
          · rename_i b1 h2
            simp only [Option.some.injEq] at h; subst h
            have e3 := unLVs_ok h1 (b1 ++ r)
            have e4 := unS_ok h2 r
            rw [List.append_assoc, fillS, e3, e4, Nat.eq_of_beq_eq_true e1, eq_of_beq e2]
          · cases h
        · cases h
      · cases h
    · cases h
  | [], _ :: _, a, h, r => by cases h
  | _ :: _, [], a, h, r => by cases h
  | (n, ag, sls) :: ss, (n', .tup _) :: l, a, h, r => by cases h
  | (n, ag, sls) :: ss, (n', .undef) :: l, a, h, r => by cases h

theorem unOb_ok {s : SO} {x : Obj} {a : List Pay} (h : unOb s x = some a) (r : List Pay) : fillOb s (a ++ r) = (x, r) := by
  unfold unOb at h
  split at h
  · rw [fillOb, unLVs_ok h r]
  · rw [fillOb, unLVs_ok h r]
  · simp only [Option.some.injEq] at h; subst h; rfl
  · simp only [Option.some.injEq] at h; subst h; rfl
  · simp only [Option.some.injEq] at h; subst h; rfl
  · cases h

theorem unO_ok : ∀ {ss : List (Nat × SO)} {ls : List (Nat × Obj)} {a : List Pay}, unO ss ls = some a → ∀ r, fillO ss (a ++ r) = ls
  | [], [], a, h, r => rfl
  | (n, x) :: ss, (n', y) :: l, a, h, r => by
    unfold unO at h
    split at h
    · rename_i e1
      split at h
      · rename_i a1 h1
        split at h
        · rename_i b1 h2
          simp only [Option.some.injEq] at h; subst h
          have e3 := unOb_ok h1 (b1 ++ r)
          rw [List.append_assoc, fillO, e3, unO_ok h2 r, Nat.eq_of_beq_eq_true e1]
        · cases h
      · cases h
    · cases h
  | [], _ :: _, a, h, r => by cases h
  | _ :: _, [], a, h, r => by cases h

/-- How a state comes to a shape: coercions, and the new names of objects. -/
abbrev Plan := List Co × List (Nat × Nat)
def addR (r : List (Nat × Nat)) (o o' : Nat) : List (Nat × Nat) := match look r o with
  | some _ => r
  | none => r ++ [(o, o')]
def addRs (r : List (Nat × Nat)) : List Nat → List Nat → List (Nat × Nat)
  | o :: os, o' :: os' => addRs (addR r o o') os os'
  | _, _ => r
def planLV (c : Loc) (s : SL) (l : LV) (p : Plan) : Plan :=
  match s, l with
  | .ro, .ro _ _ => p
  | .ro, _ => (p.1 ++ [.ro c], p.2)
  | .tr o', .tr o => (p.1, addR p.2 o o')
  | .tr o', .nil _ => (p.1 ++ [.own c (9000000 + o')], p.2 ++ [(9000000 + o', o')])
  | .bp o' _, .bp o _ => (p.1, addR p.2 o o')
  | .clo _ os', .clo _ os => (p.1, addRs p.2 os os')
  | _, _ => p
def planLVs (c : Nat → Loc) : Nat → List SL → List LV → Plan → Plan
  | j, s :: ss, l :: ls, p => planLVs c (j + 1) ss ls (planLV (c j) s l p)
  | _, _, _, p => p
def planS (σ : St) : List (Nat × Bool × List SL) → Plan → Plan
  | [], p => p
  | (n, _, sls) :: ss, p => match σ.s n with
    | some (.v (_, ls)) => planS σ ss (planLVs (.slot n) 0 sls ls p)
    | _ => p
def backR : List (Nat × Nat) → Nat → Option Nat
  | [], _ => none
  | (o, o') :: r, n => match Nat.beq o' n with
    | true => some o
    | false => backR r n
def planO (σ : St) : List (Nat × SO) → Plan → Plan
  | [], p => p
  | (n, x) :: ss, p => match backR p.2 n with
    | some o => match x, σ.o o with
      | .box sls, some (.box ls) => planO σ ss (planLVs (.box o) 0 sls ls p)
      | .rbox sls, some (.rbox ls) => planO σ ss (planLVs (.box o) 0 sls ls p)
      | _, _ => planO σ ss p
    | none => p

def slotsOf : List (Nat × Bool × List SL) → List Nat
  | [] => []
  | x :: xs => x.1 :: slotsOf xs

def canon (sh : Shp) (σ : St) : Option (List Pay) :=
  match planO σ sh.o (planS σ sh.s ([], [])) with
  | (co, ren) => match cosRun co σ with
    | some σ1 => match pick (slotsOf sh.s) ren σ1 with
      | some (ss, os) => match unS sh.s ss with
        | some a => match unO sh.o os with
          | some b => some (a ++ b)
          | none => none
        | none => none
      | none => none
    | none => none

theorem canon_ok {P : Program} {C : Ctx} {sh : Shp} {σ : St} {pl : List Pay} (h : canon sh σ = some pl) {g : Gh} {a : Act} {w : World} (hr : Rep P C σ g a w) : ∃ g', Rep P C (fillSt sh pl) g' a w := by
  unfold canon at h
  split at h
  rename_i co ren _
  split at h
  · rename_i σ1 h1
    split at h
    · rename_i ss os h2
      split at h
      · rename_i a1 h3
        split at h
        · rename_i b1 h4
          simp only [Option.some.injEq] at h; subst h
          obtain ⟨g1, hr1⟩ := cos_ok h1 hr
          obtain ⟨g2, hr2⟩ := anew_ok h2 hr1
          refine ⟨g2, ?_⟩
          unfold fillSt
          rw [unS_ok h3 b1]
          have := unO_ok h4 []
          rw [List.append_nil] at this
          rw [this]
          exact hr2
        · cases h
      · cases h
    · cases h
  · cases h

end
end Go.Pi
