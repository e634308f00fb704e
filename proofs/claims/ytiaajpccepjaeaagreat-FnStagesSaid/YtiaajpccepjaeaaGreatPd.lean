/- A proved interpreter for the model's code, and what it shows of the program's functions: part 4 (IN GTab GIN g3). No condition. -/
import Derived.Test.YtiaajpccepjaeaaGreatPc
import Derived.Shelf.Spec.SlicesInsertGrow
import Derived.Test.YtiaajpccepjaeaaGreatProg
import Derived.KernelRfl
set_option linter.unusedVariables false
set_option linter.unusedSimpArgs false
/- slices.Insert at []int: what is moved in comes back. -/
namespace Go.Pi
open Go.Proofs Go.Shelf
variable {P : Program} {ρ : Go.Shelf.Ren}

noncomputable def g_Insert_int (s : List Int) (i : Int) (v : List Int) : Option (List Int) :=
  need (0 ≤ i ∧ i ≤ (s.length : Int)) (need (v ≠ []) (need (((s.length + v.length : Nat) : Int) * 8 ≤ 140737488355328) (some (s.take i.toNat ++ v ++ s.drop i.toNat))))

def ivs (xs : List Int) : List Value := xs.map (Value.int .i64)
theorem ivs_get {xs : List Int} {j : Nat} {u : Value} (h : (ivs xs)[j]? = some u) : ∃ x, xs[j]? = some x ∧ u = .int .i64 x := by
  unfold ivs at h
  rw [List.getElem?_map, Option.map_eq_some_iff] at h
  obtain ⟨x, h1, h2⟩ := h
  exact ⟨x, h1, h2.symm⟩

theorem ownInts {w : World} {xs : List Int} {blk off cap : Nat} {c : Array Value} {e : TypeId} (hb : w.heap[blk]? = some (.cells c e (0, 0))) (hsz : off + cap ≤ c.size) (hl : xs.length ≤ cap) (h63 : cap ≤ 9223372036854775807)
    (hc : ∀ k x, xs[k]? = some x → c[off + k]? = some (.int .i64 x)) : Own w (.sl (.int .i64) xs) (hdr blk off xs.length cap) (fun b => b = blk) := by
  refine .sl (.int .i64) xs blk off cap c e (fun i _ => .int .i64 (xs.getD i 0)) (fun _ _ _ => False) _ hb (by simpa [width] using hsz) hl h63 (fun i f hi hf => ?_) (fun i x hx f l hlf => ?_) (fun b => ?_) (fun _ _ _ _ h => h) (fun _ _ _ _ _ _ _ _ _ h => h.elim)
  · have hf0 : f = 0 := by have : f < 1 := hf; omega
    subst hf0
    have hx : xs[i]? = some xs[i] := List.getElem?_eq_getElem hi
    have := hc i _ hx
    simp only [width, Nat.mul_one, Nat.add_zero]
    rw [this, List.getD_eq_getElem?_getD, hx]; rfl
  · match f with
    | 0 =>
      have hll : l = .val (.int .i64 x) := by simpa [cells] using hlf.symm
      subst hll
      rw [List.getD_eq_getElem?_getD, hx]
      exact .val _ _ fun _ h => h
    | f + 1 => simp [cells] at hlf
  · constructor
    · exact fun h => .inl h
    · rintro (h | ⟨_, _, _, _, h⟩)
      · exact h
      · exact h.elim

/-- What an owned list of integers is. -/
theorem Own.ints {w : World} {xs : List Int} {v : Value} {S : Nat → Prop} (h : Own w (.sl (.int .i64) xs) v S) : (xs = [] ∧ (∃ a, v = .slice a 0 0) ∧ ∀ b, ¬ S b) ∨
    ∃ (blk off cap : Nat) (c : Array Value) (e : TypeId), v = hdr blk off xs.length cap ∧ w.heap[blk]? = some (.cells c e (0, 0)) ∧ off + cap ≤ c.size ∧ xs.length ≤ cap ∧ cap ≤ 9223372036854775807 ∧ (∀ k x, xs[k]? = some x → c[off + k]? = some (.int .i64 x)) ∧ S blk := by
  generalize hl : Leaf.sl (.int .i64) xs = l at h
  cases h with
  | val v S hS => cases hl
  | nil t a S hS =>
    simp only [Leaf.sl.injEq] at hl
    obtain ⟨rfl, hl⟩ := hl
    have hl := eq_of_heq hl; subst hl
    exact .inl ⟨rfl, ⟨a, rfl⟩, hS⟩
  | sl t xs' blk off cap c e V F S hb hsz hlen h63 hc hn hS hself hdis =>
    simp only [Leaf.sl.injEq] at hl
    obtain ⟨rfl, hl⟩ := hl
    have hl := eq_of_heq hl; subst hl
    refine .inr ⟨blk, off, cap, c, e, rfl, hb, by simpa [width] using hsz, hlen, h63, fun k x hx => ?_, (hS _).2 (.inl rfl)⟩
    have hk : k < xs.length := (List.getElem?_eq_some_iff.1 hx).1
    have h1 := hc k 0 hk (by simp [width])
    simp only [width, Nat.mul_one, Nat.add_zero] at h1
    have h2 := hn k x hx 0 (.val (.int .i64 x)) rfl
    rw [h1]
    generalize V k 0 = u at h2
    cases h2
    rfl

theorem take_get {xs v : List Int} {i k : Nat} (hi : i ≤ xs.length) : (xs.take i ++ v ++ xs.drop i)[k]? = if k < i then xs[k]? else if k < i + v.length then v[k - i]? else xs[k - v.length]? := by
  have hl : (xs.take i).length = i := by rw [List.length_take]; omega
  rw [List.append_assoc]
  by_cases h1 : k < i
  · rw [if_pos h1, List.getElem?_append_left (by omega), List.getElem?_take, if_pos h1]
  · rw [if_neg h1, List.getElem?_append_right (by omega), hl]
    by_cases h2 : k < i + v.length
    · rw [if_pos h2, List.getElem?_append_left (by omega)]
    · rw [if_neg h2, List.getElem?_append_right (by omega), List.getElem?_drop]
      congr 1; omega

theorem Up.drew (w : World) : Up w w.drew := ⟨Nat.le_refl _, rfl, rfl⟩
theorem intSplit {i0 : Int} (h : 0 ≤ i0) : ∃ i : Nat, i0 = (i : Int) := ⟨i0.toNat, by omega⟩

theorem insert_int_c (L : Lays2.n21 P ρ) : FnC P (ρ.f 21) [.mv (.sl (.int .i64)), .v (.int .i64), .mv (.sl (.int .i64))] [.sl (.int .i64)] (fun x => g_Insert_int x.1 x.2.1 x.2.2) := by
  rintro ⟨s, i0, v⟩ r hr
  have hr : g_Insert_int s i0 v = some r := hr
  unfold g_Insert_int at hr
  obtain ⟨hi, hr⟩ := need_some hr
  obtain ⟨hv, hr⟩ := need_some hr
  obtain ⟨hbig, hr⟩ := need_some hr
  obtain rfl := Option.some.inj hr
  obtain ⟨i, rfl⟩ := intSplit hi.1
  have hin : i ≤ s.length := by omega
  have hm : 0 < v.length := by
    rcases Nat.eq_zero_or_pos v.length with h | h
    · exact absurd (List.eq_nil_of_length_eq_zero h) hv
    · exact h
  have hbig' : (s.length + v.length) * 8 ≤ 140737488355328 := by omega
  simp only [Int.toNat_natCast]
  show PCall P (ρ.f 21) [.mv (false, [.sl (.int .i64) s]), .v (false, [.val (.int .i64 (i : Int))]), .mv (false, [.sl (.int .i64) v])] (.one (false, [.sl (.int .i64) (s.take i ++ v ++ s.drop i)]))
  refine ⟨⟨_, L.f21, by rfl, by rfl⟩, ?_⟩
  intro w vs S hlen hSb hSd harg
  match vs, hlen with
  | [v0, v1, v2], _ =>
    obtain ⟨us0, e0, _, l0, o0, _⟩ := harg 0 _ v0 rfl rfl
    obtain ⟨_, us1, e1, r1, _⟩ := harg 1 _ v1 rfl rfl
    obtain ⟨us2, e2, _, l2, o2, _⟩ := harg 2 _ v2 rfl rfl
    obtain ⟨u1, rfl, hr1⟩ := r1.one
    cases hr1
    match us0, l0 with
    | [u0], _ =>
      match us2, l2 with
      | [u2], _ =>
        rw [mkv_one] at e0 e1 e2
        subst e0 e1 e2
        have ho0 := o0 0 _ _ rfl rfl
        have ho2 := o2 0 _ _ rfl rfl
        have hlr : (s.take i ++ v ++ s.drop i).length = s.length + v.length := by simp; omega
        -- how it ends
        have done : ∀ {w' : World} {blk off cap : Nat} {c' : Array Value} {el : TypeId}, Up w w' → (∀ b, b < w.heap.size → ¬ (∃ k j, S k j b) → w'.heap[b]? = w.heap[b]?) → w'.heap[blk]? = some (.cells c' el (0, 0)) → off + cap ≤ c'.size →
            s.length + v.length ≤ cap → cap ≤ 9223372036854775807 → (∀ k x, (s.take i ++ v ++ s.drop i)[k]? = some x → c'[off + k]? = some (.int .i64 x)) → (S 0 0 blk ∨ (w.heap.size ≤ blk ∧ blk < w'.heap.size)) →
            ∃ rv, Ending.returned (Value.slice (some ⟨blk, off, none⟩) (s.length + v.length) cap) = .returned rv ∧ Up w w' ∧
              (∀ b, b < w.heap.size → ¬ (∃ k j, S k j b) → w'.heap[b]? = w.heap[b]?) ∧
              (∀ (k : Nat) a v', ([.mv (false, [.sl (.int .i64) s]), .v (false, [.val (.int .i64 (i : Int))]), .mv (false, [.sl (.int .i64) v])] : List AD)[k]? = some a → [v0, Value.int .i64 (i : Int), v2][k]? = some v' → ArgAfter w w' v' (S k) a) ∧
              ResOk w w' [.mv (false, [.sl (.int .i64) s]), .v (false, [.val (.int .i64 (i : Int))]), .mv (false, [.sl (.int .i64) v])] [v0, Value.int .i64 (i : Int), v2] (fun b => (w.heap.size ≤ b ∧ b < w'.heap.size) ∨ ∃ (k : Nat) (j : Nat) (a : AD), ([.mv (false, [.sl (.int .i64) s]), .v (false, [.val (.int .i64 (i : Int))]), .mv (false, [.sl (.int .i64) v])] : List AD)[k]? = some a ∧ a.moves = true ∧ S k j b) rv
                (.one (false, [.sl (.int .i64) (s.take i ++ v ++ s.drop i)])) := by
          intro w' blk off cap c' el hsz hold hb hcs hcap h63 hcc hwhere
          refine ⟨_, rfl, hsz, hold, ?_, ?_⟩
          · intro k a v' ha _
            match k with
            | 0 => simp only [List.getElem?_cons_zero, Option.some.injEq] at ha; subst ha; trivial
            | 1 => simp only [List.getElem?_cons_succ, List.getElem?_cons_zero, Option.some.injEq] at ha; subst ha; trivial
            | 2 => simp only [List.getElem?_cons_succ, List.getElem?_cons_zero, Option.some.injEq] at ha; subst ha; trivial
            | k + 3 => simp at ha
          · have hO := ownInts (w := w') hb hcs (by rw [hlr]; exact hcap) h63 hcc
            rw [hlr] at hO
            refine ⟨[_], fun j b => j = 0 ∧ b = blk, rfl, ⟨rfl, fun j l u hl hu => ?_, fun j b hb' => ?_, fun a b c h1 h2 => by omega⟩, fun _ => rfl⟩
            · match j with
              | 0 =>
                simp only [List.getElem?_cons_zero, Option.some.injEq] at hl hu
                subst hl; subst hu
                exact hO.congr fun b => by simp
              | j + 1 => simp at hl
            · obtain ⟨_, rfl⟩ := hb'
              rcases hwhere with h1 | h1
              · exact .inr ⟨0, 0, _, rfl, rfl, h1⟩
              · exact .inl h1
        -- what is put in
        rcases Own.ints ho2 with ⟨h, _⟩ | ⟨vb, voff, vc, cv, ev, rfl, hvb, hvsz, hvlen, _, hvcc, hvS⟩
        · exact absurd h hv
        have hvs : ∀ j u, (ivs v)[j]? = some u → w.cell? ⟨vb, voff + j, none⟩ = some u := fun j u hu => by
          obtain ⟨x, h1, rfl⟩ := ivs_get hu
          rw [World.cell_of_heap hvb]; exact hvcc j x h1
        have h1v : ∀ (l : List Int), ∀ u ∈ ivs l, u.oneCell' = true := fun l u hu => by
          obtain ⟨x, _, rfl⟩ := List.mem_map.1 hu; rfl
        have hvl : (ivs v).length = v.length := by simp [ivs]
        have hcl : (ivs s).length = s.length := by simp [ivs]
        -- a new row at the end
        have endGrow : ∀ (base : Option Addr) (n c : Nat), n = s.length → i = n → n ≤ c → c < n + v.length → (base = none → n = 0) → (∀ a, base = some a → ∀ j u, (ivs s)[j]? = some u → w.cell? (a.add j) = some u) →
            Calls P (ρ.f 21) #[.slice base n c, .int .i64 (i : Int), .slice (some ⟨vb, voff, none⟩) v.length vc] w fun e w' => ∃ rv, e = .returned rv ∧ Up w w' ∧
              (∀ b, b < w.heap.size → ¬ (∃ k j, S k j b) → w'.heap[b]? = w.heap[b]?) ∧
              (∀ (k : Nat) a v', ([.mv (false, [.sl (.int .i64) s]), .v (false, [.val (.int .i64 (i : Int))]), .mv (false, [.sl (.int .i64) v])] : List AD)[k]? = some a → [v0, Value.int .i64 (i : Int), hdr vb voff v.length vc][k]? = some v' → ArgAfter w w' v' (S k) a) ∧
              ResOk w w' [.mv (false, [.sl (.int .i64) s]), .v (false, [.val (.int .i64 (i : Int))]), .mv (false, [.sl (.int .i64) v])] [v0, Value.int .i64 (i : Int), hdr vb voff v.length vc] (fun b => (w.heap.size ≤ b ∧ b < w'.heap.size) ∨ ∃ (k : Nat) (j : Nat) (a : AD), ([.mv (false, [.sl (.int .i64) s]), .v (false, [.val (.int .i64 (i : Int))]), .mv (false, [.sl (.int .i64) v])] : List AD)[k]? = some a ∧ a.moves = true ∧ S k j b) rv
                (.one (false, [.sl (.int .i64) (s.take i ++ v ++ s.drop i)])) := by
          intro base n c hn hii hnc hroom hnil hcs
          subst hn; subst hii
          refine (Any2.slices_Insert_int_end_grow L base s.length c vb voff v.length vc (ivs s) (ivs v) w hm hnc hroom hbig' hcl hvl hnil hcs hvs (h1v v)).mono ?_
          rintro e w' ⟨rfl, rfl⟩
          have hg := grownCap_le w (s.length + v.length) c (ρ.t 3)
          refine done (off := 0) (cap := grownCap w (s.length + v.length) c (ρ.t 3)) (c' := ((ivs s ++ ivs v).toArray ++ Builtin.zeroCells (Value.int .i64 0).cells (grownCap w (s.length + v.length) c (ρ.t 3) - (s.length + v.length)))) (el := ρ.t 3) ⟨by show w.heap.size ≤ (w.heap.push _).size; rw [Array.size_push]; omega, rfl, rfl⟩ (fun b hb _ => heap_alloc_lt (w := w.drew) _ hb) (heap_alloc_new (w := w.drew) _) (by simp [Builtin.zeroCells, Value.cells, ivs]; omega) hg (grownCap_le_maxLen _ _ _ _ (by unfold maxLen; omega)) (fun k x hx => ?_) (.inr ⟨Nat.le_refl _, by show w.heap.size < (w.heap.push _).size; rw [Array.size_push]; omega⟩)
          rw [take_get hin] at hx
          rw [Nat.zero_add, Array.getElem?_append]
          have hsz : (ivs s ++ ivs v).toArray.size = s.length + v.length := by simp [ivs]
          have hk : k < s.length + v.length := by
            rcases Nat.lt_or_ge k (s.length + v.length) with h | h
            · exact h
            · rw [if_neg (by omega), if_neg (by omega), List.getElem?_eq_none (by omega)] at hx; cases hx
          rw [if_pos (by omega)]
          simp only [List.getElem?_toArray]
          by_cases h1 : k < s.length
          · rw [if_pos h1] at hx
            rw [List.getElem?_append_left (by omega)]
            simp [ivs, hx]
          · rw [if_neg h1, if_pos hk] at hx
            rw [List.getElem?_append_right (by omega), hcl]
            simp [ivs, hx]
        rcases Own.ints ho0 with ⟨hs, ⟨aa, rfl⟩, _⟩ | ⟨b, off, cap, c, ec, rfl, hb, hcsz, hclen, h63, hcc, hbS⟩
        · have hs0 : s.length = 0 := by rw [hs]; rfl
          exact endGrow aa 0 0 hs0.symm (by omega) (Nat.le_refl _) (by omega) (fun _ => rfl) (fun a _ j u hu => by obtain ⟨x, h1, _⟩ := ivs_get hu; rw [hs] at h1; cases h1)
        · have hcs : ∀ j u, (ivs s)[j]? = some u → w.cell? ⟨b, off + j, none⟩ = some u := fun j u hu => by
            obtain ⟨x, h1, rfl⟩ := ivs_get hu
            rw [World.cell_of_heap hb]; exact hcc j x h1
          have hne : vb ≠ b := fun e => by
            rw [e] at hvS
            have := (hSd _ _ _ _ _ hvS hbS).1
            cases this
          have hsp : ∀ j, j < cap → (w.cell? ⟨b, off + j, none⟩).isSome = true := fun j hj => by
            rw [World.cell_of_heap hb, Array.getElem?_eq_getElem (by omega)]; rfl
          have hfz : ∀ a : Addr, a.block = b → w.frozen? a = false := fun a ha => by simp [World.frozen?, ha, hb]
          have hfv : ∀ a : Addr, a.block = vb → w.frozen? a = false := fun a ha => by simp [World.frozen?, ha, hvb]
          have hcells : (hdr b off s.length cap) = .slice (some ⟨b, off, none⟩) s.length cap := rfl
          by_cases hroom : s.length + v.length ≤ cap
          · have hkeep : ∀ (w' : World), (∀ x, x ≠ b → w'.heap[x]? = w.heap[x]?) → ∀ x, x < w.heap.size → ¬ (∃ k j, S k j x) → w'.heap[x]? = w.heap[x]? := fun w' h x _ hx => h x fun e => hx ⟨0, 0, e ▸ hbS⟩
            by_cases hii : i < s.length
            · refine (Any2.slices_Insert_int_shift L b off s.length cap i vb voff v.length vc (ivs s) (ivs v) w hii hm hroom h63 hne hcl hvl hcs (fun j hj => hsp j (by omega)) (fun j _ => hfz _ rfl) hvs (h1v s) (h1v v) ev ec cv.size c.size (by simp [World.shape?, hvb]) (by simp [World.shape?, hb]) (by omega) (hfv _ rfl) (hfv _ rfl)).mono ?_
              rintro e w' ⟨rfl, rfl⟩
              have hd : ((ivs s).drop i).length = s.length - i := by rw [List.length_drop, hcl]
              obtain ⟨c1, q1, q2⟩ := heap_setCells_same b ((ivs s).drop i) (off + (i + v.length)) w.drew c ec (0, 0) hb (by rw [hd]; omega)
              have hc1 : c1.size = c.size := by rw [← Array.length_toList, q2, length_splice _ _ _ (by rw [hd]; simp; omega)]; simp
              obtain ⟨c2, q3, q4⟩ := heap_setCells_same b (ivs v) (off + i) (w.drew.setCells b (off + (i + v.length)) ((ivs s).drop i)) c1 ec (0, 0) q1 (by rw [hvl]; omega)
              have hc2 : c2.size = c.size := by rw [← Array.length_toList, q4, length_splice _ _ _ (by rw [hvl]; simp; omega)]; simpa using hc1
              refine done (off := off) (cap := cap) ((Up.drew _).trans ((Up.setCells _ _ _ _).trans (Up.setCells _ _ _ _))) (hkeep _ fun x hx => by rw [heap_setCells_other _ _ _ _ _ hx, heap_setCells_other _ _ _ _ _ hx]; rfl) q3 (by omega) hroom h63 (fun k x hx => ?_) (.inl hbS)
              rw [take_get hin] at hx
              rw [← Array.getElem?_toList, q4, splice_get _ _ _ (by rw [hvl]; simp; omega), q2, hvl]
              by_cases h1 : k < i
              · rw [if_pos h1] at hx
                rw [if_pos (by omega), splice_get _ _ _ (by rw [hd]; simp; omega), if_pos (by omega)]
                simpa using hcc k x hx
              · rw [if_neg h1] at hx
                by_cases h2 : k < i + v.length
                · rw [if_pos h2] at hx
                  rw [if_neg (by omega), if_pos (by omega), show off + k - (off + i) = k - i by omega]
                  simp [ivs, hx]
                · rw [if_neg h2] at hx
                  have hk : k - v.length < s.length := (List.getElem?_eq_some_iff.1 hx).1
                  rw [if_neg (by omega), if_neg (by omega), splice_get _ _ _ (by rw [hd]; simp; omega), if_neg (by omega), if_pos (by rw [hd]; omega), show off + k - (off + (i + v.length)) = k - v.length - i by omega, List.getElem?_drop, show i + (k - v.length - i) = k - v.length by omega]
                  simp [ivs, hx]
            · have hii : i = s.length := by omega
              have hic : ((i : Nat) : Int) = ((s.length : Nat) : Int) := by rw [hii]
              rw [hic]
              refine (Any2.slices_Insert_int_end_room L b off s.length cap vb voff v.length vc (ivs v) w hm hroom h63 hvl (fun j hj => by rw [Nat.add_assoc]; exact hsp _ (by omega)) (fun j _ => hfz _ rfl) hvs (h1v v)).mono ?_
              rintro e w' ⟨rfl, rfl⟩
              obtain ⟨c2, q3, q4⟩ := heap_setCells_same b (ivs v) (off + s.length) w c ec (0, 0) hb (by rw [hvl]; omega)
              have hc2 : c2.size = c.size := by rw [← Array.length_toList, q4, length_splice _ _ _ (by rw [hvl]; simp; omega)]; simp
              rw [← hic]
              refine done (off := off) (cap := cap) (Up.setCells _ _ _ _) (hkeep _ fun x hx => by rw [heap_setCells_other _ _ _ _ _ hx]) q3 (by omega) hroom h63 (fun k x hx => ?_) (.inl hbS)
              rw [take_get hin] at hx
              rw [← Array.getElem?_toList, q4, splice_get _ _ _ (by rw [hvl]; simp; omega), hvl]
              by_cases h1 : k < i
              · rw [if_pos h1] at hx
                rw [if_pos (by omega)]
                simpa using hcc k x hx
              · rw [if_neg h1] at hx
                by_cases h2 : k < i + v.length
                · rw [if_pos h2] at hx
                  rw [if_neg (by omega), if_pos (by omega), show off + k - (off + s.length) = k - i by omega]
                  simp [ivs, hx]
                · rw [if_neg h2, List.getElem?_eq_none (by omega)] at hx; cases hx
          · by_cases hii : i < s.length
            · refine (Any2.slices_Insert_int_grow L b off s.length cap i vb voff v.length vc (ivs s) (ivs v) w hii hm hclen (by omega) hbig' hcl hvl hcs hvs (h1v s) (h1v v)).mono ?_
              rintro e w' ⟨rfl, rfl⟩
              have hg := grownCap_le w (s.length + v.length) cap (ρ.t 3)
              have hd : ((ivs s).drop i).length = s.length - i := by rw [List.length_drop, hcl]
              generalize hROW : (((ivs s).take i).toArray ++ Builtin.zeroCells (Value.int .i64 0).cells (s.length + v.length - i) ++ Builtin.zeroCells (Value.int .i64 0).cells (grownCap w (s.length + v.length) cap (ρ.t 3) - (s.length + v.length))) = ROW
              have hRs : ROW.size = grownCap w (s.length + v.length) cap (ρ.t 3) := by
                rw [← hROW]
                simp [Builtin.zeroCells, Value.cells, ivs]
                omega
              have hR1 : ∀ k x, k < i → s[k]? = some x → ROW[k]? = some (.int .i64 x) := fun k x hk hx => by
                rw [← hROW, Array.getElem?_append, if_pos (by simp [ivs]; omega), Array.getElem?_append, if_pos (by simp [ivs]; omega)]
                simp [ivs, List.getElem?_take, hk, hx]
              have hnew := heap_alloc_new (w := w) (.cells ROW (ρ.t 3))
              obtain ⟨c1, q1, q2⟩ := heap_setCells_same w.heap.size (ivs v) i (w.alloc (.cells ROW (ρ.t 3))).drew ROW (ρ.t 3) (0, 0) hnew (by rw [hvl]; omega)
              have hc1 : c1.size = ROW.size := by rw [← Array.length_toList, q2, length_splice _ _ _ (by rw [hvl]; simp; omega)]; simp
              obtain ⟨c2, q3, q4⟩ := heap_setCells_same w.heap.size ((ivs s).drop i) (i + v.length) ((w.alloc (.cells ROW (ρ.t 3))).drew.setCells w.heap.size i (ivs v)).drew c1 (ρ.t 3) (0, 0) q1 (by rw [hd]; omega)
              have hc2 : c2.size = ROW.size := by rw [← Array.length_toList, q4, length_splice _ _ _ (by rw [hd]; simp; omega)]; simpa using hc1
              have hsz' : w.heap.size < ((((w.alloc (.cells ROW (ρ.t 3))).drew.setCells w.heap.size i (ivs v)).drew).setCells w.heap.size (i + v.length) ((ivs s).drop i)).heap.size := by
                rw [size_setCells]
                show _ < ((w.alloc (.cells ROW (ρ.t 3))).drew.setCells w.heap.size i (ivs v)).heap.size
                rw [size_setCells]
                show _ < (w.heap.push _).size
                rw [Array.size_push]; omega
              refine done (off := 0) (cap := grownCap w (s.length + v.length) cap (ρ.t 3)) ((Up.alloc w _).trans ((Up.drew _).trans ((Up.setCells _ _ _ _).trans ((Up.drew _).trans (Up.setCells _ _ _ _))))) (fun x hx _ => ?_) q3 (by omega) hg (grownCap_le_maxLen _ _ _ _ (by unfold maxLen; omega)) (fun k x hx => ?_) (.inr ⟨Nat.le_refl _, hsz'⟩)
              · rw [heap_setCells_other _ _ _ _ _ (by omega)]
                show ((w.alloc (.cells ROW (ρ.t 3))).drew.setCells w.heap.size i (ivs v)).heap[x]? = _
                rw [heap_setCells_other _ _ _ _ _ (by omega)]
                exact heap_alloc_lt _ hx
              · rw [take_get hin] at hx
                rw [← Array.getElem?_toList, q4, splice_get _ _ _ (by rw [hd]; simp; omega), hd, Nat.zero_add]
                by_cases h1 : k < i
                · rw [if_pos h1] at hx
                  rw [if_pos (by omega), q2, splice_get _ _ _ (by rw [hvl]; simp; omega), if_pos h1]
                  simpa using hR1 k x h1 hx
                · rw [if_neg h1] at hx
                  by_cases h2 : k < i + v.length
                  · rw [if_pos h2] at hx
                    rw [if_pos h2, q2, splice_get _ _ _ (by rw [hvl]; simp; omega), if_neg h1, if_pos (by omega)]
                    simp [ivs, hx]
                  · rw [if_neg h2] at hx
                    have hk : k - v.length < s.length := (List.getElem?_eq_some_iff.1 hx).1
                    rw [if_neg h2, if_pos (by omega), List.getElem?_drop, show i + (k - (i + v.length)) = k - v.length by omega]
                    simp [ivs, hx]
            · exact endGrow (some ⟨b, off, none⟩) s.length cap rfl (by omega) hclen (by omega) (fun h => by cases h) (fun a ha j u hu => by
                simp only [Option.some.injEq] at ha
                subst ha
                rw [Addr.add_mid]; exact hcs j u hu)

end Go.Pi

namespace Go.Pi
open Go.Proofs

def tabL : List (Nat × TEntry) := [
  (2, ⟨.int .i64, 8, none, []⟩),
  (3, ⟨.int .i64, 8, none, []⟩),
  (4, ⟨.bool, 1, none, []⟩),
  (5, ⟨.int .u8, 1, none, []⟩),
  (6, ⟨.int .u8, 1, none, []⟩),
  (9, ⟨.str, 16, none, []⟩),
  (10, ⟨.str, 16, none, []⟩),
  (11, ⟨.str, 16, none, []⟩),
  (12, ⟨.int .u64, 8, none, []⟩),
  (21, ⟨.int .i32, 4, none, []⟩),
  (22, ⟨.sl (.int .u8), 24, some 5, []⟩),
  (24, ⟨.sl (.int .i64), 24, some 3, []⟩),
  (25, ⟨.sl (.st .endpoint), 24, some 42, []⟩),
  (26, ⟨.st .rollout, 48, none, [(0, 1), (1, 1), (2, 1), (3, 1)]⟩),
  (27, ⟨.st .rollout, 48, none, [(0, 1), (1, 1), (2, 1), (3, 1)]⟩),
  (28, ⟨.sl (.st .dialed), 24, some 56, []⟩),
  (29, ⟨.sl (.st .logged), 24, some 77, []⟩),
  (30, ⟨.st .world, 216, none, [(0, 1), (1, 1), (2, 1), (3, 1), (4, 4), (8, 1), (9, 1), (10, 1), (11, 1), (12, 1), (13, 1), (14, 1)]⟩),
  (31, ⟨.st .world, 216, none, [(0, 1), (1, 1), (2, 1), (3, 1), (4, 4), (8, 1), (9, 1), (10, 1), (11, 1), (12, 1), (13, 1), (14, 1)]⟩),
  (40, ⟨.sl (.st .box), 24, some 81, []⟩),
  (41, ⟨.st .endpoint, 80, none, [(0, 1), (1, 1), (2, 1), (3, 1)]⟩),
  (42, ⟨.st .endpoint, 80, none, [(0, 1), (1, 1), (2, 1), (3, 1)]⟩),
  (53, ⟨.st .deal, 40, none, [(0, 1), (1, 1), (2, 1)]⟩),
  (54, ⟨.st .deal, 40, none, [(0, 1), (1, 1), (2, 1)]⟩),
  (55, ⟨.st .dialed, 72, none, [(0, 3), (3, 1), (4, 1)]⟩),
  (56, ⟨.st .dialed, 72, none, [(0, 3), (3, 1), (4, 1)]⟩),
  (68, ⟨.sl (.sl (.int .i64)), 24, some 24, []⟩),
  (76, ⟨.st .logged, 96, none, [(0, 1), (1, 1), (2, 1), (3, 5)]⟩),
  (77, ⟨.st .logged, 96, none, [(0, 1), (1, 1), (2, 1), (3, 5)]⟩),
  (80, ⟨.st .box, 64, none, [(0, 1), (1, 1), (2, 1), (3, 1)]⟩),
  (81, ⟨.st .box, 64, none, [(0, 1), (1, 1), (2, 1), (3, 1)]⟩),
  (88, ⟨.st .cur, 40, none, [(0, 1), (1, 1), (2, 1)]⟩),
  (89, ⟨.st .cur, 40, none, [(0, 1), (1, 1), (2, 1)]⟩),
  (103, ⟨.sl (.st .event), 24, some 123, []⟩),
  (108, ⟨.sl (.st .ext), 24, some 129, []⟩),
  (109, ⟨.st .hello, 48, none, [(0, 1), (1, 1)]⟩),
  (110, ⟨.st .hello, 48, none, [(0, 1), (1, 1)]⟩),
  (122, ⟨.st .event, 80, none, [(0, 1), (1, 1), (2, 4)]⟩),
  (123, ⟨.st .event, 80, none, [(0, 1), (1, 1), (2, 4)]⟩),
  (128, ⟨.st .ext, 32, none, [(0, 1), (1, 1)]⟩),
  (129, ⟨.st .ext, 32, none, [(0, 1), (1, 1)]⟩),
  (130, ⟨.int .u64, 8, none, []⟩),
  (159, ⟨.st .answer, 32, none, [(0, 1), (1, 1)]⟩),
  (160, ⟨.st .answer, 32, none, [(0, 1), (1, 1)]⟩),
  (178, ⟨.sl (.st .edit), 24, some 180, []⟩),
  (179, ⟨.st .edit, 16, none, [(0, 1), (1, 1)]⟩),
  (180, ⟨.st .edit, 16, none, [(0, 1), (1, 1)]⟩),
  (196, ⟨.int .u32, 4, none, []⟩),
  (199, ⟨.int .u64, 8, none, []⟩),
  (214, ⟨.int .u8, 1, none, []⟩),
  (215, ⟨.int .u8, 1, none, []⟩),
  (218, ⟨.int .i32, 4, none, []⟩),
  (219, ⟨.int .i32, 4, none, []⟩)]
noncomputable def T : Tab := Tab.ofList tabL
theorem tabFacts : tabL.map (fun p => factsAt Tryz.prog p.1) = tabL.map (fun p => p.2.facts) := by kernel_rfl
theorem tabFine : tabL.all (fun p => p.2.fine tabL) = true := by kernel_rfl
theorem mixed : Tryz.prog.follows .mixedOrders = true := by kernel_rfl
theorem tabOk : TabOk Tryz.prog T := (tabOk_of mixed tabFacts tabFine).1
theorem tabB : ∀ t e, T.elem t = some e → 0 < T.bytes e := (tabOk_of mixed tabFacts tabFine).2
end Go.Pi

namespace Go.Pi
open Go.Proofs Go.Shelf
def rho21 : Go.Shelf.Ren := ⟨fun | 21 => 92 | 27 => 125 | 28 => 126 | 35 => 155 | 39 => 202 | n => n, fun | 22 => 24 | n => n, fun n => n⟩
theorem lays21 : Lays2.n21 Tryz.prog rho21 where
  mixed := mixed
  f21 := by kernel_rfl
  f27 := by kernel_rfl
  f28 := by kernel_rfl
  f35 := by kernel_rfl
  f39 := by kernel_rfl
  t0 := by kernel_rfl
  a0 := fun w => by kernel_rfl
  z0 := fun w => by kernel_rfl
  v0 := fun w => by kernel_rfl
  t3 := by kernel_rfl
  a3 := fun w => by kernel_rfl
  z3 := fun w => by kernel_rfl
  v3 := fun w => by kernel_rfl
  t4 := by kernel_rfl
  a4 := fun w => by kernel_rfl
  z4 := fun w => by kernel_rfl
  v4 := fun w => by kernel_rfl
  t22 := by kernel_rfl
  a22 := fun w => by kernel_rfl
  z22 := fun w => by kernel_rfl
  v22 := fun w => by kernel_rfl
  i3 := by kernel_rfl
theorem g_Insert_int_c : FnC Tryz.prog 92 [.mv (.sl (.int .i64)), .v (.int .i64), .mv (.sl (.int .i64))] [.sl (.int .i64)] (fun x => g_Insert_int x.1 x.2.1 x.2.2) := by
  have h := insert_int_c lays21
  have e : rho21.f 21 = 92 := by kernel_rfl
  rw [e] at h
  exact h
noncomputable def g_Insert_int_e : Entry Tryz.prog := .of g_Insert_int_c
end Go.Pi


namespace Go.Pi
open Go.Proofs
noncomputable section


/- laws.big -/
def w_big (code : List Int) : Option Bool :=
  some (decide (((code.length : Nat) : Int) > 1048576))
theorem w_big_c : FnC Tryz.prog 6 [.v (.sl (.int .u8))] [.bool] (fun x => w_big x) :=
  FnC.of (body := bodyOf Tryz.f6) (N := (0, 6)) tabOk tabB mixed Tryz.func6 (by kernel_rfl) (by kernel_rfl) (fun _ => by kernel_rfl) ⟨[], [], [], []⟩ (fun _ => by kernel_rfl) (fun x => by kernel_rfl)
def w_big_e : Entry Tryz.prog := .of w_big_c
def w_big_k : CloE Tryz.prog := .one (k := 6) (t := .sl (.int .u8)) (cts := []) ⟨_, Tryz.func6, by kernel_rfl, by kernel_rfl⟩ (fun x c => w_big x) (fun x c r h => w_big_c x r h)

/- spec.l1New -/
def s_l1New_B0 {R : Type} (a0_1 : List Int) (a0_5 : Int) (a0_7 : Int) (nx : Int → Int → Option R) (x0 : Int → Option R) : Option R :=
  fork (decide (a0_7 < ((a0_1.length : Nat) : Int))) (fork (decide (a0_7 < 4000)) (need (0 ≤ a0_7 ∧ a0_7 < ((a0_1.length : Nat) : Int)) (
  nx (w64 ((BitVec.ofInt IntKind.i64.bits (w64 ((w64 ((w64 (a0_5 * 137)) + (w64 (a0_1.getD a0_7.toNat (dflt (.int .u8)))))) + 11)) &&& BitVec.ofInt IntKind.i64.bits 1073741823).toNat : Int)) (w64 (a0_7 + 1))
 )) (x0 a0_5)) (x0 a0_5)
def s_l1New_S0 : LoopS := ⟨⟨[(0, false, [.fix 0 0]), (2, false, [.nilp]), (3, false, [.val]), (4, false, [.val])], []⟩, [some 0, none, none], [.v (.sl (.int .u8))], [.v (.int .i64), .v (.int .i64)],
  [⟨.exit 0, ⟨[(0, false, [.fix 0 0]), (2, false, [.nilp]), (3, false, [.val])], []⟩, [some 0, none], [.v (.int .i64)]⟩]⟩
def s_l1New_W0 : LoopB s_l1New_S0 := fun R c p nx ex => s_l1New_B0 c p.1 p.2 (fun v0 v1 => nx (v0, v1)) (fun v0 => ex v0)
def s_l1New_L0 (a0_1 : List Int) (n : Nat) (a0_5 : Int) (a0_7 : Int) : Option Int := @loopF (List Int) (Int × Int) Int (s_l1New_W0 _) a0_1 n (a0_5, a0_7)
def s_l1New_E0 : Env Tryz.prog (0, 32) (bodyOf Tryz.f38) := ⟨[], [], [], []⟩
theorem s_l1New_b0 : BodyOk T s_l1New_E0 [0, 1, 0, 1, 1] s_l1New_S0 s_l1New_W0 := fun R c p nx ex => by kernel_rfl
def s_l1New (code : List Int) : Option CurV :=
  bnd (s_l1New_L0 code big (w64 (193017 + ((code.length : Nat) : Int))) 0) fun y1 => some (⟨code, 0, y1⟩ : CurV)
theorem s_l1New_c : ∀ (xs : List Int) (r : CurV), s_l1New xs = some r → PCall Tryz.prog 38 [.v (false, [.sl (.int .u8) xs])] (.ptr (cells (.st .cur) r)) := ptrC (t := .int .u8) (rt := .st .cur) (d := 2) (F := s_l1New) (body := bodyOf Tryz.f38) (N := (0, 32)) tabOk tabB mixed Tryz.func38 (by kernel_rfl) (by kernel_rfl) (by kernel_rfl) (by have := Tryz.ntmps38; omega) ⟨[], [], [⟨[0, 1, 0, 1, 1], LoopE.of tabOk tabB mixed s_l1New_E0 [0, 1, 0, 1, 1] (by kernel_rfl) _ _ s_l1New_b0⟩], []⟩ (by kernel_rfl) (fun x => by kernel_rfl) (by
  intro xs r h
  unfold s_l1New at h
  obtain ⟨_, _, h⟩ := bnd_some h
  obtain rfl := Option.some.inj h
  intro l hl
  simp only [cells, cellsS, List.mem_cons, List.not_mem_nil, or_false] at hl
  rcases hl with rfl | rfl | rfl
  all_goals first | exact .inr rfl | exact .inl ⟨_, rfl⟩)
def s_l1New_e : Entry Tryz.prog := .ptr (t := .int .u8) (rt := .st .cur) (F := s_l1New) s_l1New_c

/- spec.l1Byte -/
def s_l1Byte (p0 : CurV) : Option (Int × CurV) :=
  need (¬ (33 : Int) < 0) (need (¬ (47 : Int) < 0) (fork (decide (p0.i < ((p0.b.length : Nat) : Int))) (need (0 ≤ p0.i ∧ p0.i < ((p0.b.length : Nat) : Int)) (
  some ((w64 ((BitVec.ofInt IntKind.i64.bits (w64 ((w64 ((BitVec.ofInt IntKind.i64.bits (w64 ((BitVec.ofInt IntKind.i64.bits ((w64 ((w64 (p0.h * 6364136223846793005)) + 1442695040888963407)).fdiv (2 ^ min 33 IntKind.i64.bits)) ^^^ BitVec.ofInt IntKind.i64.bits ((w64 ((w64 (p0.h * 6364136223846793005)) + 1442695040888963407)).fdiv (2 ^ min 47 IntKind.i64.bits))).toNat : Int)) &&& BitVec.ofInt IntKind.i64.bits 255).toNat : Int)) + (w64 (p0.b.getD p0.i.toNat (dflt (.int .u8)))))) &&& BitVec.ofInt IntKind.i64.bits 255).toNat : Int)), (⟨p0.b, (w64 (p0.i + 1)), (w64 ((w64 (p0.h * 6364136223846793005)) + 1442695040888963407))⟩ : CurV))
 )) (
  some ((w64 ((BitVec.ofInt IntKind.i64.bits (w64 ((BitVec.ofInt IntKind.i64.bits ((w64 ((w64 (p0.h * 6364136223846793005)) + 1442695040888963407)).fdiv (2 ^ min 33 IntKind.i64.bits)) ^^^ BitVec.ofInt IntKind.i64.bits ((w64 ((w64 (p0.h * 6364136223846793005)) + 1442695040888963407)).fdiv (2 ^ min 47 IntKind.i64.bits))).toNat : Int)) &&& BitVec.ofInt IntKind.i64.bits 255).toNat : Int)), (⟨p0.b, p0.i, (w64 ((w64 (p0.h * 6364136223846793005)) + 1442695040888963407))⟩ : CurV))
 )))
theorem s_l1Byte_c : FnC Tryz.prog 109 [.ptr (.st .cur)] [.int .i64] (fun x => s_l1Byte x) :=
  FnC.of (body := bodyOf Tryz.f109) (N := (1, 58)) tabOk tabB mixed Tryz.func109 (by kernel_rfl) (by kernel_rfl) (fun _ => by kernel_rfl) ⟨[], [], [], []⟩ (fun _ => by kernel_rfl) (fun x => by kernel_rfl)
def s_l1Byte_e : Entry Tryz.prog := .of s_l1Byte_c

/- spec.l1Below -/
def s_l1Below (p0 : CurV) (n : Int) : Option (Int × CurV) :=
  fork (decide (n ≤ 0)) (some (0, p0)) (fork (decide (n ≤ 256)) (bnd (s_l1Byte p0) fun y1 => need (n ≠ 0) (some ((y1.1.tmod n), (⟨p0.b, y1.2.i, y1.2.h⟩ : CurV)))) (
  bnd (s_l1Byte p0) fun y2 => bnd (s_l1Byte (⟨p0.b, y2.2.i, y2.2.h⟩ : CurV)) fun y3 => bnd (s_l1Byte (⟨p0.b, y3.2.i, y3.2.h⟩ : CurV)) fun y4 => need (n ≠ 0) (
  some (((w64 ((w64 ((w64 (y2.1 * 65536)) + (w64 (y3.1 * 256)))) + y4.1)).tmod n), (⟨p0.b, y4.2.i, y4.2.h⟩ : CurV)))))
theorem s_l1Below_c : FnC Tryz.prog 73 [.ptr (.st .cur), .v (.int .i64)] [.int .i64] (fun x => s_l1Below x.1 x.2) :=
  FnC.of (body := bodyOf Tryz.f73) (N := (1, 31)) tabOk tabB mixed Tryz.func73 (by kernel_rfl) (by kernel_rfl) (fun _ => by kernel_rfl) ⟨[s_l1Byte_e], [], [], []⟩ (fun _ => by kernel_rfl) (fun x => by kernel_rfl)
def s_l1Below_e : Entry Tryz.prog := .of s_l1Below_c

/- spec.l1Once -/
def s_l1Once (p0 : CurV) (n : Int) : Option (Bool × CurV) :=
  bnd (s_l1Below p0 n) fun y1 => some ((y1.1 == 0), (⟨p0.b, y1.2.i, y1.2.h⟩ : CurV))
theorem s_l1Once_c : FnC Tryz.prog 39 [.ptr (.st .cur), .v (.int .i64)] [.bool] (fun x => s_l1Once x.1 x.2) :=
  FnC.of (body := bodyOf Tryz.f39) (N := (1, 9)) tabOk tabB mixed Tryz.func39 (by kernel_rfl) (by kernel_rfl) (fun _ => by kernel_rfl) ⟨[s_l1Below_e], [], [], []⟩ (fun _ => by kernel_rfl) (fun x => by kernel_rfl)
def s_l1Once_e : Entry Tryz.prog := .of s_l1Once_c

/- spec.l4Put -/
def s_l4Put_B0 {R : Type} (a0_1 : List Int) (a0_3 : Int) (a0_7 : Int) (nx : Int → Option R) (x0 : Int → Option R) : Option R :=
  fork (decide (a0_7 < ((a0_1.length : Nat) : Int))) (need (0 ≤ a0_7 ∧ a0_7 < ((a0_1.length : Nat) : Int)) (
  fork (decide ((a0_1.getD a0_7.toNat (dflt (.int .i64))) < a0_3)) (nx (w64 (a0_7 + 1))) (x0 a0_7))) (x0 a0_7)
def s_l4Put_S0 : LoopS := ⟨⟨[(0, false, [.ro]), (1, false, [.val]), (4, false, [.nil (.int .i64)]), (5, false, [.val])], []⟩, [some 0, some 1, none], [.v (.sl (.int .i64)), .v (.int .i64)], [.v (.int .i64)],
  [⟨.exit 0, ⟨[(0, false, [.ro]), (1, false, [.val]), (4, false, [.nil (.int .i64)]), (5, false, [.val])], []⟩, [some 0, some 1, none], [.v (.int .i64)]⟩]⟩
def s_l4Put_W0 : LoopB s_l4Put_S0 := fun R c p nx ex => s_l4Put_B0 c.1 c.2 p (fun v0 => nx v0) (fun v0 => ex v0)
def s_l4Put_L0 (a0_1 : List Int) (a0_3 : Int) (n : Nat) (a0_7 : Int) : Option Int := @loopF ((List Int) × Int) Int Int (s_l4Put_W0 _) (a0_1, a0_3) n a0_7
def s_l4Put_E0 : Env Tryz.prog (0, 47) (bodyOf Tryz.f87) := ⟨[], [], [], []⟩
theorem s_l4Put_b0 : BodyOk T s_l4Put_E0 [0, 0, 1, 1] s_l4Put_S0 s_l4Put_W0 := fun R c p nx ex => by kernel_rfl
def s_l4Put (l : List Int) (n : Int) : Option (List Int) :=
  bnd (s_l4Put_L0 l n big 0) fun y1 => fork (decide (y1 < ((l.length : Nat) : Int))) (need (0 ≤ y1 ∧ y1 < ((l.length : Nat) : Int)) (
  fork ((l.getD y1.toNat (dflt (.int .i64))) == n) (need ((((([] : List Int).length + l.length : Nat)) : Int) * ((8 : Nat) : Int) ≤ 140737488355328) (
  some (([] : List Int) ++ l))) (need (0 ≤ y1 ∧ y1 ≤ ((l.length : Nat) : Int)) (
  need ((((([] : List Int).length + (l.take y1.toNat).length : Nat)) : Int) * ((8 : Nat) : Int) ≤ 140737488355328) (
  need (((((([] : List Int) ++ (l.take y1.toNat)).length + ([n] : List Int).length : Nat)) : Int) * ((8 : Nat) : Int) ≤ 140737488355328) (
  need (0 ≤ y1 ∧ y1 ≤ ((l.length : Nat) : Int)) (
  need ((((((([] : List Int) ++ (l.take y1.toNat)) ++ ([n] : List Int)).length + (l.drop y1.toNat).length : Nat)) : Int) * ((8 : Nat) : Int) ≤ 140737488355328) (
  some (((([] : List Int) ++ (l.take y1.toNat)) ++ ([n] : List Int)) ++ (l.drop y1.toNat)))))))))) (need (0 ≤ y1 ∧ y1 ≤ ((l.length : Nat) : Int)) (
  need ((((([] : List Int).length + (l.take y1.toNat).length : Nat)) : Int) * ((8 : Nat) : Int) ≤ 140737488355328) (
  need (((((([] : List Int) ++ (l.take y1.toNat)).length + ([n] : List Int).length : Nat)) : Int) * ((8 : Nat) : Int) ≤ 140737488355328) (
  need (0 ≤ y1 ∧ y1 ≤ ((l.length : Nat) : Int)) (
  need ((((((([] : List Int) ++ (l.take y1.toNat)) ++ ([n] : List Int)).length + (l.drop y1.toNat).length : Nat)) : Int) * ((8 : Nat) : Int) ≤ 140737488355328) (
  some (((([] : List Int) ++ (l.take y1.toNat)) ++ ([n] : List Int)) ++ (l.drop y1.toNat))))))))
theorem s_l4Put_c : FnC Tryz.prog 87 [.v (.sl (.int .i64)), .v (.int .i64)] [.sl (.int .i64)] (fun x => s_l4Put x.1 x.2) :=
  FnC.of (body := bodyOf Tryz.f87) (N := (0, 47)) tabOk tabB mixed Tryz.func87 (by kernel_rfl) (by kernel_rfl) (fun _ => by kernel_rfl) ⟨[], [], [⟨[0, 0, 1, 1], LoopE.of tabOk tabB mixed s_l4Put_E0 [0, 0, 1, 1] (by kernel_rfl) _ _ s_l4Put_b0⟩], []⟩ (fun _ => by kernel_rfl) (fun x => by kernel_rfl)
def s_l4Put_e : Entry Tryz.prog := .of s_l4Put_c

/- spec.l26Draw -/
def s_l26Draw_B0 {R : Type} (a0_9 : List Int) (a0_13 : Int) (a0_15 : Int) (a0_16 : Bool) (a0_18 : Int) (a0_20 : Int) (a0_21 : Bool) (a0_7 : Int) (a0_10 : Int) (a0_11 : Int) (a0_22 : List Int) (nx : Int → Int → Int → List Int → Option R) (x0 : Int → Int → List Int → Option R) : Option R :=
  fork (decide (a0_7 > 0)) (bnd (s_l1Below (⟨a0_9, a0_10, a0_11⟩ : CurV) 90) fun y5 => bnd (s_l4Put a0_22 (w64 (1 + y5.1))) fun y6 => nx (w64 (a0_7 - 1)) y5.2.i y5.2.h y6
 ) (x0 a0_10 a0_11 a0_22)
def s_l26Draw_S0 : LoopS := ⟨⟨[(0, false, [.bp 1000000 0]), (2, false, [.bp 1000001 0]), (3, false, [.bp 1000002 0]), (4, false, [.val])], [(1000000, .box [.fix 0 0, .val, .val]), (1000001, .box [.val, .nil (.int .i64), .val, .val]), (1000002, .box [.val, .tr 1000003, .val, .val]), (1000003, .tree)]⟩, [none, some 0, none, none, some 1, some 2, some 3, some 4, some 5, some 6, none], [.v (.sl (.int .u8)), .v (.int .i64), .v (.int .i64), .v (.bool), .v (.int .i64), .v (.int .i64), .v (.bool)], [.v (.int .i64), .v (.int .i64), .v (.int .i64), .v (.sl (.int .i64))],
  [⟨.exit 0, ⟨[(0, false, [.bp 2000000 0]), (2, false, [.bp 2000001 0]), (3, false, [.bp 2000002 0])], [(2000000, .box [.fix 0 0, .val, .val]), (2000001, .box [.val, .nil (.int .i64), .val, .val]), (2000002, .box [.val, .tr 2000003, .val, .val]), (2000003, .tree)]⟩, [some 0, none, none, some 1, some 2, some 3, some 4, some 5, some 6, none], [.v (.int .i64), .v (.int .i64), .v (.sl (.int .i64))]⟩]⟩
def s_l26Draw_W0 : LoopB s_l26Draw_S0 := fun R c p nx ex => s_l26Draw_B0 c.1 c.2.1 c.2.2.1 c.2.2.2.1 c.2.2.2.2.1 c.2.2.2.2.2.1 c.2.2.2.2.2.2 p.1 p.2.1 p.2.2.1 p.2.2.2 (fun v0 v1 v2 v3 => nx (v0, v1, v2, v3)) (fun v0 v1 v2 => ex (v0, v1, v2))
def s_l26Draw_L0 (a0_9 : List Int) (a0_13 : Int) (a0_15 : Int) (a0_16 : Bool) (a0_18 : Int) (a0_20 : Int) (a0_21 : Bool) (n : Nat) (a0_7 : Int) (a0_10 : Int) (a0_11 : Int) (a0_22 : List Int) : Option (Int × Int × (List Int)) := @loopF ((List Int) × Int × Int × Bool × Int × Int × Bool) (Int × Int × Int × (List Int)) (Int × Int × (List Int)) (s_l26Draw_W0 _) (a0_9, a0_13, a0_15, a0_16, a0_18, a0_20, a0_21) n (a0_7, a0_10, a0_11, a0_22)
def s_l26Draw_E0 : Env Tryz.prog (1, 34) (bodyOf Tryz.f115) := ⟨[s_l1Below_e, s_l4Put_e], [], [], []⟩
theorem s_l26Draw_b0 : BodyOk T s_l26Draw_E0 [0, 1, 0, 1, 1] s_l26Draw_S0 s_l26Draw_W0 := fun R c p nx ex => by kernel_rfl
def s_l26Draw (p0 : CurV) : Option (RolloutV × CurV) :=
  bnd (s_l1Below p0 6) fun y1 => bnd (s_l1Below (⟨p0.b, y1.2.i, y1.2.h⟩ : CurV) 3) fun y2 =>
  bnd (s_l26Draw_L0 p0.b 0 0 false (w64 (1 + y1.1)) 0 false big y2.1 y2.2.i y2.2.h ([] : List Int)) fun y7 =>
  need ((((y7.2.2.length + ([100] : List Int).length : Nat)) : Int) * ((8 : Nat) : Int) ≤ 140737488355328) (
  bnd (s_l1Below (⟨p0.b, y7.1, y7.2.1⟩ : CurV) (((y7.2.2 ++ ([100] : List Int)).length : Nat) : Int)) fun y8 =>
  some ((⟨(w64 (1 + y1.1)), (y7.2.2 ++ ([100] : List Int)), y8.1, false⟩ : RolloutV), (⟨p0.b, y8.2.i, y8.2.h⟩ : CurV)))
theorem s_l26Draw_c : FnC Tryz.prog 115 [.ptr (.st .cur)] [.st .rollout] (fun x => s_l26Draw x) :=
  FnC.of (body := bodyOf Tryz.f115) (N := (1, 34)) tabOk tabB mixed Tryz.func115 (by kernel_rfl) (by kernel_rfl) (fun _ => by kernel_rfl) ⟨[s_l1Below_e, s_l4Put_e], [], [⟨[0, 1, 0, 1, 1], LoopE.of tabOk tabB mixed s_l26Draw_E0 [0, 1, 0, 1, 1] (by kernel_rfl) _ _ s_l26Draw_b0⟩], []⟩ (fun _ => by kernel_rfl) (fun x => by kernel_rfl)
def s_l26Draw_e : Entry Tryz.prog := .of s_l26Draw_c

/- spec.l1Int -/
def s_l1Int (p0 : CurV) (list : List Int) : Option (Int × CurV) :=
  bnd (s_l1Below p0 ((list.length : Nat) : Int)) fun y1 => need (0 ≤ y1.1 ∧ y1.1 < ((list.length : Nat) : Int)) (
  some ((list.getD y1.1.toNat (dflt (.int .i64))), (⟨p0.b, y1.2.i, y1.2.h⟩ : CurV)))
theorem s_l1Int_c : FnC Tryz.prog 83 [.ptr (.st .cur), .v (.sl (.int .i64))] [.int .i64] (fun x => s_l1Int x.1 x.2) :=
  FnC.of (body := bodyOf Tryz.f83) (N := (1, 12)) tabOk tabB mixed Tryz.func83 (by kernel_rfl) (by kernel_rfl) (fun _ => by kernel_rfl) ⟨[s_l1Below_e], [], [], []⟩ (fun _ => by kernel_rfl) (fun x => by kernel_rfl)
def s_l1Int_e : Entry Tryz.prog := .of s_l1Int_c

/- spec.l12Draw -/
def s_l12Draw_B0 {R : Type} (a0_9 : List Int) (a0_7 : Int) (a0_10 : Int) (a0_11 : Int) (a0_12 : List Int) (nx : Int → Int → Int → List Int → Option R) (x0 : Int → Int → List Int → Option R) : Option R :=
  fork (decide (a0_7 > 0)) (bnd (s_l1Below (⟨a0_9, a0_10, a0_11⟩ : CurV) 6) fun y3 => bnd (s_l4Put a0_12 (w64 (1 + y3.1))) fun y4 => nx (w64 (a0_7 - 1)) y3.2.i y3.2.h y4
 ) (x0 a0_10 a0_11 a0_12)
def s_l12Draw_S0 : LoopS := ⟨⟨[(0, false, [.bp 1000000 0]), (2, false, [.nil (.int .i64)]), (3, false, [.tr 1000001]), (4, false, [.val])], [(1000000, .box [.fix 0 0, .val, .val]), (1000001, .tree)]⟩, [none, some 0, none, none, none], [.v (.sl (.int .u8))], [.v (.int .i64), .v (.int .i64), .v (.int .i64), .v (.sl (.int .i64))],
  [⟨.exit 0, ⟨[(0, false, [.bp 2000000 0]), (2, false, [.nil (.int .i64)]), (3, false, [.tr 2000001])], [(2000000, .box [.fix 0 0, .val, .val]), (2000001, .tree)]⟩, [some 0, none, none, none], [.v (.int .i64), .v (.int .i64), .v (.sl (.int .i64))]⟩]⟩
def s_l12Draw_W0 : LoopB s_l12Draw_S0 := fun R c p nx ex => s_l12Draw_B0 c p.1 p.2.1 p.2.2.1 p.2.2.2 (fun v0 v1 v2 v3 => nx (v0, v1, v2, v3)) (fun v0 v1 v2 => ex (v0, v1, v2))
def s_l12Draw_L0 (a0_9 : List Int) (n : Nat) (a0_7 : Int) (a0_10 : Int) (a0_11 : Int) (a0_12 : List Int) : Option (Int × Int × (List Int)) := @loopF (List Int) (Int × Int × Int × (List Int)) (Int × Int × (List Int)) (s_l12Draw_W0 _) a0_9 n (a0_7, a0_10, a0_11, a0_12)
def s_l12Draw_E0 : Env Tryz.prog (1, 21) (bodyOf Tryz.f119) := ⟨[s_l1Below_e, s_l4Put_e], [], [], []⟩
theorem s_l12Draw_b0 : BodyOk T s_l12Draw_E0 [0, 1, 0, 1, 1] s_l12Draw_S0 s_l12Draw_W0 := fun R c p nx ex => by kernel_rfl
def s_l12Draw (p0 : CurV) : Option ((List Int) × CurV) :=
  bnd (s_l1Below p0 4) fun y1 => bnd (s_l1Below (⟨p0.b, y1.2.i, y1.2.h⟩ : CurV) 4) fun y2 =>
  bnd (s_l12Draw_L0 p0.b big y2.1 y2.2.i y2.2.h ([(w64 (1 + y1.1))] : List Int)) fun y5 => some (y5.2.2, (⟨p0.b, y5.1, y5.2.1⟩ : CurV))
theorem s_l12Draw_c : FnC Tryz.prog 119 [.ptr (.st .cur)] [.sl (.int .i64)] (fun x => s_l12Draw x) :=
  FnC.of (body := bodyOf Tryz.f119) (N := (1, 21)) tabOk tabB mixed Tryz.func119 (by kernel_rfl) (by kernel_rfl) (fun _ => by kernel_rfl) ⟨[s_l1Below_e, s_l4Put_e], [], [⟨[0, 1, 0, 1, 1], LoopE.of tabOk tabB mixed s_l12Draw_E0 [0, 1, 0, 1, 1] (by kernel_rfl) _ _ s_l12Draw_b0⟩], []⟩ (fun _ => by kernel_rfl) (fun x => by kernel_rfl)
def s_l12Draw_e : Entry Tryz.prog := .of s_l12Draw_c

/- spec.l17Tags -/
def s_l17Tags_B0 {R : Type} (a0_9 : List Int) (a0_7 : Int) (a0_10 : Int) (a0_11 : Int) (a0_12 : List Int) (nx : Int → Int → Int → List Int → Option R) (x0 : Int → Int → List Int → Option R) : Option R :=
  fork (decide (a0_7 > 0)) (bnd (s_l1Int (⟨a0_9, a0_10, a0_11⟩ : CurV) ([1, 2, 3, 10, 40, 200] : List Int)) fun y2 => bnd (s_l4Put a0_12 y2.1) fun y3 =>
  nx (w64 (a0_7 - 1)) y2.2.i y2.2.h y3) (x0 a0_10 a0_11 a0_12)
def s_l17Tags_S0 : LoopS := ⟨⟨[(0, false, [.bp 1000000 0]), (2, false, [.nil (.int .i64)]), (3, false, [.tr 1000001]), (4, false, [.val])], [(1000000, .box [.fix 0 0, .val, .val]), (1000001, .tree)]⟩, [none, some 0, none, none, none], [.v (.sl (.int .u8))], [.v (.int .i64), .v (.int .i64), .v (.int .i64), .v (.sl (.int .i64))],
  [⟨.exit 0, ⟨[(0, false, [.bp 2000000 0]), (2, false, [.nil (.int .i64)]), (3, false, [.tr 2000001])], [(2000000, .box [.fix 0 0, .val, .val]), (2000001, .tree)]⟩, [some 0, none, none, none], [.v (.int .i64), .v (.int .i64), .v (.sl (.int .i64))]⟩]⟩
def s_l17Tags_W0 : LoopB s_l17Tags_S0 := fun R c p nx ex => s_l17Tags_B0 c p.1 p.2.1 p.2.2.1 p.2.2.2 (fun v0 v1 v2 v3 => nx (v0, v1, v2, v3)) (fun v0 v1 v2 => ex (v0, v1, v2))
def s_l17Tags_L0 (a0_9 : List Int) (n : Nat) (a0_7 : Int) (a0_10 : Int) (a0_11 : Int) (a0_12 : List Int) : Option (Int × Int × (List Int)) := @loopF (List Int) (Int × Int × Int × (List Int)) (Int × Int × (List Int)) (s_l17Tags_W0 _) a0_9 n (a0_7, a0_10, a0_11, a0_12)
def s_l17Tags_E0 : Env Tryz.prog (1, 18) (bodyOf Tryz.f118) := ⟨[s_l1Below_e, s_l1Int_e, s_l4Put_e], [], [], []⟩
theorem s_l17Tags_b0 : BodyOk T s_l17Tags_E0 [0, 1, 0, 1, 1] s_l17Tags_S0 s_l17Tags_W0 := fun R c p nx ex => by kernel_rfl
def s_l17Tags (p0 : CurV) : Option ((List Int) × CurV) :=
  bnd (s_l1Below p0 5) fun y1 => bnd (s_l17Tags_L0 p0.b big y1.1 y1.2.i y1.2.h ([] : List Int)) fun y4 => some (y4.2.2, (⟨p0.b, y4.1, y4.2.1⟩ : CurV))
theorem s_l17Tags_c : FnC Tryz.prog 118 [.ptr (.st .cur)] [.sl (.int .i64)] (fun x => s_l17Tags x) :=
  FnC.of (body := bodyOf Tryz.f118) (N := (1, 18)) tabOk tabB mixed Tryz.func118 (by kernel_rfl) (by kernel_rfl) (fun _ => by kernel_rfl) ⟨[s_l1Below_e, s_l1Int_e, s_l4Put_e], [], [⟨[0, 1, 0, 1, 1], LoopE.of tabOk tabB mixed s_l17Tags_E0 [0, 1, 0, 1, 1] (by kernel_rfl) _ _ s_l17Tags_b0⟩], []⟩ (fun _ => by kernel_rfl) (fun x => by kernel_rfl)
def s_l17Tags_e : Entry Tryz.prog := .of s_l17Tags_c

/- spec.l19Draw -/
def s_l19Draw (p0 : CurV) : Option (BoxV × CurV) :=
  bnd (s_l1Below p0 7) fun y1 => fork (y1.1 == 0) (bnd (s_l1Below (⟨p0.b, y1.2.i, y1.2.h⟩ : CurV) 6) fun y2 =>
  some ((⟨(w64 (1 + y2.1)), [], [], false⟩ : BoxV), (⟨p0.b, y2.2.i, y2.2.h⟩ : CurV))) (fork (y1.1 == 1) (bnd (s_l17Tags (⟨p0.b, y1.2.i, y1.2.h⟩ : CurV)) fun y3 =>
  some ((⟨0, y3.1, [], false⟩ : BoxV), (⟨p0.b, y3.2.i, y3.2.h⟩ : CurV))) (fork (y1.1 == 2) (bnd (s_l17Tags (⟨p0.b, y1.2.i, y1.2.h⟩ : CurV)) fun y4 =>
  some ((⟨0, [], y4.1, false⟩ : BoxV), (⟨p0.b, y4.2.i, y4.2.h⟩ : CurV))) (fork (y1.1 == 3) (some ((⟨0, [], [], true⟩ : BoxV), (⟨p0.b, y1.2.i, y1.2.h⟩ : CurV))) (
  some ((⟨0, [], [], false⟩ : BoxV), (⟨p0.b, y1.2.i, y1.2.h⟩ : CurV))))))
theorem s_l19Draw_c : FnC Tryz.prog 148 [.ptr (.st .cur)] [.st .box] (fun x => s_l19Draw x) :=
  FnC.of (body := bodyOf Tryz.f148) (N := (1, 27)) tabOk tabB mixed Tryz.func148 (by kernel_rfl) (by kernel_rfl) (fun _ => by kernel_rfl) ⟨[s_l1Below_e, s_l17Tags_e], [], [], []⟩ (fun _ => by kernel_rfl) (fun x => by kernel_rfl)
def s_l19Draw_e : Entry Tryz.prog := .of s_l19Draw_c

/- spec.l19Path -/
def s_l19Path_B0 {R : Type} (a0_9 : List Int) (a0_7 : Int) (a0_10 : Int) (a0_11 : Int) (a0_12 : List BoxV) (nx : Int → Int → Int → List BoxV → Option R) (x0 : Int → Int → List BoxV → Option R) : Option R :=
  fork (decide (a0_7 > 0)) (bnd (s_l19Draw (⟨a0_9, a0_10, a0_11⟩ : CurV)) fun y2 =>
  need ((((a0_12.length + ([y2.1] : List BoxV).length : Nat)) : Int) * ((64 : Nat) : Int) ≤ 140737488355328) (
  nx (w64 (a0_7 - 1)) y2.2.i y2.2.h (a0_12 ++ ([y2.1] : List BoxV)))) (x0 a0_10 a0_11 a0_12)
def s_l19Path_S0 : LoopS := ⟨⟨[(0, false, [.bp 1000000 0]), (2, false, [.nil (.st .box)]), (3, false, [.tr 1000001]), (4, false, [.val])], [(1000000, .box [.fix 0 0, .val, .val]), (1000001, .tree)]⟩, [none, some 0, none, none, none], [.v (.sl (.int .u8))], [.v (.int .i64), .v (.int .i64), .v (.int .i64), .v (.sl (.st .box))],
  [⟨.exit 0, ⟨[(0, false, [.bp 2000000 0]), (2, false, [.nil (.st .box)]), (3, false, [.tr 2000001])], [(2000000, .box [.fix 0 0, .val, .val]), (2000001, .tree)]⟩, [some 0, none, none, none], [.v (.int .i64), .v (.int .i64), .v (.sl (.st .box))]⟩]⟩
def s_l19Path_W0 : LoopB s_l19Path_S0 := fun R c p nx ex => s_l19Path_B0 c p.1 p.2.1 p.2.2.1 p.2.2.2 (fun v0 v1 v2 v3 => nx (v0, v1, v2, v3)) (fun v0 v1 v2 => ex (v0, v1, v2))
def s_l19Path_L0 (a0_9 : List Int) (n : Nat) (a0_7 : Int) (a0_10 : Int) (a0_11 : Int) (a0_12 : List BoxV) : Option (Int × Int × (List BoxV)) := @loopF (List Int) (Int × Int × Int × (List BoxV)) (Int × Int × (List BoxV)) (s_l19Path_W0 _) a0_9 n (a0_7, a0_10, a0_11, a0_12)
def s_l19Path_E0 : Env Tryz.prog (1, 18) (bodyOf Tryz.f147) := ⟨[s_l1Below_e, s_l19Draw_e], [], [], []⟩
theorem s_l19Path_b0 : BodyOk T s_l19Path_E0 [0, 1, 0, 1, 1] s_l19Path_S0 s_l19Path_W0 := fun R c p nx ex => by kernel_rfl
def s_l19Path (p0 : CurV) : Option ((List BoxV) × CurV) :=
  bnd (s_l1Below p0 4) fun y1 => bnd (s_l19Path_L0 p0.b big y1.1 y1.2.i y1.2.h ([] : List BoxV)) fun y3 => some (y3.2.2, (⟨p0.b, y3.1, y3.2.1⟩ : CurV))
theorem s_l19Path_c : FnC Tryz.prog 147 [.ptr (.st .cur)] [.sl (.st .box)] (fun x => s_l19Path x) :=
  FnC.of (body := bodyOf Tryz.f147) (N := (1, 18)) tabOk tabB mixed Tryz.func147 (by kernel_rfl) (by kernel_rfl) (fun _ => by kernel_rfl) ⟨[s_l1Below_e, s_l19Draw_e], [], [⟨[0, 1, 0, 1, 1], LoopE.of tabOk tabB mixed s_l19Path_E0 [0, 1, 0, 1, 1] (by kernel_rfl) _ _ s_l19Path_b0⟩], []⟩ (fun _ => by kernel_rfl) (fun x => by kernel_rfl)
def s_l19Path_e : Entry Tryz.prog := .of s_l19Path_c

/- spec.l31Draw -/
def s_l31Draw_B0 {R : Type} (a0_9 : List Int) (a0_16 : Int) (a0_21 : Int) (a0_22 : List Int) (a0_24 : List BoxV) (a0_7 : Int) (a0_10 : Int) (a0_11 : Int) (a0_23 : List Int) (nx : Int → Int → Int → List Int → Option R) (x0 : Int → Int → List Int → Option R) : Option R :=
  fork (decide (a0_7 > 0)) (bnd (s_l1Int (⟨a0_9, a0_10, a0_11⟩ : CurV) ([1, 2, 3, 40, 200] : List Int)) fun y7 => bnd (s_l4Put a0_23 y7.1) fun y8 =>
  nx (w64 (a0_7 - 1)) y7.2.i y7.2.h y8) (x0 a0_10 a0_11 a0_23)
def s_l31Draw_S0 : LoopS := ⟨⟨[(0, false, [.bp 1000000 0]), (2, false, [.bp 1000001 0]), (3, false, [.bp 1000002 0]), (4, false, [.val])], [(1000000, .box [.fix 0 0, .val, .val]), (1000001, .box [.nil (.int .i64), .nil (.int .i64), .nil (.st .box), .val]), (1000002, .box [.tr 1000003, .tr 1000004, .tr 1000005, .val]), (1000003, .tree), (1000004, .tree), (1000005, .tree)]⟩, [none, some 0, none, none, some 1, some 2, some 3, none, some 4], [.v (.sl (.int .u8)), .v (.int .i64), .v (.int .i64), .v (.sl (.int .i64)), .v (.sl (.st .box))], [.v (.int .i64), .v (.int .i64), .v (.int .i64), .v (.sl (.int .i64))],
  [⟨.exit 0, ⟨[(0, false, [.bp 2000000 0]), (2, false, [.bp 2000001 0]), (3, false, [.bp 2000002 0])], [(2000000, .box [.fix 0 0, .val, .val]), (2000001, .box [.nil (.int .i64), .nil (.int .i64), .nil (.st .box), .val]), (2000002, .box [.tr 2000003, .tr 2000004, .tr 2000005, .val]), (2000003, .tree), (2000004, .tree), (2000005, .tree)]⟩, [some 0, none, none, some 1, some 2, some 3, none, some 4], [.v (.int .i64), .v (.int .i64), .v (.sl (.int .i64))]⟩]⟩
def s_l31Draw_W0 : LoopB s_l31Draw_S0 := fun R c p nx ex => s_l31Draw_B0 c.1 c.2.1 c.2.2.1 c.2.2.2.1 c.2.2.2.2 p.1 p.2.1 p.2.2.1 p.2.2.2 (fun v0 v1 v2 v3 => nx (v0, v1, v2, v3)) (fun v0 v1 v2 => ex (v0, v1, v2))
def s_l31Draw_L0 (a0_9 : List Int) (a0_16 : Int) (a0_21 : Int) (a0_22 : List Int) (a0_24 : List BoxV) (n : Nat) (a0_7 : Int) (a0_10 : Int) (a0_11 : Int) (a0_23 : List Int) : Option (Int × Int × (List Int)) := @loopF ((List Int) × Int × Int × (List Int) × (List BoxV)) (Int × Int × Int × (List Int)) (Int × Int × (List Int)) (s_l31Draw_W0 _) (a0_9, a0_16, a0_21, a0_22, a0_24) n (a0_7, a0_10, a0_11, a0_23)
def s_l31Draw_E0 : Env Tryz.prog (1, 26) (bodyOf Tryz.f116) := ⟨[s_l1Below_e, s_l1Int_e, s_l4Put_e, s_l12Draw_e, s_l19Path_e], [], [], []⟩
theorem s_l31Draw_b0 : BodyOk T s_l31Draw_E0 [0, 1, 0, 1, 1] s_l31Draw_S0 s_l31Draw_W0 := fun R c p nx ex => by kernel_rfl
def s_l31Draw (p0 : CurV) : Option (EndpointV × CurV) :=
  bnd (s_l12Draw p0) fun y1 => bnd (s_l19Path (⟨p0.b, y1.2.i, y1.2.h⟩ : CurV)) fun y2 => bnd (s_l1Below (⟨p0.b, y2.2.i, y2.2.h⟩ : CurV) 6) fun y3 =>
  bnd (s_l1Below (⟨p0.b, y3.2.i, y3.2.h⟩ : CurV) 4) fun y4 => bnd (s_l31Draw_L0 p0.b 0 y3.1 y1.1 y2.1 big y4.1 y4.2.i y4.2.h ([] : List Int)) fun y9 =>
  some ((⟨y1.1, y9.2.2, y2.1, y3.1⟩ : EndpointV), (⟨p0.b, y9.1, y9.2.1⟩ : CurV))
theorem s_l31Draw_c : FnC Tryz.prog 116 [.ptr (.st .cur)] [.st .endpoint] (fun x => s_l31Draw x) :=
  FnC.of (body := bodyOf Tryz.f116) (N := (1, 26)) tabOk tabB mixed Tryz.func116 (by kernel_rfl) (by kernel_rfl) (fun _ => by kernel_rfl) ⟨[s_l1Below_e, s_l1Int_e, s_l4Put_e, s_l12Draw_e, s_l19Path_e], [], [⟨[0, 1, 0, 1, 1], LoopE.of tabOk tabB mixed s_l31Draw_E0 [0, 1, 0, 1, 1] (by kernel_rfl) _ _ s_l31Draw_b0⟩], []⟩ (fun _ => by kernel_rfl) (fun x => by kernel_rfl)
def s_l31Draw_e : Entry Tryz.prog := .of s_l31Draw_c

/- spec.l1In -/
def s_l1In (p0 : Int) (least : Int) (most : Int) : Option Bool :=
  fork (decide (p0 ≥ least)) (some (decide (p0 ≤ most))) (some false)
theorem s_l1In_c : FnC Tryz.prog 63 [.v (.int .i64), .v (.int .i64), .v (.int .i64)] [.bool] (fun x => s_l1In x.1 x.2.1 x.2.2) :=
  FnC.of (body := bodyOf Tryz.f63) (N := (0, 15)) tabOk tabB mixed Tryz.func63 (by kernel_rfl) (by kernel_rfl) (fun _ => by kernel_rfl) ⟨[], [], [], []⟩ (fun _ => by kernel_rfl) (fun x => by kernel_rfl)
def s_l1In_e : Entry Tryz.prog := .of s_l1In_c

/- spec.AreVersions -/
def s_AreVersions_B0 {R : Type} (a0_1 : List Int) (a0_3 : Bool) (a0_5 : Int) (nx : Int → Option R) (x0 : Bool → Option R) (x1 : Option R) : Option R :=
  fork (decide (a0_5 < ((a0_1.length : Nat) : Int))) (need (0 ≤ a0_5 ∧ a0_5 < ((a0_1.length : Nat) : Int)) (
  bnd (s_l1In (a0_1.getD a0_5.toNat (dflt (.int .i64))) 1 9) fun y1 => fork (!y1) (x0 false) (fork (decide (a0_5 > 0)) (
  need (0 ≤ (w64 (a0_5 - 1)) ∧ (w64 (a0_5 - 1)) < ((a0_1.length : Nat) : Int)) (need (0 ≤ a0_5 ∧ a0_5 < ((a0_1.length : Nat) : Int)) (
  fork (decide ((a0_1.getD ((w64 (a0_5 - 1)).toNat) (dflt (.int .i64))) ≥ (a0_1.getD a0_5.toNat (dflt (.int .i64))))) (x0 false) (nx (w64 (a0_5 + 1)))))) (
  nx (w64 (a0_5 + 1)))))) (x1)
def s_AreVersions_S0 : LoopS := ⟨⟨[(0, false, [.ro]), (2, false, [.val]), (3, false, [.val])], []⟩, [some 0, some 1, none], [.v (.sl (.int .i64)), .v (.bool)], [.v (.int .i64)],
  [⟨.ret, ⟨[(2, false, [.val])], []⟩, [none], [.v (.bool)]⟩, ⟨.exit 0, ⟨[(0, false, [.ro]), (2, false, [.val])], []⟩, [some 0, some 1], []⟩]⟩
def s_AreVersions_W0 : LoopB s_AreVersions_S0 := fun R c p nx ex => s_AreVersions_B0 c.1 c.2 p (fun v0 => nx v0) (fun v0 => ex (.inl v0)) (ex (.inr ()))
def s_AreVersions_L0 (a0_1 : List Int) (a0_3 : Bool) (n : Nat) (a0_5 : Int) : Option (Bool ⊕ Unit) := @loopF ((List Int) × Bool) Int (Bool ⊕ Unit) (s_AreVersions_W0 _) (a0_1, a0_3) n a0_5
def s_AreVersions_E0 : Env Tryz.prog (0, 35) (bodyOf Tryz.f56) := ⟨[s_l1In_e], [], [], []⟩
theorem s_AreVersions_b0 : BodyOk T s_AreVersions_E0 [0, 1, 0, 1] s_AreVersions_S0 s_AreVersions_W0 := fun R c p nx ex => by kernel_rfl
def s_AreVersions (l : List Int) : Option Bool :=
  bnd (s_AreVersions_L0 l false big 0) (sum2 (fun y2 => some y2) (fun _ => some (decide (((l.length : Nat) : Int) > 0))))
theorem s_AreVersions_c : FnC Tryz.prog 56 [.v (.sl (.int .i64))] [.bool] (fun x => s_AreVersions x) :=
  FnC.of (body := bodyOf Tryz.f56) (N := (0, 35)) tabOk tabB mixed Tryz.func56 (by kernel_rfl) (by kernel_rfl) (fun _ => by kernel_rfl) ⟨[s_l1In_e], [], [⟨[0, 1, 0, 1], LoopE.of tabOk tabB mixed s_AreVersions_E0 [0, 1, 0, 1] (by kernel_rfl) _ _ s_AreVersions_b0⟩], []⟩ (fun _ => by kernel_rfl) (fun x => by kernel_rfl)
def s_AreVersions_e : Entry Tryz.prog := .of s_AreVersions_c
def s_AreVersions_k : CloE Tryz.prog := .one (k := 56) (t := .sl (.int .i64)) (cts := []) ⟨_, Tryz.func56, by kernel_rfl, by kernel_rfl⟩ (fun x c => s_AreVersions x) (fun x c r h => s_AreVersions_c x r h)

/- spec.IsReserved -/
def s_IsReserved (tag : Int) : Option Bool :=
  bnd (s_l1In tag 0 255) fun y1 => fork y1 (need ((16 : Int) ≠ 0) (some ((tag.tmod 16) == 10))) (some false)
theorem s_IsReserved_c : FnC Tryz.prog 101 [.v (.int .i64)] [.bool] (fun x => s_IsReserved x) :=
  FnC.of (body := bodyOf Tryz.f101) (N := (0, 10)) tabOk tabB mixed Tryz.func101 (by kernel_rfl) (by kernel_rfl) (fun _ => by kernel_rfl) ⟨[s_l1In_e], [], [], []⟩ (fun _ => by kernel_rfl) (fun x => by kernel_rfl)
def s_IsReserved_e : Entry Tryz.prog := .of s_IsReserved_c
def s_IsReserved_k : CloE Tryz.prog := .one (k := 101) (t := .int .i64) (cts := []) ⟨_, Tryz.func101, by kernel_rfl, by kernel_rfl⟩ (fun x c => s_IsReserved x) (fun x c r h => s_IsReserved_c x r h)

/- spec.l9Byte -/
def s_l9Byte_B0 {R : Type} (a0_1 : List Int) (a0_3 : Bool) (a0_5 : Int) (nx : Int → Option R) (x0 : Bool → Option R) (x1 : Option R) : Option R :=
  fork (decide (a0_5 < ((a0_1.length : Nat) : Int))) (need (0 ≤ a0_5 ∧ a0_5 < ((a0_1.length : Nat) : Int)) (
  bnd (s_l1In (a0_1.getD a0_5.toNat (dflt (.int .i64))) 0 255) fun y1 => fork (!y1) (x0 false) (nx (w64 (a0_5 + 1))))) (x1)
def s_l9Byte_S0 : LoopS := ⟨⟨[(0, false, [.ro]), (2, false, [.val]), (3, false, [.val])], []⟩, [some 0, some 1, none], [.v (.sl (.int .i64)), .v (.bool)], [.v (.int .i64)],
  [⟨.ret, ⟨[(2, false, [.val])], []⟩, [none], [.v (.bool)]⟩, ⟨.exit 0, ⟨[(2, false, [.val])], []⟩, [some 1], []⟩]⟩
def s_l9Byte_W0 : LoopB s_l9Byte_S0 := fun R c p nx ex => s_l9Byte_B0 c.1 c.2 p (fun v0 => nx v0) (fun v0 => ex (.inl v0)) (ex (.inr ()))
def s_l9Byte_L0 (a0_1 : List Int) (a0_3 : Bool) (n : Nat) (a0_5 : Int) : Option (Bool ⊕ Unit) := @loopF ((List Int) × Bool) Int (Bool ⊕ Unit) (s_l9Byte_W0 _) (a0_1, a0_3) n a0_5
def s_l9Byte_E0 : Env Tryz.prog (0, 16) (bodyOf Tryz.f131) := ⟨[s_l1In_e], [], [], []⟩
theorem s_l9Byte_b0 : BodyOk T s_l9Byte_E0 [0, 1, 0, 1] s_l9Byte_S0 s_l9Byte_W0 := fun R c p nx ex => by kernel_rfl
def s_l9Byte (b : List Int) : Option Bool :=
  bnd (s_l9Byte_L0 b false big 0) (sum2 (fun y2 => some y2) (fun _ => some true))
theorem s_l9Byte_c : FnC Tryz.prog 131 [.v (.sl (.int .i64))] [.bool] (fun x => s_l9Byte x) :=
  FnC.of (body := bodyOf Tryz.f131) (N := (0, 16)) tabOk tabB mixed Tryz.func131 (by kernel_rfl) (by kernel_rfl) (fun _ => by kernel_rfl) ⟨[s_l1In_e], [], [⟨[0, 1, 0, 1], LoopE.of tabOk tabB mixed s_l9Byte_E0 [0, 1, 0, 1] (by kernel_rfl) _ _ s_l9Byte_b0⟩], []⟩ (fun _ => by kernel_rfl) (fun x => by kernel_rfl)
def s_l9Byte_e : Entry Tryz.prog := .of s_l9Byte_c
def s_l9Byte_k : CloE Tryz.prog := .one (k := 131) (t := .sl (.int .i64)) (cts := []) ⟨_, Tryz.func131, by kernel_rfl, by kernel_rfl⟩ (fun x c => s_l9Byte x) (fun x c r h => s_l9Byte_c x r h)

/- spec.IsBox -/
def s_IsBox (b : BoxV) : Option Bool :=
  bnd (s_l1In b.Limit 0 9) fun y1 => fork y1 (fork (decide (((b.Drops.length : Nat) : Int) ≤ 6)) (fork (decide (((b.Strips.length : Nat) : Int) ≤ 6)) (
  bnd (s_l9Byte b.Drops) fun y2 => fork y2 (bnd (s_l9Byte b.Strips) fun y3 => some y3) (some false)) (some false)) (some false)) (some false)
theorem s_IsBox_c : FnC Tryz.prog 102 [.v (.st .box)] [.bool] (fun x => s_IsBox x) :=
  FnC.of (body := bodyOf Tryz.f102) (N := (0, 28)) tabOk tabB mixed Tryz.func102 (by kernel_rfl) (by kernel_rfl) (fun _ => by kernel_rfl) ⟨[s_l1In_e, s_l9Byte_e], [], [], []⟩ (fun _ => by kernel_rfl) (fun x => by kernel_rfl)
def s_IsBox_e : Entry Tryz.prog := .of s_IsBox_c
def s_IsBox_k : CloE Tryz.prog := .one (k := 102) (t := .st .box) (cts := []) ⟨_, Tryz.func102, by kernel_rfl, by kernel_rfl⟩ (fun x c => s_IsBox x) (fun x c r h => s_IsBox_c x r h)

/- spec.IsEndpoint -/
def s_IsEndpoint_B0 {R : Type} (a0_3 : Bool) (a0_7 : List Int) (a0_8 : List Int) (a0_9 : List BoxV) (a0_10 : Int) (a0_5 : Int) (nx : Int → Option R) (x0 : Bool → Option R) (x1 : Option R) : Option R :=
  fork (decide (a0_5 < ((a0_8.length : Nat) : Int))) (need (0 ≤ a0_5 ∧ a0_5 < ((a0_8.length : Nat) : Int)) (
  bnd (s_l1In (a0_8.getD a0_5.toNat (dflt (.int .i64))) 0 255) fun y1 => fork (!y1) (x0 false) (need (0 ≤ a0_5 ∧ a0_5 < ((a0_8.length : Nat) : Int)) (
  bnd (s_IsReserved (a0_8.getD a0_5.toNat (dflt (.int .i64)))) fun y2 => fork y2 (x0 false) (fork (decide (a0_5 > 0)) (
  need (0 ≤ (w64 (a0_5 - 1)) ∧ (w64 (a0_5 - 1)) < ((a0_8.length : Nat) : Int)) (need (0 ≤ a0_5 ∧ a0_5 < ((a0_8.length : Nat) : Int)) (
  fork (decide ((a0_8.getD ((w64 (a0_5 - 1)).toNat) (dflt (.int .i64))) ≥ (a0_8.getD a0_5.toNat (dflt (.int .i64))))) (x0 false) (nx (w64 (a0_5 + 1)))))) (
  nx (w64 (a0_5 + 1)))))))) (x1)
def s_IsEndpoint_S0 : LoopS := ⟨⟨[(1, false, [.bp 1000000 0]), (2, false, [.val]), (3, false, [.val])], [(1000000, .box [.ro, .ro, .ro, .val])]⟩, [some 0, none, some 1, some 2, some 3, some 4], [.v (.bool), .v (.sl (.int .i64)), .v (.sl (.int .i64)), .v (.sl (.st .box)), .v (.int .i64)], [.v (.int .i64)],
  [⟨.ret, ⟨[(2, false, [.val])], []⟩, [none], [.v (.bool)]⟩, ⟨.exit 0, ⟨[(1, false, [.bp 2001000 0]), (2, false, [.val])], [(2001000, .box [.ro, .ro, .ro, .val])]⟩, [some 0, some 1, some 2, some 3, some 4], []⟩]⟩
def s_IsEndpoint_W0 : LoopB s_IsEndpoint_S0 := fun R c p nx ex => s_IsEndpoint_B0 c.1 c.2.1 c.2.2.1 c.2.2.2.1 c.2.2.2.2 p (fun v0 => nx v0) (fun v0 => ex (.inl v0)) (ex (.inr ()))
def s_IsEndpoint_L0 (a0_3 : Bool) (a0_7 : List Int) (a0_8 : List Int) (a0_9 : List BoxV) (a0_10 : Int) (n : Nat) (a0_5 : Int) : Option (Bool ⊕ Unit) := @loopF (Bool × (List Int) × (List Int) × (List BoxV) × Int) Int (Bool ⊕ Unit) (s_IsEndpoint_W0 _) (a0_3, a0_7, a0_8, a0_9, a0_10) n a0_5
def s_IsEndpoint_E0 : Env Tryz.prog (0, 79) (bodyOf Tryz.f55) := ⟨[s_AreVersions_e, s_l1In_e, s_IsReserved_e, s_IsBox_e], [], [], []⟩
theorem s_IsEndpoint_b0 : BodyOk T s_IsEndpoint_E0 [0, 1, 0, 1] s_IsEndpoint_S0 s_IsEndpoint_W0 := fun R c p nx ex => by kernel_rfl
def s_IsEndpoint_B1 {R : Type} (a1_3 : Bool) (a1_7 : List Int) (a1_8 : List Int) (a1_9 : List BoxV) (a1_10 : Int) (a1_5 : Int) (nx : Int → Option R) (x0 : Bool → Option R) (x1 : Option R) : Option R :=
  fork (decide (a1_5 < ((a1_9.length : Nat) : Int))) (need (0 ≤ a1_5 ∧ a1_5 < ((a1_9.length : Nat) : Int)) (
  bnd (s_IsBox (a1_9.getD a1_5.toNat (dflt (.st .box)))) fun y5 => fork (!y5) (x0 false) (nx (w64 (a1_5 + 1))))) (x1)
def s_IsEndpoint_S1 : LoopS := ⟨⟨[(1, false, [.bp 1010000 0]), (2, false, [.val]), (4, false, [.val])], [(1010000, .box [.ro, .ro, .ro, .val])]⟩, [some 0, none, some 1, some 2, some 3, some 4], [.v (.bool), .v (.sl (.int .i64)), .v (.sl (.int .i64)), .v (.sl (.st .box)), .v (.int .i64)], [.v (.int .i64)],
  [⟨.ret, ⟨[(2, false, [.val])], []⟩, [none], [.v (.bool)]⟩, ⟨.exit 2, ⟨[(1, false, [.bp 2011000 0]), (2, false, [.val])], [(2011000, .box [.ro, .ro, .ro, .val])]⟩, [some 0, some 1, some 2, some 3, some 4], []⟩]⟩
def s_IsEndpoint_W1 : LoopB s_IsEndpoint_S1 := fun R c p nx ex => s_IsEndpoint_B1 c.1 c.2.1 c.2.2.1 c.2.2.2.1 c.2.2.2.2 p (fun v0 => nx v0) (fun v0 => ex (.inl v0)) (ex (.inr ()))
def s_IsEndpoint_L1 (a1_3 : Bool) (a1_7 : List Int) (a1_8 : List Int) (a1_9 : List BoxV) (a1_10 : Int) (n : Nat) (a1_5 : Int) : Option (Bool ⊕ Unit) := @loopF (Bool × (List Int) × (List Int) × (List BoxV) × Int) Int (Bool ⊕ Unit) (s_IsEndpoint_W1 _) (a1_3, a1_7, a1_8, a1_9, a1_10) n a1_5
def s_IsEndpoint_E1 : Env Tryz.prog (0, 79) (bodyOf Tryz.f55) := ⟨[s_AreVersions_e, s_l1In_e, s_IsReserved_e, s_IsBox_e], [], [⟨[0, 1, 0, 1], LoopE.of tabOk tabB mixed s_IsEndpoint_E0 [0, 1, 0, 1] (by kernel_rfl) _ _ s_IsEndpoint_b0⟩], []⟩
theorem s_IsEndpoint_b1 : BodyOk T s_IsEndpoint_E1 [0, 1, 0, 1, 1] s_IsEndpoint_S1 s_IsEndpoint_W1 := fun R c p nx ex => by kernel_rfl
def s_IsEndpoint (p0 : EndpointV) : Option Bool :=
  bnd (s_IsEndpoint_L0 false p0.Versions p0.Tags p0.Path p0.Class big 0) (sum2 (fun y3 => some y3) (fun _ =>
  bnd (s_IsEndpoint_L1 false p0.Versions p0.Tags p0.Path p0.Class big 0) (sum2 (fun y6 => some y6) (fun _ => bnd (s_AreVersions p0.Versions) fun y8 => fork y8 (
  fork (decide (((p0.Tags.length : Nat) : Int) ≤ 5)) (fork (decide (((p0.Path.length : Nat) : Int) ≤ 4)) (bnd (s_l1In p0.Class 0 5) fun y9 => some y9) (some false)) (
  some false)) (some false)))))
theorem s_IsEndpoint_c : FnC Tryz.prog 55 [.v (.st .endpoint)] [.bool] (fun x => s_IsEndpoint x) :=
  FnC.of (body := bodyOf Tryz.f55) (N := (0, 79)) tabOk tabB mixed Tryz.func55 (by kernel_rfl) (by kernel_rfl) (fun _ => by kernel_rfl) ⟨[s_AreVersions_e, s_l1In_e, s_IsReserved_e, s_IsBox_e], [], [⟨[0, 1, 0, 1], LoopE.of tabOk tabB mixed s_IsEndpoint_E0 [0, 1, 0, 1] (by kernel_rfl) _ _ s_IsEndpoint_b0⟩, ⟨[0, 1, 0, 1, 1], LoopE.of tabOk tabB mixed s_IsEndpoint_E1 [0, 1, 0, 1, 1] (by kernel_rfl) _ _ s_IsEndpoint_b1⟩], []⟩ (fun _ => by kernel_rfl) (fun x => by kernel_rfl)
def s_IsEndpoint_e : Entry Tryz.prog := .of s_IsEndpoint_c
def s_IsEndpoint_k : CloE Tryz.prog := .one (k := 55) (t := .st .endpoint) (cts := []) ⟨_, Tryz.func55, by kernel_rfl, by kernel_rfl⟩ (fun x c => s_IsEndpoint x) (fun x c r h => s_IsEndpoint_c x r h)

/- spec.l32Tags -/
def s_l32Tags_B0 {R : Type} (a0_1 : List Int) (a0_3 : Bool) (a0_5 : Int) (nx : Int → Option R) (x0 : Bool → Option R) (x1 : Option R) : Option R :=
  fork (decide (a0_5 < ((a0_1.length : Nat) : Int))) (need (0 ≤ a0_5 ∧ a0_5 < ((a0_1.length : Nat) : Int)) (
  bnd (s_l1In (a0_1.getD a0_5.toNat (dflt (.int .i64))) 0 255) fun y1 => fork (!y1) (x0 false) (fork (decide (a0_5 > 0)) (
  need (0 ≤ (w64 (a0_5 - 1)) ∧ (w64 (a0_5 - 1)) < ((a0_1.length : Nat) : Int)) (need (0 ≤ a0_5 ∧ a0_5 < ((a0_1.length : Nat) : Int)) (
  fork (decide ((a0_1.getD ((w64 (a0_5 - 1)).toNat) (dflt (.int .i64))) ≥ (a0_1.getD a0_5.toNat (dflt (.int .i64))))) (x0 false) (nx (w64 (a0_5 + 1)))))) (
  nx (w64 (a0_5 + 1)))))) (x1)
def s_l32Tags_S0 : LoopS := ⟨⟨[(0, false, [.ro]), (2, false, [.val]), (3, false, [.val])], []⟩, [some 0, some 1, none], [.v (.sl (.int .i64)), .v (.bool)], [.v (.int .i64)],
  [⟨.ret, ⟨[(2, false, [.val])], []⟩, [none], [.v (.bool)]⟩, ⟨.exit 0, ⟨[(2, false, [.val])], []⟩, [some 1], []⟩]⟩
def s_l32Tags_W0 : LoopB s_l32Tags_S0 := fun R c p nx ex => s_l32Tags_B0 c.1 c.2 p (fun v0 => nx v0) (fun v0 => ex (.inl v0)) (ex (.inr ()))
def s_l32Tags_L0 (a0_1 : List Int) (a0_3 : Bool) (n : Nat) (a0_5 : Int) : Option (Bool ⊕ Unit) := @loopF ((List Int) × Bool) Int (Bool ⊕ Unit) (s_l32Tags_W0 _) (a0_1, a0_3) n a0_5
def s_l32Tags_E0 : Env Tryz.prog (0, 32) (bodyOf Tryz.f57) := ⟨[s_l1In_e], [], [], []⟩
theorem s_l32Tags_b0 : BodyOk T s_l32Tags_E0 [0, 1, 0, 1] s_l32Tags_S0 s_l32Tags_W0 := fun R c p nx ex => by kernel_rfl
def s_l32Tags (l : List Int) : Option Bool :=
  bnd (s_l32Tags_L0 l false big 0) (sum2 (fun y2 => some y2) (fun _ => some true))
theorem s_l32Tags_c : FnC Tryz.prog 57 [.v (.sl (.int .i64))] [.bool] (fun x => s_l32Tags x) :=
  FnC.of (body := bodyOf Tryz.f57) (N := (0, 32)) tabOk tabB mixed Tryz.func57 (by kernel_rfl) (by kernel_rfl) (fun _ => by kernel_rfl) ⟨[s_l1In_e], [], [⟨[0, 1, 0, 1], LoopE.of tabOk tabB mixed s_l32Tags_E0 [0, 1, 0, 1] (by kernel_rfl) _ _ s_l32Tags_b0⟩], []⟩ (fun _ => by kernel_rfl) (fun x => by kernel_rfl)
def s_l32Tags_e : Entry Tryz.prog := .of s_l32Tags_c
def s_l32Tags_k : CloE Tryz.prog := .one (k := 57) (t := .sl (.int .i64)) (cts := []) ⟨_, Tryz.func57, by kernel_rfl, by kernel_rfl⟩ (fun x c => s_l32Tags x) (fun x c r h => s_l32Tags_c x r h)

/- spec.IsValidKey -/
def s_IsValidKey (secret : Int) : Option Bool :=
  bnd (s_l1In secret 1 2147483646) fun y1 => some y1
theorem s_IsValidKey_c : FnC Tryz.prog 58 [.v (.int .i64)] [.bool] (fun x => s_IsValidKey x) :=
  FnC.of (body := bodyOf Tryz.f58) (N := (0, 5)) tabOk tabB mixed Tryz.func58 (by kernel_rfl) (by kernel_rfl) (fun _ => by kernel_rfl) ⟨[s_l1In_e], [], [], []⟩ (fun _ => by kernel_rfl) (fun x => by kernel_rfl)
def s_IsValidKey_e : Entry Tryz.prog := .of s_IsValidKey_c
def s_IsValidKey_k : CloE Tryz.prog := .one (k := 58) (t := .int .i64) (cts := []) ⟨_, Tryz.func58, by kernel_rfl, by kernel_rfl⟩ (fun x c => s_IsValidKey x) (fun x c r h => s_IsValidKey_c x r h)

/- spec.IsRollout -/
def s_IsRollout_B0 {R : Type} (a0_3 : Bool) (a0_7 : Int) (a0_8 : List Int) (a0_9 : Int) (a0_10 : Bool) (a0_5 : Int) (nx : Int → Option R) (x0 : Bool → Option R) (x1 : Option R) : Option R :=
  fork (decide (a0_5 < ((a0_8.length : Nat) : Int))) (need (0 ≤ a0_5 ∧ a0_5 < ((a0_8.length : Nat) : Int)) (
  bnd (s_l1In (a0_8.getD a0_5.toNat (dflt (.int .i64))) 1 100) fun y1 => fork (!y1) (x0 false) (fork (decide (a0_5 > 0)) (
  need (0 ≤ (w64 (a0_5 - 1)) ∧ (w64 (a0_5 - 1)) < ((a0_8.length : Nat) : Int)) (need (0 ≤ a0_5 ∧ a0_5 < ((a0_8.length : Nat) : Int)) (
  fork (decide ((a0_8.getD ((w64 (a0_5 - 1)).toNat) (dflt (.int .i64))) ≥ (a0_8.getD a0_5.toNat (dflt (.int .i64))))) (x0 false) (nx (w64 (a0_5 + 1)))))) (
  nx (w64 (a0_5 + 1)))))) (x1)
def s_IsRollout_S0 : LoopS := ⟨⟨[(1, false, [.bp 1000000 0]), (2, false, [.val]), (3, false, [.val])], [(1000000, .box [.val, .ro, .val, .val])]⟩, [some 0, none, some 1, some 2, some 3, some 4], [.v (.bool), .v (.int .i64), .v (.sl (.int .i64)), .v (.int .i64), .v (.bool)], [.v (.int .i64)],
  [⟨.ret, ⟨[(2, false, [.val])], []⟩, [none], [.v (.bool)]⟩, ⟨.exit 0, ⟨[(1, false, [.bp 2001000 0]), (2, false, [.val])], [(2001000, .box [.val, .ro, .val, .val])]⟩, [some 0, some 1, some 2, some 3, some 4], []⟩]⟩
def s_IsRollout_W0 : LoopB s_IsRollout_S0 := fun R c p nx ex => s_IsRollout_B0 c.1 c.2.1 c.2.2.1 c.2.2.2.1 c.2.2.2.2 p (fun v0 => nx v0) (fun v0 => ex (.inl v0)) (ex (.inr ()))
def s_IsRollout_L0 (a0_3 : Bool) (a0_7 : Int) (a0_8 : List Int) (a0_9 : Int) (a0_10 : Bool) (n : Nat) (a0_5 : Int) : Option (Bool ⊕ Unit) := @loopF (Bool × Int × (List Int) × Int × Bool) Int (Bool ⊕ Unit) (s_IsRollout_W0 _) (a0_3, a0_7, a0_8, a0_9, a0_10) n a0_5
def s_IsRollout_E0 : Env Tryz.prog (0, 65) (bodyOf Tryz.f59) := ⟨[s_l1In_e], [], [], []⟩
theorem s_IsRollout_b0 : BodyOk T s_IsRollout_E0 [0, 1, 0, 1] s_IsRollout_S0 s_IsRollout_W0 := fun R c p nx ex => by kernel_rfl
def s_IsRollout (p0 : RolloutV) : Option Bool :=
  bnd (s_IsRollout_L0 false p0.Version p0.Stages p0.At p0.Off big 0) (sum2 (fun y2 => some y2) (fun _ => bnd (s_l1In p0.Version 1 9) fun y4 => fork y4 (
  bnd (s_l1In ((p0.Stages.length : Nat) : Int) 1 5) fun y5 => fork y5 (
  need (0 ≤ (w64 (((p0.Stages.length : Nat) : Int) - 1)) ∧ (w64 (((p0.Stages.length : Nat) : Int) - 1)) < ((p0.Stages.length : Nat) : Int)) (
  fork ((p0.Stages.getD ((w64 (((p0.Stages.length : Nat) : Int) - 1)).toNat) (dflt (.int .i64))) == 100) (
  bnd (s_l1In p0.At 0 (w64 (((p0.Stages.length : Nat) : Int) - 1))) fun y6 => some y6) (some false))) (some false)) (some false)))
theorem s_IsRollout_c : FnC Tryz.prog 59 [.v (.st .rollout)] [.bool] (fun x => s_IsRollout x) :=
  FnC.of (body := bodyOf Tryz.f59) (N := (0, 65)) tabOk tabB mixed Tryz.func59 (by kernel_rfl) (by kernel_rfl) (fun _ => by kernel_rfl) ⟨[s_l1In_e], [], [⟨[0, 1, 0, 1], LoopE.of tabOk tabB mixed s_IsRollout_E0 [0, 1, 0, 1] (by kernel_rfl) _ _ s_IsRollout_b0⟩], []⟩ (fun _ => by kernel_rfl) (fun x => by kernel_rfl)
def s_IsRollout_e : Entry Tryz.prog := .of s_IsRollout_c
def s_IsRollout_k : CloE Tryz.prog := .one (k := 59) (t := .st .rollout) (cts := []) ⟨_, Tryz.func59, by kernel_rfl, by kernel_rfl⟩ (fun x c => s_IsRollout x) (fun x c r h => s_IsRollout_c x r h)

/- spec.l9Has -/
def s_l9Has_B0 {R : Type} (a0_1 : List Int) (a0_3 : Int) (a0_5 : Bool) (a0_7 : Int) (nx : Int → Option R) (x0 : Bool → Option R) (x1 : Option R) : Option R :=
  fork (decide (a0_7 < ((a0_1.length : Nat) : Int))) (need (0 ≤ a0_7 ∧ a0_7 < ((a0_1.length : Nat) : Int)) (fork ((a0_1.getD a0_7.toNat (dflt (.int .i64))) == a0_3) (
  x0 true) (nx (w64 (a0_7 + 1))))) (x1)
def s_l9Has_S0 : LoopS := ⟨⟨[(0, false, [.ro]), (1, false, [.val]), (4, false, [.val]), (5, false, [.val])], []⟩, [some 0, some 1, some 2, none], [.v (.sl (.int .i64)), .v (.int .i64), .v (.bool)], [.v (.int .i64)],
  [⟨.ret, ⟨[(4, false, [.val])], []⟩, [none], [.v (.bool)]⟩, ⟨.exit 0, ⟨[(4, false, [.val])], []⟩, [some 2], []⟩]⟩
def s_l9Has_W0 : LoopB s_l9Has_S0 := fun R c p nx ex => s_l9Has_B0 c.1 c.2.1 c.2.2 p (fun v0 => nx v0) (fun v0 => ex (.inl v0)) (ex (.inr ()))
def s_l9Has_L0 (a0_1 : List Int) (a0_3 : Int) (a0_5 : Bool) (n : Nat) (a0_7 : Int) : Option (Bool ⊕ Unit) := @loopF ((List Int) × Int × Bool) Int (Bool ⊕ Unit) (s_l9Has_W0 _) (a0_1, a0_3, a0_5) n a0_7
def s_l9Has_E0 : Env Tryz.prog (0, 18) (bodyOf Tryz.f60) := ⟨[], [], [], []⟩
theorem s_l9Has_b0 : BodyOk T s_l9Has_E0 [0, 1, 0, 1] s_l9Has_S0 s_l9Has_W0 := fun R c p nx ex => by kernel_rfl
def s_l9Has (l : List Int) (n : Int) : Option Bool :=
  bnd (s_l9Has_L0 l n false big 0) (sum2 (fun y1 => some y1) (fun _ => some false))
theorem s_l9Has_c : FnC Tryz.prog 60 [.v (.sl (.int .i64)), .v (.int .i64)] [.bool] (fun x => s_l9Has x.1 x.2) :=
  FnC.of (body := bodyOf Tryz.f60) (N := (0, 18)) tabOk tabB mixed Tryz.func60 (by kernel_rfl) (by kernel_rfl) (fun _ => by kernel_rfl) ⟨[], [], [⟨[0, 1, 0, 1], LoopE.of tabOk tabB mixed s_l9Has_E0 [0, 1, 0, 1] (by kernel_rfl) _ _ s_l9Has_b0⟩], []⟩ (fun _ => by kernel_rfl) (fun x => by kernel_rfl)
def s_l9Has_e : Entry Tryz.prog := .of s_l9Has_c
def s_l9Has_k : CloE Tryz.prog := .two (k := 60) (t := .sl (.int .i64)) (u := .int .i64) (cts := []) ⟨_, Tryz.func60, by kernel_rfl, by kernel_rfl⟩ (fun x y c => s_l9Has x y) (fun x y c r h => s_l9Has_c (x, y) r h)

/- spec.CommonOf -/
def s_CommonOf_B0 {R : Type} (a0_1 : List Int) (a0_3 : List Int) (a0_9 : Int) (a0_10 : List Int) (nx : Int → List Int → Option R) (x0 : List Int → Option R) : Option R :=
  fork (decide (a0_9 < ((a0_1.length : Nat) : Int))) (need (0 ≤ a0_9 ∧ a0_9 < ((a0_1.length : Nat) : Int)) (
  bnd (s_l9Has a0_3 (a0_1.getD a0_9.toNat (dflt (.int .i64)))) fun y1 => fork y1 (need (0 ≤ a0_9 ∧ a0_9 < ((a0_1.length : Nat) : Int)) (
  need ((((a0_10.length + ([(a0_1.getD a0_9.toNat (dflt (.int .i64)))] : List Int).length : Nat)) : Int) * ((8 : Nat) : Int) ≤ 140737488355328) (
  nx (w64 (a0_9 + 1)) (a0_10 ++ ([(a0_1.getD a0_9.toNat (dflt (.int .i64)))] : List Int))))) (nx (w64 (a0_9 + 1)) a0_10))) (x0 a0_10)
def s_CommonOf_S0 : LoopS := ⟨⟨[(0, false, [.ro]), (1, false, [.ro]), (4, false, [.nil (.int .i64)]), (5, false, [.tr 1000000]), (6, false, [.val])], [(1000000, .tree)]⟩, [some 0, some 1, none, none], [.v (.sl (.int .i64)), .v (.sl (.int .i64))], [.v (.int .i64), .v (.sl (.int .i64))],
  [⟨.exit 0, ⟨[(4, false, [.nil (.int .i64)]), (5, false, [.tr 2000000])], [(2000000, .tree)]⟩, [none], [.v (.sl (.int .i64))]⟩]⟩
def s_CommonOf_W0 : LoopB s_CommonOf_S0 := fun R c p nx ex => s_CommonOf_B0 c.1 c.2 p.1 p.2 (fun v0 v1 => nx (v0, v1)) (fun v0 => ex v0)
def s_CommonOf_L0 (a0_1 : List Int) (a0_3 : List Int) (n : Nat) (a0_9 : Int) (a0_10 : List Int) : Option ((List Int)) := @loopF ((List Int) × (List Int)) (Int × (List Int)) ((List Int)) (s_CommonOf_W0 _) (a0_1, a0_3) n (a0_9, a0_10)
def s_CommonOf_E0 : Env Tryz.prog (0, 28) (bodyOf Tryz.f132) := ⟨[s_l9Has_e], [], [], []⟩
theorem s_CommonOf_b0 : BodyOk T s_CommonOf_E0 [0, 1, 0, 1, 1] s_CommonOf_S0 s_CommonOf_W0 := fun R c p nx ex => by kernel_rfl
def s_CommonOf (a : List Int) (b : List Int) : Option (List Int) :=
  bnd (s_CommonOf_L0 a b big 0 ([] : List Int)) fun y2 => some y2
theorem s_CommonOf_c : FnC Tryz.prog 132 [.v (.sl (.int .i64)), .v (.sl (.int .i64))] [.sl (.int .i64)] (fun x => s_CommonOf x.1 x.2) :=
  FnC.of (body := bodyOf Tryz.f132) (N := (0, 28)) tabOk tabB mixed Tryz.func132 (by kernel_rfl) (by kernel_rfl) (fun _ => by kernel_rfl) ⟨[s_l9Has_e], [], [⟨[0, 1, 0, 1, 1], LoopE.of tabOk tabB mixed s_CommonOf_E0 [0, 1, 0, 1, 1] (by kernel_rfl) _ _ s_CommonOf_b0⟩], []⟩ (fun _ => by kernel_rfl) (fun x => by kernel_rfl)
def s_CommonOf_e : Entry Tryz.prog := .of s_CommonOf_c

/- spec.BestCommon -/
def s_BestCommon (a : List Int) (b : List Int) : Option Int :=
  bnd (s_CommonOf a b) fun y1 => bnd (s_AreVersions a) fun y2 => fork (!y2) (some 0) (bnd (s_AreVersions b) fun y3 => fork (!y3) (some 0) (
  fork (((y1.length : Nat) : Int) == 0) (some 0) (need (0 ≤ (w64 (((y1.length : Nat) : Int) - 1)) ∧ (w64 (((y1.length : Nat) : Int) - 1)) < ((y1.length : Nat) : Int)) (
  some (y1.getD ((w64 (((y1.length : Nat) : Int) - 1)).toNat) (dflt (.int .i64)))))))
theorem s_BestCommon_c : FnC Tryz.prog 103 [.v (.sl (.int .i64)), .v (.sl (.int .i64))] [.int .i64] (fun x => s_BestCommon x.1 x.2) :=
  FnC.of (body := bodyOf Tryz.f103) (N := (0, 28)) tabOk tabB mixed Tryz.func103 (by kernel_rfl) (by kernel_rfl) (fun _ => by kernel_rfl) ⟨[s_AreVersions_e, s_CommonOf_e], [], [], []⟩ (fun _ => by kernel_rfl) (fun x => by kernel_rfl)
def s_BestCommon_e : Entry Tryz.prog := .of s_BestCommon_c

/- spec.AllReach -/
def s_AllReach_B0 {R : Type} (a0_1 : List Int) (a0_3 : List (List Int)) (a0_5 : Bool) (a0_7 : Int) (nx : Int → Option R) (x0 : Bool → Option R) (x1 : Option R) : Option R :=
  fork (decide (a0_7 < ((a0_3.length : Nat) : Int))) (need (0 ≤ a0_7 ∧ a0_7 < ((a0_3.length : Nat) : Int)) (
  bnd (s_BestCommon a0_1 (a0_3.getD a0_7.toNat (dflt (.sl (.int .i64))))) fun y1 => fork (y1 == 0) (x0 false) (nx (w64 (a0_7 + 1))))) (x1)
def s_AllReach_S0 : LoopS := ⟨⟨[(0, false, [.ro]), (1, false, [.ro]), (4, false, [.val]), (5, false, [.val])], []⟩, [some 0, some 1, some 2, none], [.v (.sl (.int .i64)), .v (.sl (.sl (.int .i64))), .v (.bool)], [.v (.int .i64)],
  [⟨.ret, ⟨[(4, false, [.val])], []⟩, [none], [.v (.bool)]⟩, ⟨.exit 0, ⟨[(0, false, [.ro]), (4, false, [.val])], []⟩, [some 0, some 2], []⟩]⟩
def s_AllReach_W0 : LoopB s_AllReach_S0 := fun R c p nx ex => s_AllReach_B0 c.1 c.2.1 c.2.2 p (fun v0 => nx v0) (fun v0 => ex (.inl v0)) (ex (.inr ()))
def s_AllReach_L0 (a0_1 : List Int) (a0_3 : List (List Int)) (a0_5 : Bool) (n : Nat) (a0_7 : Int) : Option (Bool ⊕ Unit) := @loopF ((List Int) × (List (List Int)) × Bool) Int (Bool ⊕ Unit) (s_AllReach_W0 _) (a0_1, a0_3, a0_5) n a0_7
def s_AllReach_E0 : Env Tryz.prog (0, 21) (bodyOf Tryz.f61) := ⟨[s_AreVersions_e, s_BestCommon_e], [], [], []⟩
theorem s_AllReach_b0 : BodyOk T s_AllReach_E0 [0, 1, 0, 1] s_AllReach_S0 s_AllReach_W0 := fun R c p nx ex => by kernel_rfl
def s_AllReach (server : List Int) (lists : List (List Int)) : Option Bool :=
  bnd (s_AllReach_L0 server lists false big 0) (sum2 (fun y2 => some y2) (fun _ => bnd (s_AreVersions server) fun y4 => some y4))
theorem s_AllReach_c : FnC Tryz.prog 61 [.v (.sl (.int .i64)), .v (.sl (.sl (.int .i64)))] [.bool] (fun x => s_AllReach x.1 x.2) :=
  FnC.of (body := bodyOf Tryz.f61) (N := (0, 21)) tabOk tabB mixed Tryz.func61 (by kernel_rfl) (by kernel_rfl) (fun _ => by kernel_rfl) ⟨[s_AreVersions_e, s_BestCommon_e], [], [⟨[0, 1, 0, 1], LoopE.of tabOk tabB mixed s_AllReach_E0 [0, 1, 0, 1] (by kernel_rfl) _ _ s_AllReach_b0⟩], []⟩ (fun _ => by kernel_rfl) (fun x => by kernel_rfl)
def s_AllReach_e : Entry Tryz.prog := .of s_AllReach_c
def s_AllReach_k : CloE Tryz.prog := .two (k := 61) (t := .sl (.int .i64)) (u := .sl (.sl (.int .i64))) (cts := []) ⟨_, Tryz.func61, by kernel_rfl, by kernel_rfl⟩ (fun x y c => s_AllReach x y) (fun x y c r h => s_AllReach_c (x, y) r h)

/- spec.ListsOf -/
def s_ListsOf_B0 {R : Type} (a0_9 : List Int) (a0_10 : List Int) (a0_11 : Int) (a0_12 : List EndpointV) (a0_13 : Int) (a0_14 : List Int) (a0_15 : Int) (a0_16 : Bool) (a0_17 : Int) (a0_18 : Int) (a0_19 : List DialedV) (a0_20 : List LoggedV) (a0_21 : Int) (a0_22 : Int) (a0_23 : Int) (a0_7 : Int) (a0_24 : List (List Int)) (nx : Int → List (List Int) → Option R) (x0 : List (List Int) → Option R) : Option R :=
  fork (decide (a0_7 < ((a0_12.length : Nat) : Int))) (need (0 ≤ a0_7 ∧ a0_7 < ((a0_12.length : Nat) : Int)) (
  need ((((([] : List Int).length + ((a0_12.getD a0_7.toNat (dflt (.st .endpoint))).Versions).length : Nat)) : Int) * ((8 : Nat) : Int) ≤ 140737488355328) (
  need ((((a0_24.length + ([(([] : List Int) ++ ((a0_12.getD a0_7.toNat (dflt (.st .endpoint))).Versions))] : List (List Int)).length : Nat)) : Int) * ((24 : Nat) : Int) ≤ 140737488355328) (
  nx (w64 (a0_7 + 1)) (a0_24 ++ ([(([] : List Int) ++ ((a0_12.getD a0_7.toNat (dflt (.st .endpoint))).Versions))] : List (List Int))))))) (x0 a0_24)
def s_ListsOf_S0 : LoopS := ⟨⟨[(1, false, [.bp 1000000 0]), (2, false, [.nil (.sl (.int .i64))]), (3, false, [.tr 1000001]), (4, false, [.val])], [(1000000, .box [.ro, .ro, .val, .ro, .val, .ro, .val, .val, .val, .val, .ro, .ro, .val, .val, .val]), (1000001, .tree)]⟩, [none, some 0, some 1, some 2, some 3, some 4, some 5, some 6, some 7, some 8, some 9, some 10, some 11, some 12, some 13, some 14, none], [.v (.sl (.int .i64)), .v (.sl (.int .i64)), .v (.int .i64), .v (.sl (.st .endpoint)), .v (.int .i64), .v (.sl (.int .i64)), .v (.int .i64), .v (.bool), .v (.int .i64), .v (.int .i64), .v (.sl (.st .dialed)), .v (.sl (.st .logged)), .v (.int .i64), .v (.int .i64), .v (.int .i64)], [.v (.int .i64), .v (.sl (.sl (.int .i64)))],
  [⟨.exit 0, ⟨[(2, false, [.nil (.sl (.int .i64))]), (3, false, [.tr 2000000])], [(2000000, .tree)]⟩, [none], [.v (.sl (.sl (.int .i64)))]⟩]⟩
def s_ListsOf_W0 : LoopB s_ListsOf_S0 := fun R c p nx ex => s_ListsOf_B0 c.1 c.2.1 c.2.2.1 c.2.2.2.1 c.2.2.2.2.1 c.2.2.2.2.2.1 c.2.2.2.2.2.2.1 c.2.2.2.2.2.2.2.1 c.2.2.2.2.2.2.2.2.1 c.2.2.2.2.2.2.2.2.2.1 c.2.2.2.2.2.2.2.2.2.2.1 c.2.2.2.2.2.2.2.2.2.2.2.1 c.2.2.2.2.2.2.2.2.2.2.2.2.1 c.2.2.2.2.2.2.2.2.2.2.2.2.2.1 c.2.2.2.2.2.2.2.2.2.2.2.2.2.2 p.1 p.2 (fun v0 v1 => nx (v0, v1)) (fun v0 => ex v0)
def s_ListsOf_L0 (a0_9 : List Int) (a0_10 : List Int) (a0_11 : Int) (a0_12 : List EndpointV) (a0_13 : Int) (a0_14 : List Int) (a0_15 : Int) (a0_16 : Bool) (a0_17 : Int) (a0_18 : Int) (a0_19 : List DialedV) (a0_20 : List LoggedV) (a0_21 : Int) (a0_22 : Int) (a0_23 : Int) (n : Nat) (a0_7 : Int) (a0_24 : List (List Int)) : Option ((List (List Int))) := @loopF ((List Int) × (List Int) × Int × (List EndpointV) × Int × (List Int) × Int × Bool × Int × Int × (List DialedV) × (List LoggedV) × Int × Int × Int) (Int × (List (List Int))) ((List (List Int))) (s_ListsOf_W0 _) (a0_9, a0_10, a0_11, a0_12, a0_13, a0_14, a0_15, a0_16, a0_17, a0_18, a0_19, a0_20, a0_21, a0_22, a0_23) n (a0_7, a0_24)
def s_ListsOf_E0 : Env Tryz.prog (0, 25) (bodyOf Tryz.f62) := ⟨[], [], [], []⟩
theorem s_ListsOf_b0 : BodyOk T s_ListsOf_E0 [0, 1, 0, 1, 1] s_ListsOf_S0 s_ListsOf_W0 := fun R c p nx ex => by kernel_rfl
def s_ListsOf (w : WorldV) : Option (List (List Int)) :=
  bnd (s_ListsOf_L0 w.Server w.Tags w.Key w.Ends w.Rollout.Version w.Rollout.Stages w.Rollout.At w.Rollout.Off w.Least w.Percent w.Stage w.Log w.Now w.Hurt w.Reached big 0 ([] : List (List Int))) fun y1 =>
  some y1
theorem s_ListsOf_c : FnC Tryz.prog 62 [.v (.st .world)] [.sl (.sl (.int .i64))] (fun x => s_ListsOf x) :=
  FnC.of (body := bodyOf Tryz.f62) (N := (0, 25)) tabOk tabB mixed Tryz.func62 (by kernel_rfl) (by kernel_rfl) (fun _ => by kernel_rfl) ⟨[], [], [⟨[0, 1, 0, 1, 1], LoopE.of tabOk tabB mixed s_ListsOf_E0 [0, 1, 0, 1, 1] (by kernel_rfl) _ _ s_ListsOf_b0⟩], []⟩ (fun _ => by kernel_rfl) (fun x => by kernel_rfl)
def s_ListsOf_e : Entry Tryz.prog := .of s_ListsOf_c

/- spec.IsWorld -/
def s_IsWorld_B0 {R : Type} (a0_3 : Bool) (a0_7 : List Int) (a0_8 : List Int) (a0_9 : Int) (a0_10 : List EndpointV) (a0_11 : Int) (a0_12 : List Int) (a0_13 : Int) (a0_14 : Bool) (a0_15 : Int) (a0_16 : Int) (a0_17 : List DialedV) (a0_18 : List LoggedV) (a0_19 : Int) (a0_20 : Int) (a0_21 : Int) (a0_5 : Int) (nx : Int → Option R) (x0 : Bool → Option R) (x1 : Option R) : Option R :=
  fork (decide (a0_5 < ((a0_10.length : Nat) : Int))) (need (0 ≤ a0_5 ∧ a0_5 < ((a0_10.length : Nat) : Int)) (
  bnd (s_IsEndpoint (a0_10.getD a0_5.toNat (dflt (.st .endpoint)))) fun y1 => fork (!y1) (x0 false) (nx (w64 (a0_5 + 1))))) (x1)
def s_IsWorld_S0 : LoopS := ⟨⟨[(1, false, [.bp 1000000 0]), (2, false, [.val]), (3, false, [.val])], [(1000000, .box [.ro, .ro, .val, .ro, .val, .ro, .val, .val, .val, .val, .ro, .ro, .val, .val, .val])]⟩, [some 0, none, some 1, some 2, some 3, some 4, some 5, some 6, some 7, some 8, some 9, some 10, some 11, some 12, some 13, some 14, some 15], [.v (.bool), .v (.sl (.int .i64)), .v (.sl (.int .i64)), .v (.int .i64), .v (.sl (.st .endpoint)), .v (.int .i64), .v (.sl (.int .i64)), .v (.int .i64), .v (.bool), .v (.int .i64), .v (.int .i64), .v (.sl (.st .dialed)), .v (.sl (.st .logged)), .v (.int .i64), .v (.int .i64), .v (.int .i64)], [.v (.int .i64)],
  [⟨.ret, ⟨[(2, false, [.val])], []⟩, [none], [.v (.bool)]⟩, ⟨.exit 0, ⟨[(1, false, [.bp 2001000 0]), (2, false, [.val])], [(2001000, .box [.ro, .ro, .val, .ro, .val, .ro, .val, .val, .val, .val, .ro, .ro, .val, .val, .val])]⟩, [some 0, some 1, some 2, some 3, some 4, some 5, some 6, some 7, some 8, some 9, some 10, some 11, some 12, some 13, some 14, some 15], []⟩]⟩
def s_IsWorld_W0 : LoopB s_IsWorld_S0 := fun R c p nx ex => s_IsWorld_B0 c.1 c.2.1 c.2.2.1 c.2.2.2.1 c.2.2.2.2.1 c.2.2.2.2.2.1 c.2.2.2.2.2.2.1 c.2.2.2.2.2.2.2.1 c.2.2.2.2.2.2.2.2.1 c.2.2.2.2.2.2.2.2.2.1 c.2.2.2.2.2.2.2.2.2.2.1 c.2.2.2.2.2.2.2.2.2.2.2.1 c.2.2.2.2.2.2.2.2.2.2.2.2.1 c.2.2.2.2.2.2.2.2.2.2.2.2.2.1 c.2.2.2.2.2.2.2.2.2.2.2.2.2.2.1 c.2.2.2.2.2.2.2.2.2.2.2.2.2.2.2 p (fun v0 => nx v0) (fun v0 => ex (.inl v0)) (ex (.inr ()))
def s_IsWorld_L0 (a0_3 : Bool) (a0_7 : List Int) (a0_8 : List Int) (a0_9 : Int) (a0_10 : List EndpointV) (a0_11 : Int) (a0_12 : List Int) (a0_13 : Int) (a0_14 : Bool) (a0_15 : Int) (a0_16 : Int) (a0_17 : List DialedV) (a0_18 : List LoggedV) (a0_19 : Int) (a0_20 : Int) (a0_21 : Int) (n : Nat) (a0_5 : Int) : Option (Bool ⊕ Unit) := @loopF (Bool × (List Int) × (List Int) × Int × (List EndpointV) × Int × (List Int) × Int × Bool × Int × Int × (List DialedV) × (List LoggedV) × Int × Int × Int) Int (Bool ⊕ Unit) (s_IsWorld_W0 _) (a0_3, a0_7, a0_8, a0_9, a0_10, a0_11, a0_12, a0_13, a0_14, a0_15, a0_16, a0_17, a0_18, a0_19, a0_20, a0_21) n a0_5
def s_IsWorld_E0 : Env Tryz.prog (0, 105) (bodyOf Tryz.f11) := ⟨[s_IsEndpoint_e, s_AreVersions_e, s_l32Tags_e, s_IsValidKey_e, s_IsRollout_e, s_l9Has_e, s_AllReach_e, s_ListsOf_e, s_l1In_e], [], [], []⟩
theorem s_IsWorld_b0 : BodyOk T s_IsWorld_E0 [0, 1, 0, 1] s_IsWorld_S0 s_IsWorld_W0 := fun R c p nx ex => by kernel_rfl
def s_IsWorld (w : WorldV) : Option Bool :=
  bnd (s_IsWorld_L0 false w.Server w.Tags w.Key w.Ends w.Rollout.Version w.Rollout.Stages w.Rollout.At w.Rollout.Off w.Least w.Percent w.Stage w.Log w.Now w.Hurt w.Reached big 0)
  (sum2 (fun y2 => some y2) (fun _ => bnd (s_AreVersions w.Server) fun y4 => fork (!y4) (some false) (bnd (s_l32Tags w.Tags) fun y5 => fork (!y5) (some false) (
  bnd (s_IsValidKey w.Key) fun y6 => fork (!y6) (some false) (fork (decide (((w.Ends.length : Nat) : Int) > 6)) (some false) (bnd (s_IsRollout w.Rollout) fun y7 =>
  fork (!y7) (some false) (bnd (s_l9Has w.Server w.Rollout.Version) fun y8 => fork (!y8) (some false) (bnd (s_ListsOf w) fun y9 =>
  bnd (s_AllReach w.Server y9) fun y10 => fork (!y10) (some false) (bnd (s_l1In w.Least 1 100) fun y11 => fork y11 (bnd (s_l1In w.Percent 0 100) fun y12 => fork y12 (
  fork (decide (((w.Stage.length : Nat) : Int) ≤ 60)) (fork (decide (((w.Log.length : Nat) : Int) ≤ 60)) (bnd (s_l1In w.Now 0 10000) fun y13 => fork y13 (
  bnd (s_l1In w.Hurt 0 ((w.Log.length : Nat) : Int)) fun y14 => fork y14 (bnd (s_l1In w.Reached 0 ((w.Rollout.Stages.length : Nat) : Int)) fun y15 => some y15) (
  some false)) (some false)) (some false)) (some false)) (some false)) (some false))))))))))
theorem s_IsWorld_c : FnC Tryz.prog 11 [.v (.st .world)] [.bool] (fun x => s_IsWorld x) :=
  FnC.of (body := bodyOf Tryz.f11) (N := (0, 105)) tabOk tabB mixed Tryz.func11 (by kernel_rfl) (by kernel_rfl) (fun _ => by kernel_rfl) ⟨[s_IsEndpoint_e, s_AreVersions_e, s_l32Tags_e, s_IsValidKey_e, s_IsRollout_e, s_l9Has_e, s_AllReach_e, s_ListsOf_e, s_l1In_e], [], [⟨[0, 1, 0, 1], LoopE.of tabOk tabB mixed s_IsWorld_E0 [0, 1, 0, 1] (by kernel_rfl) _ _ s_IsWorld_b0⟩], []⟩ (fun _ => by kernel_rfl) (fun x => by kernel_rfl)
def s_IsWorld_e : Entry Tryz.prog := .of s_IsWorld_c
def s_IsWorld_k : CloE Tryz.prog := .one (k := 11) (t := .st .world) (cts := []) ⟨_, Tryz.func11, by kernel_rfl, by kernel_rfl⟩ (fun x c => s_IsWorld x) (fun x c r h => s_IsWorld_c x r h)

/- spec.l32End -/
def s_l32End_B0 {R : Type} (a0_9 : List Int) (a0_10 : List Int) (a0_11 : List BoxV) (a0_12 : Int) (a0_17 : Int) (a0_22 : Int) (a0_23 : List Int) (a0_24 : List Int) (a0_7 : Int) (a0_25 : List BoxV) (nx : Int → List BoxV → Option R) (x0 : List BoxV → Option R) : Option R :=
  fork (decide (a0_7 < ((a0_11.length : Nat) : Int))) (need (0 ≤ a0_7 ∧ a0_7 < ((a0_11.length : Nat) : Int)) (
  need ((((([] : List Int).length + ((a0_11.getD a0_7.toNat (dflt (.st .box))).Drops).length : Nat)) : Int) * ((8 : Nat) : Int) ≤ 140737488355328) (
  need ((((([] : List Int).length + ((a0_11.getD a0_7.toNat (dflt (.st .box))).Strips).length : Nat)) : Int) * ((8 : Nat) : Int) ≤ 140737488355328) (
  need ((((a0_25.length + ([(⟨(a0_11.getD a0_7.toNat (dflt (.st .box))).Limit, (([] : List Int) ++ ((a0_11.getD a0_7.toNat (dflt (.st .box))).Drops)), (([] : List Int) ++ ((a0_11.getD a0_7.toNat (dflt (.st .box))).Strips)), (a0_11.getD a0_7.toNat (dflt (.st .box))).Lists⟩ : BoxV)] : List BoxV).length : Nat)) : Int) * ((64 : Nat) : Int) ≤ 140737488355328) (
  nx (w64 (a0_7 + 1)) (a0_25 ++ ([(⟨(a0_11.getD a0_7.toNat (dflt (.st .box))).Limit, (([] : List Int) ++ ((a0_11.getD a0_7.toNat (dflt (.st .box))).Drops)), (([] : List Int) ++ ((a0_11.getD a0_7.toNat (dflt (.st .box))).Strips)), (a0_11.getD a0_7.toNat (dflt (.st .box))).Lists⟩ : BoxV)] : List BoxV))
 ))))) (x0 a0_25)
def s_l32End_S0 : LoopS := ⟨⟨[(1, false, [.bp 1000000 0]), (2, false, [.bp 1000001 0]), (3, false, [.bp 1000002 0]), (4, false, [.val])], [(1000000, .box [.ro, .ro, .ro, .val]), (1000001, .box [.nil (.int .i64), .nil (.int .i64), .nil (.st .box), .val]), (1000002, .box [.tr 1000003, .tr 1000004, .tr 1000005, .val]), (1000003, .tree), (1000004, .tree), (1000005, .tree)]⟩, [none, some 0, some 1, some 2, some 3, some 4, some 5, some 6, some 7, none], [.v (.sl (.int .i64)), .v (.sl (.int .i64)), .v (.sl (.st .box)), .v (.int .i64), .v (.int .i64), .v (.int .i64), .v (.sl (.int .i64)), .v (.sl (.int .i64))], [.v (.int .i64), .v (.sl (.st .box))],
  [⟨.exit 0, ⟨[(2, false, [.bp 2000000 0]), (3, false, [.bp 2000001 0])], [(2000000, .box [.nil (.int .i64), .nil (.int .i64), .nil (.st .box), .val]), (2000001, .box [.tr 2000002, .tr 2000003, .tr 2000004, .val]), (2000002, .tree), (2000003, .tree), (2000004, .tree)]⟩, [some 4, some 5, some 6, some 7, none], [.v (.sl (.st .box))]⟩]⟩
def s_l32End_W0 : LoopB s_l32End_S0 := fun R c p nx ex => s_l32End_B0 c.1 c.2.1 c.2.2.1 c.2.2.2.1 c.2.2.2.2.1 c.2.2.2.2.2.1 c.2.2.2.2.2.2.1 c.2.2.2.2.2.2.2 p.1 p.2 (fun v0 v1 => nx (v0, v1)) (fun v0 => ex v0)
def s_l32End_L0 (a0_9 : List Int) (a0_10 : List Int) (a0_11 : List BoxV) (a0_12 : Int) (a0_17 : Int) (a0_22 : Int) (a0_23 : List Int) (a0_24 : List Int) (n : Nat) (a0_7 : Int) (a0_25 : List BoxV) : Option ((List BoxV)) := @loopF ((List Int) × (List Int) × (List BoxV) × Int × Int × Int × (List Int) × (List Int)) (Int × (List BoxV)) ((List BoxV)) (s_l32End_W0 _) (a0_9, a0_10, a0_11, a0_12, a0_17, a0_22, a0_23, a0_24) n (a0_7, a0_25)
def s_l32End_E0 : Env Tryz.prog (0, 48) (bodyOf Tryz.f157) := ⟨[], [], [], []⟩
theorem s_l32End_b0 : BodyOk T s_l32End_E0 [0, 1, 0, 1, 1] s_l32End_S0 s_l32End_W0 := fun R c p nx ex => by kernel_rfl
def s_l32End (p0 : EndpointV) : Option EndpointV :=
  need ((((([] : List Int).length + p0.Versions.length : Nat)) : Int) * ((8 : Nat) : Int) ≤ 140737488355328) (
  need ((((([] : List Int).length + p0.Tags.length : Nat)) : Int) * ((8 : Nat) : Int) ≤ 140737488355328) (
  bnd (s_l32End_L0 p0.Versions p0.Tags p0.Path p0.Class 0 p0.Class (([] : List Int) ++ p0.Versions) (([] : List Int) ++ p0.Tags) big 0 ([] : List BoxV)) fun y1 =>
  some (⟨(([] : List Int) ++ p0.Versions), (([] : List Int) ++ p0.Tags), y1, p0.Class⟩ : EndpointV)))
theorem s_l32End_c : FnC Tryz.prog 157 [.v (.st .endpoint)] [.st .endpoint] (fun x => s_l32End x) :=
  FnC.of (body := bodyOf Tryz.f157) (N := (0, 48)) tabOk tabB mixed Tryz.func157 (by kernel_rfl) (by kernel_rfl) (fun _ => by kernel_rfl) ⟨[], [], [⟨[0, 1, 0, 1, 1], LoopE.of tabOk tabB mixed s_l32End_E0 [0, 1, 0, 1, 1] (by kernel_rfl) _ _ s_l32End_b0⟩], []⟩ (fun _ => by kernel_rfl) (fun x => by kernel_rfl)
def s_l32End_e : Entry Tryz.prog := .of s_l32End_c

/- spec.l26Copy -/
def s_l26Copy (p0 : RolloutV) : Option RolloutV :=
  need ((((([] : List Int).length + p0.Stages.length : Nat)) : Int) * ((8 : Nat) : Int) ≤ 140737488355328) (
  some (⟨p0.Version, (([] : List Int) ++ p0.Stages), p0.At, p0.Off⟩ : RolloutV))
theorem s_l26Copy_c : FnC Tryz.prog 158 [.v (.st .rollout)] [.st .rollout] (fun x => s_l26Copy x) :=
  FnC.of (body := bodyOf Tryz.f158) (N := (0, 9)) tabOk tabB mixed Tryz.func158 (by kernel_rfl) (by kernel_rfl) (fun _ => by kernel_rfl) ⟨[], [], [], []⟩ (fun _ => by kernel_rfl) (fun x => by kernel_rfl)
def s_l26Copy_e : Entry Tryz.prog := .of s_l26Copy_c

/- spec.l32Dialed -/
def s_l32Dialed (d : DialedV) : Option DialedV :=
  need ((((([] : List Int).length + d.Deal.Tags.length : Nat)) : Int) * ((8 : Nat) : Int) ≤ 140737488355328) (
  need ((((([] : List Int).length + d.Up.length : Nat)) : Int) * ((8 : Nat) : Int) ≤ 140737488355328) (
  some (⟨(⟨d.Deal.Ok, d.Deal.Version, (([] : List Int) ++ d.Deal.Tags)⟩ : DealV), d.Tries, (([] : List Int) ++ d.Up)⟩ : DialedV)))
theorem s_l32Dialed_c : FnC Tryz.prog 159 [.v (.st .dialed)] [.st .dialed] (fun x => s_l32Dialed x) :=
  FnC.of (body := bodyOf Tryz.f159) (N := (0, 16)) tabOk tabB mixed Tryz.func159 (by kernel_rfl) (by kernel_rfl) (fun _ => by kernel_rfl) ⟨[], [], [], []⟩ (fun _ => by kernel_rfl) (fun x => by kernel_rfl)
def s_l32Dialed_e : Entry Tryz.prog := .of s_l32Dialed_c

/- spec.l32Copy -/
def s_l32Copy_B0 {R : Type} (a0_9 : List Int) (a0_10 : List Int) (a0_11 : Int) (a0_12 : List EndpointV) (a0_13 : Int) (a0_14 : List Int) (a0_15 : Int) (a0_16 : Bool) (a0_17 : Int) (a0_18 : Int) (a0_19 : List DialedV) (a0_20 : List LoggedV) (a0_21 : Int) (a0_22 : Int) (a0_23 : Int) (a0_27 : Int) (a0_29 : Int) (a0_31 : Int) (a0_32 : Bool) (a0_33 : Int) (a0_34 : Int) (a0_37 : Int) (a0_38 : Int) (a0_39 : Int) (a0_43 : Int) (a0_45 : Int) (a0_46 : List Int) (a0_47 : Int) (a0_48 : Bool) (a0_49 : Int) (a0_50 : Int) (a0_51 : List DialedV) (a0_52 : List LoggedV) (a0_53 : Int) (a0_54 : Int) (a0_55 : Int) (a0_56 : List Int) (a0_57 : List Int) (a0_7 : Int) (a0_58 : List EndpointV) (nx : Int → List EndpointV → Option R) (x0 : List EndpointV → Option R) : Option R :=
  fork (decide (a0_7 < ((a0_12.length : Nat) : Int))) (need (0 ≤ a0_7 ∧ a0_7 < ((a0_12.length : Nat) : Int)) (
  bnd (s_l32End (a0_12.getD a0_7.toNat (dflt (.st .endpoint)))) fun y1 =>
  need ((((a0_58.length + ([y1] : List EndpointV).length : Nat)) : Int) * ((80 : Nat) : Int) ≤ 140737488355328) (nx (w64 (a0_7 + 1)) (a0_58 ++ ([y1] : List EndpointV))))
 ) (x0 a0_58)
def s_l32Copy_S0 : LoopS := ⟨⟨[(1, false, [.bp 1000000 0]), (2, false, [.bp 1000001 0]), (3, false, [.bp 1000002 0]), (4, false, [.val])], [(1000000, .box [.ro, .ro, .val, .ro, .val, .ro, .val, .val, .val, .val, .ro, .ro, .val, .val, .val]), (1000001, .box [.nil (.int .i64), .nil (.int .i64), .val, .nil (.st .endpoint), .val, .nil (.int .i64), .val, .val, .val, .val, .nil (.st .dialed), .nil (.st .logged), .val, .val, .val]), (1000002, .box [.tr 1000003, .tr 1000004, .val, .tr 1000005, .val, .ro, .val, .val, .val, .val, .ro, .ro, .val, .val, .val]), (1000003, .tree), (1000004, .tree), (1000005, .tree)]⟩, [none, some 0, some 1, some 2, some 3, some 4, some 5, some 6, some 7, some 8, some 9, some 10, some 11, some 12, some 13, some 14, some 15, some 16, some 17, some 18, some 19, some 20, some 21, some 22, some 23, some 24, some 25, some 26, some 27, some 28, some 29, some 30, some 31, some 32, some 33, some 34, some 35, some 36, some 37, none], [.v (.sl (.int .i64)), .v (.sl (.int .i64)), .v (.int .i64), .v (.sl (.st .endpoint)), .v (.int .i64), .v (.sl (.int .i64)), .v (.int .i64), .v (.bool), .v (.int .i64), .v (.int .i64), .v (.sl (.st .dialed)), .v (.sl (.st .logged)), .v (.int .i64), .v (.int .i64), .v (.int .i64), .v (.int .i64), .v (.int .i64), .v (.int .i64), .v (.bool), .v (.int .i64), .v (.int .i64), .v (.int .i64), .v (.int .i64), .v (.int .i64), .v (.int .i64), .v (.int .i64), .v (.sl (.int .i64)), .v (.int .i64), .v (.bool), .v (.int .i64), .v (.int .i64), .v (.sl (.st .dialed)), .v (.sl (.st .logged)), .v (.int .i64), .v (.int .i64), .v (.int .i64), .v (.sl (.int .i64)), .v (.sl (.int .i64))], [.v (.int .i64), .v (.sl (.st .endpoint))],
  [⟨.exit 0, ⟨[(1, false, [.bp 2000000 0]), (2, false, [.bp 2000001 0]), (3, false, [.bp 2000002 0])], [(2000000, .box [.ro, .ro, .val, .ro, .val, .ro, .val, .val, .val, .val, .ro, .ro, .val, .val, .val]), (2000001, .box [.nil (.int .i64), .nil (.int .i64), .val, .nil (.st .endpoint), .val, .nil (.int .i64), .val, .val, .val, .val, .nil (.st .dialed), .nil (.st .logged), .val, .val, .val]), (2000002, .box [.tr 2000003, .tr 2000004, .val, .tr 2000005, .val, .ro, .val, .val, .val, .val, .ro, .ro, .val, .val, .val]), (2000003, .tree), (2000004, .tree), (2000005, .tree)]⟩, [some 0, some 1, some 2, some 3, some 4, some 5, some 6, some 7, some 8, some 9, some 10, some 11, some 12, some 13, some 14, some 15, some 16, some 17, some 18, some 19, some 20, some 21, some 22, some 23, some 24, some 25, some 26, some 27, some 28, some 29, some 30, some 31, some 32, some 33, some 34, some 35, some 36, some 37, none], [.v (.sl (.st .endpoint))]⟩]⟩
def s_l32Copy_W0 : LoopB s_l32Copy_S0 := fun R c p nx ex => s_l32Copy_B0 c.1 c.2.1 c.2.2.1 c.2.2.2.1 c.2.2.2.2.1 c.2.2.2.2.2.1 c.2.2.2.2.2.2.1 c.2.2.2.2.2.2.2.1 c.2.2.2.2.2.2.2.2.1 c.2.2.2.2.2.2.2.2.2.1 c.2.2.2.2.2.2.2.2.2.2.1 c.2.2.2.2.2.2.2.2.2.2.2.1 c.2.2.2.2.2.2.2.2.2.2.2.2.1 c.2.2.2.2.2.2.2.2.2.2.2.2.2.1 c.2.2.2.2.2.2.2.2.2.2.2.2.2.2.1 c.2.2.2.2.2.2.2.2.2.2.2.2.2.2.2.1 c.2.2.2.2.2.2.2.2.2.2.2.2.2.2.2.2.1 c.2.2.2.2.2.2.2.2.2.2.2.2.2.2.2.2.2.1 c.2.2.2.2.2.2.2.2.2.2.2.2.2.2.2.2.2.2.1 c.2.2.2.2.2.2.2.2.2.2.2.2.2.2.2.2.2.2.2.1 c.2.2.2.2.2.2.2.2.2.2.2.2.2.2.2.2.2.2.2.2.1 c.2.2.2.2.2.2.2.2.2.2.2.2.2.2.2.2.2.2.2.2.2.1 c.2.2.2.2.2.2.2.2.2.2.2.2.2.2.2.2.2.2.2.2.2.2.1 c.2.2.2.2.2.2.2.2.2.2.2.2.2.2.2.2.2.2.2.2.2.2.2.1 c.2.2.2.2.2.2.2.2.2.2.2.2.2.2.2.2.2.2.2.2.2.2.2.2.1 c.2.2.2.2.2.2.2.2.2.2.2.2.2.2.2.2.2.2.2.2.2.2.2.2.2.1 c.2.2.2.2.2.2.2.2.2.2.2.2.2.2.2.2.2.2.2.2.2.2.2.2.2.2.1 c.2.2.2.2.2.2.2.2.2.2.2.2.2.2.2.2.2.2.2.2.2.2.2.2.2.2.2.1 c.2.2.2.2.2.2.2.2.2.2.2.2.2.2.2.2.2.2.2.2.2.2.2.2.2.2.2.2.1 c.2.2.2.2.2.2.2.2.2.2.2.2.2.2.2.2.2.2.2.2.2.2.2.2.2.2.2.2.2.1 c.2.2.2.2.2.2.2.2.2.2.2.2.2.2.2.2.2.2.2.2.2.2.2.2.2.2.2.2.2.2.1 c.2.2.2.2.2.2.2.2.2.2.2.2.2.2.2.2.2.2.2.2.2.2.2.2.2.2.2.2.2.2.2.1 c.2.2.2.2.2.2.2.2.2.2.2.2.2.2.2.2.2.2.2.2.2.2.2.2.2.2.2.2.2.2.2.2.1 c.2.2.2.2.2.2.2.2.2.2.2.2.2.2.2.2.2.2.2.2.2.2.2.2.2.2.2.2.2.2.2.2.2.1 c.2.2.2.2.2.2.2.2.2.2.2.2.2.2.2.2.2.2.2.2.2.2.2.2.2.2.2.2.2.2.2.2.2.2.1 c.2.2.2.2.2.2.2.2.2.2.2.2.2.2.2.2.2.2.2.2.2.2.2.2.2.2.2.2.2.2.2.2.2.2.2.1 c.2.2.2.2.2.2.2.2.2.2.2.2.2.2.2.2.2.2.2.2.2.2.2.2.2.2.2.2.2.2.2.2.2.2.2.2.1 c.2.2.2.2.2.2.2.2.2.2.2.2.2.2.2.2.2.2.2.2.2.2.2.2.2.2.2.2.2.2.2.2.2.2.2.2.2 p.1 p.2 (fun v0 v1 => nx (v0, v1)) (fun v0 => ex v0)
def s_l32Copy_L0 (a0_9 : List Int) (a0_10 : List Int) (a0_11 : Int) (a0_12 : List EndpointV) (a0_13 : Int) (a0_14 : List Int) (a0_15 : Int) (a0_16 : Bool) (a0_17 : Int) (a0_18 : Int) (a0_19 : List DialedV) (a0_20 : List LoggedV) (a0_21 : Int) (a0_22 : Int) (a0_23 : Int) (a0_27 : Int) (a0_29 : Int) (a0_31 : Int) (a0_32 : Bool) (a0_33 : Int) (a0_34 : Int) (a0_37 : Int) (a0_38 : Int) (a0_39 : Int) (a0_43 : Int) (a0_45 : Int) (a0_46 : List Int) (a0_47 : Int) (a0_48 : Bool) (a0_49 : Int) (a0_50 : Int) (a0_51 : List DialedV) (a0_52 : List LoggedV) (a0_53 : Int) (a0_54 : Int) (a0_55 : Int) (a0_56 : List Int) (a0_57 : List Int) (n : Nat) (a0_7 : Int) (a0_58 : List EndpointV) : Option ((List EndpointV)) := @loopF ((List Int) × (List Int) × Int × (List EndpointV) × Int × (List Int) × Int × Bool × Int × Int × (List DialedV) × (List LoggedV) × Int × Int × Int × Int × Int × Int × Bool × Int × Int × Int × Int × Int × Int × Int × (List Int) × Int × Bool × Int × Int × (List DialedV) × (List LoggedV) × Int × Int × Int × (List Int) × (List Int)) (Int × (List EndpointV)) ((List EndpointV)) (s_l32Copy_W0 _) (a0_9, a0_10, a0_11, a0_12, a0_13, a0_14, a0_15, a0_16, a0_17, a0_18, a0_19, a0_20, a0_21, a0_22, a0_23, a0_27, a0_29, a0_31, a0_32, a0_33, a0_34, a0_37, a0_38, a0_39, a0_43, a0_45, a0_46, a0_47, a0_48, a0_49, a0_50, a0_51, a0_52, a0_53, a0_54, a0_55, a0_56, a0_57) n (a0_7, a0_58)
def s_l32Copy_E0 : Env Tryz.prog (0, 103) (bodyOf Tryz.f133) := ⟨[s_l32End_e, s_l26Copy_e, s_l32Dialed_e], [], [], []⟩
theorem s_l32Copy_b0 : BodyOk T s_l32Copy_E0 [0, 1, 0, 1, 1, 1, 1, 1] s_l32Copy_S0 s_l32Copy_W0 := fun R c p nx ex => by kernel_rfl
def s_l32Copy_B1 {R : Type} (a1_9 : List Int) (a1_10 : List Int) (a1_11 : Int) (a1_12 : List EndpointV) (a1_13 : Int) (a1_14 : List Int) (a1_15 : Int) (a1_16 : Bool) (a1_17 : Int) (a1_18 : Int) (a1_19 : List DialedV) (a1_20 : List LoggedV) (a1_21 : Int) (a1_22 : Int) (a1_23 : Int) (a1_27 : Int) (a1_29 : Int) (a1_31 : Int) (a1_32 : Bool) (a1_33 : Int) (a1_34 : Int) (a1_37 : Int) (a1_38 : Int) (a1_39 : Int) (a1_43 : Int) (a1_45 : Int) (a1_47 : Int) (a1_48 : Bool) (a1_49 : Int) (a1_50 : Int) (a1_52 : List LoggedV) (a1_53 : Int) (a1_54 : Int) (a1_55 : Int) (a1_56 : List Int) (a1_57 : List Int) (a1_58 : List EndpointV) (a1_59 : List Int) (a1_7 : Int) (a1_60 : List DialedV) (nx : Int → List DialedV → Option R) (x0 : List DialedV → Option R) : Option R :=
  fork (decide (a1_7 < ((a1_19.length : Nat) : Int))) (need (0 ≤ a1_7 ∧ a1_7 < ((a1_19.length : Nat) : Int)) (
  bnd (s_l32Dialed (⟨((a1_19.getD a1_7.toNat (dflt (.st .dialed))).Deal), (a1_19.getD a1_7.toNat (dflt (.st .dialed))).Tries, (a1_19.getD a1_7.toNat (dflt (.st .dialed))).Up⟩ : DialedV)) fun y4 =>
  need ((((a1_60.length + ([y4] : List DialedV).length : Nat)) : Int) * ((72 : Nat) : Int) ≤ 140737488355328) (nx (w64 (a1_7 + 1)) (a1_60 ++ ([y4] : List DialedV))))) (
  x0 a1_60)
def s_l32Copy_S1 : LoopS := ⟨⟨[(1, false, [.bp 1010000 0]), (2, false, [.bp 1010001 0]), (3, false, [.bp 1010002 0]), (5, false, [.val])], [(1010000, .box [.ro, .ro, .val, .ro, .val, .ro, .val, .val, .val, .val, .ro, .ro, .val, .val, .val]), (1010001, .box [.nil (.int .i64), .nil (.int .i64), .val, .nil (.st .endpoint), .val, .nil (.int .i64), .val, .val, .val, .val, .nil (.st .dialed), .nil (.st .logged), .val, .val, .val]), (1010002, .box [.tr 1010003, .tr 1010004, .val, .tr 1010005, .val, .tr 1010006, .val, .val, .val, .val, .tr 1010007, .ro, .val, .val, .val]), (1010003, .tree), (1010004, .tree), (1010005, .tree), (1010006, .tree), (1010007, .tree)]⟩, [none, some 0, some 1, some 2, some 3, some 4, some 5, some 6, some 7, some 8, some 9, some 10, some 11, some 12, some 13, some 14, some 15, some 16, some 17, some 18, some 19, some 20, some 21, some 22, some 23, some 24, some 25, some 26, some 27, some 28, some 29, some 30, some 31, some 32, some 33, some 34, some 35, some 36, some 37, none], [.v (.sl (.int .i64)), .v (.sl (.int .i64)), .v (.int .i64), .v (.sl (.st .endpoint)), .v (.int .i64), .v (.sl (.int .i64)), .v (.int .i64), .v (.bool), .v (.int .i64), .v (.int .i64), .v (.sl (.st .dialed)), .v (.sl (.st .logged)), .v (.int .i64), .v (.int .i64), .v (.int .i64), .v (.int .i64), .v (.int .i64), .v (.int .i64), .v (.bool), .v (.int .i64), .v (.int .i64), .v (.int .i64), .v (.int .i64), .v (.int .i64), .v (.int .i64), .v (.int .i64), .v (.int .i64), .v (.bool), .v (.int .i64), .v (.int .i64), .v (.sl (.st .logged)), .v (.int .i64), .v (.int .i64), .v (.int .i64), .v (.sl (.int .i64)), .v (.sl (.int .i64)), .v (.sl (.st .endpoint)), .v (.sl (.int .i64))], [.v (.int .i64), .v (.sl (.st .dialed))],
  [⟨.exit 2, ⟨[(1, false, [.bp 2010000 0]), (2, false, [.bp 2010001 0]), (3, false, [.bp 2010002 0])], [(2010000, .box [.ro, .ro, .val, .ro, .val, .ro, .val, .val, .val, .val, .ro, .ro, .val, .val, .val]), (2010001, .box [.nil (.int .i64), .nil (.int .i64), .val, .nil (.st .endpoint), .val, .nil (.int .i64), .val, .val, .val, .val, .nil (.st .dialed), .nil (.st .logged), .val, .val, .val]), (2010002, .box [.tr 2010003, .tr 2010004, .val, .tr 2010005, .val, .tr 2010006, .val, .val, .val, .val, .tr 2010007, .ro, .val, .val, .val]), (2010003, .tree), (2010004, .tree), (2010005, .tree), (2010006, .tree), (2010007, .tree)]⟩, [some 0, some 1, some 2, some 3, some 4, some 5, some 6, some 7, some 8, some 9, some 10, some 11, some 12, some 13, some 14, some 15, some 16, some 17, some 18, some 19, some 20, some 21, some 22, some 23, some 24, some 25, some 26, some 27, some 28, some 29, some 30, some 31, some 32, some 33, some 34, some 35, some 36, some 37, none], [.v (.sl (.st .dialed))]⟩]⟩
def s_l32Copy_W1 : LoopB s_l32Copy_S1 := fun R c p nx ex => s_l32Copy_B1 c.1 c.2.1 c.2.2.1 c.2.2.2.1 c.2.2.2.2.1 c.2.2.2.2.2.1 c.2.2.2.2.2.2.1 c.2.2.2.2.2.2.2.1 c.2.2.2.2.2.2.2.2.1 c.2.2.2.2.2.2.2.2.2.1 c.2.2.2.2.2.2.2.2.2.2.1 c.2.2.2.2.2.2.2.2.2.2.2.1 c.2.2.2.2.2.2.2.2.2.2.2.2.1 c.2.2.2.2.2.2.2.2.2.2.2.2.2.1 c.2.2.2.2.2.2.2.2.2.2.2.2.2.2.1 c.2.2.2.2.2.2.2.2.2.2.2.2.2.2.2.1 c.2.2.2.2.2.2.2.2.2.2.2.2.2.2.2.2.1 c.2.2.2.2.2.2.2.2.2.2.2.2.2.2.2.2.2.1 c.2.2.2.2.2.2.2.2.2.2.2.2.2.2.2.2.2.2.1 c.2.2.2.2.2.2.2.2.2.2.2.2.2.2.2.2.2.2.2.1 c.2.2.2.2.2.2.2.2.2.2.2.2.2.2.2.2.2.2.2.2.1 c.2.2.2.2.2.2.2.2.2.2.2.2.2.2.2.2.2.2.2.2.2.1 c.2.2.2.2.2.2.2.2.2.2.2.2.2.2.2.2.2.2.2.2.2.2.1 c.2.2.2.2.2.2.2.2.2.2.2.2.2.2.2.2.2.2.2.2.2.2.2.1 c.2.2.2.2.2.2.2.2.2.2.2.2.2.2.2.2.2.2.2.2.2.2.2.2.1 c.2.2.2.2.2.2.2.2.2.2.2.2.2.2.2.2.2.2.2.2.2.2.2.2.2.1 c.2.2.2.2.2.2.2.2.2.2.2.2.2.2.2.2.2.2.2.2.2.2.2.2.2.2.1 c.2.2.2.2.2.2.2.2.2.2.2.2.2.2.2.2.2.2.2.2.2.2.2.2.2.2.2.1 c.2.2.2.2.2.2.2.2.2.2.2.2.2.2.2.2.2.2.2.2.2.2.2.2.2.2.2.2.1 c.2.2.2.2.2.2.2.2.2.2.2.2.2.2.2.2.2.2.2.2.2.2.2.2.2.2.2.2.2.1 c.2.2.2.2.2.2.2.2.2.2.2.2.2.2.2.2.2.2.2.2.2.2.2.2.2.2.2.2.2.2.1 c.2.2.2.2.2.2.2.2.2.2.2.2.2.2.2.2.2.2.2.2.2.2.2.2.2.2.2.2.2.2.2.1 c.2.2.2.2.2.2.2.2.2.2.2.2.2.2.2.2.2.2.2.2.2.2.2.2.2.2.2.2.2.2.2.2.1 c.2.2.2.2.2.2.2.2.2.2.2.2.2.2.2.2.2.2.2.2.2.2.2.2.2.2.2.2.2.2.2.2.2.1 c.2.2.2.2.2.2.2.2.2.2.2.2.2.2.2.2.2.2.2.2.2.2.2.2.2.2.2.2.2.2.2.2.2.2.1 c.2.2.2.2.2.2.2.2.2.2.2.2.2.2.2.2.2.2.2.2.2.2.2.2.2.2.2.2.2.2.2.2.2.2.2.1 c.2.2.2.2.2.2.2.2.2.2.2.2.2.2.2.2.2.2.2.2.2.2.2.2.2.2.2.2.2.2.2.2.2.2.2.2.1 c.2.2.2.2.2.2.2.2.2.2.2.2.2.2.2.2.2.2.2.2.2.2.2.2.2.2.2.2.2.2.2.2.2.2.2.2.2 p.1 p.2 (fun v0 v1 => nx (v0, v1)) (fun v0 => ex v0)
def s_l32Copy_L1 (a1_9 : List Int) (a1_10 : List Int) (a1_11 : Int) (a1_12 : List EndpointV) (a1_13 : Int) (a1_14 : List Int) (a1_15 : Int) (a1_16 : Bool) (a1_17 : Int) (a1_18 : Int) (a1_19 : List DialedV) (a1_20 : List LoggedV) (a1_21 : Int) (a1_22 : Int) (a1_23 : Int) (a1_27 : Int) (a1_29 : Int) (a1_31 : Int) (a1_32 : Bool) (a1_33 : Int) (a1_34 : Int) (a1_37 : Int) (a1_38 : Int) (a1_39 : Int) (a1_43 : Int) (a1_45 : Int) (a1_47 : Int) (a1_48 : Bool) (a1_49 : Int) (a1_50 : Int) (a1_52 : List LoggedV) (a1_53 : Int) (a1_54 : Int) (a1_55 : Int) (a1_56 : List Int) (a1_57 : List Int) (a1_58 : List EndpointV) (a1_59 : List Int) (n : Nat) (a1_7 : Int) (a1_60 : List DialedV) : Option ((List DialedV)) := @loopF ((List Int) × (List Int) × Int × (List EndpointV) × Int × (List Int) × Int × Bool × Int × Int × (List DialedV) × (List LoggedV) × Int × Int × Int × Int × Int × Int × Bool × Int × Int × Int × Int × Int × Int × Int × Int × Bool × Int × Int × (List LoggedV) × Int × Int × Int × (List Int) × (List Int) × (List EndpointV) × (List Int)) (Int × (List DialedV)) ((List DialedV)) (s_l32Copy_W1 _) (a1_9, a1_10, a1_11, a1_12, a1_13, a1_14, a1_15, a1_16, a1_17, a1_18, a1_19, a1_20, a1_21, a1_22, a1_23, a1_27, a1_29, a1_31, a1_32, a1_33, a1_34, a1_37, a1_38, a1_39, a1_43, a1_45, a1_47, a1_48, a1_49, a1_50, a1_52, a1_53, a1_54, a1_55, a1_56, a1_57, a1_58, a1_59) n (a1_7, a1_60)
def s_l32Copy_E1 : Env Tryz.prog (0, 103) (bodyOf Tryz.f133) := ⟨[s_l32End_e, s_l26Copy_e, s_l32Dialed_e], [], [⟨[0, 1, 0, 1, 1, 1, 1, 1], LoopE.of tabOk tabB mixed s_l32Copy_E0 [0, 1, 0, 1, 1, 1, 1, 1] (by kernel_rfl) _ _ s_l32Copy_b0⟩], []⟩
theorem s_l32Copy_b1 : BodyOk T s_l32Copy_E1 [0, 1, 0, 1, 1, 1, 1, 1, 1, 1, 1] s_l32Copy_S1 s_l32Copy_W1 := fun R c p nx ex => by kernel_rfl
def s_l32Copy_B2 {R : Type} (a2_9 : List Int) (a2_10 : List Int) (a2_11 : Int) (a2_12 : List EndpointV) (a2_13 : Int) (a2_14 : List Int) (a2_15 : Int) (a2_16 : Bool) (a2_17 : Int) (a2_18 : Int) (a2_19 : List DialedV) (a2_20 : List LoggedV) (a2_21 : Int) (a2_22 : Int) (a2_23 : Int) (a2_27 : Int) (a2_29 : Int) (a2_31 : Int) (a2_32 : Bool) (a2_33 : Int) (a2_34 : Int) (a2_37 : Int) (a2_38 : Int) (a2_39 : Int) (a2_43 : Int) (a2_45 : Int) (a2_47 : Int) (a2_48 : Bool) (a2_49 : Int) (a2_50 : Int) (a2_53 : Int) (a2_54 : Int) (a2_55 : Int) (a2_56 : List Int) (a2_57 : List Int) (a2_58 : List EndpointV) (a2_59 : List Int) (a2_60 : List DialedV) (a2_7 : Int) (a2_61 : List LoggedV) (nx : Int → List LoggedV → Option R) (x0 : List LoggedV → Option R) : Option R :=
  fork (decide (a2_7 < ((a2_20.length : Nat) : Int))) (need (0 ≤ a2_7 ∧ a2_7 < ((a2_20.length : Nat) : Int)) (need (0 ≤ a2_7 ∧ a2_7 < ((a2_20.length : Nat) : Int)) (
  need (0 ≤ a2_7 ∧ a2_7 < ((a2_20.length : Nat) : Int)) (need (0 ≤ a2_7 ∧ a2_7 < ((a2_20.length : Nat) : Int)) (
  bnd (s_l32Dialed (⟨(((a2_20.getD a2_7.toNat (dflt (.st .logged))).Dialed).Deal), ((a2_20.getD a2_7.toNat (dflt (.st .logged))).Dialed).Tries, ((a2_20.getD a2_7.toNat (dflt (.st .logged))).Dialed).Up⟩ : DialedV)) fun y6 =>
  need ((((a2_61.length + ([(⟨(a2_20.getD a2_7.toNat (dflt (.st .logged))).End, (a2_20.getD a2_7.toNat (dflt (.st .logged))).Tick, (a2_20.getD a2_7.toNat (dflt (.st .logged))).On, y6⟩ : LoggedV)] : List LoggedV).length : Nat)) : Int) * ((96 : Nat) : Int) ≤ 140737488355328) (
  nx (w64 (a2_7 + 1)) (a2_61 ++ ([(⟨(a2_20.getD a2_7.toNat (dflt (.st .logged))).End, (a2_20.getD a2_7.toNat (dflt (.st .logged))).Tick, (a2_20.getD a2_7.toNat (dflt (.st .logged))).On, y6⟩ : LoggedV)] : List LoggedV))
 )))))) (x0 a2_61)
def s_l32Copy_S2 : LoopS := ⟨⟨[(1, false, [.bp 1020000 0]), (2, false, [.bp 1020001 0]), (3, false, [.bp 1020002 0]), (6, false, [.val])], [(1020000, .box [.ro, .ro, .val, .ro, .val, .ro, .val, .val, .val, .val, .ro, .ro, .val, .val, .val]), (1020001, .box [.nil (.int .i64), .nil (.int .i64), .val, .nil (.st .endpoint), .val, .nil (.int .i64), .val, .val, .val, .val, .nil (.st .dialed), .nil (.st .logged), .val, .val, .val]), (1020002, .box [.tr 1020003, .tr 1020004, .val, .tr 1020005, .val, .tr 1020006, .val, .val, .val, .val, .tr 1020007, .tr 1020008, .val, .val, .val]), (1020003, .tree), (1020004, .tree), (1020005, .tree), (1020006, .tree), (1020007, .tree), (1020008, .tree)]⟩, [none, some 0, some 1, some 2, some 3, some 4, some 5, some 6, some 7, some 8, some 9, some 10, some 11, some 12, some 13, some 14, some 15, some 16, some 17, some 18, some 19, some 20, some 21, some 22, some 23, some 24, some 25, some 26, some 27, some 28, some 29, some 30, some 31, some 32, some 33, some 34, some 35, some 36, some 37, none], [.v (.sl (.int .i64)), .v (.sl (.int .i64)), .v (.int .i64), .v (.sl (.st .endpoint)), .v (.int .i64), .v (.sl (.int .i64)), .v (.int .i64), .v (.bool), .v (.int .i64), .v (.int .i64), .v (.sl (.st .dialed)), .v (.sl (.st .logged)), .v (.int .i64), .v (.int .i64), .v (.int .i64), .v (.int .i64), .v (.int .i64), .v (.int .i64), .v (.bool), .v (.int .i64), .v (.int .i64), .v (.int .i64), .v (.int .i64), .v (.int .i64), .v (.int .i64), .v (.int .i64), .v (.int .i64), .v (.bool), .v (.int .i64), .v (.int .i64), .v (.int .i64), .v (.int .i64), .v (.int .i64), .v (.sl (.int .i64)), .v (.sl (.int .i64)), .v (.sl (.st .endpoint)), .v (.sl (.int .i64)), .v (.sl (.st .dialed))], [.v (.int .i64), .v (.sl (.st .logged))],
  [⟨.exit 4, ⟨[(2, false, [.bp 2020000 0]), (3, false, [.bp 2020001 0])], [(2020000, .box [.nil (.int .i64), .nil (.int .i64), .val, .nil (.st .endpoint), .val, .nil (.int .i64), .val, .val, .val, .val, .nil (.st .dialed), .nil (.st .logged), .val, .val, .val]), (2020001, .box [.tr 2020002, .tr 2020003, .val, .tr 2020004, .val, .tr 2020005, .val, .val, .val, .val, .tr 2020006, .tr 2020007, .val, .val, .val]), (2020002, .tree), (2020003, .tree), (2020004, .tree), (2020005, .tree), (2020006, .tree), (2020007, .tree)]⟩, [some 15, some 16, some 17, some 18, some 19, some 20, some 21, some 22, some 23, some 24, some 25, some 26, some 27, some 28, some 29, some 30, some 31, some 32, some 33, some 34, some 35, some 36, some 37, none], [.v (.sl (.st .logged))]⟩]⟩
def s_l32Copy_W2 : LoopB s_l32Copy_S2 := fun R c p nx ex => s_l32Copy_B2 c.1 c.2.1 c.2.2.1 c.2.2.2.1 c.2.2.2.2.1 c.2.2.2.2.2.1 c.2.2.2.2.2.2.1 c.2.2.2.2.2.2.2.1 c.2.2.2.2.2.2.2.2.1 c.2.2.2.2.2.2.2.2.2.1 c.2.2.2.2.2.2.2.2.2.2.1 c.2.2.2.2.2.2.2.2.2.2.2.1 c.2.2.2.2.2.2.2.2.2.2.2.2.1 c.2.2.2.2.2.2.2.2.2.2.2.2.2.1 c.2.2.2.2.2.2.2.2.2.2.2.2.2.2.1 c.2.2.2.2.2.2.2.2.2.2.2.2.2.2.2.1 c.2.2.2.2.2.2.2.2.2.2.2.2.2.2.2.2.1 c.2.2.2.2.2.2.2.2.2.2.2.2.2.2.2.2.2.1 c.2.2.2.2.2.2.2.2.2.2.2.2.2.2.2.2.2.2.1 c.2.2.2.2.2.2.2.2.2.2.2.2.2.2.2.2.2.2.2.1 c.2.2.2.2.2.2.2.2.2.2.2.2.2.2.2.2.2.2.2.2.1 c.2.2.2.2.2.2.2.2.2.2.2.2.2.2.2.2.2.2.2.2.2.1 c.2.2.2.2.2.2.2.2.2.2.2.2.2.2.2.2.2.2.2.2.2.2.1 c.2.2.2.2.2.2.2.2.2.2.2.2.2.2.2.2.2.2.2.2.2.2.2.1 c.2.2.2.2.2.2.2.2.2.2.2.2.2.2.2.2.2.2.2.2.2.2.2.2.1 c.2.2.2.2.2.2.2.2.2.2.2.2.2.2.2.2.2.2.2.2.2.2.2.2.2.1 c.2.2.2.2.2.2.2.2.2.2.2.2.2.2.2.2.2.2.2.2.2.2.2.2.2.2.1 c.2.2.2.2.2.2.2.2.2.2.2.2.2.2.2.2.2.2.2.2.2.2.2.2.2.2.2.1 c.2.2.2.2.2.2.2.2.2.2.2.2.2.2.2.2.2.2.2.2.2.2.2.2.2.2.2.2.1 c.2.2.2.2.2.2.2.2.2.2.2.2.2.2.2.2.2.2.2.2.2.2.2.2.2.2.2.2.2.1 c.2.2.2.2.2.2.2.2.2.2.2.2.2.2.2.2.2.2.2.2.2.2.2.2.2.2.2.2.2.2.1 c.2.2.2.2.2.2.2.2.2.2.2.2.2.2.2.2.2.2.2.2.2.2.2.2.2.2.2.2.2.2.2.1 c.2.2.2.2.2.2.2.2.2.2.2.2.2.2.2.2.2.2.2.2.2.2.2.2.2.2.2.2.2.2.2.2.1 c.2.2.2.2.2.2.2.2.2.2.2.2.2.2.2.2.2.2.2.2.2.2.2.2.2.2.2.2.2.2.2.2.2.1 c.2.2.2.2.2.2.2.2.2.2.2.2.2.2.2.2.2.2.2.2.2.2.2.2.2.2.2.2.2.2.2.2.2.2.1 c.2.2.2.2.2.2.2.2.2.2.2.2.2.2.2.2.2.2.2.2.2.2.2.2.2.2.2.2.2.2.2.2.2.2.2.1 c.2.2.2.2.2.2.2.2.2.2.2.2.2.2.2.2.2.2.2.2.2.2.2.2.2.2.2.2.2.2.2.2.2.2.2.2.1 c.2.2.2.2.2.2.2.2.2.2.2.2.2.2.2.2.2.2.2.2.2.2.2.2.2.2.2.2.2.2.2.2.2.2.2.2.2 p.1 p.2 (fun v0 v1 => nx (v0, v1)) (fun v0 => ex v0)
def s_l32Copy_L2 (a2_9 : List Int) (a2_10 : List Int) (a2_11 : Int) (a2_12 : List EndpointV) (a2_13 : Int) (a2_14 : List Int) (a2_15 : Int) (a2_16 : Bool) (a2_17 : Int) (a2_18 : Int) (a2_19 : List DialedV) (a2_20 : List LoggedV) (a2_21 : Int) (a2_22 : Int) (a2_23 : Int) (a2_27 : Int) (a2_29 : Int) (a2_31 : Int) (a2_32 : Bool) (a2_33 : Int) (a2_34 : Int) (a2_37 : Int) (a2_38 : Int) (a2_39 : Int) (a2_43 : Int) (a2_45 : Int) (a2_47 : Int) (a2_48 : Bool) (a2_49 : Int) (a2_50 : Int) (a2_53 : Int) (a2_54 : Int) (a2_55 : Int) (a2_56 : List Int) (a2_57 : List Int) (a2_58 : List EndpointV) (a2_59 : List Int) (a2_60 : List DialedV) (n : Nat) (a2_7 : Int) (a2_61 : List LoggedV) : Option ((List LoggedV)) := @loopF ((List Int) × (List Int) × Int × (List EndpointV) × Int × (List Int) × Int × Bool × Int × Int × (List DialedV) × (List LoggedV) × Int × Int × Int × Int × Int × Int × Bool × Int × Int × Int × Int × Int × Int × Int × Int × Bool × Int × Int × Int × Int × Int × (List Int) × (List Int) × (List EndpointV) × (List Int) × (List DialedV)) (Int × (List LoggedV)) ((List LoggedV)) (s_l32Copy_W2 _) (a2_9, a2_10, a2_11, a2_12, a2_13, a2_14, a2_15, a2_16, a2_17, a2_18, a2_19, a2_20, a2_21, a2_22, a2_23, a2_27, a2_29, a2_31, a2_32, a2_33, a2_34, a2_37, a2_38, a2_39, a2_43, a2_45, a2_47, a2_48, a2_49, a2_50, a2_53, a2_54, a2_55, a2_56, a2_57, a2_58, a2_59, a2_60) n (a2_7, a2_61)
def s_l32Copy_E2 : Env Tryz.prog (0, 103) (bodyOf Tryz.f133) := ⟨[s_l32End_e, s_l26Copy_e, s_l32Dialed_e], [], [⟨[0, 1, 0, 1, 1, 1, 1, 1], LoopE.of tabOk tabB mixed s_l32Copy_E0 [0, 1, 0, 1, 1, 1, 1, 1] (by kernel_rfl) _ _ s_l32Copy_b0⟩, ⟨[0, 1, 0, 1, 1, 1, 1, 1, 1, 1, 1], LoopE.of tabOk tabB mixed s_l32Copy_E1 [0, 1, 0, 1, 1, 1, 1, 1, 1, 1, 1] (by kernel_rfl) _ _ s_l32Copy_b1⟩], []⟩
theorem s_l32Copy_b2 : BodyOk T s_l32Copy_E2 [0, 1, 0, 1, 1, 1, 1, 1, 1, 1, 1, 1, 1] s_l32Copy_S2 s_l32Copy_W2 := fun R c p nx ex => by kernel_rfl
def s_l32Copy (w : WorldV) : Option WorldV :=
  need ((((([] : List Int).length + w.Server.length : Nat)) : Int) * ((8 : Nat) : Int) ≤ 140737488355328) (
  need ((((([] : List Int).length + w.Tags.length : Nat)) : Int) * ((8 : Nat) : Int) ≤ 140737488355328) (
  bnd (s_l32Copy_L0 w.Server w.Tags w.Key w.Ends w.Rollout.Version w.Rollout.Stages w.Rollout.At w.Rollout.Off w.Least w.Percent w.Stage w.Log w.Now w.Hurt w.Reached 0 0 0 false 0 0 0 0 0 w.Key w.Rollout.Version w.Rollout.Stages w.Rollout.At w.Rollout.Off w.Least w.Percent w.Stage w.Log w.Now w.Hurt w.Reached (([] : List Int) ++ w.Server) (([] : List Int) ++ w.Tags) big 0 ([] : List EndpointV)) fun y2 =>
  bnd (s_l26Copy w.Rollout) fun y3 =>
  bnd (s_l32Copy_L1 w.Server w.Tags w.Key w.Ends w.Rollout.Version w.Rollout.Stages w.Rollout.At w.Rollout.Off w.Least w.Percent w.Stage w.Log w.Now w.Hurt w.Reached 0 0 0 false 0 0 0 0 0 w.Key y3.Version y3.At y3.Off w.Least w.Percent w.Log w.Now w.Hurt w.Reached (([] : List Int) ++ w.Server) (([] : List Int) ++ w.Tags) y2 y3.Stages big 0 ([] : List DialedV)) fun y5 =>
  bnd (s_l32Copy_L2 w.Server w.Tags w.Key w.Ends w.Rollout.Version w.Rollout.Stages w.Rollout.At w.Rollout.Off w.Least w.Percent w.Stage w.Log w.Now w.Hurt w.Reached 0 0 0 false 0 0 0 0 0 w.Key y3.Version y3.At y3.Off w.Least w.Percent w.Now w.Hurt w.Reached (([] : List Int) ++ w.Server) (([] : List Int) ++ w.Tags) y2 y3.Stages y5 big 0 ([] : List LoggedV)) fun y7 =>
  some (⟨(([] : List Int) ++ w.Server), (([] : List Int) ++ w.Tags), w.Key, y2, y3, w.Least, w.Percent, y5, y7, w.Now, w.Hurt, w.Reached⟩ : WorldV)))
theorem s_l32Copy_c : FnC Tryz.prog 133 [.v (.st .world)] [.st .world] (fun x => s_l32Copy x) :=
  FnC.of (body := bodyOf Tryz.f133) (N := (0, 103)) tabOk tabB mixed Tryz.func133 (by kernel_rfl) (by kernel_rfl) (fun _ => by kernel_rfl) ⟨[s_l32End_e, s_l26Copy_e, s_l32Dialed_e], [], [⟨[0, 1, 0, 1, 1, 1, 1, 1], LoopE.of tabOk tabB mixed s_l32Copy_E0 [0, 1, 0, 1, 1, 1, 1, 1] (by kernel_rfl) _ _ s_l32Copy_b0⟩, ⟨[0, 1, 0, 1, 1, 1, 1, 1, 1, 1, 1], LoopE.of tabOk tabB mixed s_l32Copy_E1 [0, 1, 0, 1, 1, 1, 1, 1, 1, 1, 1] (by kernel_rfl) _ _ s_l32Copy_b1⟩, ⟨[0, 1, 0, 1, 1, 1, 1, 1, 1, 1, 1, 1, 1], LoopE.of tabOk tabB mixed s_l32Copy_E2 [0, 1, 0, 1, 1, 1, 1, 1, 1, 1, 1, 1, 1] (by kernel_rfl) _ _ s_l32Copy_b2⟩], []⟩ (fun _ => by kernel_rfl) (fun x => by kernel_rfl)
def s_l32Copy_e : Entry Tryz.prog := .of s_l32Copy_c

/- spec.NewWorld -/
def s_NewWorld (server : List Int) (tags : List Int) (ends : List EndpointV) (p3 : RolloutV) : Option (WorldV × Bool) :=
  bnd (s_l32Copy (⟨server, tags, 77, ends, p3, 4, 25, [], [], 0, 0, 0⟩ : WorldV)) fun y1 => bnd (s_IsWorld y1) fun y2 => fork (!y2) (
  some ((⟨[], [], 0, [], (⟨0, [], 0, false⟩ : RolloutV), 0, 0, [], [], 0, 0, 0⟩ : WorldV), false)) (some (y1, true))
theorem s_NewWorld_c : FnC Tryz.prog 117 [.v (.sl (.int .i64)), .v (.sl (.int .i64)), .v (.sl (.st .endpoint)), .v (.st .rollout)] [.st .world, .bool] (fun x => s_NewWorld x.1 x.2.1 x.2.2.1 x.2.2.2) :=
  FnC.of (body := bodyOf Tryz.f117) (N := (0, 22)) tabOk tabB mixed Tryz.func117 (by kernel_rfl) (by kernel_rfl) (fun _ => by kernel_rfl) ⟨[s_IsWorld_e, s_l32Copy_e], [], [], []⟩ (fun _ => by kernel_rfl) (fun x => by kernel_rfl)
def s_NewWorld_e : Entry Tryz.prog := .of s_NewWorld_c

/- spec.l32World -/
def s_l32World_B0 {R : Type} (a0_13 : List Int) (a0_19 : Int) (a0_21 : Int) (a0_23 : Int) (a0_24 : Bool) (a0_25 : Int) (a0_26 : Int) (a0_29 : Int) (a0_30 : Int) (a0_31 : Int) (a0_32 : List Int) (a0_34 : Int) (a0_36 : Int) (a0_37 : Bool) (a0_39 : List Int) (a0_11 : Int) (a0_14 : Int) (a0_15 : Int) (a0_38 : List EndpointV) (nx : Int → Int → Int → List EndpointV → Option R) (x0 : Int → Int → List EndpointV → Option R) : Option R :=
  fork (decide (a0_11 > 0)) (bnd (s_l31Draw (⟨a0_13, a0_14, a0_15⟩ : CurV)) fun y7 => bnd (s_l1Below (⟨a0_13, y7.2.i, y7.2.h⟩ : CurV) 2) fun y8 =>
  bnd (s_l4Put ([1] : List Int) (w64 (2 + y8.1))) fun y9 =>
  need ((((a0_38.length + ([(⟨y9, y7.1.Tags, y7.1.Path, y7.1.Class⟩ : EndpointV)] : List EndpointV).length : Nat)) : Int) * ((80 : Nat) : Int) ≤ 140737488355328) (
  nx (w64 (a0_11 - 1)) y8.2.i y8.2.h (a0_38 ++ ([(⟨y9, y7.1.Tags, y7.1.Path, y7.1.Class⟩ : EndpointV)] : List EndpointV)))) (x0 a0_14 a0_15 a0_38)
def s_l32World_S0 : LoopS := ⟨⟨[(0, false, [.bp 1000000 0]), (2, false, [.bp 1000001 0]), (3, false, [.tr 1000002]), (4, false, [.bp 1000003 0]), (5, false, [.tr 1000004]), (6, false, [.val])], [(1000000, .box [.fix 0 0, .val, .val]), (1000001, .box [.nil (.int .i64), .nil (.int .i64), .val, .nil (.st .endpoint), .val, .nil (.int .i64), .val, .val, .val, .val, .nil (.st .dialed), .nil (.st .logged), .val, .val, .val]), (1000002, .tree), (1000003, .box [.val, .tr 1000005, .val, .val]), (1000004, .tree), (1000005, .tree)]⟩, [none, some 0, none, none, some 1, some 2, some 3, some 4, some 5, some 6, some 7, some 8, some 9, some 10, some 11, some 12, some 13, none, some 14], [.v (.sl (.int .u8)), .v (.int .i64), .v (.int .i64), .v (.int .i64), .v (.bool), .v (.int .i64), .v (.int .i64), .v (.int .i64), .v (.int .i64), .v (.int .i64), .v (.sl (.int .i64)), .v (.int .i64), .v (.int .i64), .v (.bool), .v (.sl (.int .i64))], [.v (.int .i64), .v (.int .i64), .v (.int .i64), .v (.sl (.st .endpoint))],
  [⟨.exit 0, ⟨[(0, false, [.bp 2000000 0]), (2, false, [.bp 2000001 0]), (3, false, [.tr 2000002]), (4, false, [.bp 2000003 0]), (5, false, [.tr 2000004])], [(2000000, .box [.fix 0 0, .val, .val]), (2000001, .box [.nil (.int .i64), .nil (.int .i64), .val, .nil (.st .endpoint), .val, .nil (.int .i64), .val, .val, .val, .val, .nil (.st .dialed), .nil (.st .logged), .val, .val, .val]), (2000002, .tree), (2000003, .box [.val, .tr 2000005, .val, .val]), (2000004, .tree), (2000005, .tree)]⟩, [some 0, none, none, some 1, some 2, some 3, some 4, some 5, some 6, some 7, some 8, some 9, some 10, some 11, some 12, some 13, none, some 14], [.v (.int .i64), .v (.int .i64), .v (.sl (.st .endpoint))]⟩]⟩
def s_l32World_W0 : LoopB s_l32World_S0 := fun R c p nx ex => s_l32World_B0 c.1 c.2.1 c.2.2.1 c.2.2.2.1 c.2.2.2.2.1 c.2.2.2.2.2.1 c.2.2.2.2.2.2.1 c.2.2.2.2.2.2.2.1 c.2.2.2.2.2.2.2.2.1 c.2.2.2.2.2.2.2.2.2.1 c.2.2.2.2.2.2.2.2.2.2.1 c.2.2.2.2.2.2.2.2.2.2.2.1 c.2.2.2.2.2.2.2.2.2.2.2.2.1 c.2.2.2.2.2.2.2.2.2.2.2.2.2.1 c.2.2.2.2.2.2.2.2.2.2.2.2.2.2 p.1 p.2.1 p.2.2.1 p.2.2.2 (fun v0 v1 v2 v3 => nx (v0, v1, v2, v3)) (fun v0 v1 v2 => ex (v0, v1, v2))
def s_l32World_L0 (a0_13 : List Int) (a0_19 : Int) (a0_21 : Int) (a0_23 : Int) (a0_24 : Bool) (a0_25 : Int) (a0_26 : Int) (a0_29 : Int) (a0_30 : Int) (a0_31 : Int) (a0_32 : List Int) (a0_34 : Int) (a0_36 : Int) (a0_37 : Bool) (a0_39 : List Int) (n : Nat) (a0_11 : Int) (a0_14 : Int) (a0_15 : Int) (a0_38 : List EndpointV) : Option (Int × Int × (List EndpointV)) := @loopF ((List Int) × Int × Int × Int × Bool × Int × Int × Int × Int × Int × (List Int) × Int × Int × Bool × (List Int)) (Int × Int × Int × (List EndpointV)) (Int × Int × (List EndpointV)) (s_l32World_W0 _) (a0_13, a0_19, a0_21, a0_23, a0_24, a0_25, a0_26, a0_29, a0_30, a0_31, a0_32, a0_34, a0_36, a0_37, a0_39) n (a0_11, a0_14, a0_15, a0_38)
def s_l32World_E0 : Env Tryz.prog (1, 59) (bodyOf Tryz.f81) := ⟨[s_l1Below_e, s_l4Put_e, s_l26Draw_e, s_l31Draw_e, s_NewWorld_e, s_l17Tags_e], [], [], []⟩
theorem s_l32World_b0 : BodyOk T s_l32World_E0 [0, 1, 0, 1, 1, 1, 1, 1, 1] s_l32World_S0 s_l32World_W0 := fun R c p nx ex => by kernel_rfl
def s_l32World (p0 : CurV) : Option (WorldV × CurV) :=
  bnd (s_l1Below p0 2) fun y1 => bnd (s_l4Put ([1] : List Int) (w64 (2 + y1.1))) fun y2 => bnd (s_l1Below (⟨p0.b, y1.2.i, y1.2.h⟩ : CurV) 2) fun y3 =>
  bnd (s_l4Put y2 (w64 (4 + y3.1))) fun y4 => bnd (s_l26Draw (⟨p0.b, y3.2.i, y3.2.h⟩ : CurV)) fun y5 =>
  need (0 ≤ (w64 (((y4.length : Nat) : Int) - 1)) ∧ (w64 (((y4.length : Nat) : Int) - 1)) < ((y4.length : Nat) : Int)) (
  bnd (s_l1Below (⟨p0.b, y5.2.i, y5.2.h⟩ : CurV) 4) fun y6 =>
  bnd (s_l32World_L0 p0.b 0 0 0 false 0 0 0 0 0 y4 (y4.getD ((w64 (((y4.length : Nat) : Int) - 1)).toNat) (dflt (.int .i64))) 0 y5.1.Off y5.1.Stages big (w64 (2 + y6.1)) y6.2.i y6.2.h ([] : List EndpointV)) fun y10 =>
  bnd (s_l17Tags (⟨p0.b, y10.1, y10.2.1⟩ : CurV)) fun y11 =>
  bnd (s_NewWorld y4 y11.1 y10.2.2 (⟨(y4.getD ((w64 (((y4.length : Nat) : Int) - 1)).toNat) (dflt (.int .i64))), y5.1.Stages, 0, y5.1.Off⟩ : RolloutV)) fun y12 =>
  some (y12.1, (⟨p0.b, y11.2.i, y11.2.h⟩ : CurV)))
theorem s_l32World_c : FnC Tryz.prog 81 [.ptr (.st .cur)] [.st .world] (fun x => s_l32World x) :=
  FnC.of (body := bodyOf Tryz.f81) (N := (1, 59)) tabOk tabB mixed Tryz.func81 (by kernel_rfl) (by kernel_rfl) (fun _ => by kernel_rfl) ⟨[s_l1Below_e, s_l4Put_e, s_l26Draw_e, s_l31Draw_e, s_NewWorld_e, s_l17Tags_e], [], [⟨[0, 1, 0, 1, 1, 1, 1, 1, 1], LoopE.of tabOk tabB mixed s_l32World_E0 [0, 1, 0, 1, 1, 1, 1, 1, 1] (by kernel_rfl) _ _ s_l32World_b0⟩], []⟩ (fun _ => by kernel_rfl) (fun x => by kernel_rfl)
def s_l32World_e : Entry Tryz.prog := .of s_l32World_c

/- spec.l12Any -/
def s_l12Any (p0 : CurV) : Option ((List Int) × CurV) :=
  bnd (s_l12Draw p0) fun y1 => bnd (s_l1Below (⟨p0.b, y1.2.i, y1.2.h⟩ : CurV) 9) fun y2 => fork (y2.1 == 0) (
  bnd (s_l1Int (⟨p0.b, y2.2.i, y2.2.h⟩ : CurV) ([0, (-1), 9, 10] : List Int)) fun y3 => need (0 ≤ (0 : Int) ∧ (0 : Int) < ((y1.1.length : Nat) : Int)) (
  some ((y1.1.set 0 y3.1), (⟨p0.b, y3.2.i, y3.2.h⟩ : CurV)))) (fork (y2.1 == 1) (need (0 ≤ (0 : Int) ∧ (0 : Int) < ((y1.1.length : Nat) : Int)) (
  need ((((y1.1.length + ([(y1.1.getD 0 (dflt (.int .i64)))] : List Int).length : Nat)) : Int) * ((8 : Nat) : Int) ≤ 140737488355328) (
  some ((y1.1 ++ ([(y1.1.getD 0 (dflt (.int .i64)))] : List Int)), (⟨p0.b, y2.2.i, y2.2.h⟩ : CurV))))) (fork (y2.1 == 2) (
  some (([] : List Int), (⟨p0.b, y2.2.i, y2.2.h⟩ : CurV))) (some (y1.1, (⟨p0.b, y2.2.i, y2.2.h⟩ : CurV)))))
theorem s_l12Any_c : FnC Tryz.prog 82 [.ptr (.st .cur)] [.sl (.int .i64)] (fun x => s_l12Any x) :=
  FnC.of (body := bodyOf Tryz.f82) (N := (1, 27)) tabOk tabB mixed Tryz.func82 (by kernel_rfl) (by kernel_rfl) (fun _ => by kernel_rfl) ⟨[s_l1Below_e, s_l1Int_e, s_l12Draw_e], [], [], []⟩ (fun _ => by kernel_rfl) (fun x => by kernel_rfl)
def s_l12Any_e : Entry Tryz.prog := .of s_l12Any_c

/- spec.l19Any -/
def s_l19Any (p0 : CurV) : Option (BoxV × CurV) :=
  bnd (s_l19Draw p0) fun y1 => bnd (s_l1Below (⟨p0.b, y1.2.i, y1.2.h⟩ : CurV) 12) fun y2 => fork (y2.1 == 0) (
  bnd (s_l1Int (⟨p0.b, y2.2.i, y2.2.h⟩ : CurV) ([(-1), 9, 10] : List Int)) fun y3 =>
  some ((⟨y3.1, y1.1.Drops, y1.1.Strips, y1.1.Lists⟩ : BoxV), (⟨p0.b, y3.2.i, y3.2.h⟩ : CurV))) (fork (y2.1 == 1) (
  bnd (s_l1Int (⟨p0.b, y2.2.i, y2.2.h⟩ : CurV) ([(-1), 255, 256] : List Int)) fun y4 =>
  some ((⟨y1.1.Limit, ([y4.1] : List Int), y1.1.Strips, y1.1.Lists⟩ : BoxV), (⟨p0.b, y4.2.i, y4.2.h⟩ : CurV))) (fork (y2.1 == 2) (
  some ((⟨y1.1.Limit, y1.1.Drops, ([1, 2, 3, 4, 5, 6, 7] : List Int), y1.1.Lists⟩ : BoxV), (⟨p0.b, y2.2.i, y2.2.h⟩ : CurV))) (some (y1.1, (⟨p0.b, y2.2.i, y2.2.h⟩ : CurV))
 )))
theorem s_l19Any_c : FnC Tryz.prog 120 [.ptr (.st .cur)] [.st .box] (fun x => s_l19Any x) :=
  FnC.of (body := bodyOf Tryz.f120) (N := (1, 26)) tabOk tabB mixed Tryz.func120 (by kernel_rfl) (by kernel_rfl) (fun _ => by kernel_rfl) ⟨[s_l1Below_e, s_l1Int_e, s_l19Draw_e], [], [], []⟩ (fun _ => by kernel_rfl) (fun x => by kernel_rfl)
def s_l19Any_e : Entry Tryz.prog := .of s_l19Any_c

/- spec.l31Any -/
def s_l31Any (p0 : CurV) : Option (EndpointV × CurV) :=
  bnd (s_l31Draw p0) fun y1 => bnd (s_l1Below (⟨p0.b, y1.2.i, y1.2.h⟩ : CurV) 10) fun y2 => fork (y2.1 == 0) (bnd (s_l12Any (⟨p0.b, y2.2.i, y2.2.h⟩ : CurV)) fun y3 =>
  some ((⟨y3.1, y1.1.Tags, y1.1.Path, y1.1.Class⟩ : EndpointV), (⟨p0.b, y3.2.i, y3.2.h⟩ : CurV))) (fork (y2.1 == 1) (
  bnd (s_l1Int (⟨p0.b, y2.2.i, y2.2.h⟩ : CurV) ([(-1), 10, 255, 256] : List Int)) fun y4 =>
  some ((⟨y1.1.Versions, ([y4.1] : List Int), y1.1.Path, y1.1.Class⟩ : EndpointV), (⟨p0.b, y4.2.i, y4.2.h⟩ : CurV))) (fork (y2.1 == 2) (
  some ((⟨y1.1.Versions, ([1, 2, 3, 4, 5, 6] : List Int), y1.1.Path, y1.1.Class⟩ : EndpointV), (⟨p0.b, y2.2.i, y2.2.h⟩ : CurV))) (fork (y2.1 == 3) (
  bnd (s_l1Int (⟨p0.b, y2.2.i, y2.2.h⟩ : CurV) ([(-1), 5, 6] : List Int)) fun y5 =>
  some ((⟨y1.1.Versions, y1.1.Tags, y1.1.Path, y5.1⟩ : EndpointV), (⟨p0.b, y5.2.i, y5.2.h⟩ : CurV))) (fork (y2.1 == 4) (
  bnd (s_l19Any (⟨p0.b, y2.2.i, y2.2.h⟩ : CurV)) fun y6 =>
  need ((((y1.1.Path.length + ([y6.1, (⟨0, [], [], false⟩ : BoxV)] : List BoxV).length : Nat)) : Int) * ((64 : Nat) : Int) ≤ 140737488355328) (
  some ((⟨y1.1.Versions, y1.1.Tags, (y1.1.Path ++ ([y6.1, (⟨0, [], [], false⟩ : BoxV)] : List BoxV)), y1.1.Class⟩ : EndpointV), (⟨p0.b, y6.2.i, y6.2.h⟩ : CurV)))) (
  some (y1.1, (⟨p0.b, y2.2.i, y2.2.h⟩ : CurV)))))))
theorem s_l31Any_c : FnC Tryz.prog 84 [.ptr (.st .cur)] [.st .endpoint] (fun x => s_l31Any x) :=
  FnC.of (body := bodyOf Tryz.f84) (N := (1, 41)) tabOk tabB mixed Tryz.func84 (by kernel_rfl) (by kernel_rfl) (fun _ => by kernel_rfl) ⟨[s_l1Below_e, s_l12Any_e, s_l1Int_e, s_l31Draw_e, s_l19Any_e], [], [], []⟩ (fun _ => by kernel_rfl) (fun x => by kernel_rfl)
def s_l31Any_e : Entry Tryz.prog := .of s_l31Any_c

/- spec.l26Any -/
def s_l26Any (p0 : CurV) : Option (RolloutV × CurV) :=
  bnd (s_l26Draw p0) fun y1 => bnd (s_l1Below (⟨p0.b, y1.2.i, y1.2.h⟩ : CurV) 10) fun y2 => fork (y2.1 == 0) (
  bnd (s_l1Int (⟨p0.b, y2.2.i, y2.2.h⟩ : CurV) ([0, 9, 10] : List Int)) fun y3 => some ((⟨y3.1, y1.1.Stages, y1.1.At, y1.1.Off⟩ : RolloutV), (⟨p0.b, y3.2.i, y3.2.h⟩ : CurV))
 ) (fork (y2.1 == 1) (bnd (s_l1Int (⟨p0.b, y2.2.i, y2.2.h⟩ : CurV) ([0, 101, 100] : List Int)) fun y4 =>
  need (0 ≤ (0 : Int) ∧ (0 : Int) < ((y1.1.Stages.length : Nat) : Int)) (
  some ((⟨y1.1.Version, (y1.1.Stages.set 0 y4.1), y1.1.At, y1.1.Off⟩ : RolloutV), (⟨p0.b, y4.2.i, y4.2.h⟩ : CurV)))) (fork (y2.1 == 2) (
  bnd (s_l1Int (⟨p0.b, y2.2.i, y2.2.h⟩ : CurV) ([(-1), ((y1.1.Stages.length : Nat) : Int), 9223372036854775807] : List Int)) fun y5 =>
  some ((⟨y1.1.Version, y1.1.Stages, y5.1, y1.1.Off⟩ : RolloutV), (⟨p0.b, y5.2.i, y5.2.h⟩ : CurV))) (fork (y2.1 == 3) (
  some ((⟨y1.1.Version, y1.1.Stages, y1.1.At, true⟩ : RolloutV), (⟨p0.b, y2.2.i, y2.2.h⟩ : CurV))) (fork (y2.1 == 4) (
  some ((⟨y1.1.Version, [], y1.1.At, y1.1.Off⟩ : RolloutV), (⟨p0.b, y2.2.i, y2.2.h⟩ : CurV))) (some (y1.1, (⟨p0.b, y2.2.i, y2.2.h⟩ : CurV)))))))
theorem s_l26Any_c : FnC Tryz.prog 85 [.ptr (.st .cur)] [.st .rollout] (fun x => s_l26Any x) :=
  FnC.of (body := bodyOf Tryz.f85) (N := (1, 38)) tabOk tabB mixed Tryz.func85 (by kernel_rfl) (by kernel_rfl) (fun _ => by kernel_rfl) ⟨[s_l1Below_e, s_l1Int_e, s_l26Draw_e], [], [], []⟩ (fun _ => by kernel_rfl) (fun x => by kernel_rfl)
def s_l26Any_e : Entry Tryz.prog := .of s_l26Any_c

/- spec.ExtOf -/
def s_ExtOf_B0 {R : Type} (a0_1 : List ExtV) (a0_3 : Int) (a0_5 : Int) (a0_7 : Int) (nx : Int → Option R) (x0 : Int → Option R) (x1 : Option R) : Option R :=
  fork (decide (a0_7 < ((a0_1.length : Nat) : Int))) (need (0 ≤ a0_7 ∧ a0_7 < ((a0_1.length : Nat) : Int)) (fork (((a0_1.getD a0_7.toNat (dflt (.st .ext))).Tag) == a0_3) (
  x0 a0_7) (nx (w64 (a0_7 + 1))))) (x1)
def s_ExtOf_S0 : LoopS := ⟨⟨[(0, false, [.ro]), (1, false, [.val]), (4, false, [.val]), (5, false, [.val])], []⟩, [some 0, some 1, some 2, none], [.v (.sl (.st .ext)), .v (.int .i64), .v (.int .i64)], [.v (.int .i64)],
  [⟨.ret, ⟨[(4, false, [.val])], []⟩, [none], [.v (.int .i64)]⟩, ⟨.exit 0, ⟨[(4, false, [.val])], []⟩, [some 2], []⟩]⟩
def s_ExtOf_W0 : LoopB s_ExtOf_S0 := fun R c p nx ex => s_ExtOf_B0 c.1 c.2.1 c.2.2 p (fun v0 => nx v0) (fun v0 => ex (.inl v0)) (ex (.inr ()))
def s_ExtOf_L0 (a0_1 : List ExtV) (a0_3 : Int) (a0_5 : Int) (n : Nat) (a0_7 : Int) : Option (Int ⊕ Unit) := @loopF ((List ExtV) × Int × Int) Int (Int ⊕ Unit) (s_ExtOf_W0 _) (a0_1, a0_3, a0_5) n a0_7
def s_ExtOf_E0 : Env Tryz.prog (0, 20) (bodyOf Tryz.f197) := ⟨[], [], [], []⟩
theorem s_ExtOf_b0 : BodyOk T s_ExtOf_E0 [0, 1, 0, 1] s_ExtOf_S0 s_ExtOf_W0 := fun R c p nx ex => by kernel_rfl
def s_ExtOf (l : List ExtV) (tag : Int) : Option Int :=
  bnd (s_ExtOf_L0 l tag 0 big 0) (sum2 (fun y1 => some y1) (fun _ => some (-1)))
theorem s_ExtOf_c : FnC Tryz.prog 197 [.v (.sl (.st .ext)), .v (.int .i64)] [.int .i64] (fun x => s_ExtOf x.1 x.2) :=
  FnC.of (body := bodyOf Tryz.f197) (N := (0, 20)) tabOk tabB mixed Tryz.func197 (by kernel_rfl) (by kernel_rfl) (fun _ => by kernel_rfl) ⟨[], [], [⟨[0, 1, 0, 1], LoopE.of tabOk tabB mixed s_ExtOf_E0 [0, 1, 0, 1] (by kernel_rfl) _ _ s_ExtOf_b0⟩], []⟩ (fun _ => by kernel_rfl) (fun x => by kernel_rfl)
def s_ExtOf_e : Entry Tryz.prog := .of s_ExtOf_c

/- spec.AreExts -/
def s_AreExts_B0 {R : Type} (a0_1 : List ExtV) (a0_3 : Bool) (a0_5 : Int) (nx : Int → Option R) (x0 : Bool → Option R) (x1 : Option R) : Option R :=
  fork (decide (a0_5 < ((a0_1.length : Nat) : Int))) (need (0 ≤ a0_5 ∧ a0_5 < ((a0_1.length : Nat) : Int)) (
  bnd (s_l1In ((a0_1.getD a0_5.toNat (dflt (.st .ext))).Tag) 0 255) fun y1 => fork (!y1) (x0 false) (need (0 ≤ a0_5 ∧ a0_5 < ((a0_1.length : Nat) : Int)) (
  fork (decide (((((a0_1.getD a0_5.toNat (dflt (.st .ext))).Body).length : Nat) : Int) > 4)) (x0 false) (need (0 ≤ a0_5 ∧ a0_5 < ((a0_1.length : Nat) : Int)) (
  bnd (s_l9Byte ((a0_1.getD a0_5.toNat (dflt (.st .ext))).Body)) fun y2 => fork (!y2) (x0 false) (need (0 ≤ a0_5 ∧ a0_5 < ((a0_1.length : Nat) : Int)) (
  bnd (s_ExtOf a0_1 ((a0_1.getD a0_5.toNat (dflt (.st .ext))).Tag)) fun y3 => fork (decide (y3 < a0_5)) (x0 false) (nx (w64 (a0_5 + 1))))))))))) (x1)
def s_AreExts_S0 : LoopS := ⟨⟨[(0, false, [.ro]), (2, false, [.val]), (3, false, [.val])], []⟩, [some 0, some 1, none], [.v (.sl (.st .ext)), .v (.bool)], [.v (.int .i64)],
  [⟨.ret, ⟨[(2, false, [.val])], []⟩, [none], [.v (.bool)]⟩, ⟨.exit 0, ⟨[(0, false, [.ro]), (2, false, [.val])], []⟩, [some 0, some 1], []⟩]⟩
def s_AreExts_W0 : LoopB s_AreExts_S0 := fun R c p nx ex => s_AreExts_B0 c.1 c.2 p (fun v0 => nx v0) (fun v0 => ex (.inl v0)) (ex (.inr ()))
def s_AreExts_L0 (a0_1 : List ExtV) (a0_3 : Bool) (n : Nat) (a0_5 : Int) : Option (Bool ⊕ Unit) := @loopF ((List ExtV) × Bool) Int (Bool ⊕ Unit) (s_AreExts_W0 _) (a0_1, a0_3) n a0_5
def s_AreExts_E0 : Env Tryz.prog (0, 49) (bodyOf Tryz.f200) := ⟨[s_l1In_e, s_l9Byte_e, s_ExtOf_e], [], [], []⟩
theorem s_AreExts_b0 : BodyOk T s_AreExts_E0 [0, 1, 0, 1] s_AreExts_S0 s_AreExts_W0 := fun R c p nx ex => by kernel_rfl
def s_AreExts (l : List ExtV) : Option Bool :=
  bnd (s_AreExts_L0 l false big 0) (sum2 (fun y4 => some y4) (fun _ => some (decide (((l.length : Nat) : Int) ≤ 6))))
theorem s_AreExts_c : FnC Tryz.prog 200 [.v (.sl (.st .ext))] [.bool] (fun x => s_AreExts x) :=
  FnC.of (body := bodyOf Tryz.f200) (N := (0, 49)) tabOk tabB mixed Tryz.func200 (by kernel_rfl) (by kernel_rfl) (fun _ => by kernel_rfl) ⟨[s_l1In_e, s_l9Byte_e, s_ExtOf_e], [], [⟨[0, 1, 0, 1], LoopE.of tabOk tabB mixed s_AreExts_E0 [0, 1, 0, 1] (by kernel_rfl) _ _ s_AreExts_b0⟩], []⟩ (fun _ => by kernel_rfl) (fun x => by kernel_rfl)
def s_AreExts_e : Entry Tryz.prog := .of s_AreExts_c
def s_AreExts_k : CloE Tryz.prog := .one (k := 200) (t := .sl (.st .ext)) (cts := []) ⟨_, Tryz.func200, by kernel_rfl, by kernel_rfl⟩ (fun x c => s_AreExts x) (fun x c r h => s_AreExts_c x r h)

/- spec.IsHello -/
def s_IsHello (p0 : HelloV) : Option Bool :=
  bnd (s_AreVersions p0.Versions) fun y1 => fork y1 (bnd (s_AreExts p0.Exts) fun y2 => some y2) (some false)
theorem s_IsHello_c : FnC Tryz.prog 187 [.v (.st .hello)] [.bool] (fun x => s_IsHello x) :=
  FnC.of (body := bodyOf Tryz.f187) (N := (0, 11)) tabOk tabB mixed Tryz.func187 (by kernel_rfl) (by kernel_rfl) (fun _ => by kernel_rfl) ⟨[s_AreVersions_e, s_AreExts_e], [], [], []⟩ (fun _ => by kernel_rfl) (fun x => by kernel_rfl)
def s_IsHello_e : Entry Tryz.prog := .of s_IsHello_c
def s_IsHello_k : CloE Tryz.prog := .one (k := 187) (t := .st .hello) (cts := []) ⟨_, Tryz.func187, by kernel_rfl, by kernel_rfl⟩ (fun x c => s_IsHello x) (fun x c r h => s_IsHello_c x r h)

/- spec.TagsOf -/
def s_TagsOf_B0 {R : Type} (a0_1 : List ExtV) (a0_7 : Int) (a0_8 : List Int) (nx : Int → List Int → Option R) (x0 : List Int → Option R) : Option R :=
  fork (decide (a0_7 < ((a0_1.length : Nat) : Int))) (need (0 ≤ a0_7 ∧ a0_7 < ((a0_1.length : Nat) : Int)) (
  need ((((a0_8.length + ([(a0_1.getD a0_7.toNat (dflt (.st .ext))).Tag] : List Int).length : Nat)) : Int) * ((8 : Nat) : Int) ≤ 140737488355328) (
  nx (w64 (a0_7 + 1)) (a0_8 ++ ([(a0_1.getD a0_7.toNat (dflt (.st .ext))).Tag] : List Int))))) (x0 a0_8)
def s_TagsOf_S0 : LoopS := ⟨⟨[(0, false, [.ro]), (2, false, [.nil (.int .i64)]), (3, false, [.tr 1000000]), (4, false, [.val])], [(1000000, .tree)]⟩, [some 0, none, none], [.v (.sl (.st .ext))], [.v (.int .i64), .v (.sl (.int .i64))],
  [⟨.exit 0, ⟨[(2, false, [.nil (.int .i64)]), (3, false, [.tr 2000000])], [(2000000, .tree)]⟩, [none], [.v (.sl (.int .i64))]⟩]⟩
def s_TagsOf_W0 : LoopB s_TagsOf_S0 := fun R c p nx ex => s_TagsOf_B0 c p.1 p.2 (fun v0 v1 => nx (v0, v1)) (fun v0 => ex v0)
def s_TagsOf_L0 (a0_1 : List ExtV) (n : Nat) (a0_7 : Int) (a0_8 : List Int) : Option ((List Int)) := @loopF (List ExtV) (Int × (List Int)) ((List Int)) (s_TagsOf_W0 _) a0_1 n (a0_7, a0_8)
def s_TagsOf_E0 : Env Tryz.prog (0, 21) (bodyOf Tryz.f196) := ⟨[], [], [], []⟩
theorem s_TagsOf_b0 : BodyOk T s_TagsOf_E0 [0, 1, 0, 1, 1] s_TagsOf_S0 s_TagsOf_W0 := fun R c p nx ex => by kernel_rfl
def s_TagsOf (l : List ExtV) : Option (List Int) :=
  bnd (s_TagsOf_L0 l big 0 ([] : List Int)) fun y1 => some y1
theorem s_TagsOf_c : FnC Tryz.prog 196 [.v (.sl (.st .ext))] [.sl (.int .i64)] (fun x => s_TagsOf x) :=
  FnC.of (body := bodyOf Tryz.f196) (N := (0, 21)) tabOk tabB mixed Tryz.func196 (by kernel_rfl) (by kernel_rfl) (fun _ => by kernel_rfl) ⟨[], [], [⟨[0, 1, 0, 1, 1], LoopE.of tabOk tabB mixed s_TagsOf_E0 [0, 1, 0, 1, 1] (by kernel_rfl) _ _ s_TagsOf_b0⟩], []⟩ (fun _ => by kernel_rfl) (fun x => by kernel_rfl)
def s_TagsOf_e : Entry Tryz.prog := .of s_TagsOf_c

/- spec.KnownOf -/
def s_KnownOf_B0 {R : Type} (a0_1 : List ExtV) (a0_3 : List Int) (a0_9 : Int) (a0_10 : List ExtV) (nx : Int → List ExtV → Option R) (x0 : List ExtV → Option R) : Option R :=
  fork (decide (a0_9 < ((a0_1.length : Nat) : Int))) (need (0 ≤ a0_9 ∧ a0_9 < ((a0_1.length : Nat) : Int)) (
  bnd (s_l9Has a0_3 ((a0_1.getD a0_9.toNat (dflt (.st .ext))).Tag)) fun y1 => fork y1 (need (0 ≤ a0_9 ∧ a0_9 < ((a0_1.length : Nat) : Int)) (
  need (0 ≤ a0_9 ∧ a0_9 < ((a0_1.length : Nat) : Int)) (
  need ((((([] : List Int).length + ((a0_1.getD a0_9.toNat (dflt (.st .ext))).Body).length : Nat)) : Int) * ((8 : Nat) : Int) ≤ 140737488355328) (
  need ((((a0_10.length + ([(⟨(a0_1.getD a0_9.toNat (dflt (.st .ext))).Tag, (([] : List Int) ++ ((a0_1.getD a0_9.toNat (dflt (.st .ext))).Body))⟩ : ExtV)] : List ExtV).length : Nat)) : Int) * ((32 : Nat) : Int) ≤ 140737488355328) (
  nx (w64 (a0_9 + 1)) (a0_10 ++ ([(⟨(a0_1.getD a0_9.toNat (dflt (.st .ext))).Tag, (([] : List Int) ++ ((a0_1.getD a0_9.toNat (dflt (.st .ext))).Body))⟩ : ExtV)] : List ExtV))
 ))))) (nx (w64 (a0_9 + 1)) a0_10))) (x0 a0_10)
def s_KnownOf_S0 : LoopS := ⟨⟨[(0, false, [.ro]), (1, false, [.ro]), (4, false, [.nil (.st .ext)]), (5, false, [.tr 1000000]), (6, false, [.val])], [(1000000, .tree)]⟩, [some 0, some 1, none, none], [.v (.sl (.st .ext)), .v (.sl (.int .i64))], [.v (.int .i64), .v (.sl (.st .ext))],
  [⟨.exit 0, ⟨[(4, false, [.nil (.st .ext)]), (5, false, [.tr 2000000])], [(2000000, .tree)]⟩, [none], [.v (.sl (.st .ext))]⟩]⟩
def s_KnownOf_W0 : LoopB s_KnownOf_S0 := fun R c p nx ex => s_KnownOf_B0 c.1 c.2 p.1 p.2 (fun v0 v1 => nx (v0, v1)) (fun v0 => ex v0)
def s_KnownOf_L0 (a0_1 : List ExtV) (a0_3 : List Int) (n : Nat) (a0_9 : Int) (a0_10 : List ExtV) : Option ((List ExtV)) := @loopF ((List ExtV) × (List Int)) (Int × (List ExtV)) ((List ExtV)) (s_KnownOf_W0 _) (a0_1, a0_3) n (a0_9, a0_10)
def s_KnownOf_E0 : Env Tryz.prog (0, 38) (bodyOf Tryz.f238) := ⟨[s_l9Has_e], [], [], []⟩
theorem s_KnownOf_b0 : BodyOk T s_KnownOf_E0 [0, 1, 0, 1, 1] s_KnownOf_S0 s_KnownOf_W0 := fun R c p nx ex => by kernel_rfl
def s_KnownOf (l : List ExtV) (tags : List Int) : Option (List ExtV) :=
  bnd (s_KnownOf_L0 l tags big 0 ([] : List ExtV)) fun y2 => some y2
theorem s_KnownOf_c : FnC Tryz.prog 238 [.v (.sl (.st .ext)), .v (.sl (.int .i64))] [.sl (.st .ext)] (fun x => s_KnownOf x.1 x.2) :=
  FnC.of (body := bodyOf Tryz.f238) (N := (0, 38)) tabOk tabB mixed Tryz.func238 (by kernel_rfl) (by kernel_rfl) (fun _ => by kernel_rfl) ⟨[s_l9Has_e], [], [⟨[0, 1, 0, 1, 1], LoopE.of tabOk tabB mixed s_KnownOf_E0 [0, 1, 0, 1, 1] (by kernel_rfl) _ _ s_KnownOf_b0⟩], []⟩ (fun _ => by kernel_rfl) (fun x => by kernel_rfl)
def s_KnownOf_e : Entry Tryz.prog := .of s_KnownOf_c

/- spec.l11Copy -/
def s_l11Copy (l : List ExtV) : Option (List ExtV) :=
  bnd (s_TagsOf l) fun y1 => bnd (s_KnownOf l y1) fun y2 => some y2
theorem s_l11Copy_c : FnC Tryz.prog 199 [.v (.sl (.st .ext))] [.sl (.st .ext)] (fun x => s_l11Copy x) :=
  FnC.of (body := bodyOf Tryz.f199) (N := (0, 7)) tabOk tabB mixed Tryz.func199 (by kernel_rfl) (by kernel_rfl) (fun _ => by kernel_rfl) ⟨[s_TagsOf_e, s_KnownOf_e], [], [], []⟩ (fun _ => by kernel_rfl) (fun x => by kernel_rfl)
def s_l11Copy_e : Entry Tryz.prog := .of s_l11Copy_c

/- spec.l18Hello -/
def s_l18Hello (p0 : HelloV) : Option HelloV :=
  need ((((([] : List Int).length + p0.Versions.length : Nat)) : Int) * ((8 : Nat) : Int) ≤ 140737488355328) (bnd (s_l11Copy p0.Exts) fun y1 =>
  some (⟨(([] : List Int) ++ p0.Versions), y1⟩ : HelloV))
theorem s_l18Hello_c : FnC Tryz.prog 189 [.v (.st .hello)] [.st .hello] (fun x => s_l18Hello x) :=
  FnC.of (body := bodyOf Tryz.f189) (N := (0, 11)) tabOk tabB mixed Tryz.func189 (by kernel_rfl) (by kernel_rfl) (fun _ => by kernel_rfl) ⟨[s_l11Copy_e], [], [], []⟩ (fun _ => by kernel_rfl) (fun x => by kernel_rfl)
def s_l18Hello_e : Entry Tryz.prog := .of s_l18Hello_c

/- spec.PassBox -/
def s_PassBox_B0 {R : Type} (a0_7 : Bool) (a0_13 : Int) (a0_14 : List Int) (a0_15 : List Int) (a0_16 : Bool) (a0_18 : List Int) (a0_19 : List ExtV) (a0_26 : List Int) (a0_11 : Int) (a0_27 : List ExtV) (nx : Int → List ExtV → Option R) (x0 : Bool → Option R) (x1 : List ExtV → Option R) : Option R :=
  fork (decide (a0_11 < ((a0_19.length : Nat) : Int))) (need (0 ≤ a0_11 ∧ a0_11 < ((a0_19.length : Nat) : Int)) (
  bnd (s_l9Has a0_15 ((a0_19.getD a0_11.toNat (dflt (.st .ext))).Tag)) fun y6 => bnd (s_l9Has a0_14 ((a0_19.getD a0_11.toNat (dflt (.st .ext))).Tag)) fun y7 => fork y7 (
  x0 false) (fork a0_16 (fork (!y6) (bnd (s_l1In ((a0_19.getD a0_11.toNat (dflt (.st .ext))).Tag) 1 3) fun y8 => fork (!y8) (x0 false) (fork (!y6) (
  need (0 ≤ a0_11 ∧ a0_11 < ((a0_19.length : Nat) : Int)) (
  need ((((([] : List Int).length + ((a0_19.getD a0_11.toNat (dflt (.st .ext))).Body).length : Nat)) : Int) * ((8 : Nat) : Int) ≤ 140737488355328) (
  need ((((a0_27.length + ([(⟨(a0_19.getD a0_11.toNat (dflt (.st .ext))).Tag, (([] : List Int) ++ ((a0_19.getD a0_11.toNat (dflt (.st .ext))).Body))⟩ : ExtV)] : List ExtV).length : Nat)) : Int) * ((32 : Nat) : Int) ≤ 140737488355328) (
  nx (w64 (a0_11 + 1)) (a0_27 ++ ([(⟨(a0_19.getD a0_11.toNat (dflt (.st .ext))).Tag, (([] : List Int) ++ ((a0_19.getD a0_11.toNat (dflt (.st .ext))).Body))⟩ : ExtV)] : List ExtV))
 )))) (nx (w64 (a0_11 + 1)) a0_27))) (fork (!y6) (need (0 ≤ a0_11 ∧ a0_11 < ((a0_19.length : Nat) : Int)) (
  need ((((([] : List Int).length + ((a0_19.getD a0_11.toNat (dflt (.st .ext))).Body).length : Nat)) : Int) * ((8 : Nat) : Int) ≤ 140737488355328) (
  need ((((a0_27.length + ([(⟨(a0_19.getD a0_11.toNat (dflt (.st .ext))).Tag, (([] : List Int) ++ ((a0_19.getD a0_11.toNat (dflt (.st .ext))).Body))⟩ : ExtV)] : List ExtV).length : Nat)) : Int) * ((32 : Nat) : Int) ≤ 140737488355328) (
  nx (w64 (a0_11 + 1)) (a0_27 ++ ([(⟨(a0_19.getD a0_11.toNat (dflt (.st .ext))).Tag, (([] : List Int) ++ ((a0_19.getD a0_11.toNat (dflt (.st .ext))).Body))⟩ : ExtV)] : List ExtV))
 )))) (nx (w64 (a0_11 + 1)) a0_27))) (fork (!y6) (need (0 ≤ a0_11 ∧ a0_11 < ((a0_19.length : Nat) : Int)) (
  need ((((([] : List Int).length + ((a0_19.getD a0_11.toNat (dflt (.st .ext))).Body).length : Nat)) : Int) * ((8 : Nat) : Int) ≤ 140737488355328) (
  need ((((a0_27.length + ([(⟨(a0_19.getD a0_11.toNat (dflt (.st .ext))).Tag, (([] : List Int) ++ ((a0_19.getD a0_11.toNat (dflt (.st .ext))).Body))⟩ : ExtV)] : List ExtV).length : Nat)) : Int) * ((32 : Nat) : Int) ≤ 140737488355328) (
  nx (w64 (a0_11 + 1)) (a0_27 ++ ([(⟨(a0_19.getD a0_11.toNat (dflt (.st .ext))).Tag, (([] : List Int) ++ ((a0_19.getD a0_11.toNat (dflt (.st .ext))).Body))⟩ : ExtV)] : List ExtV))
 )))) (nx (w64 (a0_11 + 1)) a0_27))))) (x1 a0_27)
def s_PassBox_S0 : LoopS := ⟨⟨[(2, false, [.bp 1000000 0]), (3, false, [.bp 1000001 0]), (4, false, [.bp 1000002 0]), (5, false, [.val]), (6, false, [.bp 1000003 0]), (7, false, [.val])], [(1000000, .box [.val, .ro, .ro, .val]), (1000001, .box [.ro, .ro]), (1000002, .box [.nil (.int .i64), .nil (.st .ext)]), (1000003, .box [.tr 1000004, .tr 1000005]), (1000004, .tree), (1000005, .tree)]⟩, [some 0, none, some 1, some 2, some 3, some 4, some 5, some 6, some 7, none], [.v (.bool), .v (.int .i64), .v (.sl (.int .i64)), .v (.sl (.int .i64)), .v (.bool), .v (.sl (.int .i64)), .v (.sl (.st .ext)), .v (.sl (.int .i64))], [.v (.int .i64), .v (.sl (.st .ext))],
  [⟨.ret, ⟨[(4, false, [.bp 2000000 0]), (5, false, [.val])], [(2000000, .box [.nil (.int .i64), .nil (.st .ext)])]⟩, [none], [.v (.bool)]⟩, ⟨.exit 0, ⟨[(4, false, [.bp 2001000 0]), (5, false, [.val]), (6, false, [.bp 2001001 0])], [(2001000, .box [.nil (.int .i64), .nil (.st .ext)]), (2001001, .box [.tr 2001002, .tr 2001003]), (2001002, .tree), (2001003, .tree)]⟩, [some 0, some 7, none], [.v (.sl (.st .ext))]⟩]⟩
def s_PassBox_W0 : LoopB s_PassBox_S0 := fun R c p nx ex => s_PassBox_B0 c.1 c.2.1 c.2.2.1 c.2.2.2.1 c.2.2.2.2.1 c.2.2.2.2.2.1 c.2.2.2.2.2.2.1 c.2.2.2.2.2.2.2 p.1 p.2 (fun v0 v1 => nx (v0, v1)) (fun v0 => ex (.inl v0)) (fun v0 => ex (.inr v0))
def s_PassBox_L0 (a0_7 : Bool) (a0_13 : Int) (a0_14 : List Int) (a0_15 : List Int) (a0_16 : Bool) (a0_18 : List Int) (a0_19 : List ExtV) (a0_26 : List Int) (n : Nat) (a0_11 : Int) (a0_27 : List ExtV) : Option (Bool ⊕ ((List ExtV))) := @loopF (Bool × Int × (List Int) × (List Int) × Bool × (List Int) × (List ExtV) × (List Int)) (Int × (List ExtV)) (Bool ⊕ ((List ExtV))) (s_PassBox_W0 _) (a0_7, a0_13, a0_14, a0_15, a0_16, a0_18, a0_19, a0_26) n (a0_11, a0_27)
def s_PassBox_E0 : Env Tryz.prog (0, 95) (bodyOf Tryz.f233) := ⟨[s_l9Has_e, s_l1In_e, s_IsBox_e, s_IsHello_e], [], [], []⟩
theorem s_PassBox_b0 : BodyOk T s_PassBox_E0 [0, 1, 0, 1, 1, 1] s_PassBox_S0 s_PassBox_W0 := fun R c p nx ex => by kernel_rfl
def s_PassBox_B1 {R : Type} (a1_7 : Bool) (a1_13 : Int) (a1_14 : List Int) (a1_15 : List Int) (a1_16 : Bool) (a1_18 : List Int) (a1_19 : List ExtV) (a1_26 : List Int) (a1_11 : Int) (a1_27 : List ExtV) (nx : Int → List ExtV → Option R) (x0 : Bool → Option R) (x1 : List ExtV → Option R) : Option R :=
  fork (decide (a1_11 < ((a1_19.length : Nat) : Int))) (need (0 ≤ a1_11 ∧ a1_11 < ((a1_19.length : Nat) : Int)) (
  bnd (s_l9Has a1_15 ((a1_19.getD a1_11.toNat (dflt (.st .ext))).Tag)) fun y14 => bnd (s_l9Has a1_14 ((a1_19.getD a1_11.toNat (dflt (.st .ext))).Tag)) fun y15 => fork y15 (
  x0 false) (fork a1_16 (fork (!y14) (bnd (s_l1In ((a1_19.getD a1_11.toNat (dflt (.st .ext))).Tag) 1 3) fun y16 => fork (!y16) (x0 false) (fork (!y14) (
  need (0 ≤ a1_11 ∧ a1_11 < ((a1_19.length : Nat) : Int)) (
  need ((((([] : List Int).length + ((a1_19.getD a1_11.toNat (dflt (.st .ext))).Body).length : Nat)) : Int) * ((8 : Nat) : Int) ≤ 140737488355328) (
  need ((((a1_27.length + ([(⟨(a1_19.getD a1_11.toNat (dflt (.st .ext))).Tag, (([] : List Int) ++ ((a1_19.getD a1_11.toNat (dflt (.st .ext))).Body))⟩ : ExtV)] : List ExtV).length : Nat)) : Int) * ((32 : Nat) : Int) ≤ 140737488355328) (
  nx (w64 (a1_11 + 1)) (a1_27 ++ ([(⟨(a1_19.getD a1_11.toNat (dflt (.st .ext))).Tag, (([] : List Int) ++ ((a1_19.getD a1_11.toNat (dflt (.st .ext))).Body))⟩ : ExtV)] : List ExtV))
 )))) (nx (w64 (a1_11 + 1)) a1_27))) (fork (!y14) (need (0 ≤ a1_11 ∧ a1_11 < ((a1_19.length : Nat) : Int)) (
  need ((((([] : List Int).length + ((a1_19.getD a1_11.toNat (dflt (.st .ext))).Body).length : Nat)) : Int) * ((8 : Nat) : Int) ≤ 140737488355328) (
  need ((((a1_27.length + ([(⟨(a1_19.getD a1_11.toNat (dflt (.st .ext))).Tag, (([] : List Int) ++ ((a1_19.getD a1_11.toNat (dflt (.st .ext))).Body))⟩ : ExtV)] : List ExtV).length : Nat)) : Int) * ((32 : Nat) : Int) ≤ 140737488355328) (
  nx (w64 (a1_11 + 1)) (a1_27 ++ ([(⟨(a1_19.getD a1_11.toNat (dflt (.st .ext))).Tag, (([] : List Int) ++ ((a1_19.getD a1_11.toNat (dflt (.st .ext))).Body))⟩ : ExtV)] : List ExtV))
 )))) (nx (w64 (a1_11 + 1)) a1_27))) (fork (!y14) (need (0 ≤ a1_11 ∧ a1_11 < ((a1_19.length : Nat) : Int)) (
  need ((((([] : List Int).length + ((a1_19.getD a1_11.toNat (dflt (.st .ext))).Body).length : Nat)) : Int) * ((8 : Nat) : Int) ≤ 140737488355328) (
  need ((((a1_27.length + ([(⟨(a1_19.getD a1_11.toNat (dflt (.st .ext))).Tag, (([] : List Int) ++ ((a1_19.getD a1_11.toNat (dflt (.st .ext))).Body))⟩ : ExtV)] : List ExtV).length : Nat)) : Int) * ((32 : Nat) : Int) ≤ 140737488355328) (
  nx (w64 (a1_11 + 1)) (a1_27 ++ ([(⟨(a1_19.getD a1_11.toNat (dflt (.st .ext))).Tag, (([] : List Int) ++ ((a1_19.getD a1_11.toNat (dflt (.st .ext))).Body))⟩ : ExtV)] : List ExtV))
 )))) (nx (w64 (a1_11 + 1)) a1_27))))) (x1 a1_27)
def s_PassBox_S1 : LoopS := ⟨⟨[(2, false, [.bp 1010000 0]), (3, false, [.bp 1010001 0]), (4, false, [.bp 1010002 0]), (5, false, [.val]), (6, false, [.bp 1010003 0]), (7, false, [.val])], [(1010000, .box [.val, .ro, .ro, .val]), (1010001, .box [.ro, .ro]), (1010002, .box [.nil (.int .i64), .nil (.st .ext)]), (1010003, .box [.tr 1010004, .tr 1010005]), (1010004, .tree), (1010005, .tree)]⟩, [some 0, none, some 1, some 2, some 3, some 4, some 5, some 6, some 7, none], [.v (.bool), .v (.int .i64), .v (.sl (.int .i64)), .v (.sl (.int .i64)), .v (.bool), .v (.sl (.int .i64)), .v (.sl (.st .ext)), .v (.sl (.int .i64))], [.v (.int .i64), .v (.sl (.st .ext))],
  [⟨.ret, ⟨[(4, false, [.bp 2010000 0]), (5, false, [.val])], [(2010000, .box [.nil (.int .i64), .nil (.st .ext)])]⟩, [none], [.v (.bool)]⟩, ⟨.exit 0, ⟨[(4, false, [.bp 2011000 0]), (5, false, [.val]), (6, false, [.bp 2011001 0])], [(2011000, .box [.nil (.int .i64), .nil (.st .ext)]), (2011001, .box [.tr 2011002, .tr 2011003]), (2011002, .tree), (2011003, .tree)]⟩, [some 0, some 7, none], [.v (.sl (.st .ext))]⟩]⟩
def s_PassBox_W1 : LoopB s_PassBox_S1 := fun R c p nx ex => s_PassBox_B1 c.1 c.2.1 c.2.2.1 c.2.2.2.1 c.2.2.2.2.1 c.2.2.2.2.2.1 c.2.2.2.2.2.2.1 c.2.2.2.2.2.2.2 p.1 p.2 (fun v0 v1 => nx (v0, v1)) (fun v0 => ex (.inl v0)) (fun v0 => ex (.inr v0))
def s_PassBox_L1 (a1_7 : Bool) (a1_13 : Int) (a1_14 : List Int) (a1_15 : List Int) (a1_16 : Bool) (a1_18 : List Int) (a1_19 : List ExtV) (a1_26 : List Int) (n : Nat) (a1_11 : Int) (a1_27 : List ExtV) : Option (Bool ⊕ ((List ExtV))) := @loopF (Bool × Int × (List Int) × (List Int) × Bool × (List Int) × (List ExtV) × (List Int)) (Int × (List ExtV)) (Bool ⊕ ((List ExtV))) (s_PassBox_W1 _) (a1_7, a1_13, a1_14, a1_15, a1_16, a1_18, a1_19, a1_26) n (a1_11, a1_27)
def s_PassBox_E1 : Env Tryz.prog (0, 95) (bodyOf Tryz.f233) := ⟨[s_l9Has_e, s_l1In_e, s_IsBox_e, s_IsHello_e], [], [⟨[0, 1, 0, 1, 1, 1], LoopE.of tabOk tabB mixed s_PassBox_E0 [0, 1, 0, 1, 1, 1] (by kernel_rfl) _ _ s_PassBox_b0⟩], []⟩
theorem s_PassBox_b1 : BodyOk T s_PassBox_E1 [0, 1, 0, 1, 1, 1] s_PassBox_S1 s_PassBox_W1 := fun R c p nx ex => by kernel_rfl
def s_PassBox (b : BoxV) (p1 : HelloV) : Option (HelloV × Bool) :=
  bnd (s_IsBox b) fun y1 => fork (!y1) (some ((⟨[], []⟩ : HelloV), false)) (bnd (s_IsHello p1) fun y2 => fork (!y2) (some ((⟨[], []⟩ : HelloV), false)) (
  fork (decide (b.Limit > 0)) (
  need (0 ≤ (w64 (((p1.Versions.length : Nat) : Int) - 1)) ∧ (w64 (((p1.Versions.length : Nat) : Int) - 1)) < ((p1.Versions.length : Nat) : Int)) (
  fork (decide ((p1.Versions.getD ((w64 (((p1.Versions.length : Nat) : Int) - 1)).toNat) (dflt (.int .i64))) > b.Limit)) (some ((⟨[], []⟩ : HelloV), false)) (
  need ((((([] : List Int).length + p1.Versions.length : Nat)) : Int) * ((8 : Nat) : Int) ≤ 140737488355328) (
  bnd (s_PassBox_L0 false b.Limit b.Drops b.Strips b.Lists p1.Versions p1.Exts (([] : List Int) ++ p1.Versions) big 0 ([] : List ExtV)) (sum2 (fun y9 =>
  some ((⟨[], []⟩ : HelloV), y9)) (fun y10 => some ((⟨(([] : List Int) ++ p1.Versions), y10⟩ : HelloV), true))))))) (
  need ((((([] : List Int).length + p1.Versions.length : Nat)) : Int) * ((8 : Nat) : Int) ≤ 140737488355328) (
  bnd (s_PassBox_L1 false b.Limit b.Drops b.Strips b.Lists p1.Versions p1.Exts (([] : List Int) ++ p1.Versions) big 0 ([] : List ExtV)) (sum2 (fun y17 =>
  some ((⟨[], []⟩ : HelloV), y17)) (fun y18 => some ((⟨(([] : List Int) ++ p1.Versions), y18⟩ : HelloV), true)))))))
theorem s_PassBox_c : FnC Tryz.prog 233 [.v (.st .box), .v (.st .hello)] [.st .hello, .bool] (fun x => s_PassBox x.1 x.2) :=
  FnC.of (body := bodyOf Tryz.f233) (N := (0, 95)) tabOk tabB mixed Tryz.func233 (by kernel_rfl) (by kernel_rfl) (fun _ => by kernel_rfl) ⟨[s_l9Has_e, s_l1In_e, s_IsBox_e, s_IsHello_e], [], [⟨[0, 1, 0, 1, 1, 1], LoopE.of tabOk tabB mixed s_PassBox_E0 [0, 1, 0, 1, 1, 1] (by kernel_rfl) _ _ s_PassBox_b0⟩, ⟨[0, 1, 0, 1, 1, 1], LoopE.of tabOk tabB mixed s_PassBox_E1 [0, 1, 0, 1, 1, 1] (by kernel_rfl) _ _ s_PassBox_b1⟩], []⟩ (fun _ => by kernel_rfl) (fun x => by kernel_rfl)
def s_PassBox_e : Entry Tryz.prog := .of s_PassBox_c

/- spec.PassPath -/
def s_PassPath_B0 {R : Type} (a0_1 : List BoxV) (a0_5 : Bool) (a0_9 : Int) (a0_16 : List Int) (a0_17 : List ExtV) (nx : Int → List Int → List ExtV → Option R) (x0 : Bool → Option R) (x1 : List Int → List ExtV → Option R) : Option R :=
  fork (decide (a0_9 < ((a0_1.length : Nat) : Int))) (need (0 ≤ a0_9 ∧ a0_9 < ((a0_1.length : Nat) : Int)) (
  bnd (s_PassBox (a0_1.getD a0_9.toNat (dflt (.st .box))) (⟨a0_16, a0_17⟩ : HelloV)) fun y3 => fork (!y3.2) (x0 false) (nx (w64 (a0_9 + 1)) y3.1.Versions y3.1.Exts))
 ) (x1 a0_16 a0_17)
def s_PassPath_S0 : LoopS := ⟨⟨[(0, false, [.ro]), (4, false, [.bp 1000000 0]), (5, false, [.val]), (6, false, [.bp 1000001 0]), (7, false, [.val])], [(1000000, .box [.nil (.int .i64), .nil (.st .ext)]), (1000001, .box [.tr 1000002, .tr 1000003]), (1000002, .tree), (1000003, .tree)]⟩, [some 0, some 1, none, none, none], [.v (.sl (.st .box)), .v (.bool)], [.v (.int .i64), .v (.sl (.int .i64)), .v (.sl (.st .ext))],
  [⟨.ret, ⟨[(4, false, [.bp 2000000 0]), (5, false, [.val])], [(2000000, .box [.nil (.int .i64), .nil (.st .ext)])]⟩, [none], [.v (.bool)]⟩, ⟨.exit 0, ⟨[(4, false, [.bp 2001000 0]), (5, false, [.val]), (6, false, [.bp 2001001 0])], [(2001000, .box [.nil (.int .i64), .nil (.st .ext)]), (2001001, .box [.tr 2001002, .tr 2001003]), (2001002, .tree), (2001003, .tree)]⟩, [some 1, none, none], [.v (.sl (.int .i64)), .v (.sl (.st .ext))]⟩]⟩
def s_PassPath_W0 : LoopB s_PassPath_S0 := fun R c p nx ex => s_PassPath_B0 c.1 c.2 p.1 p.2.1 p.2.2 (fun v0 v1 v2 => nx (v0, v1, v2)) (fun v0 => ex (.inl v0)) (fun v0 v1 => ex (.inr (v0, v1)))
def s_PassPath_L0 (a0_1 : List BoxV) (a0_5 : Bool) (n : Nat) (a0_9 : Int) (a0_16 : List Int) (a0_17 : List ExtV) : Option (Bool ⊕ ((List Int) × (List ExtV))) := @loopF ((List BoxV) × Bool) (Int × (List Int) × (List ExtV)) (Bool ⊕ ((List Int) × (List ExtV))) (s_PassPath_W0 _) (a0_1, a0_5) n (a0_9, a0_16, a0_17)
def s_PassPath_E0 : Env Tryz.prog (0, 41) (bodyOf Tryz.f185) := ⟨[s_IsHello_e, s_l18Hello_e, s_PassBox_e], [], [], []⟩
theorem s_PassPath_b0 : BodyOk T s_PassPath_E0 [0, 1, 0, 1, 1, 1] s_PassPath_S0 s_PassPath_W0 := fun R c p nx ex => by kernel_rfl
def s_PassPath (path : List BoxV) (p1 : HelloV) : Option (HelloV × Bool) :=
  fork (decide (((path.length : Nat) : Int) > 4)) (some ((⟨[], []⟩ : HelloV), false)) (bnd (s_IsHello p1) fun y1 => fork (!y1) (some ((⟨[], []⟩ : HelloV), false)) (
  bnd (s_l18Hello p1) fun y2 => bnd (s_PassPath_L0 path false big 0 y2.Versions y2.Exts) (sum2 (fun y4 => some ((⟨[], []⟩ : HelloV), y4)) (fun y5 =>
  some ((⟨y5.1, y5.2⟩ : HelloV), true)))))
theorem s_PassPath_c : FnC Tryz.prog 185 [.v (.sl (.st .box)), .v (.st .hello)] [.st .hello, .bool] (fun x => s_PassPath x.1 x.2) :=
  FnC.of (body := bodyOf Tryz.f185) (N := (0, 41)) tabOk tabB mixed Tryz.func185 (by kernel_rfl) (by kernel_rfl) (fun _ => by kernel_rfl) ⟨[s_IsHello_e, s_l18Hello_e, s_PassBox_e], [], [⟨[0, 1, 0, 1, 1, 1], LoopE.of tabOk tabB mixed s_PassPath_E0 [0, 1, 0, 1, 1, 1] (by kernel_rfl) _ _ s_PassPath_b0⟩], []⟩ (fun _ => by kernel_rfl) (fun x => by kernel_rfl)
def s_PassPath_e : Entry Tryz.prog := .of s_PassPath_c

/- spec.EqualInts -/
def s_EqualInts_B0 {R : Type} (a0_1 : List Int) (a0_3 : List Int) (a0_5 : Bool) (a0_7 : Int) (nx : Int → Option R) (x0 : Bool → Option R) (x1 : Option R) : Option R :=
  fork (decide (a0_7 < ((a0_1.length : Nat) : Int))) (need (0 ≤ a0_7 ∧ a0_7 < ((a0_1.length : Nat) : Int)) (need (0 ≤ a0_7 ∧ a0_7 < ((a0_3.length : Nat) : Int)) (
  fork ((a0_1.getD a0_7.toNat (dflt (.int .i64))) != (a0_3.getD a0_7.toNat (dflt (.int .i64)))) (x0 false) (nx (w64 (a0_7 + 1)))))) (x1)
def s_EqualInts_S0 : LoopS := ⟨⟨[(0, false, [.ro]), (1, false, [.ro]), (4, false, [.val]), (5, false, [.val])], []⟩, [some 0, some 1, some 2, none], [.v (.sl (.int .i64)), .v (.sl (.int .i64)), .v (.bool)], [.v (.int .i64)],
  [⟨.ret, ⟨[(4, false, [.val])], []⟩, [none], [.v (.bool)]⟩, ⟨.exit 0, ⟨[(4, false, [.val])], []⟩, [some 2], []⟩]⟩
def s_EqualInts_W0 : LoopB s_EqualInts_S0 := fun R c p nx ex => s_EqualInts_B0 c.1 c.2.1 c.2.2 p (fun v0 => nx v0) (fun v0 => ex (.inl v0)) (ex (.inr ()))
def s_EqualInts_L0 (a0_1 : List Int) (a0_3 : List Int) (a0_5 : Bool) (n : Nat) (a0_7 : Int) : Option (Bool ⊕ Unit) := @loopF ((List Int) × (List Int) × Bool) Int (Bool ⊕ Unit) (s_EqualInts_W0 _) (a0_1, a0_3, a0_5) n a0_7
def s_EqualInts_E0 : Env Tryz.prog (0, 26) (bodyOf Tryz.f268) := ⟨[], [], [], []⟩
theorem s_EqualInts_b0 : BodyOk T s_EqualInts_E0 [0, 1, 0, 1, 1] s_EqualInts_S0 s_EqualInts_W0 := fun R c p nx ex => by kernel_rfl
def s_EqualInts (a : List Int) (b : List Int) : Option Bool :=
  fork (((a.length : Nat) : Int) != ((b.length : Nat) : Int)) (some false) (bnd (s_EqualInts_L0 a b false big 0) (sum2 (fun y1 => some y1) (fun _ => some true)))
theorem s_EqualInts_c : FnC Tryz.prog 268 [.v (.sl (.int .i64)), .v (.sl (.int .i64))] [.bool] (fun x => s_EqualInts x.1 x.2) :=
  FnC.of (body := bodyOf Tryz.f268) (N := (0, 26)) tabOk tabB mixed Tryz.func268 (by kernel_rfl) (by kernel_rfl) (fun _ => by kernel_rfl) ⟨[], [], [⟨[0, 1, 0, 1, 1], LoopE.of tabOk tabB mixed s_EqualInts_E0 [0, 1, 0, 1, 1] (by kernel_rfl) _ _ s_EqualInts_b0⟩], []⟩ (fun _ => by kernel_rfl) (fun x => by kernel_rfl)
def s_EqualInts_e : Entry Tryz.prog := .of s_EqualInts_c
def s_EqualInts_k : CloE Tryz.prog := .two (k := 268) (t := .sl (.int .i64)) (u := .sl (.int .i64)) (cts := []) ⟨_, Tryz.func268, by kernel_rfl, by kernel_rfl⟩ (fun x y c => s_EqualInts x y) (fun x y c r h => s_EqualInts_c (x, y) r h)

/- spec.EqualExts -/
def s_EqualExts_B0 {R : Type} (a0_1 : List ExtV) (a0_3 : List ExtV) (a0_5 : Bool) (a0_7 : Int) (nx : Int → Option R) (x0 : Bool → Option R) (x1 : Option R) : Option R :=
  fork (decide (a0_7 < ((a0_1.length : Nat) : Int))) (need (0 ≤ a0_7 ∧ a0_7 < ((a0_1.length : Nat) : Int)) (need (0 ≤ a0_7 ∧ a0_7 < ((a0_3.length : Nat) : Int)) (
  fork (((a0_1.getD a0_7.toNat (dflt (.st .ext))).Tag) != ((a0_3.getD a0_7.toNat (dflt (.st .ext))).Tag)) (x0 false) (
  need (0 ≤ a0_7 ∧ a0_7 < ((a0_1.length : Nat) : Int)) (need (0 ≤ a0_7 ∧ a0_7 < ((a0_3.length : Nat) : Int)) (
  bnd (s_EqualInts ((a0_1.getD a0_7.toNat (dflt (.st .ext))).Body) ((a0_3.getD a0_7.toNat (dflt (.st .ext))).Body)) fun y1 => fork (!y1) (x0 false) (nx (w64 (a0_7 + 1)))
 )))))) (x1)
def s_EqualExts_S0 : LoopS := ⟨⟨[(0, false, [.ro]), (1, false, [.ro]), (4, false, [.val]), (5, false, [.val])], []⟩, [some 0, some 1, some 2, none], [.v (.sl (.st .ext)), .v (.sl (.st .ext)), .v (.bool)], [.v (.int .i64)],
  [⟨.ret, ⟨[(4, false, [.val])], []⟩, [none], [.v (.bool)]⟩, ⟨.exit 0, ⟨[(4, false, [.val])], []⟩, [some 2], []⟩]⟩
def s_EqualExts_W0 : LoopB s_EqualExts_S0 := fun R c p nx ex => s_EqualExts_B0 c.1 c.2.1 c.2.2 p (fun v0 => nx v0) (fun v0 => ex (.inl v0)) (ex (.inr ()))
def s_EqualExts_L0 (a0_1 : List ExtV) (a0_3 : List ExtV) (a0_5 : Bool) (n : Nat) (a0_7 : Int) : Option (Bool ⊕ Unit) := @loopF ((List ExtV) × (List ExtV) × Bool) Int (Bool ⊕ Unit) (s_EqualExts_W0 _) (a0_1, a0_3, a0_5) n a0_7
def s_EqualExts_E0 : Env Tryz.prog (0, 42) (bodyOf Tryz.f269) := ⟨[s_EqualInts_e], [], [], []⟩
theorem s_EqualExts_b0 : BodyOk T s_EqualExts_E0 [0, 1, 0, 1, 1] s_EqualExts_S0 s_EqualExts_W0 := fun R c p nx ex => by kernel_rfl
def s_EqualExts (a : List ExtV) (b : List ExtV) : Option Bool :=
  fork (((a.length : Nat) : Int) != ((b.length : Nat) : Int)) (some false) (bnd (s_EqualExts_L0 a b false big 0) (sum2 (fun y2 => some y2) (fun _ => some true)))
theorem s_EqualExts_c : FnC Tryz.prog 269 [.v (.sl (.st .ext)), .v (.sl (.st .ext))] [.bool] (fun x => s_EqualExts x.1 x.2) :=
  FnC.of (body := bodyOf Tryz.f269) (N := (0, 42)) tabOk tabB mixed Tryz.func269 (by kernel_rfl) (by kernel_rfl) (fun _ => by kernel_rfl) ⟨[s_EqualInts_e], [], [⟨[0, 1, 0, 1, 1], LoopE.of tabOk tabB mixed s_EqualExts_E0 [0, 1, 0, 1, 1] (by kernel_rfl) _ _ s_EqualExts_b0⟩], []⟩ (fun _ => by kernel_rfl) (fun x => by kernel_rfl)
def s_EqualExts_e : Entry Tryz.prog := .of s_EqualExts_c
def s_EqualExts_k : CloE Tryz.prog := .two (k := 269) (t := .sl (.st .ext)) (u := .sl (.st .ext)) (cts := []) ⟨_, Tryz.func269, by kernel_rfl, by kernel_rfl⟩ (fun x y c => s_EqualExts x y) (fun x y c r h => s_EqualExts_c (x, y) r h)

/- spec.EqualHellos -/
def s_EqualHellos (a : HelloV) (b : HelloV) : Option Bool :=
  bnd (s_EqualInts a.Versions b.Versions) fun y1 => fork y1 (bnd (s_EqualExts a.Exts b.Exts) fun y2 => some y2) (some false)
theorem s_EqualHellos_c : FnC Tryz.prog 234 [.v (.st .hello), .v (.st .hello)] [.bool] (fun x => s_EqualHellos x.1 x.2) :=
  FnC.of (body := bodyOf Tryz.f234) (N := (0, 17)) tabOk tabB mixed Tryz.func234 (by kernel_rfl) (by kernel_rfl) (fun _ => by kernel_rfl) ⟨[s_EqualInts_e, s_EqualExts_e], [], [], []⟩ (fun _ => by kernel_rfl) (fun x => by kernel_rfl)
def s_EqualHellos_e : Entry Tryz.prog := .of s_EqualHellos_c
def s_EqualHellos_k : CloE Tryz.prog := .two (k := 234) (t := .st .hello) (u := .st .hello) (cts := []) ⟨_, Tryz.func234, by kernel_rfl, by kernel_rfl⟩ (fun x y c => s_EqualHellos x y) (fun x y c r h => s_EqualHellos_c (x, y) r h)

/- spec.PassesWhole -/
def s_PassesWhole (p0 : HelloV) (path : List BoxV) : Option Bool :=
  bnd (s_PassPath path p0) fun y1 => fork y1.2 (bnd (s_EqualHellos y1.1 p0) fun y2 => some y2) (some false)
theorem s_PassesWhole_c : FnC Tryz.prog 188 [.v (.st .hello), .v (.sl (.st .box))] [.bool] (fun x => s_PassesWhole x.1 x.2) :=
  FnC.of (body := bodyOf Tryz.f188) (N := (0, 19)) tabOk tabB mixed Tryz.func188 (by kernel_rfl) (by kernel_rfl) (fun _ => by kernel_rfl) ⟨[s_PassPath_e, s_EqualHellos_e], [], [], []⟩ (fun _ => by kernel_rfl) (fun x => by kernel_rfl)
def s_PassesWhole_e : Entry Tryz.prog := .of s_PassesWhole_c
def s_PassesWhole_k : CloE Tryz.prog := .two (k := 188) (t := .st .hello) (u := .sl (.st .box)) (cts := []) ⟨_, Tryz.func188, by kernel_rfl, by kernel_rfl⟩ (fun x y c => s_PassesWhole x y) (fun x y c r h => s_PassesWhole_c (x, y) r h)

/- spec.l21Left -/
def s_l21Left_B0 {R : Type} (a0_1 : List Int) (a0_3 : List Int) (a0_9 : Int) (a0_10 : List Int) (nx : Int → List Int → Option R) (x0 : List Int → Option R) : Option R :=
  fork (decide (a0_9 < ((a0_1.length : Nat) : Int))) (need (0 ≤ a0_9 ∧ a0_9 < ((a0_1.length : Nat) : Int)) (
  bnd (s_l9Has a0_3 (a0_1.getD a0_9.toNat (dflt (.int .i64)))) fun y1 => fork (!y1) (need (0 ≤ a0_9 ∧ a0_9 < ((a0_1.length : Nat) : Int)) (
  need ((((a0_10.length + ([(a0_1.getD a0_9.toNat (dflt (.int .i64)))] : List Int).length : Nat)) : Int) * ((8 : Nat) : Int) ≤ 140737488355328) (
  nx (w64 (a0_9 + 1)) (a0_10 ++ ([(a0_1.getD a0_9.toNat (dflt (.int .i64)))] : List Int))))) (nx (w64 (a0_9 + 1)) a0_10))) (x0 a0_10)
def s_l21Left_S0 : LoopS := ⟨⟨[(0, false, [.ro]), (1, false, [.ro]), (4, false, [.nil (.int .i64)]), (5, false, [.tr 1000000]), (6, false, [.val])], [(1000000, .tree)]⟩, [some 0, some 1, none, none], [.v (.sl (.int .i64)), .v (.sl (.int .i64))], [.v (.int .i64), .v (.sl (.int .i64))],
  [⟨.exit 0, ⟨[(4, false, [.nil (.int .i64)]), (5, false, [.tr 2000000])], [(2000000, .tree)]⟩, [none], [.v (.sl (.int .i64))]⟩]⟩
def s_l21Left_W0 : LoopB s_l21Left_S0 := fun R c p nx ex => s_l21Left_B0 c.1 c.2 p.1 p.2 (fun v0 v1 => nx (v0, v1)) (fun v0 => ex v0)
def s_l21Left_L0 (a0_1 : List Int) (a0_3 : List Int) (n : Nat) (a0_9 : Int) (a0_10 : List Int) : Option ((List Int)) := @loopF ((List Int) × (List Int)) (Int × (List Int)) ((List Int)) (s_l21Left_W0 _) (a0_1, a0_3) n (a0_9, a0_10)
def s_l21Left_E0 : Env Tryz.prog (0, 29) (bodyOf Tryz.f113) := ⟨[s_l9Has_e], [], [], []⟩
theorem s_l21Left_b0 : BodyOk T s_l21Left_E0 [0, 1, 0, 1, 1] s_l21Left_S0 s_l21Left_W0 := fun R c p nx ex => by kernel_rfl
def s_l21Left (l : List Int) (lost : List Int) : Option (List Int) :=
  bnd (s_l21Left_L0 l lost big 0 ([] : List Int)) fun y2 => some y2
theorem s_l21Left_c : FnC Tryz.prog 113 [.v (.sl (.int .i64)), .v (.sl (.int .i64))] [.sl (.int .i64)] (fun x => s_l21Left x.1 x.2) :=
  FnC.of (body := bodyOf Tryz.f113) (N := (0, 29)) tabOk tabB mixed Tryz.func113 (by kernel_rfl) (by kernel_rfl) (fun _ => by kernel_rfl) ⟨[s_l9Has_e], [], [⟨[0, 1, 0, 1, 1], LoopE.of tabOk tabB mixed s_l21Left_E0 [0, 1, 0, 1, 1] (by kernel_rfl) _ _ s_l21Left_b0⟩], []⟩ (fun _ => by kernel_rfl) (fun x => by kernel_rfl)
def s_l21Left_e : Entry Tryz.prog := .of s_l21Left_c

/- spec.PlainHello -/
def s_PlainHello (versions : List Int) : Option HelloV :=
  need ((((([] : List Int).length + versions.length : Nat)) : Int) * ((8 : Nat) : Int) ≤ 140737488355328) (some (⟨(([] : List Int) ++ versions), []⟩ : HelloV))
theorem s_PlainHello_c : FnC Tryz.prog 186 [.v (.sl (.int .i64))] [.st .hello] (fun x => s_PlainHello x) :=
  FnC.of (body := bodyOf Tryz.f186) (N := (0, 7)) tabOk tabB mixed Tryz.func186 (by kernel_rfl) (by kernel_rfl) (fun _ => by kernel_rfl) ⟨[], [], [], []⟩ (fun _ => by kernel_rfl) (fun x => by kernel_rfl)
def s_PlainHello_e : Entry Tryz.prog := .of s_PlainHello_c

/- spec.IsOpenPath -/
def s_IsOpenPath (path : List BoxV) (versions : List Int) : Option Bool :=
  bnd (s_AreVersions versions) fun y1 => fork (!y1) (some false) (need (0 ≤ (1 : Int) ∧ (1 : Int) ≤ ((versions.length : Nat) : Int)) (
  bnd (s_PlainHello (versions.take 1)) fun y2 => bnd (s_PassPath path y2) fun y3 => some y3.2))
theorem s_IsOpenPath_c : FnC Tryz.prog 146 [.v (.sl (.st .box)), .v (.sl (.int .i64))] [.bool] (fun x => s_IsOpenPath x.1 x.2) :=
  FnC.of (body := bodyOf Tryz.f146) (N := (0, 19)) tabOk tabB mixed Tryz.func146 (by kernel_rfl) (by kernel_rfl) (fun _ => by kernel_rfl) ⟨[s_AreVersions_e, s_PassPath_e, s_PlainHello_e], [], [], []⟩ (fun _ => by kernel_rfl) (fun x => by kernel_rfl)
def s_IsOpenPath_e : Entry Tryz.prog := .of s_IsOpenPath_c
def s_IsOpenPath_k : CloE Tryz.prog := .two (k := 146) (t := .sl (.st .box)) (u := .sl (.int .i64)) (cts := []) ⟨_, Tryz.func146, by kernel_rfl, by kernel_rfl⟩ (fun x y c => s_IsOpenPath x y) (fun x y c r h => s_IsOpenPath_c (x, y) r h)

/- spec.LostVersions -/
def s_LostVersions_B0 {R : Type} (a0_1 : List BoxV) (a0_3 : List Int) (a0_9 : Int) (a0_10 : List Int) (nx : Int → List Int → Option R) (x0 : List Int → Option R) : Option R :=
  fork (decide (a0_9 < ((a0_3.length : Nat) : Int))) (bnd (s_AreVersions a0_3) fun y1 => fork y1 (
  need (0 ≤ a0_9 ∧ a0_9 ≤ (w64 (a0_9 + 1)) ∧ (w64 (a0_9 + 1)) ≤ ((a0_3.length : Nat) : Int)) (
  bnd (s_IsOpenPath a0_1 ((a0_3.take (w64 (a0_9 + 1)).toNat).drop a0_9.toNat)) fun y2 => fork (!y2) (need (0 ≤ a0_9 ∧ a0_9 < ((a0_3.length : Nat) : Int)) (
  need ((((a0_10.length + ([(a0_3.getD a0_9.toNat (dflt (.int .i64)))] : List Int).length : Nat)) : Int) * ((8 : Nat) : Int) ≤ 140737488355328) (
  nx (w64 (a0_9 + 1)) (a0_10 ++ ([(a0_3.getD a0_9.toNat (dflt (.int .i64)))] : List Int))))) (nx (w64 (a0_9 + 1)) a0_10))) (x0 a0_10)) (x0 a0_10)
def s_LostVersions_S0 : LoopS := ⟨⟨[(0, false, [.ro]), (1, false, [.ro]), (4, false, [.nil (.int .i64)]), (5, false, [.tr 1000000]), (6, false, [.val])], [(1000000, .tree)]⟩, [some 0, some 1, none, none], [.v (.sl (.st .box)), .v (.sl (.int .i64))], [.v (.int .i64), .v (.sl (.int .i64))],
  [⟨.exit 0, ⟨[(4, false, [.nil (.int .i64)]), (5, false, [.tr 2000000])], [(2000000, .tree)]⟩, [none], [.v (.sl (.int .i64))]⟩]⟩
def s_LostVersions_W0 : LoopB s_LostVersions_S0 := fun R c p nx ex => s_LostVersions_B0 c.1 c.2 p.1 p.2 (fun v0 v1 => nx (v0, v1)) (fun v0 => ex v0)
def s_LostVersions_L0 (a0_1 : List BoxV) (a0_3 : List Int) (n : Nat) (a0_9 : Int) (a0_10 : List Int) : Option ((List Int)) := @loopF ((List BoxV) × (List Int)) (Int × (List Int)) ((List Int)) (s_LostVersions_W0 _) (a0_1, a0_3) n (a0_9, a0_10)
def s_LostVersions_E0 : Env Tryz.prog (0, 34) (bodyOf Tryz.f114) := ⟨[s_AreVersions_e, s_IsOpenPath_e], [], [], []⟩
theorem s_LostVersions_b0 : BodyOk T s_LostVersions_E0 [0, 1, 0, 1, 1] s_LostVersions_S0 s_LostVersions_W0 := fun R c p nx ex => by kernel_rfl
def s_LostVersions (path : List BoxV) (versions : List Int) : Option (List Int) :=
  bnd (s_LostVersions_L0 path versions big 0 ([] : List Int)) fun y3 => some y3
theorem s_LostVersions_c : FnC Tryz.prog 114 [.v (.sl (.st .box)), .v (.sl (.int .i64))] [.sl (.int .i64)] (fun x => s_LostVersions x.1 x.2) :=
  FnC.of (body := bodyOf Tryz.f114) (N := (0, 34)) tabOk tabB mixed Tryz.func114 (by kernel_rfl) (by kernel_rfl) (fun _ => by kernel_rfl) ⟨[s_AreVersions_e, s_IsOpenPath_e], [], [⟨[0, 1, 0, 1, 1], LoopE.of tabOk tabB mixed s_LostVersions_E0 [0, 1, 0, 1, 1] (by kernel_rfl) _ _ s_LostVersions_b0⟩], []⟩ (fun _ => by kernel_rfl) (fun x => by kernel_rfl)
def s_LostVersions_e : Entry Tryz.prog := .of s_LostVersions_c

/- spec.PartHello -/
def s_PartHello_B0 {R : Type} (a0_1 : List Int) (a0_3 : List Int) (a0_9 : Bool) (a0_15 : List Int) (a0_16 : List ExtV) (a0_13 : Int) (a0_23 : List Int) (nx : Int → List Int → Option R) (x0 : List Int → Option R) : Option R :=
  fork (decide (a0_13 < ((a0_15.length : Nat) : Int))) (need (0 ≤ a0_13 ∧ a0_13 < ((a0_15.length : Nat) : Int)) (
  bnd (s_l9Has a0_1 (a0_15.getD a0_13.toNat (dflt (.int .i64)))) fun y3 => fork (!y3) (need (0 ≤ a0_13 ∧ a0_13 < ((a0_15.length : Nat) : Int)) (
  need ((((a0_23.length + ([(a0_15.getD a0_13.toNat (dflt (.int .i64)))] : List Int).length : Nat)) : Int) * ((8 : Nat) : Int) ≤ 140737488355328) (
  nx (w64 (a0_13 + 1)) (a0_23 ++ ([(a0_15.getD a0_13.toNat (dflt (.int .i64)))] : List Int))))) (nx (w64 (a0_13 + 1)) a0_23))) (x0 a0_23)
def s_PartHello_S0 : LoopS := ⟨⟨[(1, false, [.ro]), (2, false, [.ro]), (3, false, [.bp 1000000 0]), (6, false, [.bp 1000001 0]), (7, false, [.val]), (8, false, [.bp 1000002 0]), (9, false, [.val])], [(1000000, .box [.ro, .ro]), (1000001, .box [.nil (.int .i64), .nil (.st .ext)]), (1000002, .box [.tr 1000003, .nil (.st .ext)]), (1000003, .tree)]⟩, [some 0, some 1, some 2, none, some 3, some 4, none], [.v (.sl (.int .i64)), .v (.sl (.int .i64)), .v (.bool), .v (.sl (.int .i64)), .v (.sl (.st .ext))], [.v (.int .i64), .v (.sl (.int .i64))],
  [⟨.exit 0, ⟨[(2, false, [.ro]), (3, false, [.bp 2000000 0]), (6, false, [.bp 2000001 0]), (7, false, [.val]), (8, false, [.bp 2000002 0])], [(2000000, .box [.ro, .ro]), (2000001, .box [.nil (.int .i64), .nil (.st .ext)]), (2000002, .box [.tr 2000003, .nil (.st .ext)]), (2000003, .tree)]⟩, [some 1, some 2, some 3, some 4, none], [.v (.sl (.int .i64))]⟩]⟩
def s_PartHello_W0 : LoopB s_PartHello_S0 := fun R c p nx ex => s_PartHello_B0 c.1 c.2.1 c.2.2.1 c.2.2.2.1 c.2.2.2.2 p.1 p.2 (fun v0 v1 => nx (v0, v1)) (fun v0 => ex v0)
def s_PartHello_L0 (a0_1 : List Int) (a0_3 : List Int) (a0_9 : Bool) (a0_15 : List Int) (a0_16 : List ExtV) (n : Nat) (a0_13 : Int) (a0_23 : List Int) : Option ((List Int)) := @loopF ((List Int) × (List Int) × Bool × (List Int) × (List ExtV)) (Int × (List Int)) ((List Int)) (s_PartHello_W0 _) (a0_1, a0_3, a0_9, a0_15, a0_16) n (a0_13, a0_23)
def s_PartHello_E0 : Env Tryz.prog (0, 83) (bodyOf Tryz.f235) := ⟨[s_l9Has_e, s_IsHello_e], [], [], []⟩
theorem s_PartHello_b0 : BodyOk T s_PartHello_E0 [0, 1, 0, 1, 1, 1] s_PartHello_S0 s_PartHello_W0 := fun R c p nx ex => by kernel_rfl
def s_PartHello_B1 {R : Type} (a1_1 : List Int) (a1_7 : Bool) (a1_13 : List Int) (a1_14 : List ExtV) (a1_21 : List Int) (a1_11 : Int) (a1_22 : List ExtV) (nx : Int → List ExtV → Option R) (x0 : List ExtV → Option R) : Option R :=
  fork (decide (a1_11 < ((a1_14.length : Nat) : Int))) (need (0 ≤ a1_11 ∧ a1_11 < ((a1_14.length : Nat) : Int)) (
  bnd (s_l9Has a1_1 ((a1_14.getD a1_11.toNat (dflt (.st .ext))).Tag)) fun y6 => fork (!y6) (need (0 ≤ a1_11 ∧ a1_11 < ((a1_14.length : Nat) : Int)) (
  need (0 ≤ a1_11 ∧ a1_11 < ((a1_14.length : Nat) : Int)) (
  need ((((([] : List Int).length + ((a1_14.getD a1_11.toNat (dflt (.st .ext))).Body).length : Nat)) : Int) * ((8 : Nat) : Int) ≤ 140737488355328) (
  need ((((a1_22.length + ([(⟨(a1_14.getD a1_11.toNat (dflt (.st .ext))).Tag, (([] : List Int) ++ ((a1_14.getD a1_11.toNat (dflt (.st .ext))).Body))⟩ : ExtV)] : List ExtV).length : Nat)) : Int) * ((32 : Nat) : Int) ≤ 140737488355328) (
  nx (w64 (a1_11 + 1)) (a1_22 ++ ([(⟨(a1_14.getD a1_11.toNat (dflt (.st .ext))).Tag, (([] : List Int) ++ ((a1_14.getD a1_11.toNat (dflt (.st .ext))).Body))⟩ : ExtV)] : List ExtV))
 ))))) (nx (w64 (a1_11 + 1)) a1_22))) (x0 a1_22)
def s_PartHello_S1 : LoopS := ⟨⟨[(2, false, [.ro]), (3, false, [.bp 1010000 0]), (6, false, [.bp 1010001 0]), (7, false, [.val]), (8, false, [.bp 1010002 0]), (10, false, [.val])], [(1010000, .box [.ro, .ro]), (1010001, .box [.nil (.int .i64), .nil (.st .ext)]), (1010002, .box [.tr 1010003, .tr 1010004]), (1010003, .tree), (1010004, .tree)]⟩, [some 0, some 1, none, some 2, some 3, some 4, none], [.v (.sl (.int .i64)), .v (.bool), .v (.sl (.int .i64)), .v (.sl (.st .ext)), .v (.sl (.int .i64))], [.v (.int .i64), .v (.sl (.st .ext))],
  [⟨.exit 2, ⟨[(6, false, [.bp 2010000 0]), (7, false, [.val]), (8, false, [.bp 2010001 0])], [(2010000, .box [.nil (.int .i64), .nil (.st .ext)]), (2010001, .box [.tr 2010002, .tr 2010003]), (2010002, .tree), (2010003, .tree)]⟩, [some 1, some 4, none], [.v (.sl (.st .ext))]⟩]⟩
def s_PartHello_W1 : LoopB s_PartHello_S1 := fun R c p nx ex => s_PartHello_B1 c.1 c.2.1 c.2.2.1 c.2.2.2.1 c.2.2.2.2 p.1 p.2 (fun v0 v1 => nx (v0, v1)) (fun v0 => ex v0)
def s_PartHello_L1 (a1_1 : List Int) (a1_7 : Bool) (a1_13 : List Int) (a1_14 : List ExtV) (a1_21 : List Int) (n : Nat) (a1_11 : Int) (a1_22 : List ExtV) : Option ((List ExtV)) := @loopF ((List Int) × Bool × (List Int) × (List ExtV) × (List Int)) (Int × (List ExtV)) ((List ExtV)) (s_PartHello_W1 _) (a1_1, a1_7, a1_13, a1_14, a1_21) n (a1_11, a1_22)
def s_PartHello_E1 : Env Tryz.prog (0, 83) (bodyOf Tryz.f235) := ⟨[s_l9Has_e, s_IsHello_e], [], [⟨[0, 1, 0, 1, 1, 1], LoopE.of tabOk tabB mixed s_PartHello_E0 [0, 1, 0, 1, 1, 1] (by kernel_rfl) _ _ s_PartHello_b0⟩], []⟩
theorem s_PartHello_b1 : BodyOk T s_PartHello_E1 [0, 1, 0, 1, 1, 1, 1] s_PartHello_S1 s_PartHello_W1 := fun R c p nx ex => by kernel_rfl
def s_PartHello (p0 : HelloV) (lostVersions : List Int) (lostTags : List Int) : Option (HelloV × Bool) :=
  bnd (s_IsHello p0) fun y1 => fork (!y1) (some ((⟨[], []⟩ : HelloV), false)) (
  bnd (s_PartHello_L0 lostVersions lostTags false p0.Versions p0.Exts big 0 ([] : List Int)) fun y4 =>
  bnd (s_PartHello_L1 lostTags false p0.Versions p0.Exts y4 big 0 ([] : List ExtV)) fun y7 => fork (((y4.length : Nat) : Int) == 0) (some ((⟨[], []⟩ : HelloV), false)) (
  some ((⟨y4, y7⟩ : HelloV), true)))
theorem s_PartHello_c : FnC Tryz.prog 235 [.v (.st .hello), .v (.sl (.int .i64)), .v (.sl (.int .i64))] [.st .hello, .bool] (fun x => s_PartHello x.1 x.2.1 x.2.2) :=
  FnC.of (body := bodyOf Tryz.f235) (N := (0, 83)) tabOk tabB mixed Tryz.func235 (by kernel_rfl) (by kernel_rfl) (fun _ => by kernel_rfl) ⟨[s_l9Has_e, s_IsHello_e], [], [⟨[0, 1, 0, 1, 1, 1], LoopE.of tabOk tabB mixed s_PartHello_E0 [0, 1, 0, 1, 1, 1] (by kernel_rfl) _ _ s_PartHello_b0⟩, ⟨[0, 1, 0, 1, 1, 1, 1], LoopE.of tabOk tabB mixed s_PartHello_E1 [0, 1, 0, 1, 1, 1, 1] (by kernel_rfl) _ _ s_PartHello_b1⟩], []⟩ (fun _ => by kernel_rfl) (fun x => by kernel_rfl)
def s_PartHello_e : Entry Tryz.prog := .of s_PartHello_c

/- spec.LostTags -/
def s_LostTags_B0 {R : Type} (a0_1 : List BoxV) (a0_3 : List Int) (a0_5 : List ExtV) (a0_11 : Int) (a0_12 : List Int) (nx : Int → List Int → Option R) (x0 : List Int → Option R) : Option R :=
  fork (decide (a0_11 < ((a0_5.length : Nat) : Int))) (need (0 ≤ (1 : Int) ∧ (1 : Int) ≤ ((a0_3.length : Nat) : Int)) (bnd (s_PlainHello (a0_3.take 1)) fun y3 =>
  need (0 ≤ a0_11 ∧ a0_11 ≤ (w64 (a0_11 + 1)) ∧ (w64 (a0_11 + 1)) ≤ ((a0_5.length : Nat) : Int)) (
  bnd (s_PassPath a0_1 (⟨y3.Versions, ((a0_5.take (w64 (a0_11 + 1)).toNat).drop a0_11.toNat)⟩ : HelloV)) fun y4 => fork (!y4.2) (
  need (0 ≤ a0_11 ∧ a0_11 < ((a0_5.length : Nat) : Int)) (
  need ((((a0_12.length + ([(a0_5.getD a0_11.toNat (dflt (.st .ext))).Tag] : List Int).length : Nat)) : Int) * ((8 : Nat) : Int) ≤ 140737488355328) (
  nx (w64 (a0_11 + 1)) (a0_12 ++ ([(a0_5.getD a0_11.toNat (dflt (.st .ext))).Tag] : List Int))))) (
  bnd (s_EqualExts y4.1.Exts ((a0_5.take (w64 (a0_11 + 1)).toNat).drop a0_11.toNat)) fun y5 => fork (!y5) (need (0 ≤ a0_11 ∧ a0_11 < ((a0_5.length : Nat) : Int)) (
  need ((((a0_12.length + ([(a0_5.getD a0_11.toNat (dflt (.st .ext))).Tag] : List Int).length : Nat)) : Int) * ((8 : Nat) : Int) ≤ 140737488355328) (
  nx (w64 (a0_11 + 1)) (a0_12 ++ ([(a0_5.getD a0_11.toNat (dflt (.st .ext))).Tag] : List Int))))) (nx (w64 (a0_11 + 1)) a0_12))))) (x0 a0_12)
def s_LostTags_S0 : LoopS := ⟨⟨[(0, false, [.ro]), (1, false, [.ro]), (2, false, [.ro]), (6, false, [.nil (.int .i64)]), (7, false, [.tr 1000000]), (8, false, [.val])], [(1000000, .tree)]⟩, [some 0, some 1, some 2, none, none], [.v (.sl (.st .box)), .v (.sl (.int .i64)), .v (.sl (.st .ext))], [.v (.int .i64), .v (.sl (.int .i64))],
  [⟨.exit 0, ⟨[(6, false, [.nil (.int .i64)]), (7, false, [.tr 2000000])], [(2000000, .tree)]⟩, [none], [.v (.sl (.int .i64))]⟩]⟩
def s_LostTags_W0 : LoopB s_LostTags_S0 := fun R c p nx ex => s_LostTags_B0 c.1 c.2.1 c.2.2 p.1 p.2 (fun v0 v1 => nx (v0, v1)) (fun v0 => ex v0)
def s_LostTags_L0 (a0_1 : List BoxV) (a0_3 : List Int) (a0_5 : List ExtV) (n : Nat) (a0_11 : Int) (a0_12 : List Int) : Option ((List Int)) := @loopF ((List BoxV) × (List Int) × (List ExtV)) (Int × (List Int)) ((List Int)) (s_LostTags_W0 _) (a0_1, a0_3, a0_5) n (a0_11, a0_12)
def s_LostTags_E0 : Env Tryz.prog (0, 63) (bodyOf Tryz.f236) := ⟨[s_IsOpenPath_e, s_PassPath_e, s_PlainHello_e, s_AreExts_e, s_EqualExts_e], [], [], []⟩
theorem s_LostTags_b0 : BodyOk T s_LostTags_E0 [0, 1, 0, 1, 1, 1] s_LostTags_S0 s_LostTags_W0 := fun R c p nx ex => by kernel_rfl
def s_LostTags (path : List BoxV) (versions : List Int) (exts : List ExtV) : Option (List Int) :=
  bnd (s_AreExts exts) fun y1 => fork (!y1) (some ([] : List Int)) (bnd (s_IsOpenPath path versions) fun y2 => fork (!y2) (some ([] : List Int)) (
  bnd (s_LostTags_L0 path versions exts big 0 ([] : List Int)) fun y6 => some y6))
theorem s_LostTags_c : FnC Tryz.prog 236 [.v (.sl (.st .box)), .v (.sl (.int .i64)), .v (.sl (.st .ext))] [.sl (.int .i64)] (fun x => s_LostTags x.1 x.2.1 x.2.2) :=
  FnC.of (body := bodyOf Tryz.f236) (N := (0, 63)) tabOk tabB mixed Tryz.func236 (by kernel_rfl) (by kernel_rfl) (fun _ => by kernel_rfl) ⟨[s_IsOpenPath_e, s_PassPath_e, s_PlainHello_e, s_AreExts_e, s_EqualExts_e], [], [⟨[0, 1, 0, 1, 1, 1], LoopE.of tabOk tabB mixed s_LostTags_E0 [0, 1, 0, 1, 1, 1] (by kernel_rfl) _ _ s_LostTags_b0⟩], []⟩ (fun _ => by kernel_rfl) (fun x => by kernel_rfl)
def s_LostTags_e : Entry Tryz.prog := .of s_LostTags_c

/- spec.FallbackHello -/
def s_FallbackHello (p0 : HelloV) (path : List BoxV) : Option (HelloV × Bool) :=
  bnd (s_IsHello p0) fun y1 => fork (!y1) (some ((⟨[], []⟩ : HelloV), false)) (bnd (s_LostVersions path p0.Versions) fun y2 => bnd (s_l21Left p0.Versions y2) fun y3 =>
  bnd (s_LostTags path y3 p0.Exts) fun y4 => bnd (s_PartHello p0 y2 y4) fun y5 => some (y5.1, y5.2))
theorem s_FallbackHello_c : FnC Tryz.prog 190 [.v (.st .hello), .v (.sl (.st .box))] [.st .hello, .bool] (fun x => s_FallbackHello x.1 x.2) :=
  FnC.of (body := bodyOf Tryz.f190) (N := (0, 28)) tabOk tabB mixed Tryz.func190 (by kernel_rfl) (by kernel_rfl) (fun _ => by kernel_rfl) ⟨[s_l21Left_e, s_LostVersions_e, s_IsHello_e, s_PartHello_e, s_LostTags_e], [], [], []⟩ (fun _ => by kernel_rfl) (fun x => by kernel_rfl)
def s_FallbackHello_e : Entry Tryz.prog := .of s_FallbackHello_c

/- spec.HelloFor -/
def s_HelloFor (p0 : HelloV) (path : List BoxV) : Option (HelloV × Int × Bool) :=
  bnd (s_IsHello p0) fun y1 => fork (!y1) (some ((⟨[], []⟩ : HelloV), 0, false)) (bnd (s_PassesWhole p0 path) fun y2 => fork y2 (bnd (s_l18Hello p0) fun y3 =>
  some (y3, 1, true)) (bnd (s_FallbackHello p0 path) fun y4 => fork (!y4.2) (some ((⟨[], []⟩ : HelloV), 2, false)) (bnd (s_PassesWhole y4.1 path) fun y5 => fork (!y5) (
  some ((⟨[], []⟩ : HelloV), 2, false)) (some (y4.1, 2, true)))))
theorem s_HelloFor_c : FnC Tryz.prog 149 [.v (.st .hello), .v (.sl (.st .box))] [.st .hello, .int .i64, .bool] (fun x => s_HelloFor x.1 x.2) :=
  FnC.of (body := bodyOf Tryz.f149) (N := (0, 34)) tabOk tabB mixed Tryz.func149 (by kernel_rfl) (by kernel_rfl) (fun _ => by kernel_rfl) ⟨[s_IsHello_e, s_PassesWhole_e, s_l18Hello_e, s_FallbackHello_e], [], [], []⟩ (fun _ => by kernel_rfl) (fun x => by kernel_rfl)
def s_HelloFor_e : Entry Tryz.prog := .of s_HelloFor_c

/- spec.StripGrease -/
def s_StripGrease_B0 {R : Type} (a0_1 : List ExtV) (a0_7 : Int) (a0_8 : List ExtV) (nx : Int → List ExtV → Option R) (x0 : List ExtV → Option R) : Option R :=
  fork (decide (a0_7 < ((a0_1.length : Nat) : Int))) (need (0 ≤ a0_7 ∧ a0_7 < ((a0_1.length : Nat) : Int)) (
  bnd (s_IsReserved ((a0_1.getD a0_7.toNat (dflt (.st .ext))).Tag)) fun y1 => fork (!y1) (need (0 ≤ a0_7 ∧ a0_7 < ((a0_1.length : Nat) : Int)) (
  need (0 ≤ a0_7 ∧ a0_7 < ((a0_1.length : Nat) : Int)) (
  need ((((([] : List Int).length + ((a0_1.getD a0_7.toNat (dflt (.st .ext))).Body).length : Nat)) : Int) * ((8 : Nat) : Int) ≤ 140737488355328) (
  need ((((a0_8.length + ([(⟨(a0_1.getD a0_7.toNat (dflt (.st .ext))).Tag, (([] : List Int) ++ ((a0_1.getD a0_7.toNat (dflt (.st .ext))).Body))⟩ : ExtV)] : List ExtV).length : Nat)) : Int) * ((32 : Nat) : Int) ≤ 140737488355328) (
  nx (w64 (a0_7 + 1)) (a0_8 ++ ([(⟨(a0_1.getD a0_7.toNat (dflt (.st .ext))).Tag, (([] : List Int) ++ ((a0_1.getD a0_7.toNat (dflt (.st .ext))).Body))⟩ : ExtV)] : List ExtV))
 ))))) (nx (w64 (a0_7 + 1)) a0_8))) (x0 a0_8)
def s_StripGrease_S0 : LoopS := ⟨⟨[(0, false, [.ro]), (2, false, [.nil (.st .ext)]), (3, false, [.tr 1000000]), (4, false, [.val])], [(1000000, .tree)]⟩, [some 0, none, none], [.v (.sl (.st .ext))], [.v (.int .i64), .v (.sl (.st .ext))],
  [⟨.exit 0, ⟨[(2, false, [.nil (.st .ext)]), (3, false, [.tr 2000000])], [(2000000, .tree)]⟩, [none], [.v (.sl (.st .ext))]⟩]⟩
def s_StripGrease_W0 : LoopB s_StripGrease_S0 := fun R c p nx ex => s_StripGrease_B0 c p.1 p.2 (fun v0 v1 => nx (v0, v1)) (fun v0 => ex v0)
def s_StripGrease_L0 (a0_1 : List ExtV) (n : Nat) (a0_7 : Int) (a0_8 : List ExtV) : Option ((List ExtV)) := @loopF (List ExtV) (Int × (List ExtV)) ((List ExtV)) (s_StripGrease_W0 _) a0_1 n (a0_7, a0_8)
def s_StripGrease_E0 : Env Tryz.prog (0, 36) (bodyOf Tryz.f237) := ⟨[s_IsReserved_e], [], [], []⟩
theorem s_StripGrease_b0 : BodyOk T s_StripGrease_E0 [0, 1, 0, 1, 1] s_StripGrease_S0 s_StripGrease_W0 := fun R c p nx ex => by kernel_rfl
def s_StripGrease (l : List ExtV) : Option (List ExtV) :=
  bnd (s_StripGrease_L0 l big 0 ([] : List ExtV)) fun y2 => some y2
theorem s_StripGrease_c : FnC Tryz.prog 237 [.v (.sl (.st .ext))] [.sl (.st .ext)] (fun x => s_StripGrease x) :=
  FnC.of (body := bodyOf Tryz.f237) (N := (0, 36)) tabOk tabB mixed Tryz.func237 (by kernel_rfl) (by kernel_rfl) (fun _ => by kernel_rfl) ⟨[s_IsReserved_e], [], [⟨[0, 1, 0, 1, 1], LoopE.of tabOk tabB mixed s_StripGrease_E0 [0, 1, 0, 1, 1] (by kernel_rfl) _ _ s_StripGrease_b0⟩], []⟩ (fun _ => by kernel_rfl) (fun x => by kernel_rfl)
def s_StripGrease_e : Entry Tryz.prog := .of s_StripGrease_c

/- spec.ChooseAnswer -/
def s_ChooseAnswer (versions : List Int) (tags : List Int) (p2 : HelloV) : Option (AnswerV × Bool) :=
  bnd (s_BestCommon versions p2.Versions) fun y1 => bnd (s_IsHello p2) fun y2 => fork (!y2) (some ((⟨0, []⟩ : AnswerV), false)) (fork (y1 == 0) (
  some ((⟨0, []⟩ : AnswerV), false)) (bnd (s_KnownOf p2.Exts tags) fun y3 => bnd (s_StripGrease y3) fun y4 => some ((⟨y1, y4⟩ : AnswerV), true)))
theorem s_ChooseAnswer_c : FnC Tryz.prog 191 [.v (.sl (.int .i64)), .v (.sl (.int .i64)), .v (.st .hello)] [.st .answer, .bool] (fun x => s_ChooseAnswer x.1 x.2.1 x.2.2) :=
  FnC.of (body := bodyOf Tryz.f191) (N := (0, 28)) tabOk tabB mixed Tryz.func191 (by kernel_rfl) (by kernel_rfl) (fun _ => by kernel_rfl) ⟨[s_BestCommon_e, s_IsHello_e, s_StripGrease_e, s_KnownOf_e], [], [], []⟩ (fun _ => by kernel_rfl) (fun x => by kernel_rfl)
def s_ChooseAnswer_e : Entry Tryz.prog := .of s_ChooseAnswer_c

/- spec.IsAnswer -/
def s_IsAnswer (a : AnswerV) : Option Bool :=
  bnd (s_l1In a.Version 1 9) fun y1 => fork y1 (bnd (s_AreExts a.Exts) fun y2 => some y2) (some false)
theorem s_IsAnswer_c : FnC Tryz.prog 239 [.v (.st .answer)] [.bool] (fun x => s_IsAnswer x) :=
  FnC.of (body := bodyOf Tryz.f239) (N := (0, 11)) tabOk tabB mixed Tryz.func239 (by kernel_rfl) (by kernel_rfl) (fun _ => by kernel_rfl) ⟨[s_l1In_e, s_AreExts_e], [], [], []⟩ (fun _ => by kernel_rfl) (fun x => by kernel_rfl)
def s_IsAnswer_e : Entry Tryz.prog := .of s_IsAnswer_c
def s_IsAnswer_k : CloE Tryz.prog := .one (k := 239) (t := .st .answer) (cts := []) ⟨_, Tryz.func239, by kernel_rfl, by kernel_rfl⟩ (fun x c => s_IsAnswer x) (fun x c r h => s_IsAnswer_c x r h)

/- spec.FitsHello -/
def s_FitsHello_B0 {R : Type} (a0_5 : Bool) (a0_9 : List Int) (a0_10 : List ExtV) (a0_12 : Int) (a0_13 : List ExtV) (a0_7 : Int) (nx : Int → Option R) (x0 : Bool → Option R) (x1 : Option R) : Option R :=
  fork (decide (a0_7 < ((a0_13.length : Nat) : Int))) (need (0 ≤ a0_7 ∧ a0_7 < ((a0_13.length : Nat) : Int)) (
  bnd (s_ExtOf a0_10 ((a0_13.getD a0_7.toNat (dflt (.st .ext))).Tag)) fun y1 => fork (decide (y1 < 0)) (x0 false) (need (0 ≤ a0_7 ∧ a0_7 < ((a0_13.length : Nat) : Int)) (
  bnd (s_IsReserved ((a0_13.getD a0_7.toNat (dflt (.st .ext))).Tag)) fun y2 => fork y2 (x0 false) (nx (w64 (a0_7 + 1))))))) (x1)
def s_FitsHello_S0 : LoopS := ⟨⟨[(2, false, [.bp 1000000 0]), (3, false, [.bp 1000001 0]), (4, false, [.val]), (5, false, [.val])], [(1000000, .box [.ro, .ro]), (1000001, .box [.val, .ro])]⟩, [some 0, none, some 1, some 2, some 3, some 4], [.v (.bool), .v (.sl (.int .i64)), .v (.sl (.st .ext)), .v (.int .i64), .v (.sl (.st .ext))], [.v (.int .i64)],
  [⟨.ret, ⟨[(4, false, [.val])], []⟩, [none], [.v (.bool)]⟩, ⟨.exit 0, ⟨[(2, false, [.bp 2001000 0]), (3, false, [.bp 2001001 0]), (4, false, [.val])], [(2001000, .box [.ro, .ro]), (2001001, .box [.val, .ro])]⟩, [some 0, some 1, some 2, some 3, some 4], []⟩]⟩
def s_FitsHello_W0 : LoopB s_FitsHello_S0 := fun R c p nx ex => s_FitsHello_B0 c.1 c.2.1 c.2.2.1 c.2.2.2.1 c.2.2.2.2 p (fun v0 => nx v0) (fun v0 => ex (.inl v0)) (ex (.inr ()))
def s_FitsHello_L0 (a0_5 : Bool) (a0_9 : List Int) (a0_10 : List ExtV) (a0_12 : Int) (a0_13 : List ExtV) (n : Nat) (a0_7 : Int) : Option (Bool ⊕ Unit) := @loopF (Bool × (List Int) × (List ExtV) × Int × (List ExtV)) Int (Bool ⊕ Unit) (s_FitsHello_W0 _) (a0_5, a0_9, a0_10, a0_12, a0_13) n a0_7
def s_FitsHello_E0 : Env Tryz.prog (0, 45) (bodyOf Tryz.f192) := ⟨[s_l9Has_e, s_IsReserved_e, s_IsHello_e, s_ExtOf_e, s_IsAnswer_e], [], [], []⟩
theorem s_FitsHello_b0 : BodyOk T s_FitsHello_E0 [0, 1, 0, 1] s_FitsHello_S0 s_FitsHello_W0 := fun R c p nx ex => by kernel_rfl
def s_FitsHello (p0 : HelloV) (a : AnswerV) : Option Bool :=
  bnd (s_FitsHello_L0 false p0.Versions p0.Exts a.Version a.Exts big 0) (sum2 (fun y3 => some y3) (fun _ => bnd (s_IsHello p0) fun y5 => fork y5 (
  bnd (s_IsAnswer a) fun y6 => fork y6 (bnd (s_l9Has p0.Versions a.Version) fun y7 => some y7) (some false)) (some false)))
theorem s_FitsHello_c : FnC Tryz.prog 192 [.v (.st .hello), .v (.st .answer)] [.bool] (fun x => s_FitsHello x.1 x.2) :=
  FnC.of (body := bodyOf Tryz.f192) (N := (0, 45)) tabOk tabB mixed Tryz.func192 (by kernel_rfl) (by kernel_rfl) (fun _ => by kernel_rfl) ⟨[s_l9Has_e, s_IsReserved_e, s_IsHello_e, s_ExtOf_e, s_IsAnswer_e], [], [⟨[0, 1, 0, 1], LoopE.of tabOk tabB mixed s_FitsHello_E0 [0, 1, 0, 1] (by kernel_rfl) _ _ s_FitsHello_b0⟩], []⟩ (fun _ => by kernel_rfl) (fun x => by kernel_rfl)
def s_FitsHello_e : Entry Tryz.prog := .of s_FitsHello_c
def s_FitsHello_k : CloE Tryz.prog := .two (k := 192) (t := .st .hello) (u := .st .answer) (cts := []) ⟨_, Tryz.func192, by kernel_rfl, by kernel_rfl⟩ (fun x y c => s_FitsHello x y) (fun x y c r h => s_FitsHello_c (x, y) r h)

/- spec.IsTranscript -/
def s_IsTranscript_B0 {R : Type} (a0_1 : List (List Int)) (a0_3 : Bool) (a0_5 : Int) (nx : Int → Option R) (x0 : Bool → Option R) (x1 : Option R) : Option R :=
  fork (decide (a0_5 < ((a0_1.length : Nat) : Int))) (need (0 ≤ a0_5 ∧ a0_5 < ((a0_1.length : Nat) : Int)) (
  bnd (s_l9Byte (a0_1.getD a0_5.toNat (dflt (.sl (.int .i64))))) fun y1 => fork (!y1) (x0 false) (nx (w64 (a0_5 + 1))))) (x1)
def s_IsTranscript_S0 : LoopS := ⟨⟨[(0, false, [.ro]), (2, false, [.val]), (3, false, [.val])], []⟩, [some 0, some 1, none], [.v (.sl (.sl (.int .i64))), .v (.bool)], [.v (.int .i64)],
  [⟨.ret, ⟨[(2, false, [.val])], []⟩, [none], [.v (.bool)]⟩, ⟨.exit 0, ⟨[(0, false, [.ro]), (2, false, [.val])], []⟩, [some 0, some 1], []⟩]⟩
def s_IsTranscript_W0 : LoopB s_IsTranscript_S0 := fun R c p nx ex => s_IsTranscript_B0 c.1 c.2 p (fun v0 => nx v0) (fun v0 => ex (.inl v0)) (ex (.inr ()))
def s_IsTranscript_L0 (a0_1 : List (List Int)) (a0_3 : Bool) (n : Nat) (a0_5 : Int) : Option (Bool ⊕ Unit) := @loopF ((List (List Int)) × Bool) Int (Bool ⊕ Unit) (s_IsTranscript_W0 _) (a0_1, a0_3) n a0_5
def s_IsTranscript_E0 : Env Tryz.prog (0, 19) (bodyOf Tryz.f240) := ⟨[s_l9Byte_e], [], [], []⟩
theorem s_IsTranscript_b0 : BodyOk T s_IsTranscript_E0 [0, 1, 0, 1] s_IsTranscript_S0 s_IsTranscript_W0 := fun R c p nx ex => by kernel_rfl
def s_IsTranscript (l : List (List Int)) : Option Bool :=
  bnd (s_IsTranscript_L0 l false big 0) (sum2 (fun y2 => some y2) (fun _ => some (decide (((l.length : Nat) : Int) ≤ 12))))
theorem s_IsTranscript_c : FnC Tryz.prog 240 [.v (.sl (.sl (.int .i64)))] [.bool] (fun x => s_IsTranscript x) :=
  FnC.of (body := bodyOf Tryz.f240) (N := (0, 19)) tabOk tabB mixed Tryz.func240 (by kernel_rfl) (by kernel_rfl) (fun _ => by kernel_rfl) ⟨[s_l9Byte_e], [], [⟨[0, 1, 0, 1], LoopE.of tabOk tabB mixed s_IsTranscript_E0 [0, 1, 0, 1] (by kernel_rfl) _ _ s_IsTranscript_b0⟩], []⟩ (fun _ => by kernel_rfl) (fun x => by kernel_rfl)
def s_IsTranscript_e : Entry Tryz.prog := .of s_IsTranscript_c
def s_IsTranscript_k : CloE Tryz.prog := .one (k := 240) (t := .sl (.sl (.int .i64))) (cts := []) ⟨_, Tryz.func240, by kernel_rfl, by kernel_rfl⟩ (fun x c => s_IsTranscript x) (fun x c r h => s_IsTranscript_c x r h)

/- spec.Mod -/
def s_Mod (n : Int) (m : Int) : Option Int :=
  bnd (s_l1In m 1 1000000000000) fun y1 => fork (!y1) (some 0) (need (m ≠ 0) (need (m ≠ 0) (some ((w64 ((n.tmod m) + m)).tmod m))))
theorem s_Mod_c : FnC Tryz.prog 244 [.v (.int .i64), .v (.int .i64)] [.int .i64] (fun x => s_Mod x.1 x.2) :=
  FnC.of (body := bodyOf Tryz.f244) (N := (0, 15)) tabOk tabB mixed Tryz.func244 (by kernel_rfl) (by kernel_rfl) (fun _ => by kernel_rfl) ⟨[s_l1In_e], [], [], []⟩ (fun _ => by kernel_rfl) (fun x => by kernel_rfl)
def s_Mod_e : Entry Tryz.prog := .of s_Mod_c

/- spec.Hash -/
def s_Hash_B0 {R : Type} (a0_1 : List Int) (a0_3 : Int) (a0_5 : Int) (a0_7 : Int) (nx : Int → Int → Option R) (x0 : Int → Option R) : Option R :=
  fork (decide (a0_7 < ((a0_1.length : Nat) : Int))) (need (0 ≤ a0_7 ∧ a0_7 < ((a0_1.length : Nat) : Int)) (
  bnd (s_Mod (a0_1.getD a0_7.toNat (dflt (.int .i64))) 2147483647) fun y1 => need ((2147483647 : Int) ≠ 0) (
  nx ((w64 ((w64 ((w64 (a0_5 * 1000003)) + y1)) + 13)).tmod 2147483647) (w64 (a0_7 + 1))))) (x0 a0_5)
def s_Hash_S0 : LoopS := ⟨⟨[(0, false, [.ro]), (2, false, [.val]), (3, false, [.val]), (4, false, [.val])], []⟩, [some 0, some 1, none, none], [.v (.sl (.int .i64)), .v (.int .i64)], [.v (.int .i64), .v (.int .i64)],
  [⟨.exit 0, ⟨[(2, false, [.val]), (3, false, [.val])], []⟩, [some 1, none], [.v (.int .i64)]⟩]⟩
def s_Hash_W0 : LoopB s_Hash_S0 := fun R c p nx ex => s_Hash_B0 c.1 c.2 p.1 p.2 (fun v0 v1 => nx (v0, v1)) (fun v0 => ex v0)
def s_Hash_L0 (a0_1 : List Int) (a0_3 : Int) (n : Nat) (a0_5 : Int) (a0_7 : Int) : Option Int := @loopF ((List Int) × Int) (Int × Int) Int (s_Hash_W0 _) (a0_1, a0_3) n (a0_5, a0_7)
def s_Hash_E0 : Env Tryz.prog (0, 22) (bodyOf Tryz.f245) := ⟨[s_Mod_e], [], [], []⟩
theorem s_Hash_b0 : BodyOk T s_Hash_E0 [0, 1, 0, 1, 1] s_Hash_S0 s_Hash_W0 := fun R c p nx ex => by kernel_rfl
def s_Hash (l : List Int) : Option Int :=
  bnd (s_Hash_L0 l 0 big 11 0) fun y2 => some y2
theorem s_Hash_c : FnC Tryz.prog 245 [.v (.sl (.int .i64))] [.int .i64] (fun x => s_Hash x) :=
  FnC.of (body := bodyOf Tryz.f245) (N := (0, 22)) tabOk tabB mixed Tryz.func245 (by kernel_rfl) (by kernel_rfl) (fun _ => by kernel_rfl) ⟨[s_Mod_e], [], [⟨[0, 1, 0, 1, 1], LoopE.of tabOk tabB mixed s_Hash_E0 [0, 1, 0, 1, 1] (by kernel_rfl) _ _ s_Hash_b0⟩], []⟩ (fun _ => by kernel_rfl) (fun x => by kernel_rfl)
def s_Hash_e : Entry Tryz.prog := .of s_Hash_c

/- spec.KeyedHash -/
def s_KeyedHash (secret : Int) (l : List Int) : Option Int :=
  need ((((([secret] : List Int).length + l.length : Nat)) : Int) * ((8 : Nat) : Int) ≤ 140737488355328) (
  need (((((([secret] : List Int) ++ l).length + ([secret] : List Int).length : Nat)) : Int) * ((8 : Nat) : Int) ≤ 140737488355328) (
  bnd (s_Hash ((([secret] : List Int) ++ l) ++ ([secret] : List Int))) fun y1 => some y1))
theorem s_KeyedHash_c : FnC Tryz.prog 241 [.v (.int .i64), .v (.sl (.int .i64))] [.int .i64] (fun x => s_KeyedHash x.1 x.2) :=
  FnC.of (body := bodyOf Tryz.f241) (N := (0, 13)) tabOk tabB mixed Tryz.func241 (by kernel_rfl) (by kernel_rfl) (fun _ => by kernel_rfl) ⟨[s_Hash_e], [], [], []⟩ (fun _ => by kernel_rfl) (fun x => by kernel_rfl)
def s_KeyedHash_e : Entry Tryz.prog := .of s_KeyedHash_c

/- spec.TranscriptHash -/
def s_TranscriptHash_B0 {R : Type} (a0_1 : List (List Int)) (a0_3 : Int) (a0_5 : Int) (a0_7 : Int) (nx : Int → Int → Option R) (x0 : Int → Option R) : Option R :=
  fork (decide (a0_7 < ((a0_1.length : Nat) : Int))) (need (0 ≤ a0_7 ∧ a0_7 < ((a0_1.length : Nat) : Int)) (need (0 ≤ a0_7 ∧ a0_7 < ((a0_1.length : Nat) : Int)) (
  need ((((([a0_5, (((a0_1.getD a0_7.toNat (dflt (.sl (.int .i64)))).length : Nat) : Int)] : List Int).length + (a0_1.getD a0_7.toNat (dflt (.sl (.int .i64)))).length : Nat)) : Int) * ((8 : Nat) : Int) ≤ 140737488355328) (
  bnd (s_Hash (([a0_5, (((a0_1.getD a0_7.toNat (dflt (.sl (.int .i64)))).length : Nat) : Int)] : List Int) ++ (a0_1.getD a0_7.toNat (dflt (.sl (.int .i64)))))) fun y2 =>
  nx y2 (w64 (a0_7 + 1)))))) (x0 a0_5)
def s_TranscriptHash_S0 : LoopS := ⟨⟨[(0, false, [.ro]), (2, false, [.val]), (3, false, [.val]), (4, false, [.val])], []⟩, [some 0, some 1, none, none], [.v (.sl (.sl (.int .i64))), .v (.int .i64)], [.v (.int .i64), .v (.int .i64)],
  [⟨.exit 0, ⟨[(2, false, [.val]), (3, false, [.val])], []⟩, [some 1, none], [.v (.int .i64)]⟩]⟩
def s_TranscriptHash_W0 : LoopB s_TranscriptHash_S0 := fun R c p nx ex => s_TranscriptHash_B0 c.1 c.2 p.1 p.2 (fun v0 v1 => nx (v0, v1)) (fun v0 => ex v0)
def s_TranscriptHash_L0 (a0_1 : List (List Int)) (a0_3 : Int) (n : Nat) (a0_5 : Int) (a0_7 : Int) : Option Int := @loopF ((List (List Int)) × Int) (Int × Int) Int (s_TranscriptHash_W0 _) (a0_1, a0_3) n (a0_5, a0_7)
def s_TranscriptHash_E0 : Env Tryz.prog (0, 28) (bodyOf Tryz.f242) := ⟨[s_IsTranscript_e, s_Hash_e], [], [], []⟩
theorem s_TranscriptHash_b0 : BodyOk T s_TranscriptHash_E0 [0, 1, 0, 1, 1, 1] s_TranscriptHash_S0 s_TranscriptHash_W0 := fun R c p nx ex => by kernel_rfl
def s_TranscriptHash (l : List (List Int)) : Option Int :=
  bnd (s_IsTranscript l) fun y1 => fork (!y1) (some 0) (bnd (s_TranscriptHash_L0 l 0 big 1 0) fun y3 => some y3)
theorem s_TranscriptHash_c : FnC Tryz.prog 242 [.v (.sl (.sl (.int .i64)))] [.int .i64] (fun x => s_TranscriptHash x) :=
  FnC.of (body := bodyOf Tryz.f242) (N := (0, 28)) tabOk tabB mixed Tryz.func242 (by kernel_rfl) (by kernel_rfl) (fun _ => by kernel_rfl) ⟨[s_IsTranscript_e, s_Hash_e], [], [⟨[0, 1, 0, 1, 1, 1], LoopE.of tabOk tabB mixed s_TranscriptHash_E0 [0, 1, 0, 1, 1, 1] (by kernel_rfl) _ _ s_TranscriptHash_b0⟩], []⟩ (fun _ => by kernel_rfl) (fun x => by kernel_rfl)
def s_TranscriptHash_e : Entry Tryz.prog := .of s_TranscriptHash_c

/- spec.FinishOf -/
def s_FinishOf (key : Int) (l : List (List Int)) (side : Int) : Option Int :=
  bnd (s_IsValidKey key) fun y1 => fork (!y1) (some 0) (bnd (s_IsTranscript l) fun y2 => fork (!y2) (some 0) (bnd (s_l1In side 0 1) fun y3 => fork (!y3) (some 0) (
  bnd (s_TranscriptHash l) fun y4 => bnd (s_KeyedHash key ([side, y4] : List Int)) fun y5 => some y5)))
theorem s_FinishOf_c : FnC Tryz.prog 193 [.v (.int .i64), .v (.sl (.sl (.int .i64))), .v (.int .i64)] [.int .i64] (fun x => s_FinishOf x.1 x.2.1 x.2.2) :=
  FnC.of (body := bodyOf Tryz.f193) (N := (0, 26)) tabOk tabB mixed Tryz.func193 (by kernel_rfl) (by kernel_rfl) (fun _ => by kernel_rfl) ⟨[s_IsValidKey_e, s_l1In_e, s_IsTranscript_e, s_KeyedHash_e, s_TranscriptHash_e], [], [], []⟩ (fun _ => by kernel_rfl) (fun x => by kernel_rfl)
def s_FinishOf_e : Entry Tryz.prog := .of s_FinishOf_c

/- spec.EncodeExts -/
def s_EncodeExts_B0 {R : Type} (a0_1 : List ExtV) (a0_5 : Bool) (a0_9 : Int) (a0_10 : List Int) (nx : Int → List Int → Option R) (x0 : List Int → Option R) : Option R :=
  fork (decide (a0_9 < ((a0_1.length : Nat) : Int))) (need (0 ≤ a0_9 ∧ a0_9 < ((a0_1.length : Nat) : Int)) (need (0 ≤ a0_9 ∧ a0_9 < ((a0_1.length : Nat) : Int)) (
  need ((((a0_10.length + ([(a0_1.getD a0_9.toNat (dflt (.st .ext))).Tag, ((((a0_1.getD a0_9.toNat (dflt (.st .ext))).Body).length : Nat) : Int)] : List Int).length : Nat)) : Int) * ((8 : Nat) : Int) ≤ 140737488355328) (
  need (0 ≤ a0_9 ∧ a0_9 < ((a0_1.length : Nat) : Int)) (
  need (((((a0_10 ++ ([(a0_1.getD a0_9.toNat (dflt (.st .ext))).Tag, ((((a0_1.getD a0_9.toNat (dflt (.st .ext))).Body).length : Nat) : Int)] : List Int)).length + ((a0_1.getD a0_9.toNat (dflt (.st .ext))).Body).length : Nat)) : Int) * ((8 : Nat) : Int) ≤ 140737488355328) (
  nx (w64 (a0_9 + 1)) ((a0_10 ++ ([(a0_1.getD a0_9.toNat (dflt (.st .ext))).Tag, ((((a0_1.getD a0_9.toNat (dflt (.st .ext))).Body).length : Nat) : Int)] : List Int)) ++ ((a0_1.getD a0_9.toNat (dflt (.st .ext))).Body))
 )))))) (x0 a0_10)
def s_EncodeExts_S0 : LoopS := ⟨⟨[(0, false, [.ro]), (2, false, [.nil (.int .i64)]), (3, false, [.val]), (4, false, [.tr 1000000]), (5, false, [.val])], [(1000000, .tree)]⟩, [some 0, some 1, none, none], [.v (.sl (.st .ext)), .v (.bool)], [.v (.int .i64), .v (.sl (.int .i64))],
  [⟨.exit 0, ⟨[(2, false, [.nil (.int .i64)]), (3, false, [.val]), (4, false, [.tr 2000000])], [(2000000, .tree)]⟩, [some 1, none], [.v (.sl (.int .i64))]⟩]⟩
def s_EncodeExts_W0 : LoopB s_EncodeExts_S0 := fun R c p nx ex => s_EncodeExts_B0 c.1 c.2 p.1 p.2 (fun v0 v1 => nx (v0, v1)) (fun v0 => ex v0)
def s_EncodeExts_L0 (a0_1 : List ExtV) (a0_5 : Bool) (n : Nat) (a0_9 : Int) (a0_10 : List Int) : Option ((List Int)) := @loopF ((List ExtV) × Bool) (Int × (List Int)) ((List Int)) (s_EncodeExts_W0 _) (a0_1, a0_5) n (a0_9, a0_10)
def s_EncodeExts_E0 : Env Tryz.prog (0, 41) (bodyOf Tryz.f243) := ⟨[s_AreExts_e], [], [], []⟩
theorem s_EncodeExts_b0 : BodyOk T s_EncodeExts_E0 [0, 1, 0, 1, 1, 1] s_EncodeExts_S0 s_EncodeExts_W0 := fun R c p nx ex => by kernel_rfl
def s_EncodeExts (l : List ExtV) : Option ((List Int) × Bool) :=
  bnd (s_AreExts l) fun y1 => fork (!y1) (some (([] : List Int), false)) (bnd (s_EncodeExts_L0 l false big 0 ([((l.length : Nat) : Int)] : List Int)) fun y2 =>
  some (y2, true))
theorem s_EncodeExts_c : FnC Tryz.prog 243 [.v (.sl (.st .ext))] [.sl (.int .i64), .bool] (fun x => s_EncodeExts x) :=
  FnC.of (body := bodyOf Tryz.f243) (N := (0, 41)) tabOk tabB mixed Tryz.func243 (by kernel_rfl) (by kernel_rfl) (fun _ => by kernel_rfl) ⟨[s_AreExts_e], [], [⟨[0, 1, 0, 1, 1, 1], LoopE.of tabOk tabB mixed s_EncodeExts_E0 [0, 1, 0, 1, 1, 1] (by kernel_rfl) _ _ s_EncodeExts_b0⟩], []⟩ (fun _ => by kernel_rfl) (fun x => by kernel_rfl)
def s_EncodeExts_e : Entry Tryz.prog := .of s_EncodeExts_c

/- spec.HelloBytes -/
def s_HelloBytes (p0 : HelloV) : Option (List Int) :=
  bnd (s_IsHello p0) fun y1 => fork (!y1) (some ([] : List Int)) (bnd (s_EncodeExts p0.Exts) fun y2 =>
  need ((((([((p0.Versions.length : Nat) : Int)] : List Int).length + p0.Versions.length : Nat)) : Int) * ((8 : Nat) : Int) ≤ 140737488355328) (
  need (((((([((p0.Versions.length : Nat) : Int)] : List Int) ++ p0.Versions).length + y2.1.length : Nat)) : Int) * ((8 : Nat) : Int) ≤ 140737488355328) (
  some ((([((p0.Versions.length : Nat) : Int)] : List Int) ++ p0.Versions) ++ y2.1))))
theorem s_HelloBytes_c : FnC Tryz.prog 194 [.v (.st .hello)] [.sl (.int .i64)] (fun x => s_HelloBytes x) :=
  FnC.of (body := bodyOf Tryz.f194) (N := (0, 24)) tabOk tabB mixed Tryz.func194 (by kernel_rfl) (by kernel_rfl) (fun _ => by kernel_rfl) ⟨[s_IsHello_e, s_EncodeExts_e], [], [], []⟩ (fun _ => by kernel_rfl) (fun x => by kernel_rfl)
def s_HelloBytes_e : Entry Tryz.prog := .of s_HelloBytes_c

/- spec.AnswerBytes -/
def s_AnswerBytes (a : AnswerV) : Option (List Int) :=
  bnd (s_IsAnswer a) fun y1 => fork (!y1) (some ([] : List Int)) (bnd (s_EncodeExts a.Exts) fun y2 =>
  need ((((([a.Version] : List Int).length + y2.1.length : Nat)) : Int) * ((8 : Nat) : Int) ≤ 140737488355328) (some (([a.Version] : List Int) ++ y2.1)))
theorem s_AnswerBytes_c : FnC Tryz.prog 195 [.v (.st .answer)] [.sl (.int .i64)] (fun x => s_AnswerBytes x) :=
  FnC.of (body := bodyOf Tryz.f195) (N := (0, 20)) tabOk tabB mixed Tryz.func195 (by kernel_rfl) (by kernel_rfl) (fun _ => by kernel_rfl) ⟨[s_IsAnswer_e, s_EncodeExts_e], [], [], []⟩ (fun _ => by kernel_rfl) (fun x => by kernel_rfl)
def s_AnswerBytes_e : Entry Tryz.prog := .of s_AnswerBytes_c

/- spec.DialOnce -/
def s_DialOnce (p0 : HelloV) (path : List BoxV) (versions : List Int) (tags : List Int) (key : Int) : Option DealV :=
  bnd (s_PassPath path p0) fun y1 => fork (!y1.2) (some (⟨false, 0, []⟩ : DealV)) (bnd (s_ChooseAnswer versions tags y1.1) fun y2 => fork (!y2.2) (
  some (⟨false, 0, []⟩ : DealV)) (bnd (s_FitsHello p0 y2.1) fun y3 => fork (!y3) (some (⟨false, 0, []⟩ : DealV)) (bnd (s_HelloBytes p0) fun y4 =>
  bnd (s_AnswerBytes y2.1) fun y5 => bnd (s_FinishOf key ([y4, y5] : List (List Int)) 1) fun y6 => fork (y6 == 0) (some (⟨false, 0, []⟩ : DealV)) (
  bnd (s_HelloBytes y1.1) fun y7 => bnd (s_AnswerBytes y2.1) fun y8 => bnd (s_FinishOf key ([y7, y8] : List (List Int)) 1) fun y9 => fork (y6 != y9) (
  some (⟨false, 0, []⟩ : DealV)) (bnd (s_TagsOf y2.1.Exts) fun y10 => some (⟨true, y2.1.Version, y10⟩ : DealV))))))
theorem s_DialOnce_c : FnC Tryz.prog 150 [.v (.st .hello), .v (.sl (.st .box)), .v (.sl (.int .i64)), .v (.sl (.int .i64)), .v (.int .i64)] [.st .deal] (fun x => s_DialOnce x.1 x.2.1 x.2.2.1 x.2.2.2.1 x.2.2.2.2) :=
  FnC.of (body := bodyOf Tryz.f150) (N := (0, 68)) tabOk tabB mixed Tryz.func150 (by kernel_rfl) (by kernel_rfl) (fun _ => by kernel_rfl) ⟨[s_PassPath_e, s_ChooseAnswer_e, s_FitsHello_e, s_FinishOf_e, s_HelloBytes_e, s_AnswerBytes_e, s_TagsOf_e], [], [], []⟩ (fun _ => by kernel_rfl) (fun x => by kernel_rfl)
def s_DialOnce_e : Entry Tryz.prog := .of s_DialOnce_c

/- spec.GivenUp -/
def s_GivenUp_B0 {R : Type} (a0_11 : List Int) (a0_12 : List ExtV) (a0_14 : List Int) (a0_15 : List ExtV) (a0_9 : Int) (a0_16 : List Int) (nx : Int → List Int → Option R) (x0 : List Int → Option R) : Option R :=
  fork (decide (a0_9 < ((a0_12.length : Nat) : Int))) (need (0 ≤ a0_9 ∧ a0_9 < ((a0_12.length : Nat) : Int)) (
  bnd (s_ExtOf a0_15 ((a0_12.getD a0_9.toNat (dflt (.st .ext))).Tag)) fun y2 => fork (decide (y2 < 0)) (need (0 ≤ a0_9 ∧ a0_9 < ((a0_12.length : Nat) : Int)) (
  bnd (s_l1In ((a0_12.getD a0_9.toNat (dflt (.st .ext))).Tag) 0 255) fun y3 => fork y3 (need (0 ≤ a0_9 ∧ a0_9 < ((a0_12.length : Nat) : Int)) (
  need ((((a0_16.length + ([(w64 (1000 + ((a0_12.getD a0_9.toNat (dflt (.st .ext))).Tag)))] : List Int).length : Nat)) : Int) * ((8 : Nat) : Int) ≤ 140737488355328) (
  nx (w64 (a0_9 + 1)) (a0_16 ++ ([(w64 (1000 + ((a0_12.getD a0_9.toNat (dflt (.st .ext))).Tag)))] : List Int))))) (nx (w64 (a0_9 + 1)) a0_16))) (
  nx (w64 (a0_9 + 1)) a0_16))) (x0 a0_16)
def s_GivenUp_S0 : LoopS := ⟨⟨[(2, false, [.bp 1000000 0]), (3, false, [.bp 1000001 0]), (4, false, [.nil (.int .i64)]), (5, false, [.tr 1000002]), (6, false, [.val])], [(1000000, .box [.ro, .ro]), (1000001, .box [.ro, .ro]), (1000002, .tree)]⟩, [none, some 0, some 1, some 2, some 3, none], [.v (.sl (.int .i64)), .v (.sl (.st .ext)), .v (.sl (.int .i64)), .v (.sl (.st .ext))], [.v (.int .i64), .v (.sl (.int .i64))],
  [⟨.exit 0, ⟨[(4, false, [.nil (.int .i64)]), (5, false, [.tr 2000000])], [(2000000, .tree)]⟩, [none], [.v (.sl (.int .i64))]⟩]⟩
def s_GivenUp_W0 : LoopB s_GivenUp_S0 := fun R c p nx ex => s_GivenUp_B0 c.1 c.2.1 c.2.2.1 c.2.2.2 p.1 p.2 (fun v0 v1 => nx (v0, v1)) (fun v0 => ex v0)
def s_GivenUp_L0 (a0_11 : List Int) (a0_12 : List ExtV) (a0_14 : List Int) (a0_15 : List ExtV) (n : Nat) (a0_9 : Int) (a0_16 : List Int) : Option ((List Int)) := @loopF ((List Int) × (List ExtV) × (List Int) × (List ExtV)) (Int × (List Int)) ((List Int)) (s_GivenUp_W0 _) (a0_11, a0_12, a0_14, a0_15) n (a0_9, a0_16)
def s_GivenUp_E0 : Env Tryz.prog (0, 49) (bodyOf Tryz.f151) := ⟨[s_l1In_e, s_l21Left_e, s_ExtOf_e], [], [], []⟩
theorem s_GivenUp_b0 : BodyOk T s_GivenUp_E0 [0, 1, 0, 1, 1] s_GivenUp_S0 s_GivenUp_W0 := fun R c p nx ex => by kernel_rfl
def s_GivenUp (p0 : HelloV) (p1 : HelloV) : Option (List Int) :=
  bnd (s_l21Left p0.Versions p1.Versions) fun y1 => bnd (s_GivenUp_L0 p0.Versions p0.Exts p1.Versions p1.Exts big 0 y1) fun y4 => some y4
theorem s_GivenUp_c : FnC Tryz.prog 151 [.v (.st .hello), .v (.st .hello)] [.sl (.int .i64)] (fun x => s_GivenUp x.1 x.2) :=
  FnC.of (body := bodyOf Tryz.f151) (N := (0, 49)) tabOk tabB mixed Tryz.func151 (by kernel_rfl) (by kernel_rfl) (fun _ => by kernel_rfl) ⟨[s_l1In_e, s_l21Left_e, s_ExtOf_e], [], [⟨[0, 1, 0, 1, 1], LoopE.of tabOk tabB mixed s_GivenUp_E0 [0, 1, 0, 1, 1] (by kernel_rfl) _ _ s_GivenUp_b0⟩], []⟩ (fun _ => by kernel_rfl) (fun x => by kernel_rfl)
def s_GivenUp_e : Entry Tryz.prog := .of s_GivenUp_c

/- spec.Dial -/
def s_Dial (p0 : HelloV) (path : List BoxV) (versions : List Int) (tags : List Int) (key : Int) : Option DialedV :=
  bnd (s_HelloFor p0 path) fun y1 => fork (!y1.2.2) (some (⟨(⟨false, 0, []⟩ : DealV), y1.2.1, []⟩ : DialedV)) (bnd (s_DialOnce y1.1 path versions tags key) fun y2 =>
  bnd (s_GivenUp p0 y1.1) fun y3 => some (⟨y2, y1.2.1, y3⟩ : DialedV))
theorem s_Dial_c : FnC Tryz.prog 121 [.v (.st .hello), .v (.sl (.st .box)), .v (.sl (.int .i64)), .v (.sl (.int .i64)), .v (.int .i64)] [.st .dialed] (fun x => s_Dial x.1 x.2.1 x.2.2.1 x.2.2.2.1 x.2.2.2.2) :=
  FnC.of (body := bodyOf Tryz.f121) (N := (0, 36)) tabOk tabB mixed Tryz.func121 (by kernel_rfl) (by kernel_rfl) (fun _ => by kernel_rfl) ⟨[s_HelloFor_e, s_DialOnce_e, s_GivenUp_e], [], [], []⟩ (fun _ => by kernel_rfl) (fun x => by kernel_rfl)
def s_Dial_e : Entry Tryz.prog := .of s_Dial_c

/- spec.PickOf -/
def s_PickOf (seed : Int) (place : Int) (n : Int) : Option Int :=
  fork (decide (n < 1)) (some 0) (bnd (s_Hash ([seed, place] : List Int)) fun y1 => bnd (s_Mod y1 n) fun y2 => some y2)
theorem s_PickOf_c : FnC Tryz.prog 201 [.v (.int .i64), .v (.int .i64), .v (.int .i64)] [.int .i64] (fun x => s_PickOf x.1 x.2.1 x.2.2) :=
  FnC.of (body := bodyOf Tryz.f201) (N := (0, 15)) tabOk tabB mixed Tryz.func201 (by kernel_rfl) (by kernel_rfl) (fun _ => by kernel_rfl) ⟨[s_Mod_e, s_Hash_e], [], [], []⟩ (fun _ => by kernel_rfl) (fun x => by kernel_rfl)
def s_PickOf_e : Entry Tryz.prog := .of s_PickOf_c

/- spec.GreaseTag -/
def s_GreaseTag (seed : Int) : Option Int :=
  bnd (s_PickOf seed 0 16) fun y1 => some (w64 ((w64 (16 * y1)) + 10))
theorem s_GreaseTag_c : FnC Tryz.prog 198 [.v (.int .i64)] [.int .i64] (fun x => s_GreaseTag x) :=
  FnC.of (body := bodyOf Tryz.f198) (N := (0, 7)) tabOk tabB mixed Tryz.func198 (by kernel_rfl) (by kernel_rfl) (fun _ => by kernel_rfl) ⟨[s_PickOf_e], [], [], []⟩ (fun _ => by kernel_rfl) (fun x => by kernel_rfl)
def s_GreaseTag_e : Entry Tryz.prog := .of s_GreaseTag_c

/- spec.AddGrease -/
def s_AddGrease_B0 {R : Type} (a0_1 : List ExtV) (a0_3 : Int) (a0_12 : List ExtV) (a0_14 : Int) (a0_11 : Int) (a0_16 : List Int) (nx : Int → List Int → Option R) (x0 : List Int → Option R) : Option R :=
  fork (decide (a0_11 > 0)) (bnd (s_PickOf a0_3 3 256) fun y7 => need ((((a0_16.length + ([y7] : List Int).length : Nat)) : Int) * ((8 : Nat) : Int) ≤ 140737488355328) (
  nx (w64 (a0_11 - 1)) (a0_16 ++ ([y7] : List Int)))) (x0 a0_16)
def s_AddGrease_S0 : LoopS := ⟨⟨[(0, false, [.ro]), (1, false, [.val]), (4, false, [.nil (.st .ext)]), (6, false, [.tr 1000000]), (7, false, [.bp 1000001 0]), (8, false, [.val])], [(1000000, .tree), (1000001, .box [.val, .tr 1000002]), (1000002, .tree)]⟩, [some 0, some 1, none, some 2, some 3, none], [.v (.sl (.st .ext)), .v (.int .i64), .v (.sl (.st .ext)), .v (.int .i64)], [.v (.int .i64), .v (.sl (.int .i64))],
  [⟨.exit 0, ⟨[(0, false, [.ro]), (1, false, [.val]), (4, false, [.nil (.st .ext)]), (6, false, [.tr 2000000]), (7, false, [.bp 2000001 0])], [(2000000, .tree), (2000001, .box [.val, .tr 2000002]), (2000002, .tree)]⟩, [some 0, some 1, some 2, some 3, none], [.v (.sl (.int .i64))]⟩]⟩
def s_AddGrease_W0 : LoopB s_AddGrease_S0 := fun R c p nx ex => s_AddGrease_B0 c.1 c.2.1 c.2.2.1 c.2.2.2 p.1 p.2 (fun v0 v1 => nx (v0, v1)) (fun v0 => ex v0)
def s_AddGrease_L0 (a0_1 : List ExtV) (a0_3 : Int) (a0_12 : List ExtV) (a0_14 : Int) (n : Nat) (a0_11 : Int) (a0_16 : List Int) : Option ((List Int)) := @loopF ((List ExtV) × Int × (List ExtV) × Int) (Int × (List Int)) ((List Int)) (s_AddGrease_W0 _) (a0_1, a0_3, a0_12, a0_14) n (a0_11, a0_16)
def s_AddGrease_E0 : Env Tryz.prog (0, 61) (bodyOf Tryz.f152) := ⟨[s_ExtOf_e, s_GreaseTag_e, s_l11Copy_e, s_AreExts_e, s_PickOf_e], [], [], [([0, 1, 1, 1, 1, 1, 1, 1], .pair 6 9 7000001 7000002)]⟩
theorem s_AddGrease_b0 : BodyOk T s_AddGrease_E0 [0, 1, 0, 1, 1, 1, 1, 1] s_AddGrease_S0 s_AddGrease_W0 := fun R c p nx ex => by kernel_rfl
def s_AddGrease (l : List ExtV) (seed : Int) : Option (List ExtV) :=
  bnd (s_GreaseTag seed) fun y1 => bnd (s_l11Copy l) fun y2 => bnd (s_AreExts l) fun y3 => fork (!y3) (some y2) (fork (decide (((l.length : Nat) : Int) ≥ 6)) (some y2
 ) (bnd (s_ExtOf l y1) fun y4 => fork (decide (y4 ≥ 0)) (some y2) (bnd (s_PickOf seed 2 3) fun y5 => bnd (s_AddGrease_L0 l seed y2 y1 big y5 ([] : List Int)) fun y8 =>
  bnd (s_PickOf seed 1 (w64 (((l.length : Nat) : Int) + 1))) fun y9 => need (0 ≤ y9 ∧ y9 ≤ ((y2.length : Nat) : Int)) (need (y9 = ((y9.toNat : Nat) : Int)) (
  need ((((([] : List ExtV).length + (y2.take y9.toNat).length : Nat)) : Int) * ((32 : Nat) : Int) ≤ 140737488355328) (
  need (((((([] : List ExtV) ++ (y2.take y9.toNat)).length + ([(⟨y1, y8⟩ : ExtV)] : List ExtV).length : Nat)) : Int) * ((32 : Nat) : Int) ≤ 140737488355328) (
  need (y9 = ((y9.toNat : Nat) : Int)) (
  need ((((((([] : List ExtV) ++ (y2.take y9.toNat)) ++ ([(⟨y1, y8⟩ : ExtV)] : List ExtV)).length + (y2.drop y9.toNat).length : Nat)) : Int) * ((32 : Nat) : Int) ≤ 140737488355328) (
  some (((([] : List ExtV) ++ (y2.take y9.toNat)) ++ ([(⟨y1, y8⟩ : ExtV)] : List ExtV)) ++ (y2.drop y9.toNat)))))))))))
theorem s_AddGrease_c : FnC Tryz.prog 152 [.v (.sl (.st .ext)), .v (.int .i64)] [.sl (.st .ext)] (fun x => s_AddGrease x.1 x.2) :=
  FnC.of (body := bodyOf Tryz.f152) (N := (0, 61)) tabOk tabB mixed Tryz.func152 (by kernel_rfl) (by kernel_rfl) (fun _ => by kernel_rfl) ⟨[s_ExtOf_e, s_GreaseTag_e, s_l11Copy_e, s_AreExts_e, s_PickOf_e], [], [⟨[0, 1, 0, 1, 1, 1, 1, 1], LoopE.of tabOk tabB mixed s_AddGrease_E0 [0, 1, 0, 1, 1, 1, 1, 1] (by kernel_rfl) _ _ s_AddGrease_b0⟩], [([0, 1, 1, 1, 1, 1, 1, 1], .pair 6 9 7000001 7000002)]⟩ (fun _ => by kernel_rfl) (fun x => by kernel_rfl)
def s_AddGrease_e : Entry Tryz.prog := .of s_AddGrease_c

/- spec.HelloOf -/
def s_HelloOf_B0 {R : Type} (a0_1 : Int) (a0_11 : List Int) (a0_12 : List Int) (a0_13 : List BoxV) (a0_14 : Int) (a0_9 : Int) (a0_18 : List ExtV) (nx : Int → List ExtV → Option R) (x0 : List ExtV → Option R) : Option R :=
  fork (decide (a0_9 < ((a0_12.length : Nat) : Int))) (need (0 ≤ a0_9 ∧ a0_9 < ((a0_12.length : Nat) : Int)) (
  need ((((a0_18.length + ([(⟨(a0_12.getD a0_9.toNat (dflt (.int .i64))), []⟩ : ExtV)] : List ExtV).length : Nat)) : Int) * ((32 : Nat) : Int) ≤ 140737488355328) (
  nx (w64 (a0_9 + 1)) (a0_18 ++ ([(⟨(a0_12.getD a0_9.toNat (dflt (.int .i64))), []⟩ : ExtV)] : List ExtV))))) (x0 a0_18)
def s_HelloOf_S0 : LoopS := ⟨⟨[(1, false, [.val]), (2, false, [.bp 1000000 0]), (4, false, [.bp 1000001 0]), (5, false, [.tr 1000002]), (6, false, [.val])], [(1000000, .box [.ro, .ro, .ro, .val]), (1000001, .box [.nil (.int .i64), .nil (.st .ext)]), (1000002, .tree)]⟩, [some 0, none, some 1, some 2, some 3, some 4, none], [.v (.int .i64), .v (.sl (.int .i64)), .v (.sl (.int .i64)), .v (.sl (.st .box)), .v (.int .i64)], [.v (.int .i64), .v (.sl (.st .ext))],
  [⟨.exit 0, ⟨[(1, false, [.val]), (2, false, [.bp 2000000 0]), (4, false, [.bp 2000001 0]), (5, false, [.tr 2000002])], [(2000000, .box [.ro, .ro, .ro, .val]), (2000001, .box [.nil (.int .i64), .nil (.st .ext)]), (2000002, .tree)]⟩, [some 0, some 1, some 2, some 3, some 4, none], [.v (.sl (.st .ext))]⟩]⟩
def s_HelloOf_W0 : LoopB s_HelloOf_S0 := fun R c p nx ex => s_HelloOf_B0 c.1 c.2.1 c.2.2.1 c.2.2.2.1 c.2.2.2.2 p.1 p.2 (fun v0 v1 => nx (v0, v1)) (fun v0 => ex v0)
def s_HelloOf_L0 (a0_1 : Int) (a0_11 : List Int) (a0_12 : List Int) (a0_13 : List BoxV) (a0_14 : Int) (n : Nat) (a0_9 : Int) (a0_18 : List ExtV) : Option ((List ExtV)) := @loopF (Int × (List Int) × (List Int) × (List BoxV) × Int) (Int × (List ExtV)) ((List ExtV)) (s_HelloOf_W0 _) (a0_1, a0_11, a0_12, a0_13, a0_14) n (a0_9, a0_18)
def s_HelloOf_E0 : Env Tryz.prog (0, 36) (bodyOf Tryz.f122) := ⟨[s_IsEndpoint_e, s_AddGrease_e], [], [], []⟩
theorem s_HelloOf_b0 : BodyOk T s_HelloOf_E0 [0, 1, 0, 1, 1, 1] s_HelloOf_S0 s_HelloOf_W0 := fun R c p nx ex => by kernel_rfl
def s_HelloOf (p0 : EndpointV) (seed : Int) : Option HelloV :=
  bnd (s_IsEndpoint p0) fun y1 => fork (!y1) (some (⟨[], []⟩ : HelloV)) (bnd (s_HelloOf_L0 seed p0.Versions p0.Tags p0.Path p0.Class big 0 ([] : List ExtV)) fun y2 =>
  need ((((([] : List Int).length + p0.Versions.length : Nat)) : Int) * ((8 : Nat) : Int) ≤ 140737488355328) (bnd (s_AddGrease y2 seed) fun y3 =>
  some (⟨(([] : List Int) ++ p0.Versions), y3⟩ : HelloV)))
theorem s_HelloOf_c : FnC Tryz.prog 122 [.v (.st .endpoint), .v (.int .i64)] [.st .hello] (fun x => s_HelloOf x.1 x.2) :=
  FnC.of (body := bodyOf Tryz.f122) (N := (0, 36)) tabOk tabB mixed Tryz.func122 (by kernel_rfl) (by kernel_rfl) (fun _ => by kernel_rfl) ⟨[s_IsEndpoint_e, s_AddGrease_e], [], [⟨[0, 1, 0, 1, 1, 1], LoopE.of tabOk tabB mixed s_HelloOf_E0 [0, 1, 0, 1, 1, 1] (by kernel_rfl) _ _ s_HelloOf_b0⟩], []⟩ (fun _ => by kernel_rfl) (fun x => by kernel_rfl)
def s_HelloOf_e : Entry Tryz.prog := .of s_HelloOf_c

/- spec.EndDial -/
def s_EndDial (p0 : EndpointV) (server : List Int) (tags : List Int) (key : Int) (seed : Int) : Option DialedV :=
  bnd (s_IsEndpoint p0) fun y1 => fork (!y1) (some (⟨(⟨false, 0, []⟩ : DealV), 0, []⟩ : DialedV)) (bnd (s_HelloOf p0 seed) fun y2 =>
  bnd (s_Dial y2 p0.Path server tags key) fun y3 => some y3)
theorem s_EndDial_c : FnC Tryz.prog 86 [.v (.st .endpoint), .v (.sl (.int .i64)), .v (.sl (.int .i64)), .v (.int .i64), .v (.int .i64)] [.st .dialed] (fun x => s_EndDial x.1 x.2.1 x.2.2.1 x.2.2.2.1 x.2.2.2.2) :=
  FnC.of (body := bodyOf Tryz.f86) (N := (0, 24)) tabOk tabB mixed Tryz.func86 (by kernel_rfl) (by kernel_rfl) (fun _ => by kernel_rfl) ⟨[s_IsEndpoint_e, s_Dial_e, s_HelloOf_e], [], [], []⟩ (fun _ => by kernel_rfl) (fun x => by kernel_rfl)
def s_EndDial_e : Entry Tryz.prog := .of s_EndDial_c

/- spec.l32Any -/
def s_l32Any (p0 : CurV) : Option (WorldV × CurV) :=
  bnd (s_l32World p0) fun y1 => bnd (s_l1Below (⟨p0.b, y1.2.i, y1.2.h⟩ : CurV) 14) fun y2 => fork (y2.1 == 0) (bnd (s_l12Any (⟨p0.b, y2.2.i, y2.2.h⟩ : CurV)) fun y3 =>
  some ((⟨y3.1, y1.1.Tags, y1.1.Key, y1.1.Ends, y1.1.Rollout, y1.1.Least, y1.1.Percent, y1.1.Stage, y1.1.Log, y1.1.Now, y1.1.Hurt, y1.1.Reached⟩ : WorldV), (⟨p0.b, y3.2.i, y3.2.h⟩ : CurV))
 ) (fork (y2.1 == 1) (bnd (s_l1Int (⟨p0.b, y2.2.i, y2.2.h⟩ : CurV) ([(-1), 255, 256] : List Int)) fun y4 =>
  some ((⟨y1.1.Server, ([y4.1] : List Int), y1.1.Key, y1.1.Ends, y1.1.Rollout, y1.1.Least, y1.1.Percent, y1.1.Stage, y1.1.Log, y1.1.Now, y1.1.Hurt, y1.1.Reached⟩ : WorldV), (⟨p0.b, y4.2.i, y4.2.h⟩ : CurV))
 ) (fork (y2.1 == 2) (bnd (s_l1Int (⟨p0.b, y2.2.i, y2.2.h⟩ : CurV) ([0, 5] : List Int)) fun y5 =>
  some ((⟨y1.1.Server, y1.1.Tags, y5.1, y1.1.Ends, y1.1.Rollout, y1.1.Least, y1.1.Percent, y1.1.Stage, y1.1.Log, y1.1.Now, y1.1.Hurt, y1.1.Reached⟩ : WorldV), (⟨p0.b, y5.2.i, y5.2.h⟩ : CurV))
 ) (fork (y2.1 == 3) (bnd (s_l31Any (⟨p0.b, y2.2.i, y2.2.h⟩ : CurV)) fun y6 => need (0 ≤ (0 : Int) ∧ (0 : Int) < ((y1.1.Ends.length : Nat) : Int)) (
  some ((⟨y1.1.Server, y1.1.Tags, y1.1.Key, (y1.1.Ends.set 0 y6.1), y1.1.Rollout, y1.1.Least, y1.1.Percent, y1.1.Stage, y1.1.Log, y1.1.Now, y1.1.Hurt, y1.1.Reached⟩ : WorldV), (⟨p0.b, y6.2.i, y6.2.h⟩ : CurV))
 )) (fork (y2.1 == 4) (bnd (s_l26Any (⟨p0.b, y2.2.i, y2.2.h⟩ : CurV)) fun y7 =>
  some ((⟨y1.1.Server, y1.1.Tags, y1.1.Key, y1.1.Ends, y7.1, y1.1.Least, y1.1.Percent, y1.1.Stage, y1.1.Log, y1.1.Now, y1.1.Hurt, y1.1.Reached⟩ : WorldV), (⟨p0.b, y7.2.i, y7.2.h⟩ : CurV))
 ) (fork (y2.1 == 5) (bnd (s_l1Int (⟨p0.b, y2.2.i, y2.2.h⟩ : CurV) ([0, 100, 101] : List Int)) fun y8 =>
  some ((⟨y1.1.Server, y1.1.Tags, y1.1.Key, y1.1.Ends, y1.1.Rollout, y8.1, y1.1.Percent, y1.1.Stage, y1.1.Log, y1.1.Now, y1.1.Hurt, y1.1.Reached⟩ : WorldV), (⟨p0.b, y8.2.i, y8.2.h⟩ : CurV))
 ) (fork (y2.1 == 6) (bnd (s_l1Int (⟨p0.b, y2.2.i, y2.2.h⟩ : CurV) ([(-1), 100, 101] : List Int)) fun y9 =>
  some ((⟨y1.1.Server, y1.1.Tags, y1.1.Key, y1.1.Ends, y1.1.Rollout, y1.1.Least, y9.1, y1.1.Stage, y1.1.Log, y1.1.Now, y1.1.Hurt, y1.1.Reached⟩ : WorldV), (⟨p0.b, y9.2.i, y9.2.h⟩ : CurV))
 ) (fork (y2.1 == 7) (bnd (s_l1Int (⟨p0.b, y2.2.i, y2.2.h⟩ : CurV) ([(-1), 10000, 10001] : List Int)) fun y10 =>
  some ((⟨y1.1.Server, y1.1.Tags, y1.1.Key, y1.1.Ends, y1.1.Rollout, y1.1.Least, y1.1.Percent, y1.1.Stage, y1.1.Log, y10.1, y1.1.Hurt, y1.1.Reached⟩ : WorldV), (⟨p0.b, y10.2.i, y10.2.h⟩ : CurV))
 ) (fork (y2.1 == 8) (bnd (s_l1Int (⟨p0.b, y2.2.i, y2.2.h⟩ : CurV) ([(-1), 0, 1] : List Int)) fun y11 =>
  some ((⟨y1.1.Server, y1.1.Tags, y1.1.Key, y1.1.Ends, y1.1.Rollout, y1.1.Least, y1.1.Percent, y1.1.Stage, y1.1.Log, y1.1.Now, y11.1, y1.1.Reached⟩ : WorldV), (⟨p0.b, y11.2.i, y11.2.h⟩ : CurV))
 ) (fork (y2.1 == 9) (need (0 ≤ (0 : Int) ∧ (0 : Int) < ((y1.1.Ends.length : Nat) : Int)) (
  bnd (s_EndDial (y1.1.Ends.getD 0 (dflt (.st .endpoint))) y1.1.Server y1.1.Tags 77 1) fun y12 =>
  some ((⟨y1.1.Server, y1.1.Tags, y1.1.Key, y1.1.Ends, y1.1.Rollout, y1.1.Least, y1.1.Percent, y1.1.Stage, ([(⟨0, 1, false, y12⟩ : LoggedV)] : List LoggedV), y1.1.Now, y1.1.Hurt, y1.1.Reached⟩ : WorldV), (⟨p0.b, y2.2.i, y2.2.h⟩ : CurV))
 )) (some (y1.1, (⟨p0.b, y2.2.i, y2.2.h⟩ : CurV))))))))))))
theorem s_l32Any_c : FnC Tryz.prog 40 [.ptr (.st .cur)] [.st .world] (fun x => s_l32Any x) :=
  FnC.of (body := bodyOf Tryz.f40) (N := (1, 77)) tabOk tabB mixed Tryz.func40 (by kernel_rfl) (by kernel_rfl) (fun _ => by kernel_rfl) ⟨[s_l1Below_e, s_l32World_e, s_l12Any_e, s_l1Int_e, s_l31Any_e, s_l26Any_e, s_EndDial_e], [], [], []⟩ (fun _ => by kernel_rfl) (fun x => by kernel_rfl)
def s_l32Any_e : Entry Tryz.prog := .of s_l32Any_c

/- spec.Max -/
def s_Max (a : Int) (b : Int) : Option Int :=
  fork (decide (b > a)) (some b) (some a)
theorem s_Max_c : FnC Tryz.prog 153 [.v (.int .i64), .v (.int .i64)] [.int .i64] (fun x => s_Max x.1 x.2) :=
  FnC.of (body := bodyOf Tryz.f153) (N := (0, 10)) tabOk tabB mixed Tryz.func153 (by kernel_rfl) (by kernel_rfl) (fun _ => by kernel_rfl) ⟨[], [], [], []⟩ (fun _ => by kernel_rfl) (fun x => by kernel_rfl)
def s_Max_e : Entry Tryz.prog := .of s_Max_c

/- spec.Min -/
def s_Min (a : Int) (b : Int) : Option Int :=
  fork (decide (b < a)) (some b) (some a)
theorem s_Min_c : FnC Tryz.prog 154 [.v (.int .i64), .v (.int .i64)] [.int .i64] (fun x => s_Min x.1 x.2) :=
  FnC.of (body := bodyOf Tryz.f154) (N := (0, 10)) tabOk tabB mixed Tryz.func154 (by kernel_rfl) (by kernel_rfl) (fun _ => by kernel_rfl) ⟨[], [], [], []⟩ (fun _ => by kernel_rfl) (fun x => by kernel_rfl)
def s_Min_e : Entry Tryz.prog := .of s_Min_c

/- spec.l33Clip -/
def s_l33Clip (n : Int) : Option Int :=
  bnd (s_Min 100000 n) fun y1 => bnd (s_Max (-100000) y1) fun y2 => some y2
theorem s_l33Clip_c : FnC Tryz.prog 123 [.v (.int .i64)] [.int .i64] (fun x => s_l33Clip x) :=
  FnC.of (body := bodyOf Tryz.f123) (N := (0, 6)) tabOk tabB mixed Tryz.func123 (by kernel_rfl) (by kernel_rfl) (fun _ => by kernel_rfl) ⟨[s_Max_e, s_Min_e], [], [], []⟩ (fun _ => by kernel_rfl) (fun x => by kernel_rfl)
def s_l33Clip_e : Entry Tryz.prog := .of s_l33Clip_c

/- spec.DialOf -/
def s_DialOf (w : WorldV) (i : Int) : Option DialedV :=
  bnd (s_l1In i 0 (w64 (((w.Ends.length : Nat) : Int) - 1))) fun y1 => fork (!y1) (some (⟨(⟨false, 0, []⟩ : DealV), 0, []⟩ : DialedV)) (
  need (0 ≤ i ∧ i < ((w.Ends.length : Nat) : Int)) (bnd (s_l33Clip w.Now) fun y2 =>
  bnd (s_EndDial (w.Ends.getD i.toNat (dflt (.st .endpoint))) w.Server w.Tags w.Key (w64 ((w64 (16 * y2)) + i))) fun y3 => some y3))
theorem s_DialOf_c : FnC Tryz.prog 88 [.v (.st .world), .v (.int .i64)] [.st .dialed] (fun x => s_DialOf x.1 x.2) :=
  FnC.of (body := bodyOf Tryz.f88) (N := (0, 31)) tabOk tabB mixed Tryz.func88 (by kernel_rfl) (by kernel_rfl) (fun _ => by kernel_rfl) ⟨[s_l1In_e, s_EndDial_e, s_l33Clip_e], [], [], []⟩ (fun _ => by kernel_rfl) (fun x => by kernel_rfl)
def s_DialOf_e : Entry Tryz.prog := .of s_DialOf_c


end
end Go.Pi
