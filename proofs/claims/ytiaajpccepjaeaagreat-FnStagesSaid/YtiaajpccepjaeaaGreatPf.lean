/- A proved interpreter for the model's code, and what it shows of the program's functions: part 6 (F7 F8 P1 P2 P3 P4). No condition. -/
import Derived.Test.YtiaajpccepjaeaaGreatPe
set_option linter.unusedVariables false
set_option linter.unusedSimpArgs false
/- The law of stages, of a world of bounded size. -/
namespace Go.Pi

theorem putL_mem {l : List Int} {n x : Int} : x ∈ putL l n ↔ x = n ∨ x ∈ l := by
  induction l with
  | nil => simp [putL]
  | cons y ys ih =>
    unfold putL
    split
    · simp only [List.mem_cons, ih]
      constructor
      · rintro (h | h | h)
        · exact .inr (.inl h)
        · exact .inl h
        · exact .inr (.inr h)
      · rintro (h | h | h)
        · exact .inr (.inl h)
        · exact .inl h
        · exact .inr (.inr h)
    · split
      · rename_i h; simp only [List.mem_cons]
        constructor
        · exact .inr
        · rintro (h' | h')
          · exact .inl (h'.trans h.symm)
          · exact h'
      · simp only [List.mem_cons]
theorem putL_sorted {l : List Int} {n : Int} (h : l.Pairwise (· < ·)) : (putL l n).Pairwise (· < ·) := by
  induction l with
  | nil => simp [putL]
  | cons y ys ih =>
    rw [List.pairwise_cons] at h
    unfold putL
    split
    · rename_i hy
      rw [List.pairwise_cons]
      refine ⟨fun x hx => ?_, ih h.2⟩
      rcases putL_mem.1 hx with h' | h'
      · omega
      · exact h.1 x h'
    · split
      · exact List.pairwise_cons.2 h
      · rw [List.pairwise_cons]
        refine ⟨fun x hx => ?_, List.pairwise_cons.2 h⟩
        rcases List.mem_cons.1 hx with h' | h'
        · omega
        · have := h.1 x h'; omega
theorem putL_length {l : List Int} {n : Int} : (putL l n).length ≤ l.length + 1 := by
  induction l with
  | nil => simp [putL]
  | cons y ys ih =>
    unfold putL
    split
    · simp only [List.length_cons]; omega
    · split
      · simp
      · simp

theorem getLastD_mem : ∀ {l : List Int} {d : Int}, l ≠ [] → l.getLastD d ∈ l
  | x :: xs, d, _ => by
    rw [List.getLastD_cons]
    cases xs with
    | nil => simp
    | cons y ys => exact List.mem_cons_of_mem _ (getLastD_mem (by simp))
theorem best_iff {s l : List Int} : (0 ≤ best s l) ∧ (best s l ≠ 0 ↔ areV s = true ∧ areV l = true ∧ ∃ x ∈ s, x ∈ l) := by
  unfold best
  cases h1 : areV s with
  | false => simp
  | true =>
    cases h2 : areV l with
    | false => simp
    | true =>
      simp only [Bool.and_self, if_true, true_and]
      have hs := (areV_iff.1 h1).2.1
      have hm : ∀ x, x ∈ comm s l ↔ x ∈ s ∧ x ∈ l := fun x => by unfold comm; rw [List.mem_filter]; simp
      by_cases hc : comm s l = []
      · rw [hc]
        refine ⟨by simp, ?_⟩
        constructor
        · intro h; simp at h
        · rintro ⟨x, hx, hy⟩
          have := (hm x).2 ⟨hx, hy⟩
          rw [hc] at this; simp at this
      · have hl := (hm _).1 (getLastD_mem (d := 0) hc)
        have := hs _ hl.1
        exact ⟨by omega, fun _ => ⟨_, hl.1, hl.2⟩, fun _ => by omega⟩

theorem reach_iff {s : List Int} {ls : List (List Int)} : reach s ls = true ↔ areV s = true ∧ ∀ l ∈ ls, best s l ≠ 0 := by
  unfold reach
  rw [Bool.and_eq_true, List.all_eq_true, and_comm]
  simp

theorem isEnd_vers {e : EndpointV} {vs : List Int} (h : isEnd e = true) (hv : areV vs = true) : isEnd { e with Versions := vs } = true := by
  unfold isEnd at *
  simp only [Bool.and_eq_true] at *
  exact ⟨⟨⟨⟨h.1.1.1.1, hv⟩, h.1.1.2⟩, h.1.2⟩, h.2⟩
theorem isEnd_areV {e : EndpointV} (h : isEnd e = true) : areV e.Versions = true := by
  unfold isEnd at h
  simp only [Bool.and_eq_true] at h
  exact h.1.1.1.2

theorem mapI_mem {A : Type} {f : Nat → A → A} {xs : List A} {i : Nat} {y : A} (h : y ∈ mapI f i xs) : ∃ j x, xs[j]? = some x ∧ y = f (i + j) x := by
  obtain ⟨j, hj⟩ := List.mem_iff_getElem?.1 h
  rw [mapI_get, Option.map_eq_some_iff] at hj
  obtain ⟨x, hx, rfl⟩ := hj
  exact ⟨j, x, hx, rfl⟩

/-- What stays of a world that is one, if its endpoints stay endpoints that reach. -/
theorem isW_change {w : WorldV} (h : isW w = true) {es : List EndpointV} {r : Int} (hl : es.length = w.Ends.length) (he : ∀ e ∈ es, isEnd e = true ∧ best w.Server e.Versions ≠ 0) (hr : inR r 0 w.Rollout.Stages.length = true) :
    isW { w with Ends := es, Stage := [], Reached := r } = true := by
  unfold isW at *
  simp only [Bool.and_eq_true] at *
  obtain ⟨⟨⟨⟨⟨⟨⟨⟨⟨⟨⟨⟨⟨⟨a1, a2⟩, a3⟩, a4⟩, a5⟩, a6⟩, a7⟩, a8⟩, a9⟩, a10⟩, a11⟩, a12⟩, a13⟩, a14⟩, a15⟩ := h
  refine ⟨⟨⟨⟨⟨⟨⟨⟨⟨⟨⟨⟨⟨⟨?_, a2⟩, a3⟩, a4⟩, ?_⟩, a6⟩, a7⟩, ?_⟩, a9⟩, a10⟩, by simp⟩, a12⟩, a13⟩, a14⟩, hr⟩
  · exact List.all_eq_true.2 fun e h => (he e h).1
  · rw [hl]; exact a5
  · refine reach_iff.2 ⟨a2, fun l hm => ?_⟩
    obtain ⟨e, h, rfl⟩ := List.mem_map.1 hm
    exact (he e h).2

theorem isW_ends {w : WorldV} (h : isW w = true) : (∀ e ∈ w.Ends, isEnd e = true ∧ best w.Server e.Versions ≠ 0) ∧ areV w.Server = true ∧ isRoll w.Rollout = true ∧ w.Rollout.Version ∈ w.Server ∧ inR w.Reached 0 w.Rollout.Stages.length = true := by
  unfold isW at h
  simp only [Bool.and_eq_true] at h
  obtain ⟨⟨⟨⟨⟨⟨⟨⟨⟨⟨⟨⟨⟨⟨a1, a2⟩, a3⟩, a4⟩, a5⟩, a6⟩, a7⟩, a8⟩, a9⟩, a10⟩, a11⟩, a12⟩, a13⟩, a14⟩, a15⟩ := h
  refine ⟨fun e he => ⟨List.all_eq_true.1 a1 e he, (reach_iff.1 a8).2 _ (List.mem_map.2 ⟨e, he, rfl⟩)⟩, a2, a6, by simpa using a7, a15⟩

theorem isW_ent {w : WorldV} (h : isW w = true) : isW (entW w) = true := by
  unfold entW
  obtain ⟨h1, h2, h3, h4, h5⟩ := isW_ends h
  split
  · rename_i hc
    obtain ⟨k1, k2, k3⟩ := isRoll_at h3
    refine isW_change h mapI_length (fun e he => ?_) ?_
    · obtain ⟨j, x, hx, rfl⟩ := mapI_mem he
      have hx := h1 x (List.mem_of_getElem? hx)
      unfold entE
      split
      · have hv := areV_iff.1 (isEnd_areV hx.1)
        have ha : areV (putL x.Versions w.Rollout.Version) = true := areV_iff.2 ⟨putL_sorted hv.1, fun y hy => by
          rcases putL_mem.1 hy with h | h
          · rw [h]; exact k3
          · exact hv.2.1 y h, fun hn => by
          have := (putL_mem (l := x.Versions) (n := w.Rollout.Version)).2 (.inl rfl)
          rw [hn] at this; simp at this⟩
        exact ⟨isEnd_vers hx.1 ha, best_iff.2.2 ⟨h2, ha, _, h4, putL_mem.2 (.inl rfl)⟩⟩
      · exact hx
    · have hr : w.Rollout.Stages.length < 9223372036854775807 := by
        have h3' := h3
        unfold isRoll at h3'
        simp only [Bool.and_eq_true, decide_eq_true_eq] at h3'
        omega
      rw [w64_id (by omega)]
      split
      · exact inR_iff.2 (by omega)
      · exact h5
  · exact h

theorem isW_lea {w : WorldV} (h : isW w = true) : isW (leaW w) = true := by
  unfold leaW
  obtain ⟨h1, h2, h3, h4, h5⟩ := isW_ends h
  refine isW_change (r := w.Reached) h mapI_length (fun e he => ?_) h5
  obtain ⟨j, x, hx, rfl⟩ := mapI_mem he
  have hx := h1 x (List.mem_of_getElem? hx)
  unfold leaE
  split
  · rename_i hc
    have hb : best w.Server (x.Versions.filter fun y => !([w.Rollout.Version].contains y)) ≠ 0 := by omega
    exact ⟨isEnd_vers hx.1 (best_iff.2.1 hb).2.1, hb⟩
  · exact hx

theorem idxs_congr {A : Type} {p q : Nat → A → Bool} : ∀ {xs : List A} {i : Nat}, (∀ j a, xs[j]? = some a → p (i + j) a = q (i + j) a) → idxs p i xs = idxs q i xs
  | [], i, _ => rfl
  | x :: xs, i, h => by
    unfold idxs
    have h0 := h 0 x rfl
    rw [Nat.add_zero] at h0
    have ih := idxs_congr (p := p) (q := q) (xs := xs) (i := i + 1) fun j a hj => by
      have := h (j + 1) a (by simpa using hj)
      rwa [show i + (j + 1) = i + 1 + j by omega] at this
    rw [h0, ih]
theorem idxs_first {A : Type} {k : Nat} : ∀ {xs : List A} {i : Nat}, (idxs (fun i (_ : A) => decide (i < k)) i xs).length = min (k - i) xs.length
  | [], i => by simp [idxs]
  | x :: xs, i => by
    unfold idxs
    by_cases h : i < k
    · simp only [h, decide_true, if_true, List.length_cons]
      rw [idxs_first]; omega
    · simp only [h, decide_false, Bool.false_eq_true, if_false]
      rw [idxs_first]; simp only [List.length_cons]; omega
theorem idxs_le {A B : Type} {p : Nat → A → Bool} {q : Nat → B → Bool} : ∀ {xs : List A} {ys : List B} {i : Nat}, xs.length = ys.length → (∀ j a b, xs[j]? = some a → ys[j]? = some b → p (i + j) a = true → q (i + j) b = true) → (idxs p i xs).length ≤ (idxs q i ys).length
  | [], _, i, _, _ => by simp [idxs]
  | x :: xs, [], i, hl, _ => by simp at hl
  | x :: xs, y :: ys, i, hl, h => by
    unfold idxs
    have h0 := h 0 x y rfl rfl
    rw [Nat.add_zero] at h0
    have ih := idxs_le (p := p) (q := q) (xs := xs) (ys := ys) (i := i + 1) (by simpa using hl) fun j a b ha hb hp => by
      have := h (j + 1) a b (by simpa using ha) (by simpa using hb)
      rw [show i + 1 + j = i + (j + 1) by omega] at hp ⊢
      exact this hp
    cases hp : p i x with
    | false =>
      cases q i y
      · simpa using ih
      · simp; omega
    | true =>
      rw [h0 hp]
      simp; omega

theorem entW_count {w : WorldV} (h1 : isRoll w.Rollout = true) (h2 : w.Rollout.Off = false) : ((idxs (onNew (entW w)) 0 (entW w).Ends).length : Int) = countIn w.Rollout w.Ends.length := by
  have hE : entW w = { w with Ends := mapI (entE w.Rollout (w.Ends.length : Int)) 0 w.Ends, Stage := [], Reached := if w64 (w.Rollout.At + 1) > w.Reached then w64 (w.Rollout.At + 1) else w.Reached } := by
    unfold entW; rw [h1, h2]; rfl
  have hc := countIn_le (r := w.Rollout) (n := (w.Ends.length : Int)) (by omega)
  have : idxs (onNew (entW w)) 0 (entW w).Ends = idxs (fun i (_ : EndpointV) => decide (i < (countIn w.Rollout w.Ends.length).toNat)) 0 (entW w).Ends := by
    refine idxs_congr fun j a hj => ?_
    rw [hE] at hj ⊢
    rw [mapI_get, Option.map_eq_some_iff] at hj
    obtain ⟨x, hx, rfl⟩ := hj
    have hjl := (List.getElem?_eq_some_iff.1 hx).1
    unfold onNew
    simp only [mapI_length]
    simp only [Nat.zero_add]
    rw [inR_iff.2 (by omega), Bool.true_and]
    unfold entE
    have hin : isIn w.Rollout (j : Int) (w.Ends.length : Int) = decide (j < (countIn w.Rollout w.Ends.length).toNat) := by
      unfold isIn
      rw [decide_eq_true (by omega), decide_eq_true (by omega), Bool.true_and, Bool.true_and, decide_eq_decide]
      omega
    rw [hin]
    cases hd : decide (j < (countIn w.Rollout w.Ends.length).toNat) with
    | false => rfl
    | true =>
      simp only [Bool.true_and, if_true]
      have := (putL_mem (l := x.Versions) (n := w.Rollout.Version)).2 (.inl rfl)
      simpa using this
  rw [this, idxs_first]
  have hl : (entW w).Ends.length = w.Ends.length := by rw [hE]; exact mapI_length
  rw [hl]; omega

theorem leaW_rest {w : WorldV} {j : Nat} {e : EndpointV} (h : (leaW w).Ends[j]? = some e) (hv : e.Versions.contains w.Rollout.Version = true) : w.Ends[j]? = some e ∧ ¬ best w.Server (e.Versions.filter fun x => !([w.Rollout.Version].contains x)) > 0 := by
  unfold leaW at h
  simp only at h
  rw [mapI_get, Option.map_eq_some_iff] at h
  obtain ⟨x, hx, rfl⟩ := h
  unfold leaE at hv ⊢
  split at hv
  · exfalso
    simp at hv
  · rename_i hc
    rw [if_neg hc]
    refine ⟨hx, fun hb => hc ⟨?_, hb⟩⟩
    rw [List.length_filter_lt_length_iff_exists]
    exact ⟨w.Rollout.Version, by simpa using hv, by simp⟩

theorem w_contains_eq {l : List Int} {n : Int} (hl : l.length ≤ 1000000) : w_contains l n = some (l.contains n) := by
  unfold w_contains
  have : w_contains_L0 l n false big 0 = some (if allI (fun _ a => !(a == n)) 0 l then .inr () else .inl true) := by
    unfold w_contains_L0
    refine loopT (fun _ a => !(a == n)) _ _ (by omega) (fun i hi nx ex hw => ?_) (fun nx ex => by simp [w_contains_W0, w_contains_B0])
    simp only [w_contains_W0, w_contains_B0]
    have hb := Bool.eq_false_or_eq_true (l[i] == n)
    rcases hb with h | h <;> simp [hi, h, hw]
  rw [this, allI_all (fun a => !(a == n))]
  have e : l.all (fun a => !(a == n)) = !(l.contains n) := by
    rw [List.all_eq_not_any_not, List.contains_eq_any_beq]
    simp only [Bool.not_not]
    congr 2
    funext x; exact BEq.comm
  rw [e]
  cases l.contains n <;> simp
theorem w_left_eq {a b : List Int} (ha : a.length ≤ 1000000) (hb : b.length ≤ 1000000) : w_left a b = some (a.filter fun x => !(b.contains x)) := by
  unfold w_left
  have : w_left_L0 a b big 0 [] = some ((a.filter fun x => !(b.contains x)).map id) := by
    unfold w_left_L0
    refine loopG (xs := a) (fun x => !(b.contains x)) id (by omega) (fun i hi acc nx ex hacc hw => ?_) (fun acc nx ex => by simp [w_left_W0, w_left_B0])
    simp only [w_left_W0, w_left_B0, w_contains_eq hb, bnd_some']
    have hk : (((acc.length : Nat) : Int) + 1) * 8 ≤ 140737488355328 := by omega
    rcases Bool.eq_false_or_eq_true (b.contains a[i]) with h | h
    · have h' : a[i] ∈ b := by simpa using h
      simp [hi, h', hw]
    · have h' : ¬ a[i] ∈ b := by simpa using h
      simp [hi, h', hw, hk]
  rw [this]
  simp
theorem w_within_eq {a b : List Int} (ha : a.length ≤ 1000000) (hb : b.length ≤ 1000000) : w_within a b = some (a.all fun x => b.contains x) := by
  unfold w_within
  have : w_within_L0 a b false big 0 = some (if a.all (fun x => b.contains x) then .inr () else .inl false) := by
    unfold w_within_L0
    refine (loopT (xs := a) (X := Bool ⊕ Unit) (fun _ x => b.contains x) (.inl false) (.inr ()) (by omega) (fun i hi nx ex hw => ?_) (fun nx ex => by simp [w_within_W0, w_within_B0])).trans (by rw [allI_all (fun x => b.contains x)])
    simp only [w_within_W0, w_within_B0, w_contains_eq hb, bnd_some']
    rcases Bool.eq_false_or_eq_true (b.contains a[i]) with h | h
    · have h' : a[i] ∈ b := by simpa using h
      simp [hi, h', hw]
    · have h' : ¬ a[i] ∈ b := by simpa using h
      simp [hi, h']
  rw [this]
  cases a.all _ <;> simp

theorem idxs_length_le {A : Type} {p : Nat → A → Bool} : ∀ {xs : List A} {i : Nat}, (idxs p i xs).length ≤ xs.length
  | [], i => by simp [idxs]
  | x :: xs, i => by
    unfold idxs
    have := idxs_length_le (p := p) (xs := xs) (i := i + 1)
    split <;> simp <;> omega

theorem bdW_ent {w : WorldV} (h : bdW 1000 w) : bdW 1000000 (entW w) := by
  have hw := h.mono (n := 1000000) (by omega)
  unfold entW
  split
  · refine ⟨hw.s, hw.t, by rw [mapI_length]; exact hw.e, fun e he => ?_, hw.r, by simp, by simp, hw.l, hw.ls⟩
    obtain ⟨j, x, hx, rfl⟩ := mapI_mem he
    have hx := h.es x (List.mem_of_getElem? hx)
    have hx' := hx.mono (n := 1000000) (by omega)
    unfold entE
    split
    · refine ⟨?_, hx'.2⟩
      have := putL_length (l := x.Versions) (n := w.Rollout.Version)
      have := hx.1
      simp only; omega
    · exact hx'
  · exact hw
theorem bdW_lea {w : WorldV} (h : bdW 1000000 w) : bdW 1000000 (leaW w) := by
  unfold leaW
  refine ⟨h.s, h.t, by rw [mapI_length]; exact h.e, fun e he => ?_, h.r, by simp, by simp, h.l, h.ls⟩
  obtain ⟨j, x, hx, rfl⟩ := mapI_mem he
  have hx := h.es x (List.mem_of_getElem? hx)
  unfold leaE
  split
  · exact ⟨Nat.le_trans (List.length_filter_le _ _) hx.1, hx.2⟩
  · exact hx

end Go.Pi

/- The law of stages. -/
namespace Go.Pi

theorem law_loop {w : WorldV} (h : bdW 1000 w) : w_FnStages_L0 false w.Key w.Rollout.Version w.Rollout.At w.Rollout.Off w.Least w.Percent w.Now w.Hurt w.Reached (entW w).Key (entW w).Rollout.Version (entW w).Rollout.At (entW w).Rollout.Off (entW w).Least (entW w).Percent (entW w).Now (entW w).Hurt (entW w).Reached (leaW w).Key (leaW w).Rollout.Version (leaW w).Rollout.At (leaW w).Rollout.Off (leaW w).Least (leaW w).Percent (leaW w).Now (leaW w).Hurt (leaW w).Reached ((hasV (leaW w) w.Rollout.Version).map Nat.cast) w.Server w.Tags w.Ends w.Rollout.Stages w.Stage w.Log (entW w).Server (entW w).Tags (entW w).Ends (entW w).Rollout.Stages (entW w).Stage (entW w).Log (leaW w).Server (leaW w).Tags (leaW w).Ends (leaW w).Rollout.Stages (leaW w).Stage (leaW w).Log big 0 = some (.inr ()) := by
  have hw1 := h.mono (n := 1000000) (by omega)
  have hw2 := bdW_lea hw1
  have hl : ((hasV (leaW w) w.Rollout.Version).map (Nat.cast : Nat → Int)).length ≤ 1000000 := by
    rw [List.length_map]; exact Nat.le_trans idxs_length_le hw2.e
  unfold w_FnStages_L0
  refine (loopT (xs := (hasV (leaW w) w.Rollout.Version).map (Nat.cast : Nat → Int)) (X := Bool ⊕ Unit) (fun _ _ => true) (.inl false) (.inr ()) (by omega) (fun i hi nx ex hw => ?_) (fun nx ex => ?_)).trans ?_
  · have hi' : i < (hasV (leaW w) w.Rollout.Version).length := by simpa using hi
    obtain ⟨j, a, hj, hk, hc⟩ := idxs_mem.1 (List.getElem_mem hi')
    rw [Nat.zero_add] at hk
    have hjl := (List.getElem?_eq_some_iff.1 hj).1
    have hje := (List.getElem?_eq_some_iff.1 hj).2
    have hv := (hw2.es _ (List.mem_of_getElem? hj)).1
    have hr := (leaW_rest hj hc).2
    have hg : ((hasV (leaW w) w.Rollout.Version).map (Nat.cast : Nat → Int)).getD (i : Int).toNat (dflt (.int .i64)) = (j : Int) := by
      rw [List.getD_eq_getElem?_getD, Int.toNat_natCast, List.getElem?_map, List.getElem?_eq_getElem hi', hk]; rfl
    have hf : (a.Versions.filter fun x => !([w.Rollout.Version].contains x)).length ≤ 1000000 := Nat.le_trans (List.length_filter_le _ _) hv
    have hge : (leaW w).Ends.getD ((j : Int).toNat) (dflt (.st .endpoint)) = a := by rw [List.getD_eq_getElem?_getD, Int.toNat_natCast, hj]; rfl
    simp only [w_FnStages_W0, w_FnStages_B0]
    rw [decide_eq_true (by omega), fork_true, need_of (by omega), hg, need_of (by omega), hge, w_left_eq hv (by simp), bnd_some', i_BestCommon_eq hw1.s hf, bnd_some', decide_eq_false hr, hw]
    simp
  · simp only [w_FnStages_W0, w_FnStages_B0]
    rw [decide_eq_false (by omega)]; rfl
  · rw [show allI (fun _ (_ : Int) => true) 0 ((hasV (leaW w) w.Rollout.Version).map (Nat.cast : Nat → Int)) = true from allI_iff.2 fun _ _ _ => rfl]; rfl

theorem big_eq (code : List Int) : w_big code = some (decide (code.length > 1048576)) := by
  unfold w_big
  congr 1
  rw [decide_eq_decide]; omega

theorem law_eq {code : List Int} {w : WorldV} (hc : code.length ≤ 1048576) (hd : s_DrawEnterStage code = some w) (h : bdW 1000 w) : w_FnStages code = some true := by
  have hw1 := h.mono (n := 1000000) (by omega)
  have hw2 := bdW_ent h
  have hw3 := bdW_lea hw1
  unfold w_FnStages
  have L1 : @w_FnStages_L1 = @w_FnStages_L0 := rfl
  have L2 : @w_FnStages_L2 = @w_FnStages_L0 := rfl
  have L3 : @w_FnStages_L3 = @w_FnStages_L0 := rfl
  have L4 : @w_FnStages_L4 = @w_FnStages_L0 := rfl
  have L5 : @w_FnStages_L5 = @w_FnStages_L0 := rfl
  rw [L1, L2, L3, L4, L5, big_eq, bnd_some', decide_eq_false (by omega), fork_false, hd, bnd_some', i_EnterStage_eq hw1, bnd_some', i_LeaveRollout_eq hw1, bnd_some', i_IsWorld_eq hw1, bnd_some', s_IsWorld_eq hw1, bnd_some', beq_self_eq_true, Bool.not_true, fork_false, bnd_some',
    i_IsWorld_eq hw2, i_IsWorld_eq hw3, i_IsRollout_eq hw1.r, i_OnNewCount_eq hw2, i_CountIn_eq hw1.r, i_HasVersion_eq hw1, i_HasVersion_eq hw2, i_HasVersion_eq hw3]
  simp only [bnd_some']
  rw [law_loop h]
  simp only [bnd_some', sum2_inr']
  have m1 : ((hasV (leaW w) w.Rollout.Version).map (Nat.cast : Nat → Int)).length ≤ 1000000 := by
    rw [List.length_map]; exact Nat.le_trans idxs_length_le hw3.e
  have m2 : ((hasV w w.Rollout.Version).map (Nat.cast : Nat → Int)).length ≤ 1000000 := by
    rw [List.length_map]; exact Nat.le_trans idxs_length_le hw1.e
  have c1 : (((hasV (leaW w) w.Rollout.Version).map (Nat.cast : Nat → Int)).all fun x => ((hasV w w.Rollout.Version).map (Nat.cast : Nat → Int)).contains x) = true := by
    rw [List.all_eq_true]
    intro x hx
    obtain ⟨k, hk, rfl⟩ := List.mem_map.1 hx
    rw [List.contains_iff_mem]
    refine List.mem_map.2 ⟨k, ?_, rfl⟩
    obtain ⟨j, a, hj, hk, hc⟩ := idxs_mem.1 hk
    exact idxs_mem.2 ⟨j, a, (leaW_rest hj hc).1, hk, hc⟩
  have c2 : decide ((((hasV (entW w) w.Rollout.Version).map (Nat.cast : Nat → Int)).length : Int) ≥ (((hasV w w.Rollout.Version).map (Nat.cast : Nat → Int)).length : Int)) = true := by
    rw [decide_eq_true_eq, List.length_map, List.length_map]
    have hle : (hasV w w.Rollout.Version).length ≤ (hasV (entW w) w.Rollout.Version).length := by
      unfold hasV
      have hE : (entW w).Ends = w.Ends ∨ (entW w).Ends = mapI (entE w.Rollout (w.Ends.length : Int)) 0 w.Ends := by
        unfold entW
        split
        · exact .inr rfl
        · exact .inl rfl
      rcases hE with hE | hE
      · rw [hE]; exact Nat.le_refl _
      · rw [hE]
        refine idxs_le mapI_length.symm fun j a b ha hb hp => ?_
        rw [mapI_get, ha, Option.map_some] at hb
        simp only [Option.some.injEq] at hb
        subst hb
        unfold entE
        split
        · have : w.Rollout.Version ∈ putL a.Versions w.Rollout.Version := putL_mem.2 (.inl rfl)
          simpa using this
        · exact hp
    omega
  rw [w_within_eq m1 m2, c1]
  simp only [bnd_some', fork_true, c2]
  cases hW : isW w with
  | false =>
    cases hr : isRoll w.Rollout with
    | false => simp
    | true =>
      cases ho : w.Rollout.Off with
      | true => simp
      | false =>
        have := entW_count hr ho
        simp [this]
  | true =>
    rw [isW_ent hW, isW_lea hW]
    cases hr : isRoll w.Rollout with
    | false => simp
    | true =>
      cases ho : w.Rollout.Off with
      | true => simp
      | false =>
        have := entW_count hr ho
        simp [this]

end Go.Pi

/- Loops that end; draws of lists, boxes, endpoints, rollouts. -/
namespace Go.Pi

/-- A round goes on, or leaves the loop. -/
def Goes {P X : Type} (F : (P → Option X) → (X → Option X) → Option X) (N : P → Prop) (Q : X → Prop) : Prop := (∃ p, N p ∧ ∀ nx ex, F nx ex = nx p) ∨ ∃ x, Q x ∧ ∀ nx ex, F nx ex = ex x
section
variable {P X : Type} {N : P → Prop} {Q : X → Prop}
theorem Goes.nx {p : P} (h : N p) : Goes (fun (nx : P → Option X) (_ : X → Option X) => nx p) N Q := .inl ⟨p, h, fun _ _ => rfl⟩
theorem Goes.ex {x : X} (h : Q x) : Goes (fun (_ : P → Option X) (ex : X → Option X) => ex x) N Q := .inr ⟨x, h, fun _ _ => rfl⟩
theorem Goes.need {p : Prop} {F : (P → Option X) → (X → Option X) → Option X} (hp : p) (h : Goes F N Q) : Goes (fun nx ex => need p (F nx ex)) N Q := by
  rcases h with ⟨a, h1, h2⟩ | ⟨a, h1, h2⟩
  · exact .inl ⟨a, h1, fun nx ex => (need_of hp _).trans (h2 nx ex)⟩
  · exact .inr ⟨a, h1, fun nx ex => (need_of hp _).trans (h2 nx ex)⟩
theorem Goes.fork {b : Bool} {F G : (P → Option X) → (X → Option X) → Option X} (h : b = true → Goes F N Q) (h' : b = false → Goes G N Q) : Goes (fun nx ex => fork b (F nx ex) (G nx ex)) N Q := by
  cases b
  · exact h' rfl
  · exact h rfl
theorem Goes.bnd {α : Type} {m : Option α} {R : α → Prop} {F : α → (P → Option X) → (X → Option X) → Option X} (hm : Tot m R) (h : ∀ v, R v → Goes (F v) N Q) : Goes (fun nx ex => bnd m fun v => F v nx ex) N Q := by
  obtain ⟨v, rfl, hv⟩ := hm
  exact h v hv
end

theorem loopTot {C P X : Type} {B : C → P → (P → Option X) → (X → Option X) → Option X} {c : C} (μ : P → Nat) (I : P → Prop) {Q : X → Prop}
    (hs : ∀ p, I p → Goes (fun nx ex => B c p nx ex) (fun p' => I p' ∧ μ p' < μ p) Q) {p : P} (hμ : μ p ≤ 4611686018427387904) (hI : I p) : Tot (loopF B c big p) Q :=
  loopM μ I Q (fun p hp => by
    rcases hs p hp with ⟨a, h1, h2⟩ | ⟨a, h1, h2⟩
    · exact .inl ⟨a, h1.1, h1.2, h2⟩
    · exact .inr ⟨a, h1, h2⟩) (big_lt hμ) hI

/-- A sorted list in bounds. -/
structure Srt (lo hi : Int) (n : Nat) (l : List Int) : Prop where
  o : l.Pairwise (· < ·)
  r : ∀ x ∈ l, lo ≤ x ∧ x ≤ hi
  n : l.length ≤ n
theorem Srt.nil {lo hi : Int} {n : Nat} : Srt lo hi n [] := ⟨.nil, by simp, by simp⟩
theorem Srt.put {lo hi x : Int} {n : Nat} {l : List Int} (h : Srt lo hi n l) (hn : n ≤ 1000) (hx : lo ≤ x ∧ x ≤ hi) : Tot (s_l4Put l x) fun r => r = putL l x ∧ Srt lo hi (n + 1) r := by
  have hl := h.n
  refine .eq (l4Put_eq (by omega)) ⟨rfl, putL_sorted h.o, fun y hy => ?_, ?_⟩
  · rcases putL_mem.1 hy with h' | h'
    · omega
    · exact h.r y h'
  · have := putL_length (l := l) (n := x); omega
theorem Srt.le {lo hi : Int} {m n : Nat} {l : List Int} (h : Srt lo hi m l) (hn : m ≤ n) : Srt lo hi n l := ⟨h.o, h.r, Nat.le_trans h.n hn⟩
theorem Srt.wid {lo hi lo' hi' : Int} {n : Nat} {l : List Int} (h : Srt lo hi n l) (h1 : lo' ≤ lo) (h2 : hi ≤ hi') : Srt lo' hi' n l := ⟨h.o, fun x hx => by have := h.r x hx; omega, h.n⟩
theorem Srt.asc {lo hi : Int} {n : Nat} {l : List Int} (h : Srt lo hi n l) : asc lo hi l = true := asc_of_sorted h.o h.r
theorem Srt.areV {lo hi : Int} {n : Nat} {l : List Int} (h : Srt lo hi n l) (h1 : 1 ≤ lo) (h2 : hi ≤ 9) (h3 : l ≠ []) : areV l = true := areV_iff.2 ⟨h.o, fun x hx => by have := h.r x hx; omega, h3⟩

variable {code : List Int} (hcode : code.length ≤ 1048576)
include hcode

theorem l12Draw_ok {c : CurV} (h : Cur code c) : Tot (s_l12Draw c) fun r => Srt 1 6 4 r.1 ∧ r.1 ≠ [] ∧ Cur code r.2 := by
  unfold s_l12Draw
  refine .bnd (l1Below_ok hcode h 4) fun v1 h1 => .bnd (l1Below_ok hcode (c := ⟨c.b, v1.2.i, v1.2.h⟩) ⟨h.1, h1.2.2.2.2⟩ 4) fun v2 h2 => ?_
  have b1 := h1.2.1 (by omega); have b2 := h2.2.1 (by omega); have c1 := h1.1; have c2 := h2.1
  refine .bnd (P := fun y => Srt 1 6 4 y.2.2 ∧ y.2.2 ≠ [] ∧ 0 ≤ y.1 ∧ y.1 ≤ (code.length : Int)) ?_ fun y hy => .some ⟨hy.1, hy.2.1, h.1, hy.2.2⟩
  unfold s_l12Draw_L0
  refine loopTot (P := Int × Int × Int × List Int) (fun p => p.1.toNat) (fun p => ∃ n : Nat, 0 ≤ p.1 ∧ (n : Int) + p.1 ≤ 4 ∧ Srt 1 6 n p.2.2.2 ∧ p.2.2.2 ≠ [] ∧ Cur code ⟨c.b, p.2.1, p.2.2.1⟩) (fun p hp => ?_) (by simp only; omega) ?_
  · obtain ⟨k, i, hh, l⟩ := p
    obtain ⟨n, hk, hn, hl, hl0, hc⟩ := hp
    simp only at hk hn hl hc hl0 ⊢
    simp only [s_l12Draw_W0, s_l12Draw_B0]
    refine .fork (fun hf => ?_) fun hf => .ex ⟨hl.le (by omega), hl0, hc.2⟩
    have hf := of_decide_eq_true hf
    refine .bnd (l1Below_ok hcode hc 6) fun v hv => ?_
    have b3 := hv.2.1 (by omega); have c3 := hv.1
    rw [w64_id (x := 1 + v.1) (by omega)]
    refine .bnd (hl.put (x := 1 + v.1) (by omega) (by omega)) fun l' hl' => .nx ?_
    rw [w64_id (x := k - 1) (by omega)]
    refine ⟨⟨n + 1, by simp only; omega, by simp only; omega, hl'.2, ?_, hc.1, hv.2.2.2.2⟩, by simp only; omega⟩
    have := putL_mem.2 (.inl rfl : 1 + v.1 = 1 + v.1 ∨ 1 + v.1 ∈ l)
    rw [← hl'.1] at this
    intro hn
    simp only at hn
    rw [hn] at this; simp at this
  · refine ⟨1, c2, by simp only; omega, ⟨by simp, fun x hx => ?_, by simp⟩, by simp, h.1, h2.2.2.2.2⟩
    rw [w64_id (by omega)] at hx
    simp only [List.mem_singleton] at hx
    omega

theorem l17Tags_ok {c : CurV} (h : Cur code c) : Tot (s_l17Tags c) fun r => Srt 1 200 4 r.1 ∧ Cur code r.2 := by
  unfold s_l17Tags
  refine .bnd (l1Below_ok hcode h 5) fun v1 h1 => ?_
  have b1 := h1.2.1 (by omega); have c1 := h1.1
  refine .bnd (P := fun y => Srt 1 200 4 y.2.2 ∧ 0 ≤ y.1 ∧ y.1 ≤ (code.length : Int)) ?_ fun y hy => .some ⟨hy.1, h.1, hy.2⟩
  unfold s_l17Tags_L0
  refine loopTot (P := Int × Int × Int × List Int) (fun p => p.1.toNat) (fun p => ∃ n : Nat, 0 ≤ p.1 ∧ (n : Int) + p.1 ≤ 4 ∧ Srt 1 200 n p.2.2.2 ∧ Cur code ⟨c.b, p.2.1, p.2.2.1⟩) (fun p hp => ?_) (by simp only; omega) ⟨0, c1, by simp only; omega, Srt.nil, h.1, h1.2.2.2.2⟩
  obtain ⟨k, i, hh, l⟩ := p
  obtain ⟨n, hk, hn, hl, hc⟩ := hp
  simp only at hk hn hl hc ⊢
  simp only [s_l17Tags_W0, s_l17Tags_B0]
  refine .fork (fun hf => ?_) fun hf => .ex ⟨hl.le (by omega), hc.2⟩
  have hf := of_decide_eq_true hf
  refine .bnd (l1Int_ok hcode hc (l := [1, 2, 3, 10, 40, 200]) (by simp)) fun v hv => ?_
  have b3 : 1 ≤ v.1 ∧ v.1 ≤ 200 := by
    have := hv.1
    simp only [List.mem_cons, List.not_mem_nil, or_false] at this
    omega
  refine .bnd (hl.put (x := v.1) (by omega) b3) fun l' hl' => .nx ?_
  rw [w64_id (x := k - 1) (by omega)]
  exact ⟨⟨n + 1, by simp only; omega, by simp only; omega, hl'.2, hc.1, hv.2.2⟩, by simp only; omega⟩

omit hcode in
theorem isBox_of {b : BoxV} (h1 : 0 ≤ b.Limit ∧ b.Limit ≤ 9) (h2 : Srt 1 200 4 b.Drops) (h3 : Srt 1 200 4 b.Strips) : isBox b = true ∧ bdB 10 b := by
  have k2 := h2.n; have k3 := h3.n
  refine ⟨?_, by omega, by omega⟩
  unfold isBox bytesB
  rw [inR_iff.2 h1, decide_eq_true (by omega), decide_eq_true (by omega)]
  simp only [Bool.and_eq_true, List.all_eq_true, Bool.and_self, true_and]
  exact ⟨fun x hx => inR_iff.2 (by have := h2.r x hx; omega), fun x hx => inR_iff.2 (by have := h3.r x hx; omega)⟩

theorem l19Draw_ok {c : CurV} (h : Cur code c) : Tot (s_l19Draw c) fun r => (isBox r.1 = true ∧ bdB 10 r.1) ∧ Cur code r.2 := by
  unfold s_l19Draw
  refine .bnd (l1Below_ok hcode h 7) fun v1 h1 => ?_
  have hc : Cur code ⟨c.b, v1.2.i, v1.2.h⟩ := ⟨h.1, h1.2.2.2.2⟩
  refine .fork (fun _ => ?_) fun _ => .fork (fun _ => ?_) fun _ => .fork (fun _ => ?_) fun _ => .fork (fun _ => ?_) fun _ => ?_
  · refine .bnd (l1Below_ok hcode hc 6) fun v2 h2 => .some ⟨?_, h.1, h2.2.2.2.2⟩
    have b2 := h2.2.1 (by omega); have c2 := h2.1
    rw [w64_id (by omega)]
    exact isBox_of (by simp only; omega) Srt.nil Srt.nil
  · exact .bnd (l17Tags_ok hcode hc) fun v2 h2 => .some ⟨isBox_of (by simp) h2.1 Srt.nil, h.1, h2.2.2⟩
  · exact .bnd (l17Tags_ok hcode hc) fun v2 h2 => .some ⟨isBox_of (by simp) Srt.nil h2.1, h.1, h2.2.2⟩
  · exact .some ⟨isBox_of (by simp) Srt.nil Srt.nil, hc⟩
  · exact .some ⟨isBox_of (by simp) Srt.nil Srt.nil, hc⟩

theorem l19Path_ok {c : CurV} (h : Cur code c) : Tot (s_l19Path c) fun r => (r.1.length ≤ 3 ∧ ∀ b ∈ r.1, isBox b = true ∧ bdB 10 b) ∧ Cur code r.2 := by
  unfold s_l19Path
  refine .bnd (l1Below_ok hcode h 4) fun v1 h1 => ?_
  have b1 := h1.2.1 (by omega); have c1 := h1.1
  refine .bnd (P := fun y => (y.2.2.length ≤ 3 ∧ ∀ b ∈ y.2.2, isBox b = true ∧ bdB 10 b) ∧ 0 ≤ y.1 ∧ y.1 ≤ (code.length : Int)) ?_ fun y hy => .some ⟨hy.1, h.1, hy.2⟩
  unfold s_l19Path_L0
  refine loopTot (P := Int × Int × Int × List BoxV) (fun p => p.1.toNat) (fun p => 0 ≤ p.1 ∧ (p.2.2.2.length : Int) + p.1 ≤ 3 ∧ (∀ b ∈ p.2.2.2, isBox b = true ∧ bdB 10 b) ∧ Cur code ⟨c.b, p.2.1, p.2.2.1⟩) (fun p hp => ?_) (by simp only; omega) ⟨c1, by simp only [List.length_nil]; omega, by simp, h.1, h1.2.2.2.2⟩
  obtain ⟨k, i, hh, l⟩ := p
  obtain ⟨hk, hn, hl, hc⟩ := hp
  simp only at hk hn hl hc ⊢
  simp only [s_l19Path_W0, s_l19Path_B0]
  refine .fork (fun hf => ?_) fun hf => .ex ⟨⟨by simp only; omega, hl⟩, hc.2⟩
  have hf := of_decide_eq_true hf
  refine .bnd (l19Draw_ok hcode hc) fun v hv => .need (by simp; omega) (.nx ?_)
  rw [w64_id (x := k - 1) (by omega)]
  refine ⟨⟨by simp only; omega, by simp; omega, fun b hb => ?_, hc.1, hv.2.2⟩, by simp only; omega⟩
  simp only [List.mem_append, List.mem_singleton] at hb
  rcases hb with hb | hb
  · exact hl b hb
  · rw [hb]; exact hv.1

def okTag (l : List Int) : Prop := ∀ x ∈ l, resv x = false
theorem l31Draw_ok {c : CurV} (h : Cur code c) : Tot (s_l31Draw c) fun r => isEnd r.1 = true ∧ bdE 10 r.1 ∧ Cur code r.2 := by
  unfold s_l31Draw
  refine .bnd (l12Draw_ok hcode h) fun v1 h1 => .bnd (l19Path_ok hcode (c := ⟨c.b, v1.2.i, v1.2.h⟩) ⟨h.1, h1.2.2.2⟩) fun v2 h2 =>
    .bnd (l1Below_ok hcode (c := ⟨c.b, v2.2.i, v2.2.h⟩) ⟨h.1, h2.2.2⟩ 6) fun v3 h3 => .bnd (l1Below_ok hcode (c := ⟨c.b, v3.2.i, v3.2.h⟩) ⟨h.1, h3.2.2.2.2⟩ 4) fun v4 h4 => ?_
  have b3 := h3.2.1 (by omega); have c3 := h3.1; have b4 := h4.2.1 (by omega); have c4 := h4.1
  refine .bnd (P := fun y => (Srt 0 255 3 y.2.2 ∧ okTag y.2.2) ∧ 0 ≤ y.1 ∧ y.1 ≤ (code.length : Int)) ?_ fun y hy => .some ⟨?_, ?_, h.1, hy.2⟩
  · unfold s_l31Draw_L0
    refine loopTot (P := Int × Int × Int × List Int) (fun p => p.1.toNat) (fun p => ∃ n : Nat, 0 ≤ p.1 ∧ (n : Int) + p.1 ≤ 3 ∧ (Srt 0 255 n p.2.2.2 ∧ okTag p.2.2.2) ∧ Cur code ⟨c.b, p.2.1, p.2.2.1⟩) (fun p hp => ?_) (by simp only; omega) ⟨0, c4, by simp only; omega, ⟨Srt.nil, fun x hx => by simp at hx⟩, h.1, h4.2.2.2.2⟩
    obtain ⟨k, i, hh, l⟩ := p
    obtain ⟨n, hk, hn, hl, hc⟩ := hp
    simp only at hk hn hl hc ⊢
    simp only [s_l31Draw_W0, s_l31Draw_B0]
    refine .fork (fun hf => ?_) fun hf => .ex ⟨⟨hl.1.le (by omega), hl.2⟩, hc.2⟩
    have hf := of_decide_eq_true hf
    refine .bnd (l1Int_ok hcode hc (l := [1, 2, 3, 40, 200]) (by simp)) fun v hv => ?_
    have hv1 := hv.1
    simp only [List.mem_cons, List.not_mem_nil, or_false] at hv1
    refine .bnd (hl.1.put (x := v.1) (by omega) (by omega)) fun l' hl' => .nx ?_
    rw [w64_id (x := k - 1) (by omega)]
    refine ⟨⟨n + 1, by simp only; omega, by simp only; omega, ⟨hl'.2, fun x hx => ?_⟩, hc.1, hv.2.2⟩, by simp only; omega⟩
    simp only at hx
    rw [hl'.1] at hx
    rcases putL_mem.1 hx with hx | hx
    · rw [hx]
      rcases hv1 with h | h | h | h | h <;> rw [h] <;> decide
    · exact hl.2 x hx
  · have k1 := hy.1.1.n
    unfold isEnd
    simp only [Bool.and_eq_true, List.all_eq_true, decide_eq_true_eq]
    refine ⟨⟨⟨⟨⟨⟨hy.1.1.asc, fun x hx => by rw [hy.1.2 x hx]; rfl⟩, fun b hb => (h2.1.2 b hb).1⟩, h1.1.areV (by omega) (by omega) h1.2.1⟩, by omega⟩, by have := h2.1.1; omega⟩, inR_iff.2 (by omega)⟩
  · have k1 := hy.1.1.n
    have k2 := h2.1.1
    have k3 := h1.1.n
    exact ⟨by simp only; omega, by simp only; omega, by simp only; omega, fun b hb => (h2.1.2 b hb).2⟩

theorem l26Draw_ok {c : CurV} (h : Cur code c) : Tot (s_l26Draw c) fun r => isRoll r.1 = true ∧ (1 ≤ r.1.Stages.length ∧ r.1.Stages.length ≤ 10) ∧ Cur code r.2 := by
  unfold s_l26Draw
  refine .bnd (l1Below_ok hcode h 6) fun v1 h1 => .bnd (l1Below_ok hcode (c := ⟨c.b, v1.2.i, v1.2.h⟩) ⟨h.1, h1.2.2.2.2⟩ 3) fun v2 h2 => ?_
  have b1 := h1.2.1 (by omega); have c1 := h1.1; have b2 := h2.2.1 (by omega); have c2 := h2.1
  refine .bnd (P := fun y => Srt 1 90 2 y.2.2 ∧ 0 ≤ y.1 ∧ y.1 ≤ (code.length : Int)) ?_ fun y hy => ?_
  · unfold s_l26Draw_L0
    refine loopTot (P := Int × Int × Int × List Int) (fun p => p.1.toNat) (fun p => ∃ n : Nat, 0 ≤ p.1 ∧ (n : Int) + p.1 ≤ 2 ∧ Srt 1 90 n p.2.2.2 ∧ Cur code ⟨c.b, p.2.1, p.2.2.1⟩) (fun p hp => ?_) (by simp only; omega) ⟨0, c2, by simp only; omega, Srt.nil, h.1, h2.2.2.2.2⟩
    obtain ⟨k, i, hh, l⟩ := p
    obtain ⟨n, hk, hn, hl, hc⟩ := hp
    simp only at hk hn hl hc ⊢
    simp only [s_l26Draw_W0, s_l26Draw_B0]
    refine .fork (fun hf => ?_) fun hf => .ex ⟨hl.le (by omega), hc.2⟩
    have hf := of_decide_eq_true hf
    refine .bnd (l1Below_ok hcode hc 90) fun v hv => ?_
    have b3 := hv.2.1 (by omega); have c3 := hv.1
    rw [w64_id (x := 1 + v.1) (by omega)]
    refine .bnd (hl.put (x := 1 + v.1) (by omega) (by omega)) fun l' hl' => .nx ?_
    rw [w64_id (x := k - 1) (by omega)]
    exact ⟨⟨n + 1, by simp only; omega, by simp only; omega, hl'.2, hc.1, hv.2.2.2.2⟩, by simp only; omega⟩
  · have hn := hy.1.n
    have hlen : (y.2.2 ++ ([100] : List Int)).length = y.2.2.length + 1 := by simp
    refine .need (by simp; omega) (.bnd (l1Below_ok hcode (c := ⟨c.b, y.1, y.2.1⟩) ⟨h.1, hy.2⟩ _) fun v8 h8 => .some ⟨?_, ⟨by simp only; omega, by simp only; omega⟩, h.1, h8.2.2.2.2⟩)
    rw [hlen] at h8
    have b8 := h8.2.1 (by omega); have c8 := h8.1
    unfold isRoll
    simp only [Bool.and_eq_true, decide_eq_true_eq]
    rw [w64_id (x := 1 + v1.1) (by omega), hlen]
    have hs : asc 1 100 (y.2.2 ++ ([100] : List Int)) = true := by
      refine asc_of_sorted ?_ fun x hx => ?_
      · rw [List.pairwise_append]
        refine ⟨hy.1.o, by simp, fun a ha b hb => ?_⟩
        have := hy.1.r a ha
        simp only [List.mem_singleton] at hb
        omega
      · rcases List.mem_append.1 hx with hx | hx
        · have := hy.1.r x hx; omega
        · simp only [List.mem_singleton] at hx; omega
    refine ⟨⟨⟨⟨⟨hs, inR_iff.2 (by omega)⟩, by omega⟩, by omega⟩, ?_⟩, inR_iff.2 (by omega)⟩
    simp

end Go.Pi

/- Hellos, paths, dials: they end, and stay small. -/
namespace Go.Pi

def smX (n : Nat) (l : List ExtV) : Prop := l.length ≤ n ∧ ∀ e ∈ l, e.Body.length ≤ n
def smH (n : Nat) (h : HelloV) : Prop := h.Versions.length ≤ n ∧ smX n h.Exts

theorem getD_ex {A : Type} {xs : List A} {i : Nat} {d : A} (h : i < xs.length) : ∃ e, e ∈ xs ∧ xs.getD (i : Int).toNat d = e := ⟨xs[i], List.getElem_mem h, by simp [h]⟩
theorem Tot.true {α : Type} {m : Option α} {v : α} (h : m = Option.some v) : Tot m fun _ => True := ⟨v, h, trivial⟩

theorem loopAcc {C D X : Type} {B : C → Int × List D → (Int × List D → Option X) → (X → Option X) → Option X} {c : C} (n : Nat) (P : D → Prop) {Q : X → Prop} (hn : n ≤ 1000000)
    (hs : ∀ (i : Nat) (acc : List D), i ≤ n → acc.length ≤ i → (∀ d ∈ acc, P d) → w64 ((i : Int) + 1) = (i : Int) + 1 → Goes (fun nx ex => B c ((i : Int), acc) nx ex) (fun p' => i < n ∧ p'.1 = (i : Int) + 1 ∧ p'.2.length ≤ acc.length + 1 ∧ ∀ d ∈ p'.2, d ∈ acc ∨ P d) Q) :
    Tot (loopF B c big (0, [])) Q := by
  refine loopTot (P := Int × List D) (fun p => (n - p.1).toNat) (fun p => ∃ i : Nat, p.1 = (i : Int) ∧ i ≤ n ∧ p.2.length ≤ i ∧ ∀ d ∈ p.2, P d) (fun p hp => ?_) (by simp; omega) ⟨0, rfl, by omega, by simp, by simp⟩
  obtain ⟨k, acc⟩ := p
  obtain ⟨i, h1, h2, h3, h4⟩ := hp
  simp only at h1 h3 h4
  subst h1
  rcases hs i acc h2 h3 h4 (w64_id (by omega)) with ⟨a, hN, he⟩ | h
  · obtain ⟨n1, n2, n3, n4⟩ := hN
    refine .inl ⟨a, ⟨⟨i + 1, by omega, by omega, by omega, fun d hd => ?_⟩, by simp only; omega⟩, he⟩
    rcases n4 d hd with h | h
    · exact h4 d h
    · exact h
  · exact .inr h

theorem loopI {C X : Type} {B : C → Int → (Int → Option X) → (X → Option X) → Option X} {c : C} (n : Nat) {Q : X → Prop} (hn : n ≤ 1000000)
    (hs : ∀ (i : Nat), i ≤ n → w64 ((i : Int) + 1) = (i : Int) + 1 → Goes (fun nx ex => B c (i : Int) nx ex) (fun p' => i < n ∧ p' = (i : Int) + 1) Q) :
    Tot (loopF B c big 0) Q := by
  refine loopTot (P := Int) (fun p => (n - p).toNat) (fun p => ∃ i : Nat, p = (i : Int) ∧ i ≤ n) (fun p hp => ?_) (by simp; omega) ⟨0, rfl, by omega⟩
  obtain ⟨i, h1, h2⟩ := hp
  subst h1
  rcases hs i h2 (w64_id (by omega)) with ⟨a, hN, he⟩ | h
  · exact .inl ⟨a, ⟨⟨i + 1, by omega, by omega⟩, by omega⟩, he⟩
  · exact .inr h

/-- The start of a list after a step. -/
theorem acc_app {D : Type} {P : D → Prop} {acc : List D} {d : D} (h : P d) : (acc ++ [d]).length ≤ acc.length + 1 ∧ ∀ x ∈ acc ++ [d], x ∈ acc ∨ P x := by
  refine ⟨by simp, fun x hx => ?_⟩
  rcases List.mem_append.1 hx with hx | hx
  · exact .inl hx
  · rw [List.mem_singleton] at hx; rw [hx]; exact .inr h
theorem acc_same {D : Type} {P : D → Prop} {acc : List D} : acc.length ≤ acc.length + 1 ∧ ∀ x ∈ acc, x ∈ acc ∨ P x := ⟨by omega, fun x hx => .inl hx⟩

theorem s_ExtOf_ok {l : List ExtV} {t : Int} (hl : l.length ≤ 1000) : Tot (s_ExtOf l t) fun _ => True := by
  unfold s_ExtOf
  refine .bnd (P := fun _ => True) ?_ fun y _ => by cases y <;> exact .some trivial
  unfold s_ExtOf_L0
  refine loopI l.length (by omega) fun i hi hw => ?_
  simp only [s_ExtOf_W0, s_ExtOf_B0]
  refine .fork (fun hf => ?_) fun _ => .ex trivial
  have hf := of_decide_eq_true hf
  refine .need (by omega) (.fork (fun _ => .ex trivial) fun _ => .nx ⟨by omega, hw⟩)

theorem s_AreExts_ok {l : List ExtV} (h : smX 1000 l) : Tot (s_AreExts l) fun _ => True := by
  obtain ⟨hl, hb⟩ := h
  unfold s_AreExts
  refine .bnd (P := fun _ => True) ?_ fun y _ => by cases y <;> exact .some trivial
  unfold s_AreExts_L0
  refine loopI l.length (by omega) fun i hi hw => ?_
  simp only [s_AreExts_W0, s_AreExts_B0]
  refine .fork (fun hf => ?_) fun _ => .ex trivial
  have hf := of_decide_eq_true hf
  obtain ⟨e, he, hg⟩ := getD_ex (xs := l) (i := i) (d := dflt (.st .ext)) (by omega)
  rw [hg]
  have hbe := hb e he
  refine .need (by omega) (.bnd (Tot.true (s_l1In_eq _ _ _)) fun v _ => .fork (fun _ => .ex trivial) fun _ => .need (by omega) (.fork (fun _ => .ex trivial) fun _ => .need (by omega) (.bnd (Tot.true (s_l9Byte_eq (by omega))) fun v2 _ =>
    .fork (fun _ => .ex trivial) fun _ => .need (by omega) (.bnd (s_ExtOf_ok hl) fun v3 _ => .fork (fun _ => .ex trivial) fun _ => .nx ⟨by omega, hw⟩))))

theorem s_IsHello_ok {h : HelloV} (hh : smH 1000 h) : Tot (s_IsHello h) fun r => r = true → areV h.Versions = true := by
  unfold s_IsHello
  have h1 := hh.1
  rw [s_AreVersions_eq (by omega), bnd_some']
  refine .fork (fun ha => .bnd (s_AreExts_ok hh.2) fun v _ => .some fun _ => ha) fun _ => .some fun h => by cases h

theorem s_TagsOf_eq {l : List ExtV} (hl : l.length ≤ 1000) : s_TagsOf l = some (l.map ExtV.Tag) := by
  unfold s_TagsOf
  have : s_TagsOf_L0 l big 0 [] = some ((l.filter fun _ => true).map ExtV.Tag) := by
    unfold s_TagsOf_L0
    refine loopG (xs := l) (fun _ => true) ExtV.Tag (by omega) (fun i hi acc nx ex hacc hw => ?_) (fun acc nx ex => by simp [s_TagsOf_W0, s_TagsOf_B0])
    simp only [s_TagsOf_W0, s_TagsOf_B0]
    have hg : l.getD (i : Int).toNat (dflt (.st .ext)) = l[i] := by simp [hi]
    rw [hg, decide_eq_true (by omega), fork_true, need_of (by omega), need_of (by simp; omega), hw]
    simp
  rw [this, filter_true]; rfl

theorem s_KnownOf_eq {l : List ExtV} {ts : List Int} (h : smX 1000 l) (ht : ts.length ≤ 1000) : s_KnownOf l ts = some (l.filter fun e => ts.contains e.Tag) := by
  obtain ⟨hl, hb⟩ := h
  unfold s_KnownOf
  have : s_KnownOf_L0 l ts big 0 [] = some ((l.filter fun e => ts.contains e.Tag).map id) := by
    unfold s_KnownOf_L0
    refine loopG (xs := l) (fun e => ts.contains e.Tag) id (by omega) (fun i hi acc nx ex hacc hw => ?_) (fun acc nx ex => by simp [s_KnownOf_W0, s_KnownOf_B0])
    simp only [s_KnownOf_W0, s_KnownOf_B0]
    have hg : l.getD (i : Int).toNat (dflt (.st .ext)) = l[i] := by simp [hi]
    have hbe := hb _ (List.getElem_mem hi)
    rw [hg, decide_eq_true (by omega), fork_true, need_of (by omega), s_l9Has_eq (by omega), bnd_some', need_of (by omega), need_of (by omega), need_of (by simp; omega), need_of (by simp; omega), hw]
    cases ts.contains l[i].Tag <;> simp
  rw [this]; simp

theorem s_l11Copy_eq {l : List ExtV} (h : smX 1000 l) : s_l11Copy l = some l := by
  unfold s_l11Copy
  rw [s_TagsOf_eq h.1, bnd_some', s_KnownOf_eq h (by simpa using h.1)]
  simp only [bnd_some']
  congr 1
  refine List.filter_eq_self.2 fun e he => ?_
  rw [List.contains_iff_mem]
  exact List.mem_map.2 ⟨e, he, rfl⟩

theorem s_l18Hello_eq {h : HelloV} (hh : smH 1000 h) : s_l18Hello h = some h := by
  unfold s_l18Hello
  have h1 := hh.1
  rw [need_of (by simp; omega), s_l11Copy_eq hh.2]
  simp

theorem bodyOk {n : Nat} {l : List ExtV} {acc : List ExtV} {i : Nat} (h : smX n l) (ha : acc.length ≤ i) (hi : i ≤ l.length) (hb : ∀ d ∈ acc, d.Body.length ≤ n) : smX n acc := ⟨by have := h.1; omega, hb⟩

theorem s_PassBox_ok {b : BoxV} {h : HelloV} {n : Nat} (hb : bdB 1000 b) (hn : n ≤ 1000) (hh : smH n h) : Tot (s_PassBox b h) fun r => smH n r.1 := by
  have hh' : smH 1000 h := ⟨Nat.le_trans hh.1 hn, Nat.le_trans hh.2.1 hn, fun e he => Nat.le_trans (hh.2.2 e he) hn⟩
  have h1 := hh'.1
  have h2 := hh'.2.1
  have hz : smH n ⟨[], []⟩ := ⟨by simp, by simp, by simp⟩
  unfold s_PassBox
  have hL0 : Tot (s_PassBox_L0 false b.Limit b.Drops b.Strips b.Lists h.Versions h.Exts (([] : List Int) ++ h.Versions) big 0 ([] : List ExtV)) fun r => ∀ l, r = .inr l → smX n l := by
    unfold s_PassBox_L0
    refine loopAcc (D := ExtV) h.Exts.length (fun d => d.Body.length ≤ n) (by omega) fun i acc hi ha hP hw => ?_
    simp only [s_PassBox_W0, s_PassBox_B0]
    refine .fork (fun hf => ?_) fun _ => .ex fun l hl => by cases hl; exact bodyOk hh.2 ha hi hP
    have hf := of_decide_eq_true hf
    obtain ⟨e, he, hg⟩ := getD_ex (xs := h.Exts) (i := i) (d := dflt (.st .ext)) (by omega)
    rw [hg]
    have hbe := hh'.2.2 e he
    have hbe' := hh.2.2 e he
    have hd1 := hb.1; have hd2 := hb.2
    have app : Goes (P := Int × List ExtV) (fun nx (ex : Bool ⊕ List ExtV → Option (Bool ⊕ List ExtV)) => need (0 ≤ (i : Int) ∧ (i : Int) < ((h.Exts.length : Nat) : Int)) (
        need ((((([] : List Int).length + (e.Body).length : Nat)) : Int) * ((8 : Nat) : Int) ≤ 140737488355328) (
        need ((((acc.length + ([(⟨e.Tag, (([] : List Int) ++ (e.Body))⟩ : ExtV)] : List ExtV).length : Nat)) : Int) * ((32 : Nat) : Int) ≤ 140737488355328) (
        nx (w64 ((i : Int) + 1), (acc ++ ([(⟨e.Tag, (([] : List Int) ++ (e.Body))⟩ : ExtV)] : List ExtV)))))))
        (fun p' => i < h.Exts.length ∧ p'.1 = (i : Int) + 1 ∧ p'.2.length ≤ acc.length + 1 ∧ ∀ d ∈ p'.2, d ∈ acc ∨ d.Body.length ≤ n) (fun r => ∀ l, r = .inr l → smX n l) :=
      .need (by omega) (.need (by simp; omega) (.need (by simp; omega) (.nx ⟨by omega, hw, acc_app (P := fun d : ExtV => d.Body.length ≤ n) (by simpa using hbe')⟩)))
    have skip : Goes (P := Int × List ExtV) (fun nx (ex : Bool ⊕ List ExtV → Option (Bool ⊕ List ExtV)) => nx (w64 ((i : Int) + 1), acc))
        (fun p' => i < h.Exts.length ∧ p'.1 = (i : Int) + 1 ∧ p'.2.length ≤ acc.length + 1 ∧ ∀ d ∈ p'.2, d ∈ acc ∨ d.Body.length ≤ n) (fun r => ∀ l, r = .inr l → smX n l) :=
      .nx ⟨by omega, hw, acc_same⟩
    have out : ∀ v : Bool, ∀ l : List ExtV, (Sum.inl v : Bool ⊕ List ExtV) = .inr l → smX n l := fun v l hl => by cases hl
    refine .need (by omega) (.bnd (Tot.true (s_l9Has_eq (by omega))) fun v6 _ => .bnd (Tot.true (s_l9Has_eq (by omega))) fun v7 _ => .fork (fun _ => .ex (out _)) fun _ => .fork (fun _ => .fork (fun _ => .bnd (Tot.true (s_l1In_eq _ _ _)) fun v8 _ =>
      .fork (fun _ => .ex (out _)) fun _ => .fork (fun _ => app) fun _ => skip) fun _ => .fork (fun _ => app) fun _ => skip) fun _ => .fork (fun _ => app) fun _ => skip)
  have hL1 : s_PassBox_L1 false b.Limit b.Drops b.Strips b.Lists h.Versions h.Exts (([] : List Int) ++ h.Versions) big 0 ([] : List ExtV) = s_PassBox_L0 false b.Limit b.Drops b.Strips b.Lists h.Versions h.Exts (([] : List Int) ++ h.Versions) big 0 ([] : List ExtV) := rfl
  have hd1 := hb.1; have hd2 := hb.2
  rw [hL1, s_IsBox_eq ⟨by omega, by omega⟩, bnd_some']
  refine .fork (fun _ => .some hz) fun _ => .bnd (s_IsHello_ok hh') fun v hv => .fork (fun _ => .some hz) fun hv' => ?_
  have hne : h.Versions ≠ [] := (areV_iff.1 (hv (by simpa using hv'))).2.2
  have hlen : 0 < h.Versions.length := List.length_pos_iff.2 hne
  have fin : ∀ y : Bool ⊕ List ExtV, (∀ l, y = .inr l → smX n l) → Tot (sum2 (fun y9 => some ((⟨[], []⟩ : HelloV), y9)) (fun y10 => some ((⟨(([] : List Int) ++ h.Versions), y10⟩ : HelloV), true)) y) fun r => smH n r.1 := fun y hy => by
    cases y with
    | inl v => exact .some hz
    | inr l => exact .some ⟨by simpa using hh.1, hy l rfl⟩
  refine .fork (fun _ => .need ?_ (.fork (fun _ => .some hz) fun _ => .need (by simp; omega) (.bnd hL0 fin))) fun _ => .need (by simp; omega) (.bnd hL0 fin)
  rw [w64_id (by omega)]; omega

theorem s_PassPath_ok {p : List BoxV} {h : HelloV} {n : Nat} (hp : ∀ b ∈ p, bdB 1000 b) (hn : n ≤ 1000) (hh : smH n h) : Tot (s_PassPath p h) fun r => smH n r.1 := by
  have hh' : smH 1000 h := ⟨Nat.le_trans hh.1 hn, Nat.le_trans hh.2.1 hn, fun e he => Nat.le_trans (hh.2.2 e he) hn⟩
  have hz : smH n ⟨[], []⟩ := ⟨by simp, by simp, by simp⟩
  unfold s_PassPath
  refine .fork (fun _ => .some hz) fun hl => .bnd (s_IsHello_ok hh') fun v hv => .fork (fun _ => .some hz) fun hv' => ?_
  have hl := of_decide_eq_false hl
  rw [s_l18Hello_eq hh', bnd_some']
  refine .bnd (P := fun y : Bool ⊕ (List Int × List ExtV) => ∀ a, y = .inr a → smH n ⟨a.1, a.2⟩) ?_ fun y hy => ?_
  · unfold s_PassPath_L0
    refine loopTot (P := Int × List Int × List ExtV) (fun q => (p.length - q.1).toNat) (fun q => (0 ≤ q.1 ∧ q.1 ≤ p.length) ∧ smH n ⟨q.2.1, q.2.2⟩) (fun q hq => ?_) (by simp; omega) ⟨by simp, hh⟩
    obtain ⟨i, vs, es⟩ := q
    obtain ⟨⟨h1, h2⟩, h3⟩ := hq
    simp only at h1 h2 h3
    simp only [s_PassPath_W0, s_PassPath_B0]
    refine .fork (fun hf => ?_) fun _ => .ex fun a ha => by cases ha; exact h3
    have hf := of_decide_eq_true hf
    have hb : bdB 1000 (p.getD i.toNat (dflt (.st .box))) := by
      have hi : i.toNat < p.length := by omega
      have hg : p.getD i.toNat (dflt (.st .box)) = p[i.toNat] := by simp [hi]
      rw [hg]; exact hp _ (List.getElem_mem hi)
    refine .need (by omega) (.bnd (s_PassBox_ok hb hn h3) fun v hv => .fork (fun _ => .ex fun a ha => by cases ha) fun _ => .nx ?_)
    rw [w64_id (by omega)]
    exact ⟨⟨by simp only; omega, hv⟩, by simp only; omega⟩
  · cases y with
    | inl v => exact .some hz
    | inr a => exact .some (hy a rfl)

end Go.Pi

/- The rest of a dial. -/
namespace Go.Pi

theorem smX.le {m n : Nat} {l : List ExtV} (h : smX m l) (hn : m ≤ n) : smX n l := ⟨Nat.le_trans h.1 hn, fun e he => Nat.le_trans (h.2 e he) hn⟩
theorem smH.le {m n : Nat} {l : HelloV} (h : smH m l) (hn : m ≤ n) : smH n l := ⟨Nat.le_trans h.1 hn, h.2.le hn⟩
theorem smX.filter {n : Nat} {l : List ExtV} {p : ExtV → Bool} (h : smX n l) : smX n (l.filter p) := ⟨Nat.le_trans (List.length_filter_le _ _) h.1, fun e he => h.2 e (List.mem_filter.1 he).1⟩
theorem smH.nil {n : Nat} : smH n ⟨[], []⟩ := ⟨by simp, by simp, by simp⟩

theorem s_EqualInts_ok {a b : List Int} (ha : a.length ≤ 1000) : Tot (s_EqualInts a b) fun _ => True := by
  unfold s_EqualInts
  refine .fork (fun _ => .some trivial) fun hl => ?_
  have hl : a.length = b.length := by
    simp only [bne_eq_false_iff_eq] at hl; omega
  refine .bnd (P := fun _ => True) ?_ fun y _ => by cases y <;> exact .some trivial
  unfold s_EqualInts_L0
  refine loopI a.length (by omega) fun i hi hw => ?_
  simp only [s_EqualInts_W0, s_EqualInts_B0]
  refine .fork (fun hf => ?_) fun _ => .ex trivial
  have hf := of_decide_eq_true hf
  exact .need (by omega) (.need (by omega) (.fork (fun _ => .ex trivial) fun _ => .nx ⟨by omega, hw⟩))

theorem s_EqualExts_ok {a b : List ExtV} (ha : smX 1000 a) : Tot (s_EqualExts a b) fun _ => True := by
  obtain ⟨h1, h2⟩ := ha
  unfold s_EqualExts
  refine .fork (fun _ => .some trivial) fun hl => ?_
  have hl : a.length = b.length := by
    simp only [bne_eq_false_iff_eq] at hl; omega
  refine .bnd (P := fun _ => True) ?_ fun y _ => by cases y <;> exact .some trivial
  unfold s_EqualExts_L0
  refine loopI a.length (by omega) fun i hi hw => ?_
  simp only [s_EqualExts_W0, s_EqualExts_B0]
  refine .fork (fun hf => ?_) fun _ => .ex trivial
  have hf := of_decide_eq_true hf
  obtain ⟨e, he, hg⟩ := getD_ex (xs := a) (i := i) (d := dflt (.st .ext)) (by omega)
  rw [hg]
  exact .need (by omega) (.need (by omega) (.fork (fun _ => .ex trivial) fun _ => .need (by omega) (.need (by omega) (.bnd (s_EqualInts_ok (h2 e he)) fun v _ => .fork (fun _ => .ex trivial) fun _ => .nx ⟨by omega, hw⟩))))

theorem s_EqualHellos_ok {a b : HelloV} (ha : smH 1000 a) : Tot (s_EqualHellos a b) fun _ => True := by
  unfold s_EqualHellos
  exact .bnd (s_EqualInts_ok ha.1) fun v _ => .fork (fun _ => .bnd (s_EqualExts_ok ha.2) fun v _ => .some trivial) fun _ => .some trivial

variable {p : List BoxV} (hp : ∀ b ∈ p, bdB 1000 b)
include hp

theorem s_PassesWhole_ok {h : HelloV} (hh : smH 1000 h) : Tot (s_PassesWhole h p) fun _ => True := by
  unfold s_PassesWhole
  exact .bnd (s_PassPath_ok hp (by omega) hh) fun v hv => .fork (fun _ => .bnd (s_EqualHellos_ok hv) fun _ _ => .some trivial) fun _ => .some trivial

omit hp in
theorem s_l21Left_eq {a b : List Int} (ha : a.length ≤ 1000) (hb : b.length ≤ 1000) : s_l21Left a b = some (a.filter fun x => !(b.contains x)) := by
  unfold s_l21Left
  have : s_l21Left_L0 a b big 0 [] = some ((a.filter fun x => !(b.contains x)).map id) := by
    unfold s_l21Left_L0
    refine loopG (xs := a) (fun x => !(b.contains x)) id (by omega) (fun i hi acc nx ex hacc hw => ?_) (fun acc nx ex => by simp [s_l21Left_W0, s_l21Left_B0])
    simp only [s_l21Left_W0, s_l21Left_B0, s_l9Has_eq (l := b) (by omega), bnd_some']
    have hk : (((acc.length : Nat) : Int) + 1) * 8 ≤ 140737488355328 := by omega
    rcases Bool.eq_false_or_eq_true (b.contains a[i]) with h | h
    · have h' : a[i] ∈ b := by simpa using h
      simp [hi, h', hw]
    · have h' : ¬ a[i] ∈ b := by simpa using h
      simp [hi, h', hw, hk]
  rw [this]
  simp

omit hp in
theorem s_PlainHello_ok {vs : List Int} {n : Nat} (hv : vs.length ≤ n) (hn : n ≤ 1000) : Tot (s_PlainHello vs) fun h => smH n h := by
  unfold s_PlainHello
  exact .need (by simp; omega) (.some ⟨by simpa using hv, by simp, by simp⟩)

theorem s_IsOpenPath_ok {vs : List Int} (hv : vs.length ≤ 1000) : Tot (s_IsOpenPath p vs) fun r => r = true → vs ≠ [] := by
  unfold s_IsOpenPath
  rw [s_AreVersions_eq (by omega), bnd_some']
  refine .fork (fun _ => .some fun h => by cases h) fun ha => ?_
  have hne : vs ≠ [] := (areV_iff.1 (by simpa using ha)).2.2
  have hl := List.length_pos_iff.2 hne
  refine .need (by omega) (.bnd (s_PlainHello_ok (n := 1) (by simp; omega) (by omega)) fun v hv => .bnd (s_PassPath_ok hp (n := 1) (by omega) hv) fun v _ => .some fun _ => hne)

theorem s_LostVersions_ok {vs : List Int} (hv : vs.length ≤ 1000) : Tot (s_LostVersions p vs) fun r => r.length ≤ vs.length := by
  unfold s_LostVersions
  refine .bnd (P := fun r => r.length ≤ vs.length) ?_ fun y hy => .some hy
  unfold s_LostVersions_L0
  refine loopAcc (D := Int) vs.length (fun _ => True) (by omega) fun i acc hi ha _ hw => ?_
  simp only [s_LostVersions_W0, s_LostVersions_B0]
  refine .fork (fun hf => ?_) fun _ => .ex (by omega)
  have hf := of_decide_eq_true hf
  refine .bnd (Tot.true (s_AreVersions_eq (by omega))) fun v _ => .fork (fun _ => ?_) fun _ => .ex (by omega)
  rw [hw]
  refine .need (by omega) (.bnd (s_IsOpenPath_ok hp (by simp; omega)) fun v _ => .fork (fun _ => .need (by omega) (.need (by simp; omega) (.nx ⟨by omega, rfl, acc_app (P := fun _ => True) trivial⟩))) fun _ => .nx ⟨by omega, rfl, acc_same⟩)

omit hp in
theorem s_PartHello_ok {h : HelloV} {a b : List Int} {n : Nat} (hn : n ≤ 1000) (hh : smH n h) (ha : a.length ≤ 1000) (hb : b.length ≤ 1000) : Tot (s_PartHello h a b) fun r => smH n r.1 := by
  have hh' := hh.le hn
  have h1 := hh'.1; have h2 := hh'.2.1
  unfold s_PartHello
  refine .bnd (s_IsHello_ok hh') fun v _ => .fork (fun _ => .some smH.nil) fun _ => .bnd (P := fun r => r.length ≤ h.Versions.length) ?_ fun vs hvs => .bnd (P := fun r => smX n r) ?_ fun es hes => .fork (fun _ => .some smH.nil) fun _ => .some ⟨Nat.le_trans hvs hh.1, hes⟩
  · unfold s_PartHello_L0
    refine loopAcc (D := Int) h.Versions.length (fun _ => True) (by omega) fun i acc hi hacc _ hw => ?_
    simp only [s_PartHello_W0, s_PartHello_B0]
    refine .fork (fun hf => ?_) fun _ => .ex (by omega)
    have hf := of_decide_eq_true hf
    refine .need (by omega) (.bnd (Tot.true (s_l9Has_eq (by omega))) fun v _ => .fork (fun _ => .need (by omega) (.need (by simp; omega) (.nx ⟨by omega, hw, acc_app (P := fun _ => True) trivial⟩))) fun _ => .nx ⟨by omega, hw, acc_same⟩)
  · unfold s_PartHello_L1
    refine loopAcc (D := ExtV) h.Exts.length (fun d => d.Body.length ≤ n) (by omega) fun i acc hi hacc hP hw => ?_
    simp only [s_PartHello_W1, s_PartHello_B1]
    refine .fork (fun hf => ?_) fun _ => .ex (bodyOk hh.2 hacc hi hP)
    have hf := of_decide_eq_true hf
    obtain ⟨e, he, hg⟩ := getD_ex (xs := h.Exts) (i := i) (d := dflt (.st .ext)) (by omega)
    rw [hg]
    have hbe := hh.2.2 e he
    refine .need (by omega) (.bnd (Tot.true (s_l9Has_eq (by omega))) fun v _ => .fork (fun _ => .need (by omega) (.need (by omega) (.need (by simp; omega) (.need (by simp; omega) (.nx ⟨by omega, hw, acc_app (P := fun d : ExtV => d.Body.length ≤ n) (by simpa using hbe)⟩))))) fun _ => .nx ⟨by omega, hw, acc_same⟩)

theorem s_LostTags_ok {vs : List Int} {es : List ExtV} (hv : vs.length ≤ 1000) (he : smX 1000 es) : Tot (s_LostTags p vs es) fun r => r.length ≤ es.length := by
  have h1 := he.1
  unfold s_LostTags
  refine .bnd (s_AreExts_ok he) fun v _ => .fork (fun _ => .some (by simp)) fun _ => .bnd (s_IsOpenPath_ok hp hv) fun v hv => .fork (fun _ => .some (by simp)) fun hne => ?_
  have hne := List.length_pos_iff.2 (hv (by simpa using hne))
  refine .bnd (P := fun r => r.length ≤ es.length) ?_ fun y hy => .some hy
  unfold s_LostTags_L0
  refine loopAcc (D := Int) es.length (fun _ => True) (by omega) fun i acc hi hacc _ hw => ?_
  simp only [s_LostTags_W0, s_LostTags_B0]
  refine .fork (fun hf => ?_) fun _ => .ex (by omega)
  have hf := of_decide_eq_true hf
  rw [hw]
  have app : ∀ t : Int, Goes (P := Int × List Int) (fun nx (ex : List Int → Option (List Int)) => need (0 ≤ (i : Int) ∧ (i : Int) < ((es.length : Nat) : Int)) (
      need ((((acc.length + ([t] : List Int).length : Nat)) : Int) * ((8 : Nat) : Int) ≤ 140737488355328) (nx ((i : Int) + 1, (acc ++ ([t] : List Int))))))
      (fun p' => i < es.length ∧ p'.1 = (i : Int) + 1 ∧ p'.2.length ≤ acc.length + 1 ∧ ∀ d ∈ p'.2, d ∈ acc ∨ True) (fun r => r.length ≤ es.length) :=
    fun t => .need (by omega) (.need (by simp; omega) (.nx ⟨by omega, rfl, acc_app (P := fun _ => True) trivial⟩))
  have hsub : smX 1000 ((es.take ((i : Int) + 1).toNat).drop (i : Int).toNat) := ⟨by simp; omega, fun e h => he.2 e (List.mem_of_mem_take (List.mem_of_mem_drop h))⟩
  refine .need (by omega) (.bnd (s_PlainHello_ok (n := 1) (by simp; omega) (by omega)) fun v3 h3 => .need (by omega) (.bnd (s_PassPath_ok hp (n := 1000) (by omega) ⟨Nat.le_trans h3.1 (by omega), hsub⟩) fun v4 h4 =>
    .fork (fun _ => app _) fun _ => .bnd (s_EqualExts_ok h4.2) fun v5 _ => .fork (fun _ => app _) fun _ => .nx ⟨by omega, rfl, acc_same⟩))

theorem s_FallbackHello_ok {h : HelloV} {n : Nat} (hn : n ≤ 1000) (hh : smH n h) : Tot (s_FallbackHello h p) fun r => smH n r.1 := by
  have hh' := hh.le hn
  unfold s_FallbackHello
  refine .bnd (s_IsHello_ok hh') fun v _ => .fork (fun _ => .some smH.nil) fun _ => .bnd (s_LostVersions_ok hp hh'.1) fun v2 h2 => ?_
  have h2' := Nat.le_trans h2 hh'.1
  rw [s_l21Left_eq hh'.1 h2', bnd_some']
  exact .bnd (s_LostTags_ok hp (Nat.le_trans (List.length_filter_le _ _) hh'.1) hh'.2) fun v4 h4 => .bnd (s_PartHello_ok hn hh h2' (Nat.le_trans h4 hh'.2.1)) fun v5 h5 => .some h5

theorem s_HelloFor_ok {h : HelloV} {n : Nat} (hn : n ≤ 1000) (hh : smH n h) : Tot (s_HelloFor h p) fun r => smH n r.1 := by
  have hh' := hh.le hn
  unfold s_HelloFor
  refine .bnd (s_IsHello_ok hh') fun v _ => .fork (fun _ => .some smH.nil) fun _ => .bnd (s_PassesWhole_ok hp hh') fun v2 _ => .fork (fun _ => ?_) fun _ => .bnd (s_FallbackHello_ok hp hn hh) fun v4 h4 => .fork (fun _ => .some smH.nil) fun _ =>
    .bnd (s_PassesWhole_ok hp (h4.le hn)) fun v5 _ => .fork (fun _ => .some smH.nil) fun _ => .some h4
  rw [s_l18Hello_eq hh', bnd_some']
  exact .some hh

omit hp
theorem s_StripGrease_ok {l : List ExtV} {n : Nat} (hn : n ≤ 1000) (h : smX n l) : Tot (s_StripGrease l) fun r => smX n r := by
  have h1 := h.1
  unfold s_StripGrease
  refine .bnd (P := fun r => smX n r) ?_ fun y hy => .some hy
  unfold s_StripGrease_L0
  refine loopAcc (D := ExtV) l.length (fun d => d.Body.length ≤ n) (by omega) fun i acc hi hacc hP hw => ?_
  simp only [s_StripGrease_W0, s_StripGrease_B0]
  refine .fork (fun hf => ?_) fun _ => .ex (bodyOk h hacc hi hP)
  have hf := of_decide_eq_true hf
  obtain ⟨e, he, hg⟩ := getD_ex (xs := l) (i := i) (d := dflt (.st .ext)) (by omega)
  rw [hg]
  have hbe := h.2 e he
  exact .need (by omega) (.bnd (Tot.true (s_IsReserved_eq _)) fun v _ => .fork (fun _ => .need (by omega) (.need (by omega) (.need (by simp; omega) (.need (by simp; omega) (.nx ⟨by omega, hw, acc_app (P := fun d : ExtV => d.Body.length ≤ n) (by simpa using hbe)⟩))))) fun _ => .nx ⟨by omega, hw, acc_same⟩)

theorem s_ChooseAnswer_ok {vs ts : List Int} {h : HelloV} {n : Nat} (hv : vs.length ≤ 1000) (ht : ts.length ≤ 1000) (hn : n ≤ 1000) (hh : smH n h) : Tot (s_ChooseAnswer vs ts h) fun r => smX n r.1.Exts := by
  have hh' := hh.le hn
  have h1 := hh'.1
  unfold s_ChooseAnswer
  rw [s_BestCommon_eq (by omega) (by omega), bnd_some']
  refine .bnd (s_IsHello_ok hh') fun v _ => .fork (fun _ => .some ⟨by simp, by simp⟩) fun _ => .fork (fun _ => .some ⟨by simp, by simp⟩) fun _ => ?_
  rw [s_KnownOf_eq hh'.2 ht, bnd_some']
  exact .bnd (s_StripGrease_ok hn hh.2.filter) fun v4 h4 => .some h4

theorem s_IsAnswer_ok {a : AnswerV} (h : smX 1000 a.Exts) : Tot (s_IsAnswer a) fun _ => True := by
  unfold s_IsAnswer
  exact .bnd (Tot.true (s_l1In_eq _ _ _)) fun v _ => .fork (fun _ => .bnd (s_AreExts_ok h) fun _ _ => .some trivial) fun _ => .some trivial

theorem s_FitsHello_ok {h : HelloV} {a : AnswerV} (hh : smH 1000 h) (ha : smX 1000 a.Exts) : Tot (s_FitsHello h a) fun _ => True := by
  have h1 := hh.1; have h2 := hh.2.1; have h3 := ha.1
  unfold s_FitsHello
  refine .bnd (P := fun _ => True) ?_ fun y _ => ?_
  · unfold s_FitsHello_L0
    refine loopI a.Exts.length (by omega) fun i hi hw => ?_
    simp only [s_FitsHello_W0, s_FitsHello_B0]
    refine .fork (fun hf => ?_) fun _ => .ex trivial
    have hf := of_decide_eq_true hf
    exact .need (by omega) (.bnd (s_ExtOf_ok (by omega)) fun v _ => .fork (fun _ => .ex trivial) fun _ => .need (by omega) (.bnd (Tot.true (s_IsReserved_eq _)) fun v _ => .fork (fun _ => .ex trivial) fun _ => .nx ⟨by omega, hw⟩))
  · cases y with
    | inl v => exact .some trivial
    | inr u => exact .bnd (s_IsHello_ok hh) fun v _ => .fork (fun _ => .bnd (s_IsAnswer_ok ha) fun v _ => .fork (fun _ => .bnd (Tot.true (s_l9Has_eq (by omega))) fun _ _ => .some trivial) fun _ => .some trivial) fun _ => .some trivial

theorem s_IsTranscript_ok {l : List (List Int)} (hl : l.length ≤ 1000) (h : ∀ x ∈ l, x.length ≤ 1000000) : Tot (s_IsTranscript l) fun _ => True := by
  unfold s_IsTranscript
  refine .bnd (P := fun _ => True) ?_ fun y _ => by cases y <;> exact .some trivial
  unfold s_IsTranscript_L0
  refine loopI l.length (by omega) fun i hi hw => ?_
  simp only [s_IsTranscript_W0, s_IsTranscript_B0]
  refine .fork (fun hf => ?_) fun _ => .ex trivial
  have hf := of_decide_eq_true hf
  obtain ⟨e, he, hg⟩ := getD_ex (xs := l) (i := i) (d := dflt (.sl (.int .i64))) (by omega)
  rw [hg]
  exact .need (by omega) (.bnd (Tot.true (s_l9Byte_eq (h e he))) fun v _ => .fork (fun _ => .ex trivial) fun _ => .nx ⟨by omega, hw⟩)

theorem s_Mod_ok (n m : Int) : Tot (s_Mod n m) fun r => inR m 1 1000000000000 = true → 0 ≤ r ∧ r < m := by
  unfold s_Mod
  rw [s_l1In_eq, bnd_some']
  refine .fork (fun hf => .some fun h => by rw [h] at hf; cases hf) fun hf => ?_
  have hm := inR_iff.1 (by simpa using hf)
  refine .need (by omega) (.need (by omega) (.some fun _ => ?_))
  have h1 := Int.tmod_lt_of_pos n (b := m) (by omega)
  have h2 : -m < n.tmod m := by
    have := Int.tmod_lt_of_pos (-n) (b := m) (by omega)
    rw [Int.neg_tmod] at this; omega
  rw [w64_id (by omega)]
  exact ⟨Int.tmod_nonneg _ (by omega), Int.tmod_lt_of_pos _ (by omega)⟩

theorem s_Hash_ok {l : List Int} (hl : l.length ≤ 1000000) : Tot (s_Hash l) fun _ => True := by
  unfold s_Hash
  refine .bnd (P := fun _ => True) ?_ fun y _ => .some trivial
  unfold s_Hash_L0
  refine loopTot (P := Int × Int) (fun q => (l.length - q.2).toNat) (fun q => 0 ≤ q.2) (fun q hq => ?_) (by simp; omega) (by simp)
  obtain ⟨a, i⟩ := q
  simp only at hq
  simp only [s_Hash_W0, s_Hash_B0]
  refine .fork (fun hf => ?_) fun _ => .ex trivial
  have hf := of_decide_eq_true hf
  refine .need (by omega) (.bnd (s_Mod_ok _ _) fun v _ => .need (by omega) (.nx ?_))
  rw [w64_id (x := i + 1) (by omega)]
  exact ⟨by simp only; omega, by simp only; omega⟩

theorem s_KeyedHash_ok {k : Int} {l : List Int} (hl : l.length ≤ 1000) : Tot (s_KeyedHash k l) fun _ => True := by
  unfold s_KeyedHash
  exact .need (by simp; omega) (.need (by simp; omega) (.bnd (s_Hash_ok (by simp; omega)) fun _ _ => .some trivial))

theorem s_TranscriptHash_ok {l : List (List Int)} (hl : l.length ≤ 1000) (h : ∀ x ∈ l, x.length ≤ 100000) : Tot (s_TranscriptHash l) fun _ => True := by
  unfold s_TranscriptHash
  refine .bnd (s_IsTranscript_ok hl fun x hx => Nat.le_trans (h x hx) (by omega)) fun v _ => .fork (fun _ => .some trivial) fun _ => .bnd (P := fun _ => True) ?_ fun y _ => .some trivial
  unfold s_TranscriptHash_L0
  refine loopTot (P := Int × Int) (fun q => (l.length - q.2).toNat) (fun q => 0 ≤ q.2 ∧ q.2 ≤ l.length) (fun q hq => ?_) (by simp; omega) (by simp)
  obtain ⟨a, i⟩ := q
  simp only at hq
  simp only [s_TranscriptHash_W0, s_TranscriptHash_B0]
  refine .fork (fun hf => ?_) fun _ => .ex trivial
  have hf := of_decide_eq_true hf
  have hle : (l.getD i.toNat (dflt (.sl (.int .i64)))).length ≤ 100000 := by
    have hi : i.toNat < l.length := by omega
    have hg : l.getD i.toNat (dflt (.sl (.int .i64))) = l[i.toNat] := by simp [hi]
    rw [hg]; exact h _ (List.getElem_mem hi)
  generalize l.getD i.toNat (dflt (.sl (.int .i64))) = x at hle
  refine .need (by omega) (.need (by omega) (.need (by simp only [List.length_cons, List.length_nil]; omega) (.bnd (s_Hash_ok (by simp only [List.length_append, List.length_cons, List.length_nil]; omega)) fun v _ => .nx ?_)))
  rw [w64_id (x := i + 1) (by omega)]
  exact ⟨by simp only; omega, by simp only; omega⟩

theorem s_FinishOf_ok {k s : Int} {l : List (List Int)} (hl : l.length ≤ 1000) (h : ∀ x ∈ l, x.length ≤ 100000) : Tot (s_FinishOf k l s) fun _ => True := by
  unfold s_FinishOf
  exact .bnd (Tot.true (s_IsValidKey_eq _)) fun _ _ => .fork (fun _ => .some trivial) fun _ => .bnd (s_IsTranscript_ok hl fun x hx => Nat.le_trans (h x hx) (by omega)) fun _ _ => .fork (fun _ => .some trivial) fun _ => .bnd (Tot.true (s_l1In_eq _ _ _)) fun _ _ =>
    .fork (fun _ => .some trivial) fun _ => .bnd (s_TranscriptHash_ok hl h) fun _ _ => .bnd (s_KeyedHash_ok (by simp)) fun _ _ => .some trivial

theorem s_EncodeExts_ok {l : List ExtV} (h : smX 100 l) : Tot (s_EncodeExts l) fun r => r.1.length ≤ 20000 := by
  have h1 := h.1
  unfold s_EncodeExts
  refine .bnd (s_AreExts_ok (h.le (by omega))) fun _ _ => .fork (fun _ => .some (by simp)) fun _ => .bnd (P := fun r => r.length ≤ 20000) ?_ fun y hy => .some hy
  unfold s_EncodeExts_L0
  refine loopTot (P := Int × List Int) (fun q => (l.length - q.1).toNat) (fun q => (0 ≤ q.1 ∧ q.1 ≤ l.length) ∧ (q.2.length : Int) ≤ 1 + 102 * q.1) (fun q hq => ?_) (by simp; omega) (by simp)
  obtain ⟨i, acc⟩ := q
  simp only at hq
  simp only [s_EncodeExts_W0, s_EncodeExts_B0]
  refine .fork (fun hf => ?_) fun _ => .ex (by omega)
  have hf := of_decide_eq_true hf
  have hle : (l.getD i.toNat (dflt (.st .ext))).Body.length ≤ 100 := by
    have hi : i.toNat < l.length := by omega
    have hg : l.getD i.toNat (dflt (.st .ext)) = l[i.toNat] := by simp [hi]
    rw [hg]; exact h.2 _ (List.getElem_mem hi)
  generalize l.getD i.toNat (dflt (.st .ext)) = x at hle
  refine .need (by omega) (.need (by omega) (.need (by simp only [List.length_cons, List.length_nil]; omega) (.need (by omega) (.need (by simp only [List.length_append, List.length_cons, List.length_nil]; omega) (.nx ?_)))))
  rw [w64_id (x := i + 1) (by omega)]
  exact ⟨⟨by simp only; omega, by simp only [List.length_append, List.length_cons, List.length_nil]; omega⟩, by simp only; omega⟩

theorem s_HelloBytes_ok {h : HelloV} (hh : smH 100 h) : Tot (s_HelloBytes h) fun r => r.length ≤ 100000 := by
  have h1 := hh.1
  unfold s_HelloBytes
  refine .bnd (s_IsHello_ok (hh.le (by omega))) fun _ _ => .fork (fun _ => .some (by simp)) fun _ => .bnd (s_EncodeExts_ok hh.2) fun v hv => .need ?_ (.need ?_ (.some ?_))
  · simp only [List.length_cons, List.length_nil]; omega
  · simp only [List.length_append, List.length_cons, List.length_nil]; omega
  · simp only [List.length_append, List.length_cons, List.length_nil]; omega
theorem s_AnswerBytes_ok {a : AnswerV} (h : smX 100 a.Exts) : Tot (s_AnswerBytes a) fun r => r.length ≤ 100000 := by
  unfold s_AnswerBytes
  refine .bnd (s_IsAnswer_ok (h.le (by omega))) fun _ _ => .fork (fun _ => .some (by simp)) fun _ => .bnd (s_EncodeExts_ok h) fun v hv => .need ?_ (.some ?_)
  · simp only [List.length_cons, List.length_nil]; omega
  · simp only [List.length_append, List.length_cons, List.length_nil]; omega

theorem two_mem {a b : List Int} {n : Nat} (ha : a.length ≤ n) (hb : b.length ≤ n) : ∀ x ∈ [a, b], x.length ≤ n := fun x hx => by
  simp only [List.mem_cons, List.not_mem_nil, or_false] at hx
  rcases hx with h | h <;> rw [h] <;> assumption

include hp
theorem s_DialOnce_ok {h : HelloV} {vs ts : List Int} {k : Int} (hh : smH 100 h) (hv : vs.length ≤ 1000) (ht : ts.length ≤ 1000) : Tot (s_DialOnce h p vs ts k) fun r => r.Tags.length ≤ 100 := by
  unfold s_DialOnce
  have hh' := hh.le (n := 1000) (by omega)
  refine .bnd (s_PassPath_ok hp (by omega) hh) fun v1 h1 => .fork (fun _ => .some (by simp)) fun _ => .bnd (s_ChooseAnswer_ok hv ht (by omega) h1) fun v2 h2 => .fork (fun _ => .some (by simp)) fun _ =>
    .bnd (s_FitsHello_ok hh' (h2.le (by omega))) fun v3 _ => .fork (fun _ => .some (by simp)) fun _ => .bnd (s_HelloBytes_ok hh) fun v4 h4 => .bnd (s_AnswerBytes_ok h2) fun v5 h5 =>
    .bnd (s_FinishOf_ok (by simp) (two_mem h4 h5)) fun v6 _ => .fork (fun _ => .some (by simp)) fun _ => .bnd (s_HelloBytes_ok h1) fun v7 h7 => .bnd (s_AnswerBytes_ok h2) fun v8 h8 => .bnd (s_FinishOf_ok (by simp) (two_mem h7 h8)) fun v9 _ =>
    .fork (fun _ => .some (by simp)) fun _ => ?_
  rw [s_TagsOf_eq (Nat.le_trans h2.1 (by omega)), bnd_some']
  exact .some (by simpa using h2.1)

omit hp in
theorem s_GivenUp_ok {a b : HelloV} (ha : smH 100 a) (hb : smH 100 b) : Tot (s_GivenUp a b) fun r => r.length ≤ 200 := by
  have h1 := ha.1; have h2 := ha.2.1; have h3 := hb.1; have h4 := hb.2.1
  unfold s_GivenUp
  rw [s_l21Left_eq (by omega) (by omega), bnd_some']
  have hf : (a.Versions.filter fun x => !(b.Versions.contains x)).length ≤ 100 := Nat.le_trans (List.length_filter_le _ _) h1
  generalize (a.Versions.filter fun x => !(b.Versions.contains x)) = l0 at hf
  refine .bnd (P := fun r => r.length ≤ 200) ?_ fun y hy => .some hy
  unfold s_GivenUp_L0
  refine loopTot (P := Int × List Int) (fun q => (a.Exts.length - q.1).toNat) (fun q => (0 ≤ q.1 ∧ q.1 ≤ a.Exts.length) ∧ (q.2.length : Int) ≤ 100 + q.1) (fun q hq => ?_) (by simp; omega) ⟨by simp, by simp only; omega⟩
  obtain ⟨i, acc⟩ := q
  simp only at hq
  simp only [s_GivenUp_W0, s_GivenUp_B0]
  refine .fork (fun hf => ?_) fun _ => .ex (by omega)
  have hf := of_decide_eq_true hf
  rw [w64_id (x := i + 1) (by omega)]
  refine .need (by omega) (.bnd (s_ExtOf_ok (by omega)) fun v _ => .fork (fun _ => .need (by omega) (.bnd (Tot.true (s_l1In_eq _ _ _)) fun v _ => .fork (fun _ => .need (by omega) (.need (by simp only [List.length_cons, List.length_nil]; omega) (.nx ?_))) fun _ => .nx ?_)) fun _ => .nx ?_)
  · exact ⟨⟨by simp only; omega, by simp only [List.length_append, List.length_cons, List.length_nil]; omega⟩, by simp only; omega⟩
  · exact ⟨⟨by simp only; omega, by simp only; omega⟩, by simp only; omega⟩
  · exact ⟨⟨by simp only; omega, by simp only; omega⟩, by simp only; omega⟩

theorem s_Dial_ok {h : HelloV} {vs ts : List Int} {k : Int} (hh : smH 100 h) (hv : vs.length ≤ 1000) (ht : ts.length ≤ 1000) : Tot (s_Dial h p vs ts k) fun r => bdD 200 r := by
  unfold s_Dial
  refine .bnd (s_HelloFor_ok hp (by omega) hh) fun v1 h1 => .fork (fun _ => .some ⟨by simp, by simp⟩) fun _ => .bnd (s_DialOnce_ok hp h1 hv ht) fun v2 h2 => .bnd (s_GivenUp_ok hh h1) fun v3 h3 => .some ⟨by simp only; omega, h3⟩

omit hp
theorem s_PickOf_ok (s pl n : Int) : Tot (s_PickOf s pl n) fun r => 1 ≤ n → n ≤ 1000000000000 → 0 ≤ r ∧ r < n := by
  unfold s_PickOf
  refine .fork (fun h => .some fun h1 => by have := of_decide_eq_true h; omega) fun _ => .bnd (s_Hash_ok (by simp)) fun v _ => .bnd (s_Mod_ok v n) fun v2 h2 => .some fun h1 h3 => h2 (inR_iff.2 ⟨h1, h3⟩)

theorem s_GreaseTag_ok (s : Int) : Tot (s_GreaseTag s) fun _ => True := by
  unfold s_GreaseTag
  exact .bnd (s_PickOf_ok _ _ _) fun _ _ => .some trivial

theorem s_AddGrease_ok {l : List ExtV} {s : Int} {n : Nat} (hn : n ≤ 900) (h2 : 2 ≤ n) (h : smX n l) : Tot (s_AddGrease l s) fun r => smX (n + 1) r := by
  have h1 := h.1
  have hw := h.le (n := n + 1) (by omega)
  unfold s_AddGrease
  refine .bnd (s_GreaseTag_ok s) fun t _ => ?_
  rw [s_l11Copy_eq (h.le (by omega)), bnd_some']
  refine .bnd (s_AreExts_ok (h.le (by omega))) fun _ _ => .fork (fun _ => .some hw) fun _ => .fork (fun _ => .some hw) fun _ => .bnd (s_ExtOf_ok (by omega)) fun _ _ => .fork (fun _ => .some hw) fun _ => .bnd (s_PickOf_ok _ _ _) fun v5 h5 => ?_
  have h5 := h5 (by omega) (by omega)
  refine .bnd (P := fun r => r.length ≤ 2) ?_ fun v8 h8 => .bnd (s_PickOf_ok _ _ _) fun v9 h9 => ?_
  · unfold s_AddGrease_L0
    refine loopTot (P := Int × List Int) (fun q => q.1.toNat) (fun q => 0 ≤ q.1 ∧ (q.2.length : Int) + q.1 ≤ 2) (fun q hq => ?_) (by simp only; omega) ⟨h5.1, by simp only [List.length_nil]; omega⟩
    obtain ⟨i, acc⟩ := q
    simp only at hq
    simp only [s_AddGrease_W0, s_AddGrease_B0]
    refine .fork (fun hf => ?_) fun _ => .ex (by omega)
    have hf := of_decide_eq_true hf
    rw [w64_id (x := i - 1) (by omega)]
    refine .bnd (s_PickOf_ok _ _ _) fun v _ => .need (by simp only [List.length_cons, List.length_nil]; omega) (.nx ?_)
    exact ⟨⟨by simp only; omega, by simp only [List.length_append, List.length_cons, List.length_nil]; omega⟩, by simp only; omega⟩
  · rw [w64_id (by omega)] at h9
    have h9 := h9 (by omega) (by omega)
    have ht : (l.take v9.toNat).length ≤ n := by rw [List.length_take]; omega
    have hd : (l.drop v9.toNat).length ≤ n := by rw [List.length_drop]; omega
    have htd : (l.take v9.toNat).length + (l.drop v9.toNat).length = l.length := by rw [List.length_take, List.length_drop]; omega
    refine .need (by omega) (.need (by omega) (.need ?_ (.need ?_ (.need (by omega) (.need ?_ (.some ⟨?_, fun e he => ?_⟩))))))
    · simp only [List.length_nil]; omega
    · simp only [List.length_append, List.length_cons, List.length_nil]; omega
    · simp only [List.length_append, List.length_cons, List.length_nil]; omega
    · simp only [List.length_append, List.length_cons, List.length_nil]; omega
    · simp only [List.mem_append, List.mem_singleton, List.not_mem_nil, false_or] at he
      rcases he with (he | he) | he
      · exact hw.2 e (List.mem_of_mem_take he)
      · rw [he]; simp only; omega
      · exact hw.2 e (List.mem_of_mem_drop he)

theorem s_HelloOf_ok {e : EndpointV} {s : Int} (h : bdE 50 e) : Tot (s_HelloOf e s) fun r => smH 100 r := by
  have h1 := h.1; have h2 := h.2.1
  unfold s_HelloOf
  rw [s_IsEndpoint_eq (h.mono (n := 1000000) (by omega)), bnd_some']
  refine .fork (fun _ => .some smH.nil) fun _ => .bnd (P := fun r => smX 50 r) ?_ fun l hl => .need (by simp; omega) (.bnd (s_AddGrease_ok (by omega) (by omega) hl) fun v hv => .some ⟨by simp; omega, hv.le (by omega)⟩)
  unfold s_HelloOf_L0
  refine loopAcc (D := ExtV) e.Tags.length (fun d => d.Body.length ≤ 50) (by omega) fun i acc hi hacc hP hw => ?_
  simp only [s_HelloOf_W0, s_HelloOf_B0]
  refine .fork (fun hf => ?_) fun _ => .ex ⟨by omega, hP⟩
  have hf := of_decide_eq_true hf
  exact .need (by omega) (.need (by simp; omega) (.nx ⟨by omega, hw, acc_app (P := fun d : ExtV => d.Body.length ≤ 50) (by simp)⟩))

theorem s_EndDial_ok {e : EndpointV} {vs ts : List Int} {k s : Int} (h : bdE 50 e) (hv : vs.length ≤ 1000) (ht : ts.length ≤ 1000) : Tot (s_EndDial e vs ts k s) fun r => bdD 200 r := by
  unfold s_EndDial
  rw [s_IsEndpoint_eq (h.mono (n := 1000000) (by omega)), bnd_some']
  exact .fork (fun _ => .some ⟨by simp, by simp⟩) fun _ => .bnd (s_HelloOf_ok h) fun v hh => .bnd (s_Dial_ok (fun b hb => (h.2.2.2 b hb).mono (by omega)) hh hv ht) fun v hv => .some hv

theorem s_DialOf_ok {w : WorldV} {i : Int} (h : bdW 50 w) : Tot (s_DialOf w i) fun r => bdD 200 r := by
  have h1 := h.e; have h2 := h.s; have h3 := h.t
  unfold s_DialOf
  rw [w64_id (by omega), s_l1In_eq, bnd_some']
  refine .fork (fun _ => .some ⟨by simp, by simp⟩) fun hf => ?_
  have hf := inR_iff.1 (by simpa using hf)
  have he : bdE 50 (w.Ends.getD i.toNat (dflt (.st .endpoint))) := by
    have hi : i.toNat < w.Ends.length := by omega
    have hg : w.Ends.getD i.toNat (dflt (.st .endpoint)) = w.Ends[i.toNat] := by simp [hi]
    rw [hg]; exact h.es _ (List.getElem_mem hi)
  refine .need (by omega) (.bnd (P := fun _ => True) ?_ fun v _ => .bnd (s_EndDial_ok he (by omega) (by omega)) fun v hv => .some hv)
  unfold s_l33Clip s_Min s_Max
  exact .bnd (P := fun _ => True) (.fork (fun _ => .some trivial) fun _ => .some trivial) fun v _ => .bnd (P := fun _ => True) (.fork (fun _ => .some trivial) fun _ => .some trivial) fun _ _ => .some trivial

end Go.Pi

/- Worlds drawn. -/
namespace Go.Pi

theorem s_l26Copy_eq {r : RolloutV} (h : r.Stages.length ≤ 1000000) : s_l26Copy r = some r := by
  unfold s_l26Copy
  rw [need_of (by simp; omega)]
  simp
theorem s_l32End_eq {e : EndpointV} (h : bdE 1000000 e) : s_l32End e = some e := by
  obtain ⟨h1, h2, h3, h4⟩ := h
  unfold s_l32End
  have : s_l32End_L0 e.Versions e.Tags e.Path e.Class 0 e.Class (([] : List Int) ++ e.Versions) (([] : List Int) ++ e.Tags) big 0 [] = some e.Path := by
    unfold s_l32End_L0
    refine loopC (by omega) (fun i hi acc nx ex hacc hw => ?_) (fun acc nx ex => by simp [s_l32End_W0, s_l32End_B0])
    simp only [s_l32End_W0, s_l32End_B0]
    have hg : e.Path.getD (i : Int).toNat (dflt (.st .box)) = e.Path[i] := by simp [hi]
    obtain ⟨h1, h2⟩ := h4 _ (List.getElem_mem hi)
    rw [hg, decide_eq_true (by omega), fork_true, need_of (by omega), need_of (by simp; omega), need_of (by simp; omega), need_of (by simp; omega), hw]
    simp
  rw [need_of (by simp; omega), need_of (by simp; omega), this]
  simp
theorem s_l32Dialed_eq {d : DialedV} (h : bdD 1000000 d) : s_l32Dialed d = some d := by
  obtain ⟨h1, h2⟩ := h
  unfold s_l32Dialed
  rw [need_of (by simp; omega), need_of (by simp; omega)]
  simp

theorem s_l32Copy_eq {w : WorldV} (h : bdW 1000000 w) : s_l32Copy w = some w := by
  have hs := h.s; have ht := h.t; have he := h.e; have hr := h.r; have hg := h.g; have hl := h.l
  unfold s_l32Copy
  have e0 : s_l32Copy_L0 w.Server w.Tags w.Key w.Ends w.Rollout.Version w.Rollout.Stages w.Rollout.At w.Rollout.Off w.Least w.Percent w.Stage w.Log w.Now w.Hurt w.Reached 0 0 0 false 0 0 0 0 0 w.Key w.Rollout.Version w.Rollout.Stages w.Rollout.At w.Rollout.Off w.Least w.Percent w.Stage w.Log w.Now w.Hurt w.Reached (([] : List Int) ++ w.Server) (([] : List Int) ++ w.Tags) big 0 ([] : List EndpointV) = some w.Ends := by
    unfold s_l32Copy_L0
    refine loopC (by omega) (fun i hi acc nx ex hacc hw => ?_) (fun acc nx ex => by simp [s_l32Copy_W0, s_l32Copy_B0])
    simp only [s_l32Copy_W0, s_l32Copy_B0]
    have hg : w.Ends.getD (i : Int).toNat (dflt (.st .endpoint)) = w.Ends[i] := by simp [hi]
    rw [hg, decide_eq_true (by omega), fork_true, need_of (by omega), s_l32End_eq (h.es _ (List.getElem_mem hi)), bnd_some', need_of (by simp; omega), hw]
  have e1 : s_l32Copy_L1 w.Server w.Tags w.Key w.Ends w.Rollout.Version w.Rollout.Stages w.Rollout.At w.Rollout.Off w.Least w.Percent w.Stage w.Log w.Now w.Hurt w.Reached 0 0 0 false 0 0 0 0 0 w.Key w.Rollout.Version w.Rollout.At w.Rollout.Off w.Least w.Percent w.Log w.Now w.Hurt w.Reached (([] : List Int) ++ w.Server) (([] : List Int) ++ w.Tags) w.Ends w.Rollout.Stages big 0 ([] : List DialedV) = some w.Stage := by
    unfold s_l32Copy_L1
    refine loopC (by omega) (fun i hi acc nx ex hacc hw => ?_) (fun acc nx ex => by simp [s_l32Copy_W1, s_l32Copy_B1])
    simp only [s_l32Copy_W1, s_l32Copy_B1]
    have hg : w.Stage.getD (i : Int).toNat (dflt (.st .dialed)) = w.Stage[i] := by simp [hi]
    rw [hg, decide_eq_true (by omega), fork_true, need_of (by omega), s_l32Dialed_eq (h.gs _ (List.getElem_mem hi)), bnd_some', need_of (by simp; omega), hw]
  have e2 : s_l32Copy_L2 w.Server w.Tags w.Key w.Ends w.Rollout.Version w.Rollout.Stages w.Rollout.At w.Rollout.Off w.Least w.Percent w.Stage w.Log w.Now w.Hurt w.Reached 0 0 0 false 0 0 0 0 0 w.Key w.Rollout.Version w.Rollout.At w.Rollout.Off w.Least w.Percent w.Now w.Hurt w.Reached (([] : List Int) ++ w.Server) (([] : List Int) ++ w.Tags) w.Ends w.Rollout.Stages w.Stage big 0 ([] : List LoggedV) = some w.Log := by
    unfold s_l32Copy_L2
    refine loopC (by omega) (fun i hi acc nx ex hacc hw => ?_) (fun acc nx ex => by simp [s_l32Copy_W2, s_l32Copy_B2])
    simp only [s_l32Copy_W2, s_l32Copy_B2]
    have hg : w.Log.getD (i : Int).toNat (dflt (.st .logged)) = w.Log[i] := by simp [hi]
    rw [hg, decide_eq_true (by omega), fork_true, need_of (by omega), need_of (by omega), need_of (by omega), need_of (by omega), s_l32Dialed_eq (h.ls _ (List.getElem_mem hi)), bnd_some', need_of (by simp; omega), hw]
  rw [need_of (by simp; omega), need_of (by simp; omega), e0, bnd_some', s_l26Copy_eq h.r, bnd_some', e1, bnd_some', e2]
  simp

theorem s_DialOf_ok' {w : WorldV} {i : Int} (h1 : w.Ends.length ≤ 50) (h2 : w.Server.length ≤ 1000) (h3 : w.Tags.length ≤ 1000) (h4 : ∀ e ∈ w.Ends, bdE 50 e) : Tot (s_DialOf w i) fun r => bdD 200 r := by
  unfold s_DialOf
  rw [w64_id (by omega), s_l1In_eq, bnd_some']
  refine .fork (fun _ => .some ⟨by simp, by simp⟩) fun hf => ?_
  have hf := inR_iff.1 (by simpa using hf)
  have he : bdE 50 (w.Ends.getD i.toNat (dflt (.st .endpoint))) := by
    have hi : i.toNat < w.Ends.length := by omega
    have hg : w.Ends.getD i.toNat (dflt (.st .endpoint)) = w.Ends[i.toNat] := by simp [hi]
    rw [hg]; exact h4 _ (List.getElem_mem hi)
  refine .need (by omega) (.bnd (P := fun _ => True) ?_ fun v _ => .bnd (s_EndDial_ok he (by omega) (by omega)) fun v hv => .some hv)
  unfold s_l33Clip s_Min s_Max
  exact .bnd (P := fun _ => True) (.fork (fun _ => .some trivial) fun _ => .some trivial) fun v _ => .bnd (P := fun _ => True) (.fork (fun _ => .some trivial) fun _ => .some trivial) fun _ _ => .some trivial

theorem s_NewWorld_eq {s t : List Int} {es : List EndpointV} {r : RolloutV} (h : bdW 1000000 ⟨s, t, 77, es, r, 4, 25, [], [], 0, 0, 0⟩) (hw : isW ⟨s, t, 77, es, r, 4, 25, [], [], 0, 0, 0⟩ = true) :
    s_NewWorld s t es r = some (⟨s, t, 77, es, r, 4, 25, [], [], 0, 0, 0⟩, true) := by
  unfold s_NewWorld
  rw [s_l32Copy_eq h, bnd_some', s_IsWorld_eq h, bnd_some', hw]
  rfl

theorem isRoll_change {r : RolloutV} {v : Int} (h : isRoll r = true) (hv : 1 ≤ v ∧ v ≤ 9) : isRoll ⟨v, r.Stages, 0, r.Off⟩ = true := by
  unfold isRoll at *
  simp only [Bool.and_eq_true, decide_eq_true_eq] at *
  obtain ⟨⟨⟨⟨⟨h1, h2⟩, h3⟩, h4⟩, h5⟩, h6⟩ := h
  exact ⟨⟨⟨⟨⟨h1, inR_iff.2 hv⟩, h3⟩, h4⟩, h5⟩, inR_iff.2 (by omega)⟩

variable {code : List Int} (hcode : code.length ≤ 1048576)
include hcode

theorem l32World_ok {c : CurV} (h : Cur code c) : Tot (s_l32World c) fun r => (bdW 10 r.1 ∧ r.1.Ends ≠ []) ∧ Cur code r.2 := by
  unfold s_l32World
  refine .bnd (l1Below_ok hcode h 2) fun v1 h1 => ?_
  have b1 := h1.2.1 (by omega); have c1 := h1.1
  rw [w64_id (x := 2 + v1.1) (by omega)]
  have s1 : Srt 1 9 1 [1] := ⟨by simp, by simp, by simp⟩
  refine .bnd (s1.put (x := 2 + v1.1) (by omega) (by omega)) fun l2 h2 => .bnd (l1Below_ok hcode (c := ⟨c.b, v1.2.i, v1.2.h⟩) ⟨h.1, h1.2.2.2.2⟩ 2) fun v3 h3 => ?_
  have b3 := h3.2.1 (by omega); have c3 := h3.1
  rw [w64_id (x := 4 + v3.1) (by omega)]
  refine .bnd (h2.2.put (x := 4 + v3.1) (by omega) (by omega)) fun l4 h4 => .bnd (l26Draw_ok hcode (c := ⟨c.b, v3.2.i, v3.2.h⟩) ⟨h.1, h3.2.2.2.2⟩) fun v5 h5 => ?_
  have m1 : (1 : Int) ∈ l4 := by rw [h4.1]; exact putL_mem.2 (.inr (by rw [h2.1]; exact putL_mem.2 (.inr (by simp))))
  have n4 := h4.2.n
  have p4 : 0 < l4.length := List.length_pos_iff.2 fun hn => by rw [hn] at m1; simp at m1
  rw [w64_id (x := ((l4.length : Nat) : Int) - 1) (by omega)]
  have mv : l4.getD (((l4.length : Nat) : Int) - 1).toNat (dflt (.int .i64)) ∈ l4 := by
    have hi : (((l4.length : Nat) : Int) - 1).toNat < l4.length := by omega
    rw [List.getD_eq_getElem?_getD, List.getElem?_eq_getElem hi]
    exact List.getElem_mem hi
  generalize l4.getD (((l4.length : Nat) : Int) - 1).toNat (dflt (.int .i64)) = v at mv
  have hv := h4.2.r v mv
  refine .need (by omega) (.bnd (l1Below_ok hcode (c := ⟨c.b, v5.2.i, v5.2.h⟩) ⟨h.1, h5.2.2.2⟩ 4) fun v6 h6 => ?_)
  have b6 := h6.2.1 (by omega); have c6 := h6.1
  rw [w64_id (x := 2 + v6.1) (by omega)]
  have a4 : areV l4 = true := h4.2.areV (by omega) (by omega) (List.length_pos_iff.1 p4)
  refine .bnd (P := fun y => ((y.2.2.length ≤ 5 ∧ 2 ≤ y.2.2.length) ∧ ∀ e ∈ y.2.2, (isEnd e = true ∧ best l4 e.Versions ≠ 0) ∧ bdE 10 e) ∧ 0 ≤ y.1 ∧ y.1 ≤ (code.length : Int)) ?_ fun y hy => .bnd (l17Tags_ok hcode (c := ⟨c.b, y.1, y.2.1⟩) ⟨h.1, hy.2⟩) fun v11 h11 => ?_
  · unfold s_l32World_L0
    refine loopTot (P := Int × Int × Int × List EndpointV) (fun p => p.1.toNat) (fun p => 0 ≤ p.1 ∧ (p.2.2.2.length : Int) + p.1 = 2 + v6.1 ∧ (∀ e ∈ p.2.2.2, (isEnd e = true ∧ best l4 e.Versions ≠ 0) ∧ bdE 10 e) ∧ Cur code ⟨c.b, p.2.1, p.2.2.1⟩) (fun p hp => ?_) (by simp only; omega) ⟨by simp only; omega, by simp, by simp, h.1, h6.2.2.2.2⟩
    obtain ⟨k, i, hh, l⟩ := p
    obtain ⟨hk, hn, hl, hc⟩ := hp
    simp only at hk hn hl hc ⊢
    simp only [s_l32World_W0, s_l32World_B0]
    refine .fork (fun hf => ?_) fun hf => .ex ⟨⟨by have := of_decide_eq_false hf; simp only; omega, hl⟩, hc.2⟩
    have hf := of_decide_eq_true hf
    refine .bnd (l31Draw_ok hcode hc) fun v7 h7 => .bnd (l1Below_ok hcode (c := ⟨c.b, v7.2.i, v7.2.h⟩) ⟨h.1, h7.2.2.2⟩ 2) fun v8 h8 => ?_
    have b8 := h8.2.1 (by omega); have c8 := h8.1
    rw [w64_id (x := 2 + v8.1) (by omega), w64_id (x := k - 1) (by omega)]
    refine .bnd (s1.put (x := 2 + v8.1) (by omega) (by omega)) fun l9 h9 => .need (by simp only [List.length_cons, List.length_nil]; omega) (.nx ?_)
    have m9 : (1 : Int) ∈ l9 := by rw [h9.1]; exact putL_mem.2 (.inr (by simp))
    have a9 : areV l9 = true := h9.2.areV (by omega) (by omega) fun hn => by rw [hn] at m9; simp at m9
    have n9 := h9.2.n
    refine ⟨⟨by simp only; omega, by simp only [List.length_append, List.length_cons, List.length_nil]; omega, fun e he => ?_, h.1, h8.2.2.2.2⟩, by simp only; omega⟩
    simp only [List.mem_append, List.mem_singleton] at he
    rcases he with he | he
    · exact hl e he
    · rw [he]
      exact ⟨⟨isEnd_vers h7.1 a9, best_iff.2.2 ⟨a4, a9, 1, m1, m9⟩⟩, by simp only; omega, h7.2.1.2⟩
  · have n11 := h11.1.n
    have n5 := h5.2.1
    have hb : bdW 10 ⟨l4, v11.1, 77, y.2.2, ⟨v, v5.1.Stages, 0, v5.1.Off⟩, 4, 25, [], [], 0, 0, 0⟩ :=
      ⟨by simp only; omega, by simp only; omega, by have := hy.1.1; simp only; omega, fun e he => (hy.1.2 e he).2, by simp only; omega, by simp, by simp, by simp, by simp⟩
    rw [s_NewWorld_eq (hb.mono (by omega)) ?_, bnd_some']
    · exact .some ⟨⟨hb, List.length_pos_iff.1 (by have := hy.1.1; simp only; omega)⟩, h.1, h11.2.2⟩
    · unfold isW
      have t1 : asc 0 255 v11.1 = true := (h11.1.wid (by omega) (by omega)).asc
      have t2 : reach l4 (y.2.2.map EndpointV.Versions) = true := reach_iff.2 ⟨a4, fun l hl => by
        obtain ⟨e, he, rfl⟩ := List.mem_map.1 hl
        exact (hy.1.2 e he).1.2⟩
      have t3 : y.2.2.all isEnd = true := List.all_eq_true.2 fun e he => (hy.1.2 e he).1.1
      have t4 : l4.contains v = true := by simpa using mv
      simp only [t1, t2, t3, t4, a4, isRoll_change h5.1 hv, Bool.and_true, Bool.true_and]
      have hy1 := hy.1.1
      simp only [Bool.and_eq_true, decide_eq_true_eq]
      refine ⟨⟨⟨⟨⟨⟨⟨⟨rfl, by omega⟩, rfl⟩, rfl⟩, by simp⟩, by simp⟩, rfl⟩, inR_iff.2 (by simp)⟩, inR_iff.2 (by omega)⟩

theorem l12Any_ok {c : CurV} (h : Cur code c) : Tot (s_l12Any c) fun r => r.1.length ≤ 5 ∧ Cur code r.2 := by
  unfold s_l12Any
  refine .bnd (l12Draw_ok hcode h) fun v1 h1 => .bnd (l1Below_ok hcode (c := ⟨c.b, v1.2.i, v1.2.h⟩) ⟨h.1, h1.2.2.2⟩ 9) fun v2 h2 => ?_
  have hc : Cur code ⟨c.b, v2.2.i, v2.2.h⟩ := ⟨h.1, h2.2.2.2.2⟩
  have n1 := h1.1.n
  have p1 := List.length_pos_iff.2 h1.2.1
  refine .fork (fun _ => .bnd (l1Int_ok hcode hc (by simp)) fun v3 h3 => .need (by omega) (.some ⟨by simp; omega, h.1, h3.2.2⟩)) fun _ => .fork (fun _ => .need (by omega) (.need (by simp; omega) (.some ⟨by simp; omega, hc⟩))) fun _ => .fork (fun _ => .some ⟨by simp, hc⟩) fun _ => .some ⟨by simp only; omega, hc⟩

theorem l19Any_ok {c : CurV} (h : Cur code c) : Tot (s_l19Any c) fun r => bdB 10 r.1 ∧ Cur code r.2 := by
  unfold s_l19Any
  refine .bnd (l19Draw_ok hcode h) fun v1 h1 => .bnd (l1Below_ok hcode (c := ⟨c.b, v1.2.i, v1.2.h⟩) ⟨h.1, h1.2.2⟩ 12) fun v2 h2 => ?_
  have hc : Cur code ⟨c.b, v2.2.i, v2.2.h⟩ := ⟨h.1, h2.2.2.2.2⟩
  have hb := h1.1.2
  refine .fork (fun _ => .bnd (l1Int_ok hcode hc (by simp)) fun v3 h3 => .some ⟨hb, h.1, h3.2.2⟩) fun _ => .fork (fun _ => .bnd (l1Int_ok hcode hc (by simp)) fun v4 h4 => .some ⟨⟨by simp, hb.2⟩, h.1, h4.2.2⟩) fun _ => .fork (fun _ => .some ⟨⟨hb.1, by simp⟩, hc⟩) fun _ => .some ⟨hb, hc⟩

theorem l31Any_ok {c : CurV} (h : Cur code c) : Tot (s_l31Any c) fun r => bdE 20 r.1 ∧ Cur code r.2 := by
  unfold s_l31Any
  refine .bnd (l31Draw_ok hcode h) fun v1 h1 => .bnd (l1Below_ok hcode (c := ⟨c.b, v1.2.i, v1.2.h⟩) ⟨h.1, h1.2.2.2⟩ 10) fun v2 h2 => ?_
  have hc : Cur code ⟨c.b, v2.2.i, v2.2.h⟩ := ⟨h.1, h2.2.2.2.2⟩
  have hb := h1.2.1.mono (n := 20) (by omega)
  have hp := h1.2.1.2.2.1
  refine .fork (fun _ => .bnd (l12Any_ok hcode hc) fun v3 h3 => .some ⟨⟨by have := h3.1; simp only; omega, hb.2⟩, h.1, h3.2.2⟩) fun _ => .fork (fun _ => .bnd (l1Int_ok hcode hc (by simp)) fun v4 h4 => .some ⟨⟨hb.1, by simp, hb.2.2⟩, h.1, h4.2.2⟩) fun _ =>
    .fork (fun _ => .some ⟨⟨hb.1, by simp, hb.2.2⟩, hc⟩) fun _ => .fork (fun _ => .bnd (l1Int_ok hcode hc (by simp)) fun v5 h5 => .some ⟨hb, h.1, h5.2.2⟩) fun _ => .fork (fun _ => .bnd (l19Any_ok hcode hc) fun v6 h6 => .need (by simp; omega) (.some ⟨⟨hb.1, hb.2.1, by simp; omega, fun b hbm => ?_⟩, h.1, h6.2.2⟩)) fun _ => .some ⟨hb, hc⟩
  simp only [List.mem_append, List.mem_cons, List.not_mem_nil, or_false] at hbm
  rcases hbm with hbm | hbm | hbm
  · exact hb.2.2.2 b hbm
  · rw [hbm]; exact h6.1.mono (by omega)
  · rw [hbm]; exact ⟨by simp, by simp⟩

theorem l26Any_ok {c : CurV} (h : Cur code c) : Tot (s_l26Any c) fun r => r.1.Stages.length ≤ 10 ∧ Cur code r.2 := by
  unfold s_l26Any
  refine .bnd (l26Draw_ok hcode h) fun v1 h1 => .bnd (l1Below_ok hcode (c := ⟨c.b, v1.2.i, v1.2.h⟩) ⟨h.1, h1.2.2.2⟩ 10) fun v2 h2 => ?_
  have hc : Cur code ⟨c.b, v2.2.i, v2.2.h⟩ := ⟨h.1, h2.2.2.2.2⟩
  have n1 := h1.2.1
  refine .fork (fun _ => .bnd (l1Int_ok hcode hc (by simp)) fun v3 h3 => .some ⟨n1.2, h.1, h3.2.2⟩) fun _ => .fork (fun _ => .bnd (l1Int_ok hcode hc (by simp)) fun v4 h4 => .need (by omega) (.some ⟨by simp; omega, h.1, h4.2.2⟩)) fun _ =>
    .fork (fun _ => .bnd (l1Int_ok hcode hc (by simp)) fun v5 h5 => .some ⟨n1.2, h.1, h5.2.2⟩) fun _ => .fork (fun _ => .some ⟨n1.2, hc⟩) fun _ => .fork (fun _ => .some ⟨by simp, hc⟩) fun _ => .some ⟨n1.2, hc⟩

theorem l32Any_ok {c : CurV} (h : Cur code c) : Tot (s_l32Any c) fun r => bdW 1000 r.1 ∧ Cur code r.2 := by
  unfold s_l32Any
  refine .bnd (l32World_ok hcode h) fun v1 h1 => .bnd (l1Below_ok hcode (c := ⟨c.b, v1.2.i, v1.2.h⟩) ⟨h.1, h1.2.2⟩ 14) fun v2 h2 => ?_
  have hc : Cur code ⟨c.b, v2.2.i, v2.2.h⟩ := ⟨h.1, h2.2.2.2.2⟩
  have b10 := h1.1.1
  have hb := b10.mono (n := 1000) (by omega)
  have hp := List.length_pos_iff.2 h1.1.2
  refine .fork (fun _ => .bnd (l12Any_ok hcode hc) fun v3 h3 => .some ⟨⟨by have := h3.1; simp only; omega, hb.t, hb.e, hb.es, hb.r, hb.g, hb.gs, hb.l, hb.ls⟩, h.1, h3.2.2⟩) fun _ => ?_
  refine .fork (fun _ => .bnd (l1Int_ok hcode hc (by simp)) fun v3 h3 => .some ⟨⟨hb.s, by simp, hb.e, hb.es, hb.r, hb.g, hb.gs, hb.l, hb.ls⟩, h.1, h3.2.2⟩) fun _ => ?_
  refine .fork (fun _ => .bnd (l1Int_ok hcode hc (by simp)) fun v3 h3 => .some ⟨⟨hb.s, hb.t, hb.e, hb.es, hb.r, hb.g, hb.gs, hb.l, hb.ls⟩, h.1, h3.2.2⟩) fun _ => ?_
  refine .fork (fun _ => .bnd (l31Any_ok hcode hc) fun v6 h6 => .need (by omega) (.some ⟨⟨hb.s, hb.t, by simpa using hb.e, fun e he => ?_, hb.r, hb.g, hb.gs, hb.l, hb.ls⟩, h.1, h6.2.2⟩)) fun _ => ?_
  · rcases List.mem_or_eq_of_mem_set he with he | he
    · exact hb.es e he
    · rw [he]; exact h6.1.mono (by omega)
  refine .fork (fun _ => .bnd (l26Any_ok hcode hc) fun v7 h7 => .some ⟨⟨hb.s, hb.t, hb.e, hb.es, by have := h7.1; simp only; omega, hb.g, hb.gs, hb.l, hb.ls⟩, h.1, h7.2.2⟩) fun _ => ?_
  refine .fork (fun _ => .bnd (l1Int_ok hcode hc (by simp)) fun v3 h3 => .some ⟨⟨hb.s, hb.t, hb.e, hb.es, hb.r, hb.g, hb.gs, hb.l, hb.ls⟩, h.1, h3.2.2⟩) fun _ => ?_
  refine .fork (fun _ => .bnd (l1Int_ok hcode hc (by simp)) fun v3 h3 => .some ⟨⟨hb.s, hb.t, hb.e, hb.es, hb.r, hb.g, hb.gs, hb.l, hb.ls⟩, h.1, h3.2.2⟩) fun _ => ?_
  refine .fork (fun _ => .bnd (l1Int_ok hcode hc (by simp)) fun v3 h3 => .some ⟨⟨hb.s, hb.t, hb.e, hb.es, hb.r, hb.g, hb.gs, hb.l, hb.ls⟩, h.1, h3.2.2⟩) fun _ => ?_
  refine .fork (fun _ => .bnd (l1Int_ok hcode hc (by simp)) fun v3 h3 => .some ⟨⟨hb.s, hb.t, hb.e, hb.es, hb.r, hb.g, hb.gs, hb.l, hb.ls⟩, h.1, h3.2.2⟩) fun _ => ?_
  refine .fork (fun _ => ?_) fun _ => .some ⟨hb, hc⟩
  have he : bdE 50 (v1.1.Ends.getD 0 (dflt (.st .endpoint))) := by
    have hg : v1.1.Ends.getD 0 (dflt (.st .endpoint)) = v1.1.Ends[0] := by simp [hp]
    rw [hg]; exact (b10.es _ (List.getElem_mem hp)).mono (by omega)
  refine .need (by omega) (.bnd (s_EndDial_ok he hb.s hb.t) fun v hv => .some ⟨⟨hb.s, hb.t, hb.e, hb.es, hb.r, hb.g, hb.gs, by simp, fun d hd => ?_⟩, hc⟩)
  simp only [List.mem_singleton] at hd
  rw [hd]; exact hv.mono (by omega)

theorem l33World_ok {c : CurV} (h : Cur code c) : Tot (s_l33World c) fun r => bdW 1000 r.1 ∧ Cur code r.2 := by
  unfold s_l33World
  refine .bnd (l32World_ok hcode h) fun v1 h1 => .bnd (l1Below_ok hcode (c := ⟨c.b, v1.2.i, v1.2.h⟩) ⟨h.1, h1.2.2⟩ 9) fun v2 h2 => ?_
  have b10 := h1.1.1
  have hb := b10.mono (n := 1000) (by omega)
  have he := b10.e
  refine .bnd (P := fun y => (y.2.2.length = v1.1.Ends.length ∧ ∀ e ∈ y.2.2, bdE 20 e) ∧ 0 ≤ y.1 ∧ y.1 ≤ (code.length : Int)) ?_ fun y hy => ?_
  · unfold s_l33World_L0
    refine loopTot (P := Int × Int × Int × List EndpointV) (fun p => (v1.1.Ends.length - p.1).toNat) (fun p => ∃ i : Nat, p.1 = (i : Int) ∧ i ≤ v1.1.Ends.length ∧ p.2.2.2.length = v1.1.Ends.length ∧ (∀ e ∈ p.2.2.2, bdE (10 + i) e) ∧ Cur code ⟨c.b, p.2.1, p.2.2.1⟩) (fun p hp => ?_) (by simp; omega) ⟨0, rfl, by omega, rfl, b10.es, h.1, h2.2.2.2.2⟩
    obtain ⟨k, ci, ch, es⟩ := p
    obtain ⟨i, hk, hi, hl, hes, hc⟩ := hp
    simp only at hk hl hes hc ⊢
    subst hk
    simp only [s_l33World_W0, s_l33World_B0]
    refine .fork (fun hf => ?_) fun hf => .ex ⟨⟨hl, fun e he' => (hes e he').mono (by omega)⟩, hc.2⟩
    have hf := of_decide_eq_true hf
    rw [w64_id (x := (i : Int) + 1) (by omega)]
    refine .bnd (l1Once_ok hcode hc 2) fun v3 h3 => ?_
    obtain ⟨e, hem, hg⟩ := getD_ex (xs := es) (i := i) (d := dflt (.st .endpoint)) (by omega)
    rw [hg]
    have hbe := hes e hem
    refine .fork (fun _ => .need (by omega) (.bnd (Tot.eq (l4Put_eq (by have := hbe.1; omega)) (Q := fun r => r.length ≤ e.Versions.length + 1) putL_length) fun v4 h4 => .need (by omega) (.nx ?_))) fun _ => .nx ?_
    · refine ⟨⟨i + 1, by simp only; omega, by omega, by simpa using hl, fun e' he' => ?_, h.1, h3.2⟩, by simp only; omega⟩
      rcases List.mem_or_eq_of_mem_set he' with he' | he'
      · exact (hes e' he').mono (by omega)
      · rw [he']
        have := hbe.1
        exact ⟨by simp only; omega, (hbe.mono (n := 10 + (i + 1)) (by omega)).2⟩
    · exact ⟨⟨i + 1, by simp only; omega, by omega, hl, fun e' he' => (hes e' he').mono (by omega), h.1, h3.2⟩, by simp only; omega⟩
  · refine .bnd (l1Below_ok hcode (c := ⟨c.b, y.1, y.2.1⟩) ⟨h.1, hy.2⟩ _) fun v6 h6 => .bnd (l1Below_ok hcode (c := ⟨c.b, v6.2.i, v6.2.h⟩) ⟨h.1, h6.2.2.2.2⟩ 7) fun v7 h7 => ?_
    have b7 := h7.2.1 (by omega); have c7 := h7.1
    have hg := b10.g
    refine .bnd (P := fun z => (z.2.2.length ≤ 20 ∧ ∀ d ∈ z.2.2, bdD 200 d) ∧ 0 ≤ z.1 ∧ z.1 ≤ (code.length : Int)) ?_ fun z hz => ?_
    · unfold s_l33World_L1
      refine loopTot (P := Int × Int × Int × List DialedV) (fun p => p.1.toNat) (fun p => 0 ≤ p.1 ∧ (p.2.2.2.length : Int) + p.1 ≤ 20 ∧ (∀ d ∈ p.2.2.2, bdD 200 d) ∧ Cur code ⟨c.b, p.2.1, p.2.2.1⟩) (fun p hp => ?_) (by simp only; omega) ⟨c7, by simp only; omega, fun d hd => (b10.gs d hd).mono (by omega), h.1, h7.2.2.2.2⟩
      obtain ⟨k, ci, ch, ds⟩ := p
      obtain ⟨hk, hn, hl, hc⟩ := hp
      simp only at hk hn hl hc ⊢
      simp only [s_l33World_W1, s_l33World_B1]
      refine .fork (fun hf => ?_) fun hf => .ex ⟨⟨by simp only; omega, hl⟩, hc.2⟩
      have hf := of_decide_eq_true hf
      rw [w64_id (x := k - 1) (by omega)]
      refine .bnd (l1Below_ok hcode hc _) fun v8 h8 => .bnd (s_DialOf_ok' (by simp only; omega) hb.s hb.t fun e he => (hy.1.2 e he).mono (by omega)) fun v9 h9 => .need (by simp only [List.length_cons, List.length_nil]; omega) (.nx ?_)
      refine ⟨⟨by simp only; omega, by simp only [List.length_append, List.length_cons, List.length_nil]; omega, fun d hd => ?_, h.1, h8.2.2.2.2⟩, by simp only; omega⟩
      simp only [List.mem_append, List.mem_singleton] at hd
      rcases hd with hd | hd
      · exact hl d hd
      · rw [hd]; exact h9
    · exact .some ⟨⟨hb.s, hb.t, by have := hy.1.1; simp only; omega, fun e he => (hy.1.2 e he).mono (by omega), hb.r, by have := hz.1.1; simp only; omega, fun d hd => (hz.1.2 d hd).mono (by omega), hb.l, hb.ls⟩, h.1, hz.2⟩

theorem draw_ok : Tot (s_DrawEnterStage code) fun w => bdW 1000 w := by
  unfold s_DrawEnterStage
  refine .bnd (l1New_ok hcode) fun v1 h1 => .bnd (l1Once_ok hcode h1 4) fun v2 h2 => .fork (fun _ => ?_) fun _ => ?_
  · exact .bnd (l32Any_ok hcode (c := ⟨v1.b, v2.2.i, v2.2.h⟩) ⟨h1.1, h2.2⟩) fun v3 h3 => .some h3.1
  · exact .bnd (l33World_ok hcode (c := ⟨v1.b, v2.2.i, v2.2.h⟩) ⟨h1.1, h2.2⟩) fun v4 h4 => .some h4.1

omit hcode
theorem FnStages_law (code : List Int) : w_FnStages code = some true := by
  by_cases h : code.length ≤ 1048576
  · obtain ⟨w, hd, hw⟩ := draw_ok h
    exact law_eq h hd hw
  · unfold w_FnStages
    rw [big_eq, bnd_some', decide_eq_true (by omega)]; rfl

end Go.Pi
