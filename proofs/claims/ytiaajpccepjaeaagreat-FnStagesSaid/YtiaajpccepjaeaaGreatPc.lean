/- A proved interpreter for the model's code, and what it shows of the program's functions: part 3 (EE EF EG). No condition. -/
import Derived.Test.YtiaajpccepjaeaaGreatPb
set_option linter.unusedVariables false
set_option linter.unusedSimpArgs false
/- Loops by their own functions, told over typed values. -/
namespace Go.Pi
noncomputable section

/-- Tuples. -/
@[reducible] def Tup {ι : Type} (f : ι → Type) : List ι → Type
  | [] => Unit
  | [a] => f a
  | a :: b :: as => f a × Tup f (b :: as)

/-- What a payload's part is. -/
inductive LT where
  | v (t : Ty)
  | fn
@[reducible] def LT.den : LT → Type
  | .v t => Go.Pi.den t
  | .fn => FnP

def encP : (t : LT) → t.den → Pay
  | .v t, x => .l ((cells t x).headD (.val undef))
  | .fn, p => .f p
def decP : (t : LT) → Pay → Option t.den
  | .v t, .l x => ofCells t [x]
  | .fn, .f p => some p
  | _, _ => none
theorem decP_ok {t : LT} {x : Pay} {y : t.den} (h : decP t x = some y) : encP t y = x := by
  unfold decP at h
  split at h
  · have := cells_ofCells _ _ _ h
    show Pay.l _ = _
    rw [this]; rfl
  · simp only [Option.some.injEq] at h; subst h; rfl
  · cases h

def enc : (ts : List LT) → Tup LT.den ts → List Pay
  | [], _ => []
  | [t], x => [encP t x]
  | t :: u :: ts, x => encP t x.1 :: enc (u :: ts) x.2
def dec : (ts : List LT) → List Pay → Option (Tup LT.den ts)
  | [], [] => some ()
  | [t], [x] => decP t x
  | t :: u :: ts, x :: xs => match decP t x with
    | some y => match dec (u :: ts) xs with
      | some ys => some (y, ys)
      | none => none
    | none => none
  | _, _ => none
theorem dec_ok : ∀ {ts : List LT} {xs : List Pay} {y : Tup LT.den ts}, dec ts xs = some y → enc ts y = xs
  | [], [], y, _ => rfl
  | [t], [x], y, h => by
    show [encP t y] = [x]
    rw [decP_ok h]
  | t :: u :: ts, x :: xs, y, h => by
    unfold dec at h
    split at h
    · rename_i y1 h1
      split at h
      · rename_i y2 h2
        simp only [Option.some.injEq] at h; subst h
        show encP t y1 :: enc (u :: ts) y2 = _
        rw [decP_ok h1, dec_ok h2]
      · cases h
    · cases h
  | [], _ :: _, y, h => by cases h
  | [t], [], y, h => by cases h
  | [t], _ :: _ :: _, y, h => by cases h
  | t :: u :: ts, [], y, h => by cases h

/-- A payload out of what stays and what turns. -/
def getP : List Pay → Nat → Pay
  | [], _ => .l (.val undef)
  | x :: _, 0 => x
  | _ :: xs, n + 1 => getP xs n
def merge (ci : List Pay) : List (Option Nat) → List Pay → List Pay
  | [], _ => []
  | some k :: fl, vs => getP ci k :: merge ci fl vs
  | none :: fl, v :: vs => v :: merge ci fl vs
  | none :: fl, [] => .l (.val undef) :: merge ci fl []
def part : List (Option Nat) → List Pay → Option (List (Nat × Pay) × List Pay)
  | [], [] => some ([], [])
  | some k :: fl, x :: xs => match part fl xs with
    | some (is, vs) => some ((k, x) :: is, vs)
    | none => none
  | none :: fl, x :: xs => match part fl xs with
    | some (is, vs) => some (is, x :: vs)
    | none => none
  | _, _ => none
def pairs (ci : List Pay) : List (Nat × Pay) → List (Pay × Pay)
  | [] => []
  | (k, x) :: is => (x, getP ci k) :: pairs ci is
def diag (ci : List Pay) : List (Option Nat) → List (Pay × Pay)
  | [] => []
  | some k :: fl => (getP ci k, getP ci k) :: diag ci fl
  | none :: fl => diag ci fl
def same (l : List (Pay × Pay)) : Prop := ∀ p ∈ l, p.1 = p.2

theorem part_ok {ci : List Pay} : ∀ {fl : List (Option Nat)} {xs : List Pay} {is : List (Nat × Pay)} {vs : List Pay}, part fl xs = some (is, vs) → same (pairs ci is) → merge ci fl vs = xs
  | [], [], is, vs, h, _ => rfl
  | some k :: fl, x :: xs, is, vs, h, hs => by
    unfold part at h
    split at h
    · rename_i is' vs' h1
      simp only [Option.some.injEq, Prod.mk.injEq] at h
      obtain ⟨rfl, rfl⟩ := h
      have e := hs (x, getP ci k) (List.mem_cons_self ..)
      simp only at e
      rw [merge, part_ok h1 (fun p hp => hs p (List.mem_cons_of_mem _ hp)), ← e]
    · cases h
  | none :: fl, x :: xs, is, vs, h, hs => by
    unfold part at h
    split at h
    · rename_i is' vs' h1
      simp only [Option.some.injEq, Prod.mk.injEq] at h
      obtain ⟨rfl, rfl⟩ := h
      rw [merge, part_ok h1 hs]
    · cases h
  | [], _ :: _, is, vs, h, _ => by cases h
  | some k :: fl, [], is, vs, h, _ => by cases h
  | none :: fl, [], is, vs, h, _ => by cases h
theorem diag_same {ci : List Pay} : ∀ fl : List (Option Nat), same (diag ci fl)
  | [] => fun p hp => by cases hp
  | some k :: fl => fun p hp => by
    rcases List.mem_cons.1 hp with rfl | hp
    · rfl
    · exact diag_same fl p hp
  | none :: fl => diag_same fl

/-- A way out of a loop. -/
structure XS where
  e : Exit
  sh : Shp
  fl : List (Option Nat)
  ts : List LT

def XT : List XS → List (List LT)
  | [] => []
  | x :: xs => x.ts :: XT xs
@[reducible] def SumT : List (List LT) → Type
  | [] => Empty
  | [a] => Tup LT.den a
  | a :: b :: r => Tup LT.den a ⊕ SumT (b :: r)
@[reducible] def XD : List XS → Type
  | [] => Empty
  | [x] => Tup LT.den x.ts
  | x :: y :: r => Tup LT.den x.ts ⊕ XD (y :: r)

def eqE : Exit → Exit → Bool
  | .ret, .ret => true
  | .exit a, .exit b => Nat.beq a b
  | _, _ => false
theorem eqE_ok {a b : Exit} (h : eqE a b = true) : a = b := by
  unfold eqE at h
  split at h
  · rfl
  · rw [Nat.eq_of_beq_eq_true h]
  · cases h

def exX {R : Type} (ci : List Pay) : (xs : List XS) → Exit → St → (List (Pay × Pay) → XD xs → Option R) → Option R
  | [], _, _, _ => none
  | [x], e, σ, ex => match eqE x.e e with
    | true => match canon x.sh σ with
      | some pl => match part x.fl pl with
        | some (is, vs) => match dec x.ts vs with
          | some p => ex (pairs ci is) p
          | none => none
        | none => none
      | none => none
    | false => none
  | x :: y :: r, e, σ, ex => match eqE x.e e with
    | true => match canon x.sh σ with
      | some pl => match part x.fl pl with
        | some (is, vs) => match dec x.ts vs with
          | some p => ex (pairs ci is) (.inl p)
          | none => none
        | none => none
      | none => none
    | false => exX ci (y :: r) e σ fun q s => ex q (.inr s)

/-- What is checked where a loop is left. -/
def diagX (ci : List Pay) : (xs : List XS) → XD xs → List (Pay × Pay)
  | [], _ => []
  | [x], _ => diag ci x.fl
  | x :: y :: r, s => @Sum.rec _ _ (fun _ => List (Pay × Pay)) (fun _ => diag ci x.fl) (fun s => diagX ci (y :: r) s) s

/-- By which exit, and in which state. -/
def outX {R : Type} (ci : List Pay) : (xs : List XS) → XD xs → (Exit → St → Option R) → Option R
  | [], _, _ => none
  | [x], s, k => k x.e (fillSt x.sh (merge ci x.fl (enc x.ts s)))
  | x :: y :: r, s, k => @Sum.rec _ _ (fun _ => Option R) (fun v => k x.e (fillSt x.sh (merge ci x.fl (enc x.ts v)))) (fun v => outX ci (y :: r) v k) s

structure LoopS where
  sh : Shp
  fl : List (Option Nat)
  cs : List LT
  ts : List LT
  xs : List XS

def exBack {R : Type} (sp : LoopS) (ci : List Pay) (nx : List (Pay × Pay) → Tup LT.den sp.ts → Option R) (ex : List (Pay × Pay) → XD sp.xs → Option R) (e : Exit) (σ : St) : Option R :=
  match e with
  | .normal => match canon sp.sh σ with
    | some pl => match part sp.fl pl with
      | some (is, vs) => match dec sp.ts vs with
        | some p => nx (pairs ci is) p
        | none => none
      | none => none
    | none => none
  | e => exX ci sp.xs e σ ex

abbrev LoopB (sp : LoopS) := (R : Type) → Tup LT.den sp.cs → Tup LT.den sp.ts → (Tup LT.den sp.ts → Option R) → (XD sp.xs → Option R) → Option R

def loopF {c p x : Type} (B : c → p → (p → Option x) → (x → Option x) → Option x) (a : c) : Nat → p → Option x
  | 0, _ => none
  | n + 1, y => B a y (loopF B a n) some

/-- Rounds enough. -/
def big : Nat := 9223372036854775807

variable {P : Program} {T : Tab}

def BodyOk (T : Tab) {N : Nat × Nat} {body : Code} (E : Env P N body) (pos : List Nat) (sp : LoopS) (B : LoopB sp) : Prop :=
  ∀ (R : Type) (c : Tup LT.den sp.cs) (p : Tup LT.den sp.ts) (nx : List (Pay × Pay) → Tup LT.den sp.ts → Option R) (ex : List (Pay × Pay) → XD sp.xs → Option R),
    exCode T E (codeAt body (0 :: pos)) (0 :: pos) (fillSt sp.sh (merge (enc sp.cs c) sp.fl (enc sp.ts p))) [] (fun e σ _ => exBack sp (enc sp.cs c) nx ex e σ) =
      B R c p (nx (diag (enc sp.cs c) sp.fl)) (fun s => ex (diagX (enc sp.cs c) sp.xs s) s)

/-- A loop has run. -/
def Left (P : Program) (N : Nat × Nat) (c : Code) (ci : List Pay) (σ : St) : (xs : List XS) → XD xs → Prop
  | [], _ => False
  | [x], s => LoopRuns P N c σ x.e (fillSt x.sh (merge ci x.fl (enc x.ts s)))
  | x :: y :: r, s => @Sum.rec _ _ (fun _ => Prop) (fun v => LoopRuns P N c σ x.e (fillSt x.sh (merge ci x.fl (enc x.ts v)))) (fun v => Left P N c ci σ (y :: r) v) s

theorem Left.map {N : Nat × Nat} {c : Code} {ci : List Pay} {σ σ' : St} (f : ∀ e τ, LoopRuns P N c σ e τ → LoopRuns P N c σ' e τ) : ∀ {xs : List XS} {s : XD xs}, Left P N c ci σ xs s → Left P N c ci σ' xs s
  | [], s, h => h
  | [x], s, h => f _ _ h
  | x :: y :: r, .inl v, h => f _ _ h
  | x :: y :: r, .inr v, h => Left.map (xs := y :: r) f h

theorem Left.out {N : Nat × Nat} {c : Code} {ci : List Pay} {σ : St} {R : Type} {k : Exit → St → Option R} {r : R} : ∀ {xs : List XS} {s : XD xs}, Left P N c ci σ xs s → outX ci xs s k = some r → ∃ e τ, LoopRuns P N c σ e τ ∧ k e τ = some r
  | [], s, h, _ => h.elim
  | [x], s, h, h' => ⟨_, _, h, h'⟩
  | x :: y :: r, .inl v, h, h' => ⟨_, _, h, h'⟩
  | x :: y :: r, .inr v, h, h' => Left.out (xs := y :: r) h h'

theorem exX_ok {N : Nat × Nat} {c : Code} {ci : List Pay} {σ0 σ : St} {e : Exit} (hr : Runs P N c σ0 e σ) (he : e ≠ .normal) {R : Type} {r : R} : ∀ {xs : List XS} {ex : List (Pay × Pay) → XD xs → Option R}, exX ci xs e σ ex = some r →
    ∃ q s, ex q s = some r ∧ (same q → Left P N c ci σ0 xs s)
  | [], ex, h => by cases h
  | [x], ex, h => by
    unfold exX at h
    split at h
    · rename_i hx
      split at h
      · rename_i pl h1
        split at h
        · rename_i is vs h2
          split at h
          · rename_i p h3
            refine ⟨_, p, h, fun hs => ?_⟩
            have e1 := part_ok h2 hs
            have e2 := dec_ok h3
            show LoopRuns P N c σ0 x.e (fillSt x.sh (merge ci x.fl (enc x.ts p)))
            rw [e2, e1, eqE_ok hx]
            refine .stop (fun C hC g a w hr0 => wp_mono (hr C hC g a w hr0) ?_) he
            rintro e' a' w' ⟨rfl, g', hr'⟩
            exact ⟨rfl, canon_ok h1 hr'⟩
          · cases h
        · cases h
      · cases h
    · cases h
  | x :: y :: xs, ex, h => by
    unfold exX at h
    split at h
    · rename_i hx
      split at h
      · rename_i pl h1
        split at h
        · rename_i is vs h2
          split at h
          · rename_i p h3
            refine ⟨_, .inl p, h, fun hs => ?_⟩
            have e1 := part_ok h2 hs
            have e2 := dec_ok h3
            show LoopRuns P N c σ0 x.e (fillSt x.sh (merge ci x.fl (enc x.ts p)))
            rw [e2, e1, eqE_ok hx]
            refine .stop (fun C hC g a w hr0 => wp_mono (hr C hC g a w hr0) ?_) he
            rintro e' a' w' ⟨rfl, g', hr'⟩
            exact ⟨rfl, canon_ok h1 hr'⟩
          · cases h
        · cases h
      · cases h
    · obtain ⟨q, s, h1, h2⟩ := exX_ok hr he h
      exact ⟨q, .inr s, h1, h2⟩

theorem loopF_ok (H : TabOk P T) (hB : ∀ t e, T.elem t = some e → 0 < T.bytes e) (hm : P.follows .mixedOrders = true) {N : Nat × Nat} {body : Code} {E : Env P N body} {pos : List Nat} {sp : LoopS} {B : LoopB sp} (hb : BodyOk T E pos sp B) {c : Tup LT.den sp.cs} :
    ∀ {n : Nat} {p : Tup LT.den sp.ts} {s : XD sp.xs}, loopF (B _) c n p = some s → Left P N (codeAt body (0 :: pos)) (enc sp.cs c) (fillSt sp.sh (merge (enc sp.cs c) sp.fl (enc sp.ts p))) sp.xs s
  | 0, p, s, h => by cases h
  | n + 1, p, s, h => by
    classical
    have h0 := hb (XD sp.xs) c p (fun q p' => if same q then loopF (B _) c n p' else none) (fun q s => if same q then some s else none)
    rw [show (fun p' => if same (diag (enc sp.cs c) sp.fl) then loopF (B _) c n p' else none) = loopF (B _) c n from by funext p'; rw [if_pos (diag_same _)]] at h0
    have hd : ∀ (xs : List XS) (s : XD xs), same (diagX (enc sp.cs c) xs s) := by
      intro xs
      induction xs with
      | nil => intro s; cases s
      | cons x xs ih =>
        cases xs with
        | nil => intro s; exact diag_same _
        | cons y r =>
          intro s
          cases s with
          | inl v => exact diag_same _
          | inr v => exact ih v
    rw [show (fun s => if same (diagX (enc sp.cs c) sp.xs s) then some s else none) = some from by funext s; rw [if_pos (hd _ _)]] at h0
    have h0 := h0.trans (show B _ c p (loopF (B _) c n) some = some s from h)
    obtain ⟨e, σ', kn', h1, _, h3⟩ := exCode_ok H hB hm rfl (fun t v ht => by cases ht) h0
    unfold exBack at h3
    split at h3
    · split at h3
      · rename_i pl g1
        split at h3
        · rename_i is vs g2
          split at h3
          · rename_i p' g3
            dsimp only at h3
            split at h3
            · rename_i hs
              have e1 := part_ok g2 hs
              have e2 := dec_ok g3
              have ih := loopF_ok H hB hm hb h3
              rw [e2, e1] at ih
              refine ih.map fun e τ hl => .next (fun C hC g a w hr0 => wp_mono (h1 C hC g a w hr0) ?_) hl
              rintro e' a' w' ⟨rfl, g', hr'⟩
              exact ⟨rfl, canon_ok g1 hr'⟩
            · cases h3
          · cases h3
        · cases h3
      · cases h3
    · rename_i hne
      obtain ⟨q, s', g1, g2⟩ := exX_ok h1 (fun e => hne e) h3
      split at g1
      · rename_i hs
        simp only [Option.some.injEq] at g1
        subst g1
        exact g2 hs
      · cases g1

def eqN : List Nat → Nat → Bool
  | [], _ => true
  | a :: as, n => match Nat.beq a n with
    | true => eqN as (n + 1)
    | false => false
def fsts : List (Nat × Pay) → List Nat
  | [] => []
  | x :: xs => x.1 :: fsts xs
def snds : List (Nat × Pay) → List Pay
  | [] => []
  | x :: xs => x.2 :: snds xs

theorem snds_get : ∀ {is : List (Nat × Pay)} {n : Nat}, eqN (fsts is) n = true → ∀ j x, is[j]? = some x → x.1 = n + j ∧ getP (snds is) j = x.2
  | [], n, h, j, x, hx => by simp at hx
  | i :: is, n, h, j, x, hx => by
    unfold fsts eqN at h
    split at h
    · rename_i he
      match j with
      | 0 =>
        simp only [List.getElem?_cons_zero, Option.some.injEq] at hx
        subst hx
        exact ⟨Nat.eq_of_beq_eq_true he, rfl⟩
      | j + 1 =>
        obtain ⟨h1, h2⟩ := snds_get h j x (by simpa using hx)
        exact ⟨by omega, h2⟩
    · cases h

theorem snds_same {is : List (Nat × Pay)} (h : eqN (fsts is) 0 = true) : same (pairs (snds is) is) := by
  have key : ∀ (l : List (Nat × Pay)), (∀ x ∈ l, getP (snds is) x.1 = x.2) → same (pairs (snds is) l) := by
    intro l
    induction l with
    | nil => intro _ p hp; cases hp
    | cons x l ih =>
      intro hx p hp
      obtain ⟨k, y⟩ := x
      rcases List.mem_cons.1 hp with rfl | hp
      · exact (hx (k, y) (List.mem_cons_self ..)).symm
      · exact ih (fun z hz => hx z (List.mem_cons_of_mem _ hz)) p hp
  refine key is fun x hx => ?_
  obtain ⟨j, hj, rfl⟩ := List.mem_iff_getElem.1 hx
  obtain ⟨h1, h2⟩ := snds_get h j _ (List.getElem?_eq_getElem hj)
  rw [h1, Nat.zero_add]; exact h2

/-- The entry of a loop. -/
def LoopE.of (H : TabOk P T) (hB : ∀ t e, T.elem t = some e → 0 < T.bytes e) (hm : P.follows .mixedOrders = true) {N : Nat × Nat} {body : Code} (E : Env P N body) (pos : List Nat) (hc : codeAt body pos = .loop (codeAt body (0 :: pos))) (sp : LoopS) (B : LoopB sp) (hb : BodyOk T E pos sp B) : LoopE P N (codeAt body pos) where
  A := Tup LT.den sp.cs × Tup LT.den sp.ts
  can σ := match canon sp.sh σ with
    | some pl => match part sp.fl pl with
      | some (is, vs) => match eqN (fsts is) 0 with
        | true => match dec sp.cs (snds is) with
          | some c => match dec sp.ts vs with
            | some p => some (c, p)
            | none => none
          | none => none
        | false => none
      | none => none
    | none => none
  call a k := bnd (loopF (B _) a.1 big a.2) fun s => outX (enc sp.cs a.1) sp.xs s k
  ok {R σ pl κ r} h1 h2 := by
    split at h1
    · rename_i py g1
      split at h1
      · rename_i is vs g2
        split at h1
        · rename_i g3
          split at h1
          · rename_i c g4
            split at h1
            · rename_i p g5
              simp only [Option.some.injEq] at h1
              subst h1
              obtain ⟨s, h3, h4⟩ := bnd_some h2
              have e1 := dec_ok g4
              have e2 := dec_ok g5
              have e3 := part_ok g2 (snds_same g3)
              have hl := loopF_ok H hB hm hb h3
              rw [e2] at hl
              rw [e1] at hl h4
              rw [e3] at hl
              obtain ⟨e, τ, h5, h6⟩ := hl.out h4
              refine ⟨e, τ, fun C hC g a w hr => ?_, h6⟩
              obtain ⟨g', hr'⟩ := canon_ok g1 hr
              rw [hc]
              exact h5.ok C hC g' a w hr'
            · cases h1
          · cases h1
        · cases h1
      · cases h1
    · cases h1

end
end Go.Pi

/- Functions by their own functions, told over typed values. -/
namespace Go.Pi
noncomputable section

/-- A parameter. -/
inductive PM where
  | v (t : Ty) | ptr (t : Ty) | rptr (t : Ty) | mv (t : Ty) | fn
@[reducible] def PM.den : PM → Type
  | .v t => Go.Pi.den t
  | .ptr t => Go.Pi.den t
  | .rptr t => Go.Pi.den t
  | .mv t => Go.Pi.den t
  | .fn => FnP
def PM.ad : (p : PM) → p.den → AD
  | .v t, x => .v (isAgg t, cells t x)
  | .ptr t, x => .ptr (cells t x) (cells t x)
  | .rptr t, x => .rptr (cells t x)
  | .mv t, x => .mv (isAgg t, cells t x)
  | .fn, p => .fn p
def PM.md : PM → Md
  | .v _ => .v
  | .ptr _ => .ptr
  | .rptr _ => .v
  | .mv _ => .mv
  | .fn => .fn
def adsT : (ps : List PM) → Tup PM.den ps → List AD
  | [], _ => []
  | [p], x => [p.ad x]
  | p :: q :: ps, x => p.ad x.1 :: adsT (q :: ps) x.2
def mds : List PM → List Md
  | [] => []
  | p :: ps => p.md :: mds ps
def ptrTs : List PM → List Ty
  | [] => []
  | .ptr t :: ps => t :: ptrTs ps
  | _ :: ps => ptrTs ps

/-- Boxes behind the call. -/
def behind : List AD → List Cn → List AD
  | [], _ => []
  | .ptr pre _ :: as, q :: qs => .ptr pre q.2 :: behind as qs
  | a :: as, qs => a :: behind as qs
def hows : List AD → List Cn → List How
  | [], _ => []
  | .ptr _ _ :: as, q :: qs => .ptr q.2 :: hows as qs
  | .ptr pre _ :: as, [] => .ptr pre :: hows as []
  | .v _ :: as, qs => .ro :: hows as qs
  | .mv _ :: as, qs => .mv :: hows as qs
  | .fn p :: as, qs => .fn p :: hows as qs
  | .rptr _ :: as, qs => .ro :: hows as qs
  | .mut _ _ :: as, qs => .ro :: hows as qs

def cnsT : (ts : List Ty) → Tup den ts → List Cn
  | [], _ => []
  | [t], x => [(isAgg t, cells t x)]
  | t :: u :: ts, x => (isAgg t, cells t x.1) :: cnsT (u :: ts) x.2
def ofCn (t : Ty) (x : Cn) : Option (den t) := match x.1 == isAgg t with
  | true => ofCells t x.2
  | false => none
theorem ofCn_ok {t : Ty} {x : Cn} {y : den t} (h : ofCn t x = some y) : (isAgg t, cells t y) = x := by
  unfold ofCn at h
  split at h
  · rename_i he
    rw [cells_ofCells _ _ _ h, ← eq_of_beq he]
  · cases h
def decT : (ts : List Ty) → List Cn → Option (Tup den ts)
  | [], [] => some ()
  | [t], [x] => ofCn t x
  | t :: u :: ts, x :: xs => match ofCn t x with
    | some y => match decT (u :: ts) xs with
      | some ys => some (y, ys)
      | none => none
    | none => none
  | _, _ => none
theorem decT_ok : ∀ {ts : List Ty} {xs : List Cn} {y : Tup den ts}, decT ts xs = some y → cnsT ts y = xs
  | [], [], y, _ => rfl
  | [t], [x], y, h => by
    show [(isAgg t, cells t y)] = [x]
    rw [ofCn_ok h]
  | t :: u :: ts, x :: xs, y, h => by
    unfold decT at h
    split at h
    · rename_i y1 h1
      split at h
      · rename_i y2 h2
        simp only [Option.some.injEq] at h; subst h
        show (isAgg t, cells t y1) :: cnsT (u :: ts) y2 = _
        rw [ofCn_ok h1, decT_ok h2]
      · cases h
    · cases h
  | [], _ :: _, y, h => by cases h
  | [t], [], y, h => by cases h
  | [t], _ :: _ :: _, y, h => by cases h
  | t :: u :: ts, [], y, h => by cases h

def rdC : List Cn → RD
  | [x] => .one x
  | xs => .tup xs
def firstC : Nat → List Cn → List Cn
  | 0, _ => []
  | n + 1, x :: xs => x :: firstC n xs
  | _ + 1, [] => []
def restC : Nat → List Cn → List Cn
  | 0, xs => xs
  | n + 1, _ :: xs => restC n xs
  | _ + 1, [] => []
def cat : List Ty → List Ty → List Ty
  | [], b => b
  | a :: as, b => a :: cat as b
def len {α : Type} : List α → Nat
  | [] => 0
  | _ :: as => len as + 1
def catC : List Cn → List Cn → List Cn
  | [], b => b
  | a :: as, b => a :: catC as b

/-- What a function hands back, and its boxes behind the call. -/
abbrev Res (ps : List PM) (rs : List Ty) := Tup den (cat rs (ptrTs ps))

variable {P : Program} {T : Tab}

/-- THE CONTRACT of a function, over typed values. -/
def FnC (P : Program) (k : FuncId) (ps : List PM) (rs : List Ty) (F : Tup PM.den ps → Option (Res ps rs)) : Prop :=
  ∀ (x : Tup PM.den ps) (r : Res ps rs), F x = some r → PCall P k (behind (adsT ps x) (restC (len rs) (cnsT _ r))) (rdC (firstC (len rs) (cnsT _ r)))

/-- Boxes at the end: which slot, which type. -/
def postsR (N : Nat) : Nat → List AD → Q (List Cn)
  | _, [] => .ret []
  | k, .ptr _ _ :: as => .slot k fun
    | .v (false, [.bp ob 0]) => .obj ob fun
      | .box ls => (postQ k 0 ls).bind fun p => (postsR N (k + 1) as).bind fun ps => .ret ((true, p) :: ps)
      | _ => .fail
    | _ => .fail
  | k, _ :: as => postsR N (k + 1) as

def finR (T : Tab) (N : Nat) (as : List AD) (rs : List ResultVar) : Q (List Cn × List Cn) :=
  (postsR N 0 as).bind fun posts => (resQ T rs).bind fun vds => (given (vds.flatMap (·.2))).bind fun (xs, _) => .ret (split vds xs, posts)

/-- Posts bear their types' flags. -/
def flag : List Ty → List Cn → List Cn
  | t :: ts, x :: xs => (isAgg t, x.2) :: flag ts xs
  | _, _ => []

def exFn (T : Tab) (fn : Func) {N : Nat × Nat} {body : Code} (ps : List PM) (rs : List Ty) (x : Tup PM.den ps) (E : Env P N body) : Option (Res ps rs) :=
  exCode T E body [] (St.of (initS fn.ntmps 0 (adsT ps x)) (initO fn.ntmps 0 (adsT ps x))) [] fun e σ _ => match done e with
    | true => match val (finR T fn.ntmps (adsT ps x) fn.results.toList) σ with
      | some (vs, posts) => decT (cat rs (ptrTs ps)) (catC vs (flag (ptrTs ps) posts))
      | none => none
    | false => none

theorem given_len {σ : St} : ∀ {ls : List LV} {x : List Leaf × List Nat}, Ev σ (given ls) x → x.1.length = ls.length
  | [], x, e => by rw [given, Ev_ret] at e; subst e; rfl
  | l :: ls, x, e => by
    cases l with
    | val v =>
      rw [given, Ev_bind] at e
      obtain ⟨⟨ys, os⟩, e1, e⟩ := e
      rw [Ev_ret] at e; subst e
      simp [given_len e1]
    | nil t =>
      rw [given, Ev_bind] at e
      obtain ⟨⟨ys, os⟩, e1, e⟩ := e
      rw [Ev_ret] at e; subst e
      simp [given_len e1]
    | tr o =>
      rw [given, Ev_obj] at e
      obtain ⟨y, hy, e⟩ := e
      split at e
      · rw [Ev_bind] at e
        obtain ⟨⟨ys, os⟩, e1, e⟩ := e
        simp only at e
        split at e
        · exact (Ev_fail.1 e).elim
        · rw [Ev_ret] at e; subst e
          simp [given_len e1]
      · exact (Ev_fail.1 e).elim
    | _ => rw [given] at e <;> first | exact (Ev_fail.1 e).elim | simp

theorem rdOf_split {vds : List VD} {xs : List Leaf} (h : xs.length = (vds.flatMap (·.2)).length) : rdOf vds xs = rdC (split vds xs) := by
  match vds with
  | [] => rfl
  | [vd] =>
    have : xs.take vd.2.length = xs := List.take_of_length_le (by rw [h]; simp)
    show RD.one (vd.1, xs) = rdC [(vd.1, xs.take vd.2.length)]
    rw [this]; rfl
  | v1 :: v2 :: vds => rfl

theorem firstC_cat : ∀ {a b : List Cn}, firstC (len a) (catC a b) = a ∧ restC (len a) (catC a b) = b
  | [], b => ⟨rfl, rfl⟩
  | x :: a, b => by
    obtain ⟨h1, h2⟩ := firstC_cat (a := a) (b := b)
    exact ⟨by show x :: firstC (len a) (catC a b) = _; rw [h1], h2⟩

theorem cnsT_len : ∀ {ts : List Ty} {y : Tup den ts}, len (cnsT ts y) = len ts
  | [], _ => rfl
  | [t], _ => rfl
  | t :: u :: ts, y => by show len (cnsT (u :: ts) y.2) + 1 = _; rw [cnsT_len]; rfl
theorem len_cat : ∀ {a b : List Ty}, len (cat a b) = len a + len b
  | [], b => by simp [cat, len]
  | x :: a, b => by show len (cat a b) + 1 = len a + 1 + len b; rw [len_cat]; omega
theorem len_catC : ∀ {a b : List Cn}, len (catC a b) = len a + len b
  | [], b => by simp [catC, len]
  | x :: a, b => by show len (catC a b) + 1 = len a + 1 + len b; rw [len_catC]; omega
theorem len_flag : ∀ {ts : List Ty} {xs : List Cn}, len ts = len xs → len (flag ts xs) = len xs
  | [], [], _ => rfl
  | t :: ts, x :: xs, h => by
    show len (flag ts xs) + 1 = len xs + 1
    rw [len_flag (by simpa [len] using h)]
  | [], _ :: _, h => by simp [len] at h
  | _ :: _, [], h => by simp [len] at h

inductive PtrT : List AD → List Ty → Prop
  | nil : PtrT [] []
  | ptr {t : Ty} {x : den t} {as ts} (h : PtrT as ts) : PtrT (.ptr (cells t x) (cells t x) :: as) (t :: ts)
  | other {a : AD} {as ts} (ha : isPtr a = false) (h : PtrT as ts) : PtrT (a :: as) ts
inductive FitC : List Ty → List Cn → Prop
  | nil : FitC [] []
  | cons {t : Ty} {y : den t} {ag : Bool} {ts xs} (h : FitC ts xs) : FitC (t :: ts) ((ag, cells t y) :: xs)

theorem ptrT_adsT : ∀ {ps : List PM} {x : Tup PM.den ps}, PtrT (adsT ps x) (ptrTs ps)
  | [], x => .nil
  | [p], x => by
    cases p with
    | ptr t => exact .ptr .nil
    | _ => exact .other rfl .nil
  | p :: q :: ps, x => by
    have ih := ptrT_adsT (ps := q :: ps) (x := x.2)
    cases p with
    | ptr t => exact .ptr ih
    | _ => exact .other rfl ih

theorem fitC_cnsT : ∀ {ts : List Ty} {y : Tup den ts}, FitC ts (cnsT ts y)
  | [], _ => .nil
  | [t], y => .cons .nil
  | t :: u :: ts, y => .cons fitC_cnsT

theorem fitC_rest : ∀ {rs : List Ty} {ts : List Ty} {xs : List Cn}, FitC (cat rs ts) xs → FitC ts (restC (len rs) xs)
  | [], ts, xs, h => h
  | r :: rs, ts, xs, h => by
    cases h with
    | cons h =>
      have := fitC_rest h
      exact this

theorem postsR_na {N : Nat} : ∀ (as : List AD) (k : Nat), (postsR N k as).na
  | [], k => trivial
  | a :: as, k => by
    have pq : ∀ (ls : List LV) (k j : Nat), (postQ k j ls).na := by
      intro ls
      induction ls with
      | nil => intro k j; exact trivial
      | cons l ls ih =>
        intro k j
        cases l with
        | val v => exact na_bind (ih k _) fun _ => trivial
        | fix a b t xs =>
          unfold postQ
          split
          · exact na_bind (ih k _) fun _ => trivial
          · exact trivial
        | _ => exact trivial
    cases a with
    | ptr pre post =>
      intro x
      dsimp only
      split
      · intro y
        dsimp only
        split
        · exact na_bind (pq _ _ _) fun _ => na_bind (postsR_na as (k + 1)) fun _ => trivial
        · exact trivial
      · exact trivial
    | _ => exact postsR_na as (k + 1)

theorem posts_ok {N : Nat} {σ : St} {as : List AD} {ts : List Ty} (hp : PtrT as ts) : ∀ {k : Nat} {qs : List Cn}, Ev σ (postsR N k as) qs → len qs = len ts ∧ (FitC ts (flag ts qs) → Ev σ (postsQ N k (behind as (flag ts qs))) ()) := by
  induction hp with
  | nil =>
    intro k qs e
    rw [postsR, Ev_ret] at e; subst e
    exact ⟨rfl, fun _ => Ev_ret.2 rfl⟩
  | @ptr t x as ts h ih =>
    intro k qs e
    rw [postsR, Ev_slot] at e
    obtain ⟨y, hy, e⟩ := e
    split at e
    · rw [Ev_obj] at e
      obtain ⟨z, hz, e⟩ := e
      split at e
      · rw [Ev_bind] at e
        obtain ⟨p, e1, e⟩ := e
        rw [Ev_bind] at e
        obtain ⟨p2, e2, e⟩ := e
        rw [Ev_ret] at e; subst e
        obtain ⟨i1, i2⟩ := ih e2
        refine ⟨by show len p2 + 1 = len ts + 1; rw [i1], fun hf => ?_⟩
        have hf : FitC (t :: ts) ((isAgg t, p) :: flag ts p2) := hf
        show Ev σ (postsQ N k (.ptr (cells t x) p :: behind as (flag ts p2))) ()
        rw [postsQ, Ev_slot]
        refine ⟨_, hy, ?_⟩
        change Ev σ (.obj _ _) ()
        rw [Ev_obj]
        refine ⟨_, hz, ?_⟩
        change Ev σ (Q.bind _ _) ()
        rw [Ev_bind]
        refine ⟨p, e1, ?_⟩
        rw [Ev_ask]
        cases hf with
        | cons hf => exact ⟨⟨rfl, by rw [cells_length, cells_length]⟩, i2 hf⟩
      · exact (Ev_fail.1 e).elim
    · exact (Ev_fail.1 e).elim
  | @other a as ts ha h ih =>
    intro k qs e
    cases a with
    | ptr pre post => cases ha
    | _ =>
      obtain ⟨i1, i2⟩ := ih (show Ev σ (postsR N (k + 1) as) qs from e)
      exact ⟨i1, fun hf => i2 hf⟩

theorem behind_adOk {as : List AD} {ts : List Ty} (hp : PtrT as ts) : ∀ {qs : List Cn}, as.all adOk = true → (behind as qs).all adOk = true := by
  induction hp with
  | nil => intro qs h; exact h
  | @ptr t x as ts h ih =>
    intro qs hh
    simp only [List.all_cons, Bool.and_eq_true] at hh
    match qs with
    | [] => show (adOk (.ptr _ _) && (behind as []).all adOk) = true; rw [ih hh.2, hh.1]; rfl
    | q :: qs => show (adOk (.ptr _ _) && (behind as qs).all adOk) = true; rw [ih hh.2]; simp only [Bool.and_true]; exact hh.1
  | @other a as ts ha h ih =>
    intro qs hh
    simp only [List.all_cons, Bool.and_eq_true] at hh
    have : behind (a :: as) qs = a :: behind as qs := by
      cases a with
      | ptr => cases ha
      | _ => cases qs <;> rfl
    rw [this, List.all_cons, ih hh.2, hh.1]; rfl
theorem behind_len : ∀ {as : List AD} {qs : List Cn}, (behind as qs).length = as.length ∧ loOf (behind as qs) = loOf as
  | [], qs => by cases qs <;> exact ⟨rfl, rfl⟩
  | a :: as, qs => by
    cases a with
    | ptr pre post =>
      cases qs with
      | nil =>
        obtain ⟨h1, h2⟩ := behind_len (as := as) (qs := [])
        exact ⟨by show (behind as []).length + 1 = _; rw [h1]; rfl, by show loOf (.ptr _ _ :: behind as []) = _; unfold loOf; rw [h2]⟩
      | cons q qs =>
        obtain ⟨h1, h2⟩ := behind_len (as := as) (qs := qs)
        exact ⟨by show (behind as qs).length + 1 = _; rw [h1]; rfl, by show loOf (.ptr _ _ :: behind as qs) = _; unfold loOf; rw [h2]; rfl⟩
    | _ =>
      obtain ⟨h1, h2⟩ := behind_len (as := as) (qs := qs)
      cases qs <;> exact ⟨by show (behind as _).length + 1 = _; rw [h1]; rfl, by show loOf (_ :: behind as _) = _; unfold loOf; rw [h2]⟩
theorem behind_start {N : Nat} : ∀ {as : List AD} {qs : List Cn} {k : Nat}, initS N k (behind as qs) = initS N k as ∧ initO N k (behind as qs) = initO N k as
  | [], qs, k => by cases qs <;> exact ⟨rfl, rfl⟩
  | a :: as, qs, k => by
    cases a with
    | ptr pre post =>
      cases qs with
      | nil =>
        obtain ⟨h1, h2⟩ := behind_start (N := N) (as := as) (qs := []) (k := k + 1)
        exact ⟨by show _ :: initS N (k + 1) (behind as []) = _; rw [h1]; rfl, by show _ ++ initO N (k + 1) (behind as []) = _; rw [h2]; rfl⟩
      | cons q qs =>
        obtain ⟨h1, h2⟩ := behind_start (N := N) (as := as) (qs := qs) (k := k + 1)
        exact ⟨by show _ :: initS N (k + 1) (behind as qs) = _; rw [h1]; rfl, by show _ ++ initO N (k + 1) (behind as qs) = _; rw [h2]; rfl⟩
    | _ =>
      obtain ⟨h1, h2⟩ := behind_start (N := N) (as := as) (qs := qs) (k := k + 1)
      cases qs <;> exact ⟨by show _ :: initS N (k + 1) (behind as _) = _; rw [h1]; rfl, by show _ ++ initO N (k + 1) (behind as _) = _; rw [h2]; rfl⟩

theorem cells_plainAll (t : Ty) (x : den t) : (cells t x).all leafPlain = true := cells_all t x
theorem adsT_ok : ∀ {ps : List PM} {x : Tup PM.den ps}, (adsT ps x).all adOk = true := by
  have one : ∀ (p : PM) (x : p.den), adOk (p.ad x) = true := by
    intro p x
    cases p with
    | mv t =>
      show ((cells t x).all leafPlain && decide ((cells t x).length ≤ 64)) = true
      rw [cells_all, cells_length]
      cases t with
      | st n => cases n <;> rfl
      | _ => rfl
    | fn => rfl
    | _ => exact cells_all _ _
  intro ps
  induction ps with
  | nil => intro x; rfl
  | cons p ps ih =>
    intro x
    cases ps with
    | nil => show (adOk (p.ad x) && true) = true; rw [one]; rfl
    | cons q ps => show (adOk (p.ad x.1) && (adsT (q :: ps) x.2).all adOk) = true; rw [one, ih]; rfl

/-- A FUNCTION'S CONTRACT OUT OF ITS RUN. -/
theorem FnC.of (H : TabOk P T) (hB : ∀ t e, T.elem t = some e → 0 < T.bytes e) (hm : P.follows .mixedOrders = true) {k : FuncId} {fn : Func} {body : Code} {ps : List PM} {rs : List Ty} {F : Tup PM.den ps → Option (Res ps rs)}
    (hf : P.funcs[k]? = some fn) (hn : (fn.name == "runtime.NumGoroutine") = false) (hbody : fn.body = some body) (hN : ∀ x : Tup PM.den ps, decide ((adsT ps x).length ≤ fn.ntmps) = true)
    {N : Nat × Nat} (E : Env P N body) (hNN : ∀ x : Tup PM.den ps, (loOf (adsT ps x), fn.ntmps) = N) (h : ∀ x, exFn T fn ps rs x E = F x) : FnC P k ps rs F := by
  intro x r hr
  rw [← h x] at hr
  unfold exFn at hr
  obtain ⟨e, σ, kn, h1, _, h3⟩ := exCode_ok (c := body) (p := []) (kn := []) H hB hm rfl (fun t v ht => by cases ht) hr
  split at h3
  · rename_i hd
    split at h3
    · rename_i vs posts hv
      have ev := val_ev hv
      unfold finR at ev
      rw [Ev_bind] at ev
      obtain ⟨posts', e1, ev⟩ := ev
      rw [Ev_bind] at ev
      obtain ⟨vds, e2, ev⟩ := ev
      rw [Ev_bind] at ev
      obtain ⟨⟨xs, os⟩, e3, ev⟩ := ev
      rw [Ev_ret] at ev
      simp only [Prod.mk.injEq] at ev
      obtain ⟨rfl, rfl⟩ := ev
      have hc := decT_ok h3
      have hpl := posts_ok (ptrT_adsT (ps := ps) (x := x)) e1
      have hlen : len (split vds xs) = len rs := by
        have := congrArg len hc
        rw [cnsT_len, len_cat, len_catC, len_flag hpl.1.symm] at this
        have := hpl.1
        omega
      have hfc := firstC_cat (a := split vds xs) (b := flag (ptrTs ps) posts')
      rw [hlen] at hfc
      rw [hc, hfc.1, hfc.2]
      have hfit : FitC (ptrTs ps) (flag (ptrTs ps) posts') := by
        have := fitC_rest (rs := rs) (fitC_cnsT (ts := cat rs (ptrTs ps)) (y := r))
        rw [hc, hfc.2] at this
        exact this
      obtain ⟨b1, b2⟩ := behind_len (as := adsT ps x) (qs := flag (ptrTs ps) posts')
      obtain ⟨s1, s2⟩ := behind_start (N := fn.ntmps) (as := adsT ps x) (qs := flag (ptrTs ps) posts') (k := 0)
      refine call_of_runs hf hn hbody H (behind_adOk (ptrT_adsT (ps := ps) (x := x)) adsT_ok) (by rw [b1]; exact of_decide_eq_true (hN x)) (e0 := e) (σf := σ) ?_ hd ?_
      · rw [b2, s1, s2, hNN x]; exact h1
      · unfold finQ
        rw [Ev_bind]
        refine ⟨(), hpl.2 hfit, ?_⟩
        rw [Ev_bind]
        refine ⟨vds, e2, ?_⟩
        rw [Ev_bind]
        refine ⟨(xs, os), e3, ?_⟩
        rw [Ev_ret]
        exact rdOf_split (given_len e3)
    · cases h3
  · cases h3

/-- Typed arguments out of what is handed over. -/
def decA1 : (p : PM) → AD → Option p.den
  | .v t, .v x => ofCn t x
  | .ptr t, .ptr pre _ => ofCells t pre
  | .mv t, .mv x => ofCn t x
  | .fn, .fn p => some p
  | _, _ => none
def decA : (ps : List PM) → List AD → Option (Tup PM.den ps)
  | [], [] => some ()
  | [p], [x] => decA1 p x
  | p :: q :: ps, x :: xs => match decA1 p x with
    | some y => match decA (q :: ps) xs with
      | some ys => some (y, ys)
      | none => none
    | none => none
  | _, _ => none

theorem decA1_ok {p : PM} {x : AD} {y : p.den} (h : decA1 p x = some y) : (∃ t pre q, p = .ptr t ∧ x = .ptr pre q ∧ p.ad y = .ptr pre pre) ∨ (isPtr x = false ∧ (∀ ls, x ≠ .rptr ls) ∧ (∀ a b, x ≠ .mut a b) ∧ p.ad y = x ∧ ∀ t, p ≠ .ptr t) := by
  unfold decA1 at h
  split at h
  · refine .inr ⟨rfl, (fun _ e => by cases e), (fun _ _ e => by cases e), ?_, (fun _ e => by cases e)⟩
    show AD.v _ = _
    rw [ofCn_ok h]
  · refine .inl ⟨_, _, _, rfl, rfl, ?_⟩
    show AD.ptr _ _ = _
    rw [cells_ofCells _ _ _ h]
  · refine .inr ⟨rfl, (fun _ e => by cases e), (fun _ _ e => by cases e), ?_, (fun _ e => by cases e)⟩
    show AD.mv _ = _
    rw [ofCn_ok h]
  · simp only [Option.some.injEq] at h; subst h
    exact .inr ⟨rfl, (fun _ e => by cases e), (fun _ _ e => by cases e), rfl, (fun _ e => by cases e)⟩
  · cases h

theorem hw_cons {p : PM} {x : AD} {y : p.den} (h : decA1 p x = some y) {ps : List PM} {xs as : List AD} {qs : List Cn} (hl : len qs = len (ptrTs (p :: ps))) (ih : ∀ qs, len qs = len (ptrTs ps) → Hw xs (hows xs qs) (behind as qs)) :
    Hw (x :: xs) (hows (x :: xs) qs) (behind (p.ad y :: as) qs) := by
  rcases decA1_ok h with ⟨t, pre, q, rfl, rfl, e⟩ | ⟨h1, h2, h3, e, h4⟩
  · rw [e]
    match qs, hl with
    | c :: qs, hl => exact .ptr (ih qs (by simpa [ptrTs, len] using hl))
  · rw [e]
    have hl' : len qs = len (ptrTs ps) := by
      cases p with
      | ptr t => exact absurd rfl (h4 t)
      | _ => exact hl
    have hb : behind (x :: as) qs = x :: behind as qs := by
      cases x with
      | ptr => cases h1
      | _ => cases qs <;> rfl
    rw [hb]
    cases x with
    | ptr => cases h1
    | v x => cases qs <;> exact .v (ih _ hl')
    | mv x => cases qs <;> exact .mv (ih _ hl')
    | fn x => cases qs <;> exact .fn (ih _ hl')
    | rptr ls => exact absurd rfl (h2 ls)
    | «mut» a b => exact absurd rfl (h3 a b)

theorem decA_ok : ∀ {ps : List PM} {xs : List AD} {y : Tup PM.den ps}, decA ps xs = some y → ∀ qs, len qs = len (ptrTs ps) → Hw xs (hows xs qs) (behind (adsT ps y) qs)
  | [], [], y, h, qs, hl => by cases qs <;> exact .nil
  | [p], [x], y, h, qs, hl => by
    show Hw [x] _ (behind [p.ad y] qs)
    exact hw_cons (p := p) (ps := []) h hl fun qs _ => by cases qs <;> exact .nil
  | p :: q :: ps, x :: xs, y, h, qs, hl => by
    unfold decA at h
    split at h
    · rename_i y1 h1
      split at h
      · rename_i y2 h2
        simp only [Option.some.injEq] at h; subst h
        show Hw (x :: xs) _ (behind (p.ad y1 :: adsT (q :: ps) y2) qs)
        exact hw_cons (p := p) (ps := q :: ps) h1 hl fun qs hq => decA_ok h2 qs hq
      · cases h
    · cases h
  | [], _ :: _, y, h, qs, hl => by cases h
  | [p], [], y, h, qs, hl => by cases h
  | [p], _ :: _ :: _, y, h, qs, hl => by cases h
  | p :: q :: ps, [], y, h, qs, hl => by cases h

theorem restC_len : ∀ {a : List Ty} {b : List Ty} {xs : List Cn}, len xs = len (cat a b) → len (restC (len a) xs) = len b
  | [], b, xs, h => h
  | t :: a, b, [], h => by simp [cat, len] at h
  | t :: a, b, x :: xs, h => restC_len (a := a) (b := b) (xs := xs) (by simpa [cat, len] using h)

/-- A callee out of its contract. -/
def Entry.of {k : FuncId} {ps : List PM} {rs : List Ty} {F : Tup PM.den ps → Option (Res ps rs)} (h : FnC P k ps rs F) : Entry P where
  k := k
  ms := mds ps
  call pre κ := match decA ps pre with
    | some x => bnd (F x) fun r => κ (hows pre (restC (len rs) (cnsT _ r))) (rdC (firstC (len rs) (cnsT _ r)))
    | none => none
  ok {R pre κ r} hc := by
    split at hc
    · rename_i x hx
      obtain ⟨v, h1, h2⟩ := bnd_some hc
      exact ⟨_, _, _, h2, decA_ok hx _ (restC_len (by rw [cnsT_len])), h x v h1⟩
    · cases hc

def sum2 {α β γ : Type} (f : α → Option γ) (g : β → Option γ) : α ⊕ β → Option γ := fun s => @Sum.rec _ _ (fun _ => Option γ) f g s
theorem sum2_inl {α β γ : Type} (f : α → Option γ) (g : β → Option γ) (x : α) : sum2 f g (.inl x) = f x := rfl
theorem sum2_inr {α β γ : Type} (f : α → Option γ) (g : β → Option γ) (x : β) : sum2 f g (.inr x) = g x := rfl

abbrev w64 (x : Int) : Int := IntKind.i64.wrap x
abbrev w8 (x : Int) : Int := IntKind.u8.wrap x

def bodyOf (fn : Func) : Code := fn.body.getD .skip

/-- A typed test as a function value's behaviour. -/
def fnp1 (t : Ty) (g : den t → Option Bool) : FnP
  | [x] => match ofCn t x with
    | some v => g v
    | none => none
  | _ => none
def fnp2 (t t' : Ty) (g : den t → den t' → Option Bool) : FnP
  | [x, y] => match ofCn t x with
    | some v => match ofCn t' y with
      | some v' => g v v'
      | none => none
    | none => none
  | _ => none

def adsC : (ts : List Ty) → Tup den ts → List AD
  | [], _ => []
  | [t], x => [.rptr (cells t x)]
  | t :: u :: ts, x => .rptr (cells t x.1) :: adsC (u :: ts) x.2
def decC : (ts : List Ty) → List (List Leaf) → Option (Tup den ts)
  | [], [] => some ()
  | [t], [x] => ofCells t x
  | t :: u :: ts, x :: xs => match ofCells t x with
    | some y => match decC (u :: ts) xs with
      | some ys => some (y, ys)
      | none => none
    | none => none
  | _, _ => none
theorem decC_ok : ∀ {ts : List Ty} {xs : List (List Leaf)} {c : Tup den ts}, decC ts xs = some c → adsC ts c = xs.map .rptr
  | [], [], c, _ => rfl
  | [t], [x], c, h => by
    show [AD.rptr (cells t c)] = [.rptr x]
    rw [cells_ofCells _ _ _ h]
  | t :: u :: ts, x :: xs, c, h => by
    unfold decC at h
    split at h
    · rename_i y1 h1
      split at h
      · rename_i y2 h2
        simp only [Option.some.injEq] at h; subst h
        show AD.rptr (cells t y1) :: adsC (u :: ts) y2 = _
        rw [cells_ofCells _ _ _ h1, decC_ok h2]; rfl
      · cases h
    · cases h
  | [], _ :: _, c, h => by cases h
  | [t], [], c, h => by cases h
  | [t], _ :: _ :: _, c, h => by cases h
  | t :: u :: ts, [], c, h => by cases h

/-- A closure of one argument, of two. -/
def CloE.one {k : FuncId} {t : Ty} {cts : List Ty} (hcal : Callable P k) (G : den t → Tup den cts → Option Bool) (h : ∀ x c r, G x c = some r → PCall P k (.v (isAgg t, cells t x) :: adsC cts c) (.one (false, [.val (.bool r)]))) : CloE P where
  k := k
  f caps := match decC cts caps with
    | some c => some (fnp1 t fun x => G x c)
    | none => none
  ok {caps p} hc := by
    split at hc
    · rename_i c hcc
      simp only [Option.some.injEq] at hc
      subst hc
      refine ⟨hcal, fun xs r hr => ?_⟩
      unfold fnp1 at hr
      split at hr
      · rename_i x
        split at hr
        · rename_i v hv
          have h0 := h v c r hr
          have e1 := ofCn_ok hv
          have e3 := decC_ok hcc
          rw [e3, e1] at h0
          exact h0
        · cases hr
      · cases hr
    · cases hc
def CloE.two {k : FuncId} {t u : Ty} {cts : List Ty} (hcal : Callable P k) (G : den t → den u → Tup den cts → Option Bool) (h : ∀ x y c r, G x y c = some r → PCall P k (.v (isAgg t, cells t x) :: .v (isAgg u, cells u y) :: adsC cts c) (.one (false, [.val (.bool r)]))) : CloE P where
  k := k
  f caps := match decC cts caps with
    | some c => some (fnp2 t u fun x y => G x y c)
    | none => none
  ok {caps p} hc := by
    split at hc
    · rename_i c hcc
      simp only [Option.some.injEq] at hc
      subst hc
      refine ⟨hcal, fun xs r hr => ?_⟩
      unfold fnp2 at hr
      split at hr
      · rename_i x y
        split at hr
        · rename_i v hv
          split at hr
          · rename_i v' hv'
            have h0 := h v v' c r hr
            have e1 := ofCn_ok hv
            have e2 := ofCn_ok hv'
            have e3 := decC_ok hcc
            rw [e3, e1, e2] at h0
            exact h0
          · cases hr
        · cases hr
      · cases hr
    · cases hc
end
end Go.Pi

/- A function of one slice that hands back a pointer to a new variable that keeps the slice. -/
namespace Go.Pi
noncomputable section
variable {P : Program} {T : Tab}

def fix0 : Leaf → LV
  | .val v => .val v
  | .sl t xs => .fix 0 0 t xs
def unf1 : LV → Option Leaf
  | .val v => some (.val v)
  | .fix 0 0 t xs => some (.sl t xs)
  | _ => none
def unfix : List LV → Option (List Leaf)
  | [] => some []
  | l :: ls => match unf1 l with
    | some x => match unfix ls with
      | some xs => some (x :: xs)
      | none => none
    | none => none
theorem unf1_ok {l : LV} {x : Leaf} (h : unf1 l = some x) : l = fix0 x := by
  unfold unf1 at h
  split at h
  · simp only [Option.some.injEq] at h; subst h; rfl
  · simp only [Option.some.injEq] at h; subst h; rfl
  · cases h
theorem unfix_ok : ∀ {ls : List LV} {xs : List Leaf}, unfix ls = some xs → ls = xs.map fix0
  | [], xs, h => by simp only [unfix, Option.some.injEq] at h; subst h; rfl
  | l :: ls, xs, h => by
    unfold unfix at h
    split at h
    · rename_i y hy
      split at h
      · rename_i ys hys
        simp only [Option.some.injEq] at h; subst h
        rw [List.map_cons, ← unf1_ok hy, unfix_ok hys]
      · cases h
    · cases h

def exPtr (T : Tab) (fn : Func) {N : Nat × Nat} {body : Code} (t : Ty) (rt : Ty) (d : Nat) (xs : List (den t)) (E : Env P N body) : Option (den rt) :=
  exCode T E body [] ((St.of [(0, .v (false, [.ro t xs]))] []).put (.s 0 (.v (false, [.fix 0 0 t xs])))) [] fun e σ _ => match done e with
    | true => match σ.s d with
      | some (.v (false, [.bp ob 0])) => match σ.o ob with
        | some (.box ls) => match unfix ls with
          | some xs => ofCells rt xs
          | none => none
        | _ => none
      | _ => none
    | false => none

/-- The contract: what is handed back points to a value that keeps the slice. -/
theorem ptrC (H : TabOk P T) (hB : ∀ t e, T.elem t = some e → 0 < T.bytes e) (hm : P.follows .mixedOrders = true) {f : FuncId} {fn : Func} {body : Code} {t rt : Ty} {d : Nat} {F : List (den t) → Option (den rt)}
    (hf : P.funcs[f]? = some fn) (hn : (fn.name == "runtime.NumGoroutine") = false) (hbody : fn.body = some body) (hres : fn.results.toList = [.tmp d]) (hN : 1 ≤ fn.ntmps) {N : Nat × Nat} (E : Env P N body) (hNN : (0, fn.ntmps) = N)
    (h : ∀ xs, exPtr T fn t rt d xs E = F xs) (hk : ∀ xs r, F xs = some r → ∀ l ∈ cells rt r, (∃ v, l = .val v) ∨ l = .sl t xs) : ∀ xs r, F xs = some r → PCall P f [.v (false, [.sl t xs])] (.ptr (cells rt r)) := by
  intro xs r0 hr0
  have hls := hk xs r0 hr0
  refine ⟨⟨fn, hf, hn, by rw [hbody]; rfl⟩, ?_⟩
  intro w vs S hlen hSb hSd harg
  match vs, hlen with
  | [v], hlen =>
    have har := harg 0 _ v rfl rfl
    obtain ⟨hS0, us, hv, hea, _⟩ := har
    obtain ⟨u, rfl, hrd⟩ := hea.one
    rw [mkv_one] at hv
    subst hv
    rw [← h xs] at hr0
    unfold exPtr at hr0
    obtain ⟨e, σ, kn, hruns, _, hr⟩ := exCode_ok (c := body) (p := []) (kn := []) H hB hm rfl (fun t v ht => by cases ht) hr0
    split at hr
    · rename_i hdone
      split at hr
      · rename_i ob hsd
        split at hr
        · rename_i lvs hob
          split at hr
          · rename_i xs' hun
            have hcl := cells_ofCells _ _ _ hr
            have hlv := unfix_ok hun
            rw [← hcl] at hlv
            subst hlv
            have hstart := start_ok (P := P) (as := [.v (false, [.sl t xs])]) (N := fn.ntmps) hN rfl rfl hSb hSd harg
            have h0 : ∀ b, ¬ (ghost fn.ntmps [v] S).L b := fun b ⟨i, k, j, _, _, hs⟩ => by
              have hk : k = 0 := by have := (hSb k j b hs).2; simp at this; exact this
              subst hk
              exact hS0 j b hs
            have hstart' : Rep P ⟨(0, fn.ntmps), fun k => [v].getD k undef, w, fun b => ∃ k j, S k j b, fun _ _ => v⟩ (St.of [(0, .v (false, [.ro t xs]))] []) (ghost fn.ntmps [v] S) { tmps := #[v] ++ Array.replicate (fn.ntmps - #[v].size) undef, defers := [] } w := by
              have hs0 : (#[v] ++ Array.replicate (fn.ntmps - #[v].size) undef).getD 0 undef = v := by
                rw [Array.getD_eq_getD_getElem?, Array.getElem?_append_left (by simp)]; rfl
              refine ⟨hstart.defers, hstart.size, (fun k hk => by cases hk), hstart.grown, hstart.kept, hstart.absent, hstart.fps, hstart.dis, (fun i x hx => by cases hx), fun n x hx => ?_⟩
              have hx' : look [(0, SV.v (false, [.ro t xs]))] n = some x := hx
              unfold look at hx'
              split at hx'
              · rename_i hn0
                subst hn0
                simp only [Option.some.injEq] at hx'
                subst hx'
                refine ⟨hN, ?_⟩
                show RepSV P _ _ _ w (.v (false, [.ro t xs])) ((#[v] ++ Array.replicate (fn.ntmps - #[v].size) undef).getD 0 undef)
                rw [hs0]
                exact RepSV.mk1 (hrd.mono (fun _ _ => rfl) (fun b hb => ⟨hb.1, h0 b⟩))
              · cases hx'
            have hfix := hstart'.leafS (n := 0) (j := 0) (ag := false) (ls := [.ro t xs]) (us := [v]) (l := .fix 0 0 t xs) (u := v) hN (by show (#[v] ++ Array.replicate (fn.ntmps - 1) undef).getD 0 undef = v; rw [Array.getD_eq_getD_getElem?, Array.getElem?_append_left (by simp)]; rfl) (Each.mk1 (hrd.mono (fun _ _ => rfl) (fun b hb => ⟨hb.1, h0 b⟩))) (fun _ => rfl) rfl
              ⟨rfl, hrd.mono (fun _ _ => rfl) (fun b hb => ⟨hb.1, h0 b⟩)⟩
            have hruns := hruns _ hNN _ _ _ hfix
            refine calls_of_wp hf hbody (wp_mono hruns ?_)
            rintro e' a' w' ⟨rfl, g', h'⟩
            obtain ⟨us2, s1, s2, _⟩ := (h'.slots _ _ hsd).2
            obtain ⟨u2, rfl, s3⟩ := s2.one
            obtain ⟨_, blk, b1, b2⟩ := s3
            obtain ⟨blk', c1, e1, o1, o2, o3, o4⟩ := h'.objs _ _ hob
            rw [b1] at o1; simp only [Value.pointer.injEq, Option.some.injEq, Addr.mk.injEq] at o1
            obtain ⟨rfl, _⟩ := o1
            obtain ⟨f1, f2⟩ := h'.fps ob blk ((o3 blk).2 rfl)
            have hge : w.heap.size ≤ blk := by
              rcases Nat.lt_or_ge blk w.heap.size with hlt | hge
              · obtain ⟨k, j, hs⟩ := f2 hlt
                have hk : k = 0 := by have := (hSb k j blk hs).2; simp at this; exact this
                subst hk
                exact absurd hs (hS0 j blk)
              · exact hge
            have hmain : a'.defers = [] ∧ ∃ z, (results fn a'.tmps).run P w' = .ok z w' ∧ (∃ rv, Ending.returned z = .returned rv ∧ Up w w' ∧
                (∀ b, b < w.heap.size → ¬ (∃ k j, S k j b) → w'.heap[b]? = w.heap[b]?) ∧
                (∀ (k : Nat) a x, ([.v (false, [.sl t xs])] : List AD)[k]? = some a → [v][k]? = some x → ArgAfter w w' x (S k) a) ∧
                ResOk w w' [.v (false, [.sl t xs])] [v] (fun b => (w.heap.size ≤ b ∧ b < w'.heap.size) ∨ ∃ (k : Nat) (j : Nat) (a : AD), ([.v (false, [.sl t xs])] : List AD)[k]? = some a ∧ a.moves = true ∧ S k j b) rv (.ptr (cells rt r0))) := by
              refine ⟨h'.defers, a'.tmps.getD d undef, results_tmp (by rw [← Array.toList_inj, hres]) _ _ _, _, rfl, h'.grown, h'.kept, ?_, ?_⟩
              · intro k a x ha hv
                match k with
                | 0 => simp only [List.getElem?_cons_zero, Option.some.injEq] at ha; subst ha; trivial
                | k + 1 => simp at ha
              · refine ⟨blk, c1, e1, by rw [s1, mkv_one, b2], o2, hge, f1, ⟨by simpa using o4.len, fun j l y hl hv => ?_⟩⟩
                have hx := o4.at_ j (fix0 l) y (by rw [List.getElem?_map, hl]; rfl) hv
                rcases hls l (List.mem_of_getElem? hl) with ⟨y0, rfl⟩ | rfl
                · exact .inl ⟨y0, rfl, hx.1⟩
                · exact .inr ⟨t, xs, 0, rfl, rfl, by rw [hx.1]; rfl⟩
            revert hdone
            cases e' <;> intro hdone <;> first | exact hmain | cases hdone
          · cases hr
        · cases hr
      · cases hr
    · cases hr

def Entry.ptr {f : FuncId} {t rt : Ty} {F : List (den t) → Option (den rt)} (h : ∀ xs r, F xs = some r → PCall P f [.v (false, [.sl t xs])] (.ptr (cells rt r))) : Entry P where
  k := f
  ms := [.v]
  call pre κ := match pre with
    | [.v x] => match ofCn (.sl t) x with
      | some xs => bnd (F xs) fun r => κ [.ro] (.ptr (cells rt r))
      | none => none
    | _ => none
  ok {R pre κ r} hc := by
    split at hc
    · rename_i x
      split at hc
      · rename_i xs hx
        obtain ⟨v, h1, h2⟩ := bnd_some hc
        have e := ofCn_ok hx
        refine ⟨_, _, _, h2, .v .nil, ?_⟩
        have := h xs v h1
        rw [show ((false, [Leaf.sl t xs]) : Cn) = x from e] at this
        exact this
      · cases hc
    · cases hc
end
end Go.Pi
