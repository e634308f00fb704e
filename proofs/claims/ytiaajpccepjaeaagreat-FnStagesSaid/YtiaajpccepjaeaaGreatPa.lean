/- A proved interpreter for the model's code, and what it shows of the program's functions: part 1 (A B C D E F G H I J K M N O R S U V W X Y Z). No condition. -/
import Derived.Calls
import Derived.Orders
import Derived.Deep.MidRow
import Derived.Deep.AppendSrc
import Derived.Deep.Upon
import Derived.Laws.MakeOwn
set_option linter.unusedVariables false
set_option linter.unusedSimpArgs false
/- The universe of data: Go's types of this program as Lean types, their cells; readings of memory ('Rd') and owned memory ('Own'). -/
namespace Go.Pi

structure BoxV where
  (Limit : Int) (Drops Strips : List Int) (Lists : Bool)
structure EndpointV where
  (Versions Tags : List Int) (Path : List BoxV) (Class : Int)
structure DealV where
  (Ok : Bool) (Version : Int) (Tags : List Int)
structure DialedV where
  (Deal : DealV) (Tries : Int) (Up : List Int)
structure LoggedV where
  (End : Int) (Tick : Int) (On : Bool) (Dialed : DialedV)
structure RolloutV where
  (Version : Int) (Stages : List Int) (At : Int) (Off : Bool)
structure WorldV where
  (Server Tags : List Int) (Key : Int) (Ends : List EndpointV) (Rollout : RolloutV) (Least Percent : Int) (Stage : List DialedV) (Log : List LoggedV) (Now Hurt Reached : Int)
structure EventV where
  (Kind N : Int) (Box : BoxV)
structure ExtV where
  (Tag : Int) (Body : List Int)
structure HelloV where
  (Versions : List Int) (Exts : List ExtV)
structure AnswerV where
  (Version : Int) (Exts : List ExtV)
structure EditV where
  (Kind N : Int)
structure CurV where
  (b : List Int) (i h : Int)

inductive SN where
  | box | endpoint | deal | dialed | logged | rollout | world | event | ext | hello | answer | edit | cur
  deriving DecidableEq

@[reducible] def SDen : SN → Type
  | .box => BoxV | .endpoint => EndpointV | .deal => DealV | .dialed => DialedV | .logged => LoggedV | .rollout => RolloutV | .world => WorldV
  | .event => EventV | .ext => ExtV | .hello => HelloV | .answer => AnswerV | .edit => EditV | .cur => CurV

inductive Ty where
  | int (k : IntKind) | bool | str | sl (t : Ty) | st (n : SN)
  deriving DecidableEq

@[reducible] def den : Ty → Type
  | .int _ => Int | .bool => Bool | .str => ByteArray | .sl t => List (den t) | .st n => SDen n

/-- One cell's content: a value without memory, or a slice. -/
inductive Leaf where
  | val (v : Value)
  | sl (t : Ty) (xs : List (den t))

abbrev Leaf.i (n : Int) : Leaf := .val (.int .i64 n)
abbrev Leaf.b (b : Bool) : Leaf := .val (.bool b)
abbrev Leaf.is (xs : List Int) : Leaf := .sl (.int .i64) xs

def cellsS : (n : SN) → SDen n → List Leaf
  | .box, x => [.i x.Limit, .is x.Drops, .is x.Strips, .b x.Lists]
  | .endpoint, x => [.is x.Versions, .is x.Tags, .sl (.st .box) x.Path, .i x.Class]
  | .deal, x => [.b x.Ok, .i x.Version, .is x.Tags]
  | .dialed, x => [.b x.Deal.Ok, .i x.Deal.Version, .is x.Deal.Tags, .i x.Tries, .is x.Up]
  | .logged, x => [.i x.End, .i x.Tick, .b x.On, .b x.Dialed.Deal.Ok, .i x.Dialed.Deal.Version, .is x.Dialed.Deal.Tags, .i x.Dialed.Tries, .is x.Dialed.Up]
  | .rollout, x => [.i x.Version, .is x.Stages, .i x.At, .b x.Off]
  | .world, x => [.is x.Server, .is x.Tags, .i x.Key, .sl (.st .endpoint) x.Ends, .i x.Rollout.Version, .is x.Rollout.Stages, .i x.Rollout.At, .b x.Rollout.Off,
      .i x.Least, .i x.Percent, .sl (.st .dialed) x.Stage, .sl (.st .logged) x.Log, .i x.Now, .i x.Hurt, .i x.Reached]
  | .event, x => [.i x.Kind, .i x.N, .i x.Box.Limit, .is x.Box.Drops, .is x.Box.Strips, .b x.Box.Lists]
  | .ext, x => [.i x.Tag, .is x.Body]
  | .hello, x => [.is x.Versions, .sl (.st .ext) x.Exts]
  | .answer, x => [.i x.Version, .sl (.st .ext) x.Exts]
  | .edit, x => [.i x.Kind, .i x.N]
  | .cur, x => [.sl (.int .u8) x.b, .i x.i, .i x.h]

def cells : (t : Ty) → den t → List Leaf
  | .int k, n => [.val (.int k n)]
  | .bool, b => [.val (.bool b)]
  | .str, s => [.val (.string s)]
  | .sl t, xs => [.sl t xs]
  | .st n, x => cellsS n x

def widthS : SN → Nat
  | .box => 4 | .endpoint => 4 | .deal => 3 | .dialed => 5 | .logged => 8 | .rollout => 4 | .world => 15 | .event => 6 | .ext => 2 | .hello => 2 | .answer => 2 | .edit => 2 | .cur => 3
def width : Ty → Nat
  | .st n => widthS n
  | _ => 1
def isAgg : Ty → Bool
  | .st _ => true
  | _ => false

theorem cells_length (t : Ty) (x : den t) : (cells t x).length = width t := by
  cases t with
  | st n => cases n <;> rfl
  | _ => rfl
theorem width_pos (t : Ty) : 0 < width t := by
  cases t with
  | st n => cases n <;> simp [width, widthS]
  | _ => simp [width]

def ofCellsS : (n : SN) → List Leaf → Option (SDen n)
  | .box, [.val (.int .i64 a), .sl (.int .i64) b, .sl (.int .i64) c, .val (.bool d)] => some ⟨a, b, c, d⟩
  | .endpoint, [.sl (.int .i64) a, .sl (.int .i64) b, .sl (.st .box) c, .val (.int .i64 d)] => some ⟨a, b, c, d⟩
  | .deal, [.val (.bool a), .val (.int .i64 b), .sl (.int .i64) c] => some ⟨a, b, c⟩
  | .dialed, [.val (.bool a), .val (.int .i64 b), .sl (.int .i64) c, .val (.int .i64 d), .sl (.int .i64) e] => some ⟨⟨a, b, c⟩, d, e⟩
  | .logged, [.val (.int .i64 p), .val (.int .i64 q), .val (.bool r), .val (.bool a), .val (.int .i64 b), .sl (.int .i64) c, .val (.int .i64 d), .sl (.int .i64) e] => some ⟨p, q, r, ⟨a, b, c⟩, d, e⟩
  | .rollout, [.val (.int .i64 a), .sl (.int .i64) b, .val (.int .i64 c), .val (.bool d)] => some ⟨a, b, c, d⟩
  | .world, [.sl (.int .i64) a, .sl (.int .i64) b, .val (.int .i64 c), .sl (.st .endpoint) d, .val (.int .i64 e1), .sl (.int .i64) e2, .val (.int .i64 e3), .val (.bool e4),
      .val (.int .i64 f), .val (.int .i64 g), .sl (.st .dialed) h, .sl (.st .logged) i, .val (.int .i64 j), .val (.int .i64 k), .val (.int .i64 l)] => some ⟨a, b, c, d, ⟨e1, e2, e3, e4⟩, f, g, h, i, j, k, l⟩
  | .event, [.val (.int .i64 p), .val (.int .i64 q), .val (.int .i64 a), .sl (.int .i64) b, .sl (.int .i64) c, .val (.bool d)] => some ⟨p, q, ⟨a, b, c, d⟩⟩
  | .ext, [.val (.int .i64 a), .sl (.int .i64) b] => some ⟨a, b⟩
  | .hello, [.sl (.int .i64) a, .sl (.st .ext) b] => some ⟨a, b⟩
  | .answer, [.val (.int .i64 a), .sl (.st .ext) b] => some ⟨a, b⟩
  | .edit, [.val (.int .i64 a), .val (.int .i64 b)] => some ⟨a, b⟩
  | .cur, [.sl (.int .u8) a, .val (.int .i64 b), .val (.int .i64 c)] => some ⟨a, b, c⟩
  | _, _ => none

def ofCells : (t : Ty) → List Leaf → Option (den t)
  | .int .i64, [.val (.int .i64 n)] => some n
  | .int .u8, [.val (.int .u8 n)] => some n
  | .bool, [.val (.bool b)] => some b
  | .str, [.val (.string s)] => some s
  | .sl t, [.sl t' xs] => if h : t' = t then some (h ▸ xs) else none
  | .st n, ls => ofCellsS n ls
  | _, _ => none

theorem cells_ofCells (t : Ty) (ls : List Leaf) (x : den t) (h : ofCells t ls = some x) : cells t x = ls := by
  unfold ofCells at h
  split at h
  · injection h with h; subst h; rfl
  · injection h with h; subst h; rfl
  · injection h with h; subst h; rfl
  · injection h with h; subst h; rfl
  · rename_i t t' xs
    split at h
    · rename_i e; subst e; injection h with h; subst h; rfl
    · cases h
  · unfold ofCellsS at h
    split at h <;> first | (injection h with h; subst h; rfl) | cases h
  · cases h

end Go.Pi

/- Readings of memory ('Rd': what may be read, off blocks that a test lets by) and owned memory ('Own': a value's tree with its blocks). -/
namespace Go.Pi

/-- What a slice value's header is, where it has cells. -/
def hdr (blk off n cap : Nat) : Value := .slice (some ⟨blk, off, none⟩) n cap

/-- The value v reads as the leaf in w; every block on the way is let by 'ok'. -/
inductive Rd (w : World) (ok : Nat → Prop) : Leaf → Value → Prop
  | val (v : Value) : Rd w ok (.val v) v
  | nil (t : Ty) (a : Option Addr) (c : Nat) : Rd w ok (.sl t []) (.slice a 0 c)
  | sl (t : Ty) (xs : List (den t)) (blk off cap : Nat) (V : Nat → Nat → Value) (hok : ok blk) (hlen : xs.length ≤ cap)
      (hc : ∀ i f, i < xs.length → f < width t → w.cell? ⟨blk, off + i * width t + f, none⟩ = some (V i f))
      (hn : ∀ i x, xs[i]? = some x → ∀ f l, (cells t x)[f]? = some l → Rd w ok l (V i f)) :
      Rd w ok (.sl t xs) (hdr blk off xs.length cap)

/-- The value v is the leaf in w and owns the blocks S, each of them once. -/
inductive Own (w : World) : Leaf → Value → (Nat → Prop) → Prop
  | val (v : Value) (S : Nat → Prop) (hS : ∀ b, ¬ S b) : Own w (.val v) v S
  | nil (t : Ty) (a : Option Addr) (S : Nat → Prop) (hS : ∀ b, ¬ S b) : Own w (.sl t []) (.slice a 0 0) S
  | sl (t : Ty) (xs : List (den t)) (blk off cap : Nat) (c : Array Value) (e : TypeId) (V : Nat → Nat → Value) (F : Nat → Nat → Nat → Prop) (S : Nat → Prop)
      (hb : w.heap[blk]? = some (.cells c e (0, 0))) (hsz : off + cap * width t ≤ c.size) (hlen : xs.length ≤ cap) (h63 : cap ≤ 9223372036854775807)
      (hc : ∀ i f, i < xs.length → f < width t → c[off + i * width t + f]? = some (V i f))
      (hn : ∀ i x, xs[i]? = some x → ∀ f l, (cells t x)[f]? = some l → Own w l (V i f) (F i f))
      (hS : ∀ b, S b ↔ b = blk ∨ ∃ i f, i < xs.length ∧ f < width t ∧ F i f b)
      (hself : ∀ i f, i < xs.length → f < width t → ¬ F i f blk)
      (hdis : ∀ i f j g b, i < xs.length → f < width t → j < xs.length → g < width t → F i f b → F j g b → i = j ∧ f = g) :
      Own w (.sl t xs) (hdr blk off xs.length cap) S

theorem World.cell_of_heap {w : World} {blk n : Nat} {c : Array Value} {e : TypeId} {z : Nat × Nat} (h : w.heap[blk]? = some (.cells c e z)) :
    w.cell? ⟨blk, n, none⟩ = c[n]? := by
  simp [World.cell?, h]

theorem World.cell_congr {w w' : World} {blk n : Nat} (h : w'.heap[blk]? = w.heap[blk]?) : w'.cell? ⟨blk, n, none⟩ = w.cell? ⟨blk, n, none⟩ := by
  simp [World.cell?, h]

theorem Rd.mono {w w' : World} {ok ok' : Nat → Prop} {l : Leaf} {v : Value} (h : Rd w ok l v) (hw : ∀ b, ok b → w'.heap[b]? = w.heap[b]?) (ho : ∀ b, ok b → ok' b) :
    Rd w' ok' l v := by
  induction h with
  | val v => exact .val v
  | nil t a c => exact .nil t a c
  | sl t xs blk off cap V hok hlen hc hn ih =>
    exact .sl t xs blk off cap V (ho _ hok) hlen (fun i f hi hf => by rw [World.cell_congr (hw _ hok)]; exact hc i f hi hf) (fun i x hx f l hl => ih i x hx f l hl)

theorem Own.mono {w w' : World} {l : Leaf} {v : Value} {S : Nat → Prop} (h : Own w l v S) (hw : ∀ b, S b → w'.heap[b]? = w.heap[b]?) : Own w' l v S := by
  induction h with
  | val v S hS => exact .val v S hS
  | nil t a S hS => exact .nil t a S hS
  | sl t xs blk off cap c e V F S hb hsz hlen h63 hc hn hS hself hdis ih =>
    refine .sl t xs blk off cap c e V F S ?_ hsz hlen h63 hc ?_ hS hself hdis
    · rw [hw _ ((hS _).2 (.inl rfl))]; exact hb
    · intro i x hx f l hl
      have hi : i < xs.length := by
        rcases Nat.lt_or_ge i xs.length with h | h
        · exact h
        · rw [List.getElem?_eq_none h] at hx; cases hx
      have hf : f < width t := by
        rcases Nat.lt_or_ge f (cells t x).length with h | h
        · rw [cells_length] at h; exact h
        · rw [List.getElem?_eq_none h] at hl; cases hl
      exact ih i x hx f l hl (fun b hb' => hw b ((hS b).2 (.inr ⟨i, f, hi, hf, hb'⟩)))

/-- The same footprint, told in other words. -/
theorem Own.congr {w : World} {l : Leaf} {v : Value} {S S' : Nat → Prop} (h : Own w l v S) (hs : ∀ b, S' b ↔ S b) : Own w l v S' := by
  cases h with
  | val v S hS => exact .val v S' (fun b hb => hS b ((hs b).1 hb))
  | nil t a S hS => exact .nil t a S' (fun b hb => hS b ((hs b).1 hb))
  | sl t xs blk off cap c e V F S hb hsz hlen h63 hc hn hS hself hdis =>
    exact .sl t xs blk off cap c e V F S' hb hsz hlen h63 hc hn (fun b => (hs b).trans (hS b)) hself hdis

theorem Own.rd {w : World} {l : Leaf} {v : Value} {S : Nat → Prop} (h : Own w l v S) : Rd w S l v := by
  induction h with
  | val v S hS => exact .val v
  | nil t a S hS => exact .nil t a 0
  | sl t xs blk off cap c e V F S hb hsz hlen h63 hc hn hS hself hdis ih =>
    refine .sl t xs blk off cap V ((hS _).2 (.inl rfl)) hlen (fun i f hi hf => ?_) (fun i x hx f l hl => ?_)
    · rw [World.cell_of_heap hb]; exact hc i f hi hf
    · have hi : i < xs.length := by
        rcases Nat.lt_or_ge i xs.length with h | h
        · exact h
        · rw [List.getElem?_eq_none h] at hx; cases hx
      have hf : f < width t := by
        rcases Nat.lt_or_ge f (cells t x).length with h | h
        · rw [cells_length] at h; exact h
        · rw [List.getElem?_eq_none h] at hl; cases hl
      exact (ih i x hx f l hl).mono (fun _ _ => rfl) (fun b hb' => (hS b).2 (.inr ⟨i, f, hi, hf, hb'⟩))

/-- What a leaf reads as tells the value's shape. -/
theorem Rd.slice {w : World} {ok : Nat → Prop} {t : Ty} {xs : List (den t)} {v : Value} (h : Rd w ok (.sl t xs) v) :
    (xs = [] ∧ ∃ a c, v = .slice a 0 c) ∨ ∃ (blk off cap : Nat) (V : Nat → Nat → Value), ok blk ∧ xs.length ≤ cap ∧ v = hdr blk off xs.length cap ∧
      (∀ i f, i < xs.length → f < width t → w.cell? ⟨blk, off + i * width t + f, none⟩ = some (V i f)) ∧
      (∀ i x, xs[i]? = some x → ∀ f l, (cells t x)[f]? = some l → Rd w ok l (V i f)) := by
  cases h with
  | nil t a c => exact .inl ⟨rfl, a, c, rfl⟩
  | sl t xs blk off cap V hok hlen hc hn => exact .inr ⟨blk, off, cap, V, hok, hlen, rfl, hc, hn⟩

theorem Rd.len {w : World} {ok : Nat → Prop} {t : Ty} {xs : List (den t)} {v : Value} (h : Rd w ok (.sl t xs) v) :
    ∃ a c, v = .slice a xs.length c := by
  rcases h.slice with ⟨rfl, a, c, rfl⟩ | ⟨blk, off, cap, V, _, _, rfl, _⟩
  · exact ⟨a, c, rfl⟩
  · exact ⟨_, _, rfl⟩

/-- A leaf's value is one cell's. -/
def isCell : Value → Bool
  | .agg _ | .tuple _ => false
  | _ => true

end Go.Pi

/- The abstract state: slots and objects; the run of straight-line code over it ('Q', 'step', 'runOps'). -/
namespace Go.Pi

/-- Argument contents: is it a struct, and its cells. -/
abbrev Cn := Bool × List Leaf
/-- A function value's behaviour, as far as a callee needs it. -/
abbrev FnP := List Cn → Option Bool

/-- What a slot's (or a variable's) cell holds. -/
inductive LV where
  | val (v : Value)
  | ro (t : Ty) (xs : List (den t))
  | fix (k j : Nat) (t : Ty) (xs : List (den t))
  | nil (t : Ty)
  | tr (o : Nat)
  | sub (o γ i f : Nat)
  | bp (o off : Nat)
  | ep (t : Ty) (b : LV) (i off : Nat)
  | clo (f : FuncId) (caps : List Nat)
  | fn (p : FnP)

/-- A value by its cells. -/
abbrev VD := Bool × List LV

inductive SV where
  | v (x : VD)
  | tup (vs : List VD)
  | undef

inductive Obj where
  | box (ls : List LV)
  | rbox (ls : List LV)
  | tree (t : Ty) (xs : List (den t)) (γ : Nat)
  | ret (t : Ty) (xs : List (den t)) (γ : Nat)
  | dead
  | hole (t : Ty) (xs : List (den t)) (γ i f o2 : Nat)
  | pair (t : Ty) (n k oA oB : Nat)
  | elems (t : Ty) (ys : List (den t))

structure St where
  s : Nat → Option SV
  o : Nat → Option Obj

/-- One write. -/
inductive Wr where
  | s (n : Nat) (x : SV)
  | o (n : Nat) (x : Obj)

def St.put (σ : St) : Wr → St
  | .s n x => { σ with s := fun m => if m = n then some x else σ.s m }
  | .o n x => { σ with o := fun m => if m = n then some x else σ.o m }

def St.puts (σ : St) : List Wr → St
  | [] => σ
  | w :: ws => (σ.put w).puts ws

/-- How an argument is handed over. -/
inductive AD where
  | v (x : Cn)
  | ptr (pre post : List Leaf)
  | rptr (ls : List Leaf)
  | mut (x : Cn) (ys : List Leaf)
  | mv (x : Cn)
  | fn (p : FnP)

/-- What a call hands back. -/
inductive RD where
  | one (x : Cn)
  | tup (xs : List Cn)
  | ptr (ls : List Leaf)

/-- An oracle's word for one operation: does its guard let it run; what a call hands back; how arguments are handed over. -/
inductive How where
  | ro
  | ptr (post : List Leaf)
  | mut (ys : List Leaf)
  | msub (t : Ty) (ys : List (den t))
  | mv
  | fn (p : FnP)

structure Orc where
  g : Bool := true
  p : Bool := true
  x : Bool := false
  rd : RD := .tup []
  how : List How := []

/-- Types that the code names. -/
structure Tab where
  ty : TypeId → Option Ty
  foff : TypeId → Nat → Option (Nat × Nat)
  bytes : TypeId → Nat
  elem : TypeId → Option TypeId

/-- Questions to the state. -/
inductive Q (α : Type) where
  | ret (a : α)
  | slot (n : Nat) (k : SV → Q α)
  | obj (n : Nat) (k : Obj → Q α)
  | free (n : Nat) (k : Q α)
  | ask (p : Prop) (k : Q α)
  | fail

def Q.bind {α β : Type} : Q α → (α → Q β) → Q β
  | .ret a, f => f a
  | .slot n k, f => .slot n fun x => (k x).bind f
  | .obj n k, f => .obj n fun x => (k x).bind f
  | .free n k, f => .free n (k.bind f)
  | .ask p k, f => .ask p (k.bind f)
  | .fail, _ => .fail

inductive Key where
  | s (n : Nat)
  | o (n : Nat)
  deriving DecidableEq

/-- What a run of questions comes to: the answer, what it asks for, what it has read. -/
structure Got (α : Type) where
  a : α
  ps : List Prop
  rs : List Key

def Q.run {α : Type} : Q α → St → Option (Got α)
  | .ret a, _ => some ⟨a, [], []⟩
  | .slot n k, σ => match σ.s n with
    | some x => match (k x).run σ with
      | some g => some ⟨g.a, g.ps, .s n :: g.rs⟩
      | none => none
    | none => none
  | .obj n k, σ => match σ.o n with
    | some x => match (k x).run σ with
      | some g => some ⟨g.a, g.ps, .o n :: g.rs⟩
      | none => none
    | none => none
  | .free n k, σ => match σ.o n with
    | none => match k.run σ with
      | some g => some ⟨g.a, g.ps, .o n :: g.rs⟩
      | none => none
    | some _ => none
  | .ask p k, σ => match k.run σ with
    | some g => some ⟨g.a, p :: g.ps, g.rs⟩
    | none => none
  | .fail, _ => none


/-- A value out of its cells. -/
def mkv : Bool → List Value → Value
  | true, us => .agg us.toArray
  | false, [u] => u
  | false, _ => undef

/-- Cells and what they are. -/
structure Each {α : Type} (R : α → Value → Prop) (ls : List α) (us : List Value) : Prop where
  len : us.length = ls.length
  at_ : ∀ (j : Nat) l u, ls[j]? = some l → us[j]? = some u → R l u

def okB (w : World) (X : Nat → Prop) (b : Nat) : Prop := b < w.heap.size ∧ ¬ X b

/-- A value reads as contents. -/
def RdV (w : World) (ok : Nat → Prop) (x : Cn) (v : Value) : Prop :=
  ∃ us, v = mkv x.1 us ∧ Each (Rd w ok) x.2 us ∧ (x.1 = false → x.2.length = 1)

/-- Memory has grown; streams are as they were. -/
structure Up (w w' : World) : Prop where
  size : w.heap.size ≤ w'.heap.size
  os : w'.os = w.os
  output : w'.output = w.output
theorem Up.refl (w : World) : Up w w := ⟨Nat.le_refl _, rfl, rfl⟩
theorem Up.trans {a b c : World} (h : Up a b) (k : Up b c) : Up a c := ⟨Nat.le_trans h.size k.size, k.os.trans h.os, k.output.trans h.output⟩

/-- Nothing old has changed. -/
def Ext (w w' : World) : Prop := Up w w' ∧ ∀ b, b < w.heap.size → w'.heap[b]? = w.heap[b]?

/-- A function with a body. -/
def Callable (P : Program) (f : FuncId) : Prop := ∃ fn, P.funcs[f]? = some fn ∧ (fn.name == "runtime.NumGoroutine") = false ∧ fn.body.isNone = false

def FnOk (P : Program) (w0 : World) (X : Nat → Prop) (v : Value) (p : FnP) : Prop :=
  ∃ f caps, v = .func (.func f) #[] caps ∧ Callable P f ∧ ∀ (w : World) (vs : List Value) (xs : List Cn) (r : Bool), Up w0 w → (∀ b, b < w0.heap.size → ¬ X b → w.heap[b]? = w0.heap[b]?) →
    p xs = some r → vs.length = xs.length → (∀ (k : Nat) x v, xs[k]? = some x → vs[k]? = some v → RdV w (fun b => b < w.heap.size) x v) →
    Calls P f (vs.toArray ++ caps) w fun e w' => e = .returned (.bool r) ∧ Ext w w'

/-- Leaves that own, each its own blocks, all of them let by A. -/
structure Owns (w : World) (ls : List Leaf) (us : List Value) (R : Nat → Nat → Prop) (A : Nat → Prop) : Prop where
  len : us.length = ls.length
  own : ∀ (j : Nat) l u, ls[j]? = some l → us[j]? = some u → Own w l u (R j)
  sub : ∀ j b, R j b → A b
  dis : ∀ i j b, R i b → R j b → i = j

/-- An argument as it is handed over; S: the blocks that go with it, leaf by leaf. -/
def ArgOk (P : Program) (w : World) (X : Nat → Prop) (v : Value) (S : Nat → Nat → Prop) : AD → Prop
  | .v x => (∀ j b, ¬ S j b) ∧ RdV w (okB w X) x v
  | .ptr pre post => post.length = pre.length ∧ ∃ blk c e, v = .pointer (some ⟨blk, 0, none⟩) ∧ w.heap[blk]? = some (.cells c e (0, 0)) ∧ (∀ j b, S j b ↔ j = 0 ∧ b = blk) ∧ Each (Rd w (okB w X)) pre c.toList
  | .rptr ls => (∀ j b, ¬ S j b) ∧ ∃ blk c e, v = .pointer (some ⟨blk, 0, none⟩) ∧ w.heap[blk]? = some (.cells c e (0, 0)) ∧ okB w X blk ∧ Each (Rd w (okB w X)) ls c.toList
  | .mut x ys => ys.length = x.2.length ∧ ∃ us, v = mkv x.1 us ∧ (x.1 = false → x.2.length = 1) ∧ us.length = x.2.length ∧ (∀ (j : Nat) l u, x.2[j]? = some l → us[j]? = some u → Own w l u (S j)) ∧ ∀ j b, S j b → j < x.2.length
  | .mv x => ∃ us, v = mkv x.1 us ∧ (x.1 = false → x.2.length = 1) ∧ us.length = x.2.length ∧ (∀ (j : Nat) l u, x.2[j]? = some l → us[j]? = some u → Own w l u (S j)) ∧ ∀ j b, S j b → j < x.2.length
  | .fn p => (∀ j b, ¬ S j b) ∧ FnOk P w X v p

def ArgAfter (w w' : World) (v : Value) (S : Nat → Nat → Prop) : AD → Prop
  | .ptr _ post => ∀ blk c e, v = .pointer (some ⟨blk, 0, none⟩) → w.heap[blk]? = some (.cells c e (0, 0)) →
      ∃ c' e', w'.heap[blk]? = some (.cells c' e' (0, 0)) ∧ c'.size = c.size ∧ (∀ (j : Nat) u, post[j]? = some (.val u) → c'[j]? = some u) ∧ (∀ (j : Nat) t xs, post[j]? = some (.sl t xs) → c'[j]? = c[j]?)
  | .mut x ys => ∀ us, v = mkv x.1 us → us.length = x.2.length → ∀ (j : Nat) l u, ys[j]? = some l → us[j]? = some u → Own w' l u (S j)
  | _ => True

def AD.moves : AD → Bool
  | .mv _ => true
  | _ => false

/-- A tuple's values out of all their cells. -/
def parts {α : Type} : List (Bool × List α) → List Value → List Value
  | [], _ => []
  | x :: xs, us => mkv x.1 (us.take x.2.length) :: parts xs (us.drop x.2.length)

def ResOk (w w' : World) (as : List AD) (vs : List Value) (A : Nat → Prop) (rv : Value) : RD → Prop
  | .one x => ∃ us R, rv = mkv x.1 us ∧ Owns w' x.2 us R A ∧ (x.1 = false → x.2.length = 1)
  | .tup xs => ∃ us R, rv = .tuple (parts xs us).toArray ∧ Owns w' (xs.flatMap (·.2)) us R A ∧ ∀ x ∈ xs, x.1 = false → x.2.length = 1
  | .ptr ls => ∃ blk c e, rv = .pointer (some ⟨blk, 0, none⟩) ∧ w'.heap[blk]? = some (.cells c e (0, 0)) ∧ w.heap.size ≤ blk ∧ blk < w'.heap.size ∧
      Each (fun l u => (∃ v, l = .val v ∧ u = v) ∨ ∃ (t : Ty) (xs : List (den t)) (k : Nat), l = .sl t xs ∧ as[k]? = some (AD.v (false, [l])) ∧ vs[k]? = some u) ls c.toList

/-- THE CONTRACT of a Go function: called with arguments that read as told it returns what reads as told; nothing else has changed. -/
def PCall (P : Program) (f : FuncId) (as : List AD) (rd : RD) : Prop :=
  Callable P f ∧ ∀ (w : World) (vs : List Value) (S : Nat → Nat → Nat → Prop), vs.length = as.length →
    (∀ k j b, S k j b → b < w.heap.size ∧ k < as.length) → (∀ k j k' j' b, S k j b → S k' j' b → k = k' ∧ j = j') →
    (∀ (k : Nat) a v, as[k]? = some a → vs[k]? = some v → ArgOk P w (fun b => ∃ k j, S k j b) v (S k) a) →
    Calls P f vs.toArray w fun e w' => ∃ rv, e = .returned rv ∧ Up w w' ∧
      (∀ b, b < w.heap.size → ¬ (∃ k j, S k j b) → w'.heap[b]? = w.heap[b]?) ∧
      (∀ (k : Nat) a v, as[k]? = some a → vs[k]? = some v → ArgAfter w w' v (S k) a) ∧
      ResOk w w' as vs (fun b => (w.heap.size ≤ b ∧ b < w'.heap.size) ∨ ∃ (k : Nat) (j : Nat) (a : AD), as[k]? = some a ∧ a.moves = true ∧ S k j b) rv rd

/-- A closure's behaviour out of its function's contract. -/
def CloOk (P : Program) (f : FuncId) (caps : List (List Leaf)) (p : FnP) : Prop :=
  Callable P f ∧ ∀ xs r, p xs = some r → PCall P f (xs.map .v ++ caps.map .rptr) (.one (false, [.val (.bool r)]))

section
variable (P : Program) (T : Tab)

def oid (d j : Nat) : Nat := d * 64 + j

def dfltS : (n : SN) → SDen n
  | .box => ⟨0, [], [], false⟩
  | .endpoint => ⟨[], [], [], 0⟩
  | .deal => ⟨false, 0, []⟩
  | .dialed => ⟨⟨false, 0, []⟩, 0, []⟩
  | .logged => ⟨0, 0, false, ⟨⟨false, 0, []⟩, 0, []⟩⟩
  | .rollout => ⟨0, [], 0, false⟩
  | .world => ⟨[], [], 0, [], ⟨0, [], 0, false⟩, 0, 0, [], [], 0, 0, 0⟩
  | .event => ⟨0, 0, ⟨0, [], [], false⟩⟩
  | .ext => ⟨0, []⟩
  | .hello => ⟨[], []⟩
  | .answer => ⟨0, []⟩
  | .edit => ⟨0, 0⟩
  | .cur => ⟨[], 0, 0⟩

def dflt : (t : Ty) → den t
  | .int _ => (0 : Int)
  | .bool => false
  | .str => ByteArray.empty
  | .sl _ => []
  | .st n => dfltS n

/-- A leaf as a fresh variable's cell: the zero value. -/
def zeroLV : Leaf → LV
  | .val v => .val v
  | .sl t _ => .nil t

def zeroLVs (t : Ty) : List LV := (cells t (dflt t)).map zeroLV

/-- One-cell values that bear no memory. -/
def plain : Value → Bool
  | .int .. | .bool _ | .string _ | .nilIface | .pointer none => true
  | _ => false

def leafSl : Leaf → Bool
  | .sl _ _ => true
  | .val _ => false

def leafPlain : Leaf → Bool
  | .val v => plain v
  | .sl _ _ => true

def opd (ty : TypeId) : Operand → Q SV
  | .tmp t => .slot t .ret
  | .const (.slice none 0 0) => match T.ty ty with
    | some (.sl t) => .ret (.v (false, [.nil t]))
    | _ => .fail
  | .const v => if plain v then .ret (.v (false, [.val v])) else .fail
  | .func f => .ret (.v (false, [.clo f []]))
  | .global _ => .fail

def asOne : SV → Q LV
  | .v (false, [l]) => .ret l
  | _ => .fail
def asVD : SV → Q VD
  | .v x => .ret x
  | _ => .fail
def asI : SV → Q (IntKind × Int)
  | .v (false, [.val (.int k n)]) => .ret (k, n)
  | _ => .fail
def asB : SV → Q Bool
  | .v (false, [.val (.bool b)]) => .ret b
  | _ => .fail

/-- A cell of a slice that lies on its own ('tr') or in the state by content: its content. -/
def cont : LV → Q Leaf
  | .val v => .ret (.val v)
  | .ro t xs => .ret (.sl t xs)
  | .fix _ _ t xs => .ret (.sl t xs)
  | .nil t => .ret (.sl t [])
  | .tr o => .obj o fun
    | .tree t xs _ => .ret (.sl t xs)
    | .ret t xs _ => .ret (.sl t xs)
    | _ => .fail
  | .sub o γ i f => .obj o fun
    | .tree t xs γ' => if γ = γ' then match (cells t (xs.getD i (dflt t)))[f]? with
      | some (.sl t' ys) => .ret (.sl t' ys)
      | _ => .fail else .fail
    | .ret t xs γ' => if γ = γ' then match (cells t (xs.getD i (dflt t)))[f]? with
      | some (.sl t' ys) => .ret (.sl t' ys)
      | _ => .fail else .fail
    | _ => .fail
  | _ => .fail

def conts : List LV → Q (List Leaf)
  | [] => .ret []
  | l :: ls => (cont l).bind fun x => (conts ls).bind fun xs => .ret (x :: xs)

/-- A slice's content. -/
def asSl : LV → Q ((t : Ty) × List (den t))
  | l => (cont l).bind fun
    | .sl t xs => .ret ⟨t, xs⟩
    | _ => .fail

/-- A slice in an element, as a load finds it. -/
def elemHere (b : LV) (i f : Nat) (t : Ty) (ys : List (den t)) : Q LV :=
  match b with
  | .ro _ _ => .ret (.ro t ys)
  | .fix _ _ _ _ => .ret (.ro t ys)
  | .tr o => .obj o fun
    | .tree _ _ γ => .ret (.sub o γ i f)
    | .ret _ _ _ => .ret (.ro t ys)
    | _ => .fail
  | .sub o _ _ _ => .obj o fun
    | .ret _ _ _ => .ret (.ro t ys)
    | _ => .fail
  | _ => .fail

/-- The cells of an element, as a load finds them. -/
def elemLVs (b : LV) (i : Nat) : Nat → List Leaf → Q (List LV)
  | _, [] => .ret []
  | f, .val v :: ls => (elemLVs b i (f + 1) ls).bind fun xs => .ret (.val v :: xs)
  | f, .sl t ys :: ls => (elemHere b i f t ys).bind fun x => (elemLVs b i (f + 1) ls).bind fun xs => .ret (x :: xs)

def slotW (d : Option Tmp) (x : SV) : List Wr :=
  match d with
  | some d => [.s d x]
  | none => []
def one (d : Option Tmp) (l : LV) : List Wr := slotW d (.v (false, [l]))

def splice {α : Type} (ls : List α) (off : Nat) (new : List α) : List α := ls.take off ++ new ++ ls.drop (off + new.length)

/-- What is stored into an owned tree: its content, and the trees that are used up by it. -/
def given : List LV → Q (List Leaf × List Nat)
  | [] => .ret ([], [])
  | .val v :: ls => (given ls).bind fun (xs, os) => .ret (.val v :: xs, os)
  | .nil t :: ls => (given ls).bind fun (xs, os) => .ret (.sl t [] :: xs, os)
  | .tr o :: ls => .obj o fun
    | .tree t ys _ => (given ls).bind fun (xs, os) => if os.contains o then .fail else .ret (.sl t ys :: xs, o :: os)
    | _ => .fail
  | _ => .fail

def hasSl : List Leaf → Bool
  | [] => false
  | .sl _ _ :: _ => true
  | .val _ :: ls => hasSl ls

/-- No cell of a type is a slice. -/
def flat (t : Ty) : Bool := !hasSl (cells t (dflt t))

/-- Fresh objects for what a call hands back. -/
def fresh (d : Nat) : Nat → List Leaf → List LV × List (Nat × Obj)
  | _, [] => ([], [])
  | j, .val v :: ls => ((.val v :: (fresh d j ls).1), (fresh d j ls).2)
  | j, .sl t xs :: ls => ((.tr (oid d j) :: (fresh d (j + 1) ls).1), ((oid d j, .tree t xs 0) :: (fresh d (j + 1) ls).2))

def slCount : List Leaf → Nat
  | [] => 0
  | .val _ :: ls => slCount ls
  | .sl _ _ :: ls => slCount ls + 1

def freshTup (d : Nat) : Nat → List Cn → List VD × List (Nat × Obj)
  | _, [] => ([], [])
  | j, x :: xs => (((x.1, (fresh d j x.2).1) :: (freshTup d (j + slCount x.2) xs).1), ((fresh d j x.2).2 ++ (freshTup d (j + slCount x.2) xs).2))

def frees : List (Nat × Obj) → Q Unit
  | [] => .ret ()
  | (n, _) :: l => .free n (frees l)

def objW : List (Nat × Obj) → List Wr
  | [] => []
  | (n, x) :: l => .o n x :: objW l

/-- A box's cells behind a call. -/
def postLVs : List LV → List Leaf → List LV
  | .val _ :: ls, .val v :: ps => .val v :: postLVs ls ps
  | l :: ls, _ :: ps => l :: postLVs ls ps
  | _, _ => []

def boxConts : List Nat → Q (List (List Leaf))
  | [] => .ret []
  | o :: os => .obj o fun
    | .box ls => (conts ls).bind fun xs => (boxConts os).bind fun xss => .ret (xs :: xss)
    | .rbox ls => (conts ls).bind fun xs => (boxConts os).bind fun xss => .ret (xs :: xss)
    | _ => .fail

/-- The trees that a cell's content lies in. -/
def objOf : LV → List Nat
  | .tr o => [o]
  | .sub o _ _ _ => [o]
  | _ => []

def boxObjs : List Nat → Q (List Nat)
  | [] => .ret []
  | o :: os => .obj o fun
    | .box ls => (boxObjs os).bind fun r => .ret (o :: (ls.flatMap objOf ++ r))
    | .rbox ls => (boxObjs os).bind fun r => .ret (o :: (ls.flatMap objOf ++ r))
    | _ => .fail

/-- Trees that are lent to be written: contents before, contents behind, the writes. -/
def muts : List LV → List Leaf → Q (List Leaf × List Leaf × List Wr)
  | [], _ => .ret ([], [], [])
  | .val v :: ls, ys => (muts ls ys.tail).bind fun (xs, zs, ws) => .ret (.val v :: xs, .val v :: zs, ws)
  | .nil t :: ls, ys => (muts ls ys.tail).bind fun (xs, zs, ws) => .ret (.sl t [] :: xs, .sl t [] :: zs, ws)
  | .tr o :: ls, .sl t ys :: r => .obj o fun
    | .tree t' xs γ => if h : t' = t then (muts ls r).bind fun (as, zs, ws) => .ret (.sl t (h ▸ xs) :: as, .sl t ys :: zs, .o o (.tree t ys (γ + 1)) :: ws) else .fail
    | _ => .fail
  | _, _ => .fail

/-- One argument: its description, what becomes of objects, and which objects are lent. -/
def arg (h : How) (x : SV) : Q (AD × List Wr × List Nat) :=
  match h, x with
  | .ro, .v (ag, ls) => (conts ls).bind fun xs => .ret (.v (ag, xs), [], ls.flatMap objOf)
  | .ptr post, .v (false, [.bp o 0]) => .obj o fun
    | .box ls => (conts ls).bind fun pre => if post.length = pre.length ∧ post.map leafSl = pre.map leafSl ∧ post.all leafPlain = true then .ret (.ptr pre post, [.o o (.box (postLVs ls post))], ls.flatMap objOf) else .fail
    | _ => .fail
  | .msub t ys, .v (false, [.sub o γ i f]) => .obj o fun
    | .tree t' xs γ' => if γ = γ' then match (cells t' (xs.getD i (dflt t')))[f]? with
      | some (.sl t'' zs) => if h : t'' = t then
          match ofCells t' ((cells t' (xs.getD i (dflt t'))).set f (.sl t ys)) with
          | some x' => .ret (.mut (false, [.sl t (h ▸ zs)]) [.sl t ys], [.o o (.tree t' (xs.set i x') γ')], [])
          | none => .fail
        else .fail
      | _ => .fail else .fail
    | _ => .fail
  | .mut ys, .v (ag, ls) => (muts ls ys).bind fun (xs, zs, ws) => .ret (.mut (ag, xs) zs, ws, [])
  | .mv, .v (ag, ls) => (given ls).bind fun (xs, os) => .ret (.mv (ag, xs), os.map fun o => .o o .dead, [])
  | .fn _, .v (false, [.fn p]) => .ret (.fn p, [], [])
  | .fn p, .v (false, [.clo f caps]) => (boxConts caps).bind fun xss => (boxObjs caps).bind fun os => .ask (CloOk P f xss p) (.ret (.fn p, [], os))
  | _, _ => .fail

def args : List How → List SV → Q (List AD × List Wr × List Nat)
  | _, [] => .ret ([], [], [])
  | hs, x :: xs => (arg P (hs.headD .ro) x).bind fun (a, ws, os) => (args hs.tail xs).bind fun (as, ws', os') => .ret (a :: as, ws ++ ws', os ++ os')

/-- Each object is written once, and none of those that are lent. -/
def noClash : List Wr → List Nat → Bool
  | [], _ => true
  | .s _ _ :: _, _ => false
  | .o k _ :: ws, os => !(ws.any fun | .o k' _ => k' == k | .s _ _ => true) && !os.contains k && noClash ws os

def opds : List TypeId → List Operand → Q (List SV)
  | _, [] => .ret []
  | ts, x :: xs => (opd T (ts.headD 0) x).bind fun v => (opds ts.tail xs).bind fun vs => .ret (v :: vs)

def roLV : Leaf → LV
  | .val v => .val v
  | .sl t xs => .ro t xs

/-- What a call hands back, as slots and fresh objects. -/
def result (d : Option Tmp) (rd : RD) : Q (List Wr) :=
  let n := d.getD 0
  match rd with
  | .one x => (frees (fresh n 0 x.2).2).bind fun _ => .ret (objW (fresh n 0 x.2).2 ++ slotW d (.v (x.1, (fresh n 0 x.2).1)))
  | .tup xs => (frees (freshTup n 0 xs).2).bind fun _ => .ret (objW (freshTup n 0 xs).2 ++ slotW d (.tup (freshTup n 0 xs).1))
  | .ptr ls => .free (oid n 0) (.ret (.o (oid n 0) (.box (ls.map roLV)) :: one d (.bp (oid n 0) 0)))

/-- What is handed back is fit for slots. -/
def rdFit (ws : List Wr) (os : List Nat) : RD → Bool
  | .one x => x.2.all leafPlain && (x.1 || x.2.length == 1)
  | .tup xs => xs.all fun x => x.2.all leafPlain && (x.1 || x.2.length == 1)
  | .ptr ls => ls.all leafPlain && ws.isEmpty && os.isEmpty

def binInt (op : BinOp) (k : IntKind) (x y : Int) : Q Value :=
  match op with
  | .add => .ret (.int k (k.wrap (x + y)))
  | .sub => .ret (.int k (k.wrap (x - y)))
  | .mul => .ret (.int k (k.wrap (x * y)))
  | .quo => .ask (y ≠ 0) (.ret (.int k (k.wrap (x.tdiv y))))
  | .rem => .ask (y ≠ 0) (.ret (.int k (x.tmod y)))
  | .and => .ret (.int k (k.wrap (BitVec.ofInt k.bits x &&& BitVec.ofInt k.bits y).toNat))
  | .or => .ret (.int k (k.wrap (BitVec.ofInt k.bits x ||| BitVec.ofInt k.bits y).toNat))
  | .xor => .ret (.int k (k.wrap (BitVec.ofInt k.bits x ^^^ BitVec.ofInt k.bits y).toNat))
  | .andNot => .ret (.int k (k.wrap (BitVec.ofInt k.bits x &&& ~~~BitVec.ofInt k.bits y).toNat))
  | .eql => .ret (.bool (x == y))
  | .neq => .ret (.bool (x != y))
  | .lss => .ret (.bool (decide (x < y)))
  | .leq => .ret (.bool (decide (x ≤ y)))
  | .gtr => .ret (.bool (decide (x > y)))
  | .geq => .ret (.bool (decide (x ≥ y)))
  | _ => .fail

def binStr (op : BinOp) (x y : ByteArray) : Q Value :=
  match op with
  | .add => .ask (((x.size + y.size : Nat) : Int) ≤ IntKind.i64.max) (.ret (.string (x ++ y)))
  | .eql => .ret (.bool (x.toList == y.toList))
  | .neq => .ret (.bool !(x.toList == y.toList))
  | _ => .fail

def binV (xt : TypeId) (op : BinOp) (x y : Value) : Q Value :=
  match x, y with
  | .int k a, .int k' b => match op with
    | .shl => .ask (¬ b < 0) (.ret (.int k (k.wrap (a * 2 ^ min b.toNat k.bits))))
    | .shr => .ask (¬ b < 0) (.ret (.int k (a.fdiv (2 ^ min b.toNat k.bits))))
    | op => if k = k' then binInt op k a b else .fail
  | .string a, .string b => binStr op a b
  | .bool a, .bool b => if T.ty xt = some .bool then match op with
    | .eql => .ret (.bool (a == b))
    | .neq => .ret (.bool !(a == b))
    | _ => .fail else .fail
  | _, _ => .fail

def unV (op : UnOp) (x : Value) : Q Value :=
  match op, x with
  | .neg, .int k n => .ret (.int k (k.wrap (0 - n)))
  | .not, .bool b => .ret (.bool !b)
  | _, _ => .fail

def foldMM (isMax : Bool) (k : IntKind) : Int → List SV → Q Int
  | x, [] => .ret x
  | x, v :: vs => (asI v).bind fun (k', y) => if k' = k then foldMM isMax k (if isMax then (if y > x then y else x) else (if y < x then y else x)) vs else .fail

/-- A struct's parts laid over its zero value. -/
def lay (t : TypeId) : List LV → List (Nat × Operand) → Q (List LV)
  | ls, [] => .ret ls
  | ls, (i, x) :: ps => match T.foff t i with
    | some (off, n) => (match x with
        | .const (.slice none 0 0) => match ls[off]? with
          | some (.nil t') => Q.ret (SV.v (false, [.nil t']))
          | _ => .fail
        | x => opd T 0 x).bind fun v => (asVD v).bind fun (_, new) => if new.length = n ∧ off + n ≤ ls.length then lay t (splice ls off new) ps else .fail
    | none => .fail

/-- A slice literal's elements, in order. -/
def elems (e : TypeId) (te : Ty) : Nat → List (Nat × Operand) → Q (List (List LV))
  | _, [] => .ret []
  | n, (i, x) :: ps => if i = n then (opd T e x).bind fun v => (asVD v).bind fun (ag, ls) => if ag = isAgg te ∧ ls.length = width te then (elems e te (n + 1) ps).bind fun r => .ret (ls :: r) else .fail else .fail

def givens (te : Ty) : List (List LV) → Q (List (den te) × List Nat)
  | [] => .ret ([], [])
  | ls :: r => (given ls).bind fun (xs, os) => (givens te r).bind fun (ys, os') => match ofCells te xs with
    | some x => if os.any os'.contains then .fail else .ret (x :: ys, os ++ os')
    | none => .fail

/-- What is lent into a literal that owns nothing: trees are given up (they stay readable). -/
def lent : List LV → Q (List Leaf × List Wr)
  | [] => .ret ([], [])
  | .tr o :: ls => .obj o fun
    | .tree t xs γ => (lent ls).bind fun (ys, ws) => .ret (.sl t xs :: ys, .o o (.ret t xs γ) :: ws)
    | .ret t xs _ => (lent ls).bind fun (ys, ws) => .ret (.sl t xs :: ys, ws)
    | _ => .fail
  | .sub .. :: _ => .fail
  | l :: ls => (cont l).bind fun x => (lent ls).bind fun (ys, ws) => .ret (x :: ys, ws)

def lents (te : Ty) : List (List LV) → Q (List (den te) × List Wr)
  | [] => .ret ([], [])
  | ls :: r => (lent ls).bind fun (xs, ws) => (lents te r).bind fun (ys, ws') => match ofCells te xs with
    | some x => .ret (x :: ys, ws ++ ws')
    | none => .fail

def isSub : LV → Bool
  | .sub .. => true
  | _ => false

def isRo : LV → Bool
  | .ro .. | .fix .. | .sub .. => true
  | _ => false

def bound : Option Operand → Q (Option Int)
  | none => .ret none
  | some x => (opd T 0 x).bind fun v => (asI v).bind fun (_, n) => .ret (some n)

def cutL {α : Type} (xs : List α) : Option Int → Option Int → List α
  | none, none => xs
  | some l, none => xs.drop l.toNat
  | none, some h => xs.take h.toNat
  | some l, some h => (xs.take h.toNat).drop l.toNat

def cutAsk (n : Nat) : Option Int → Option Int → Prop
  | none, none => True
  | some l, none => 0 ≤ l ∧ l ≤ (n : Int)
  | none, some h => 0 ≤ h ∧ h ≤ (n : Int)
  | some l, some h => 0 ≤ l ∧ l ≤ h ∧ h ≤ (n : Int)

def cnsOf : List AD → Option (List Cn)
  | [] => some []
  | .v x :: as => match cnsOf as with
    | some xs => some (x :: xs)
    | none => none
  | _ => none

def step (o : Oper) (c : Orc) (pk : Bool) : Q (List Wr) :=
  match o.op with
  | .move x => (opd T o.type x).bind fun v => .ret (slotW o.dst v)
  | .assign x => (opd T o.type x).bind fun v => .ret (slotW o.dst v)
  | .pick cnd x y => (opd T 0 cnd).bind fun v => (asB v).bind fun b => .ask (b = pk) ((opd T o.type (if pk then x else y)).bind fun v => .ret (slotW o.dst v))
  | .load t a => (opd T 0 a).bind fun v => (asOne v).bind fun l => match l, T.ty t with
    | .bp ob off, some ty => .obj ob fun
      | .box ls => if off + width ty ≤ ls.length then .ret (slotW o.dst (.v (isAgg ty, (ls.drop off).take (width ty)))) else .fail
      | .rbox ls => if off + width ty ≤ ls.length then .ret (slotW o.dst (.v (isAgg ty, (ls.drop off).take (width ty)))) else .fail
      | _ => .fail
    | .ep t' b i off, some ty => (asSl b).bind fun ⟨t'', xs⟩ => if t'' = t' ∧ off + width ty ≤ width t'' then
        (elemLVs b i 0 (cells t'' (xs.getD i (dflt t'')))).bind fun ls => .ret (slotW o.dst (.v (isAgg ty, (ls.drop off).take (width ty)))) else .fail
    | _, _ => .fail
  | .store t a x => (opd T 0 a).bind fun v => (asOne v).bind fun l => (opd T t x).bind fun y => (asVD y).bind fun (ag, new) => match l, T.ty t with
    | .bp ob off, some ty => .obj ob fun
      | .box ls => if ag = isAgg ty ∧ new.length = width ty ∧ off + width ty ≤ ls.length then .ret [.o ob (.box (splice ls off new))] else .fail
      | _ => .fail
    | .ep t' (.tr ob) i off, some ty => .obj ob fun
      | .tree t'' xs γ => (given new).bind fun (ys, os) => if t'' = t' ∧ ag = isAgg ty ∧ new.length = width ty ∧ off + width ty ≤ width t'' ∧ os.contains ob = false then
          match ofCells t'' (splice (cells t'' (xs.getD i (dflt t''))) off ys) with
          | some x' => .ret (.o ob (.tree t'' (xs.set i x') (if hasSl ys then γ + 1 else γ)) :: os.map fun o => .o o .dead)
          | none => .fail else .fail
      | _ => .fail
    | _, _ => .fail
  | .alloc t => match T.ty t, o.dst with
    | some ty, some d => .free (oid d 0) (.ret [.o (oid d 0) (.box (zeroLVs ty)), .s d (.v (false, [.bp (oid d 0) 0]))])
    | _, _ => .fail
  | .box t x => (opd T t x).bind fun v => (asVD v).bind fun (ag, ls) => match T.ty t, o.dst with
    | some ty, some d => if ag = isAgg ty ∧ ls.length = width ty then .free (oid d 0) (.ret [.o (oid d 0) (.box ls), .s d (.v (false, [.bp (oid d 0) 0]))]) else .fail
    | _, _ => .fail
  | .build t ps => match T.ty t with
    | some (.st n) => (lay T t (zeroLVs (.st n)) ps.toList).bind fun ls => .ret (slotW o.dst (.v (true, ls)))
    | _ => .fail
  | .buildSlice t n ps => match T.elem t, o.dst with
    | some e, some d => match T.ty e with
      | some te => if ps.size = n ∧ n * width te ≤ 16777216 then (elems T e te 0 ps.toList).bind fun r =>
          if r.any (·.any isRo) then (lents te r).bind fun (xs, ws) => .ret (ws ++ [.s d (.v (false, [.ro te xs]))])
          else (givens te r).bind fun (xs, os) => .free (oid d 0) (.ret ((os.map fun o => .o o .dead) ++ [.o (oid d 0) (.tree te xs 0), .s d (.v (false, [.tr (oid d 0)]))])) else .fail
      | none => .fail
    | _, _ => .fail
  | .makeSlice t n m => match T.elem t, o.dst with
    | some e, some d => match T.ty e with
      | some te => (opd T 0 n).bind fun a => (asI a).bind fun (_, l) => (opd T 0 m).bind fun b => (asI b).bind fun (_, k) =>
          .ask (0 ≤ l ∧ l = k ∧ l ≤ 140737488355328 ∧ (T.bytes e : Int) * l ≤ 140737488355328) (.free (oid d 0) (.ret [.o (oid d 0) (.tree te (List.replicate l.toNat (dflt te)) 0), .s d (.v (false, [.tr (oid d 0)]))]))
      | none => .fail
    | _, _ => .fail
  | .slice t x lo hi none => (opd T t x).bind fun v => (asOne v).bind fun l => (bound T lo).bind fun lo => (bound T hi).bind fun hi => match l with
    | .val (.string s) => if T.ty t = some .str then .ask (cutAsk s.size lo hi) (.ret (one o.dst (.val (.string (s.extract (lo.getD 0).toNat (match hi with | some h => h.toNat | none => s.size)))))) else .fail
    | .tr ob => .obj ob fun
      | .tree te xs γ => if (T.elem t).bind T.ty = some te then .ask (cutAsk xs.length lo hi) (.ret (.o ob (.ret te xs γ) :: one o.dst (.ro te (cutL xs lo hi)))) else .fail
      | .ret te xs _ => if (T.elem t).bind T.ty = some te then .ask (cutAsk xs.length lo hi) (.ret (one o.dst (.ro te (cutL xs lo hi)))) else .fail
      | _ => .fail
    | l => if isSub l then .fail else (asSl l).bind fun ⟨te, xs⟩ => if (T.elem t).bind T.ty = some te then .ask (cutAsk xs.length lo hi) (.ret (one o.dst (.ro te (cutL xs lo hi)))) else .fail
  | .slice t x (some (.const (.int .i64 0))) (some (.const (.int .i64 0))) (some (.const (.int .i64 0))) => (opd T t x).bind fun v => (asOne v).bind fun l => (asSl l).bind fun ⟨te, _⟩ => if (T.elem t).bind T.ty = some te then .ret (one o.dst (.nil te)) else .fail
  | .indexAddr t x i => (opd T t x).bind fun v => (asOne v).bind fun l => (opd T 0 i).bind fun j => (asI j).bind fun (_, n) => (asSl l).bind fun ⟨te, xs⟩ =>
      if (T.elem t).bind T.ty = some te then .ask (0 ≤ n ∧ n < (xs.length : Int)) (.ret (one o.dst (.ep te l n.toNat 0))) else .fail
  | .fieldAddr t x j => (opd T 0 x).bind fun v => (asOne v).bind fun l => match T.foff t j, l with
    | some (k, _), .bp ob off => .ret (one o.dst (.bp ob (off + k)))
    | some (k, _), .ep te b i off => .ret (one o.dst (.ep te b i (off + k)))
    | _, _ => .fail
  | .nilCheck x => (opd T 0 x).bind fun v => (asOne v).bind fun l => match l with
    | .bp ob off => .ret (one o.dst (.bp ob off))
    | _ => .fail
  | .extract x j => (opd T 0 x).bind fun v => match v with
    | .tup vs => match vs[j]? with
      | some vd => .ret (slotW o.dst (.v vd))
      | none => .fail
    | _ => .fail
  | .binOp op xt x y _ => (opd T 0 x).bind fun a => (asOne a).bind fun a => (opd T 0 y).bind fun b => (asOne b).bind fun b => match a, b with
    | .val a, .val b => (binV T xt op a b).bind fun r => .ret (one o.dst (.val r))
    | _, _ => .fail
  | .unOp op _ x => (opd T 0 x).bind fun a => (asOne a).bind fun a => match a with
    | .val a => (unV op a).bind fun r => .ret (one o.dst (.val r))
    | _ => .fail
  | .convert src dst x => (opd T 0 x).bind fun a => (asI a).bind fun (_, n) => match T.ty src, T.ty dst with
    | some (.int _), some (.int k) => .ret (one o.dst (.val (.int k (k.wrap n))))
    | _, _ => .fail
  | .makeFunc (.func f) first caps => if first.size = 0 then (opds T [] caps.toList).bind fun vs => match vs.mapM (fun | .v (false, [.bp ob 0]) => some ob | _ => none) with
      | some obs => .ret (one o.dst (.clo f obs))
      | none => .fail else .fail
  | .call { callee := .builtin .len, args := xs, argTypes := ts } => match xs.toList, ts.toList with
    | [x], [t] => (opd T t x).bind fun v => (asOne v).bind fun l => match l with
      | .val (.string s) => if T.ty t = some .str then .ret (one o.dst (.val (.int .i64 s.size))) else .fail
      | l => (asSl l).bind fun ⟨te, xs⟩ => if (T.elem t).bind T.ty = some te then .ret (one o.dst (.val (.int .i64 xs.length))) else .fail
    | _, _ => .fail
  | .call { callee := .builtin .max, args := xs, .. } => (opds T [] xs.toList).bind fun
    | v :: vs => (asI v).bind fun (k, n) => (foldMM true k n vs).bind fun r => .ret (one o.dst (.val (.int k r)))
    | [] => .fail
  | .call { callee := .builtin .min, args := xs, .. } => (opds T [] xs.toList).bind fun
    | v :: vs => (asI v).bind fun (k, n) => (foldMM false k n vs).bind fun r => .ret (one o.dst (.val (.int k r)))
    | [] => .fail
  | .call { callee := .builtin .append, args := xs, argTypes := ts } => match xs.toList, ts.toList, o.dst with
    | [x, y], [t, t'], some d => match T.elem t, T.elem t' with
      | some e, some _ => (opd T t x).bind fun a => (asOne a).bind fun a => (opd T t' y).bind fun b => (asOne b).bind fun b =>
          match a with
          | .nil te => addTo d e te [] [] b
          | .tr ob => .obj ob fun
            | .tree te xs _ => addTo d e te xs [ob] b
            | _ => .fail
          | _ => .fail
      | _, _ => .fail
    | _, _, _ => .fail
  | .call { callee := .value (.func f), args := xs, argTypes := ts } => (opds T ts.toList xs.toList).bind fun vs => (args P c.how vs).bind fun (ads, ws, os) => if noClash ws os = true ∧ rdFit ws os c.rd = true then
      .ask (PCall P f ads c.rd) ((result o.dst c.rd).bind fun ws' => .ret (ws ++ ws')) else .fail
  | .call { callee := .value (.tmp f), args := xs, argTypes := ts } => .slot f fun v => (asOne v).bind fun
    | .fn p => (opds T ts.toList xs.toList).bind fun vs => (args P [] vs).bind fun (ads, _, _) => match cnsOf ads, c.rd with
      | some cs, .one (false, [.val (.bool r)]) => .ask (p cs = some r) (.ret (one o.dst (.val (.bool r))))
      | _, _ => .fail
    | _ => .fail
  | _ => .fail
where
  /-- Elements put behind a list of the call's own. -/
  addTo (d : Tmp) (e : TypeId) (te : Ty) (xs : List (den te)) (used : List Nat) (b : LV) : Q (List Wr) :=
    (match b with
      | .tr ob => if used.contains ob then Q.fail else Q.obj ob fun
        | .tree t ys _ => if h : t = te then Q.ret (some (h ▸ ys), if flat te then ([] : List Nat) else [ob]) else Q.fail
        | .ret t ys _ => if h : t = te then if flat te then Q.ret (some (h ▸ ys), []) else Q.fail else Q.fail
        | _ => .fail
      | l => (asSl l).bind fun ⟨t, ys⟩ => if h : t = te then if flat te then Q.ret (some (h ▸ ys), []) else .fail else .fail).bind fun
    | (some ys, more) => if used.any more.contains ∨ ¬ T.ty e = some te then .fail else
        .ask (((xs.length + ys.length : Nat) : Int) * (T.bytes e : Int) ≤ 140737488355328) (.free (oid d 0)
          (.ret ((used ++ more).map (fun o => Wr.o o .dead) ++ [Wr.o (oid d 0) (.tree te (xs ++ ys) 0), Wr.s d (.v (false, [.tr (oid d 0)]))])))
    | _ => .fail

/-- Operations on what is split: an element's slice that is told apart; a list in two parts. -/
def stepX (o : Oper) : Q (List Wr) :=
  match o.op with
  | .load t a => (opd T 0 a).bind fun v => (asOne v).bind fun l => match l, T.ty t with
    | .ep t' (.tr ob) i off, some ty => .obj ob fun
      | .hole t'' xs _ i' f' o2 => if t'' = t' ∧ off = f' ∧ width ty = 1 ∧ isAgg ty = false then .ask (i = i') (.obj o2 fun
        | .tree _ _ _ => .ret (one o.dst (.tr o2))
        | _ => .fail) else .fail
      | _ => .fail
    | _, _ => .fail
  | .indexAddr t x i => (opd T t x).bind fun v => (asOne v).bind fun l => (opd T 0 i).bind fun j => (asI j).bind fun (_, n) => match l with
    | .tr ob => .obj ob fun
      | .hole te xs _ _ _ _ => if (T.elem t).bind T.ty = some te then .ask (0 ≤ n ∧ n < (xs.length : Int)) (.ret (one o.dst (.ep te l n.toNat 0))) else .fail
      | _ => .fail
    | _ => .fail
  | .store t a x => (opd T 0 a).bind fun v => (asOne v).bind fun l => (opd T t x).bind fun y => (asVD y).bind fun (ag, new) => match l, T.ty t with
    | .ep t' (.tr ob) i off, some ty => .obj ob fun
      | .hole t'' xs γ i' f' _ => (given new).bind fun (ys, os) => if t'' = t' ∧ ag = isAgg ty ∧ new.length = width ty ∧ width ty = 1 ∧ off = f' ∧ os.contains ob = false then
          .ask (i = i') (match ofCells t'' (splice (cells t'' (xs.getD i' (dflt t''))) off ys) with
          | some x' => .ret (.o ob (.tree t'' (xs.set i' x') (γ + 1)) :: os.map fun o => .o o .dead)
          | none => .fail) else .fail
      | _ => .fail
    | _, _ => .fail
  | .slice t x lo hi none => (opd T t x).bind fun v => (asOne v).bind fun l => (bound T lo).bind fun lo => (bound T hi).bind fun hi => match l with
    | .tr ob => .obj ob fun
      | .pair te n k oA oB => if (T.elem t).bind T.ty = some te then (match lo, hi with
        | none, some h => .ask (h = (k : Int)) (.ret (one o.dst (.tr oA)))
        | some l, none => .ask (l = (k : Int)) (.ret (one o.dst (.tr oB)))
        | _, _ => .fail) else .fail
      | _ => .fail
    | _ => .fail
  | .call { callee := .builtin .append, args := xs, argTypes := ts } => match xs.toList, ts.toList, o.dst with
    | [x, y], [t, t'], some d => match T.elem t, T.elem t' with
      | some e, some _ => (opd T t x).bind fun a => (asOne a).bind fun a => (opd T t' y).bind fun b => (asOne b).bind fun b => match a, b with
        | .tr oa, .tr ob => .obj oa fun
          | .tree te xs _ => .obj ob fun
            | .elems te' ys => if h : te' = te then (if oa = ob ∨ ¬ T.ty e = some te then .fail else
                .ask (((xs.length + (h ▸ ys : List (den te)).length : Nat) : Int) * (T.bytes e : Int) ≤ 140737488355328) (.free (oid d 0)
                  (.ret [.o oa .dead, .o ob .dead, .o (oid d 0) (.tree te (xs ++ (h ▸ ys : List (den te))) 0), .s d (.v (false, [.tr (oid d 0)]))]))) else .fail
            | _ => .fail
          | _ => .fail
        | _, _ => .fail
      | _, _ => .fail
    | _, _, _ => .fail
  | _ => .fail

def stepG (o : Oper) (c : Orc) : Q (List Wr) := match c.x with
  | true => stepX T o
  | false => step P T o c c.p

/-- An operation under its guard. -/
def gstep (ops : Array Oper) (o : Oper) (c : Orc) : Q (List Wr) :=
  match o.guard with
  | none => stepG P T o c
  | some (j, want) => match (ops[j]?).bind (·.dst) with
    | some d => .slot d fun
      | .v (false, [.val (.bool b)]) => .ask (b = c.g) (if c.g = want then stepG P T o c else .ret (slotW o.dst .undef))
      | .undef => .ret (slotW o.dst .undef)
      | _ => .fail
    | none => .fail

/-- Does the operation need an oracle's word? -/
def needs (o : Oper) : Bool :=
  o.guard.isSome || match o.op with
    | .pick .. => true
    | .call { callee := .value _, .. } => true
    | _ => false

/-- The operation's slot is one of the function's; a store has none. -/
def fits (N : Nat × Nat) (o : Oper) : Bool :=
  (match o.dst with | some d => decide (N.1 ≤ d) && decide (d < N.2) | none => true) && match o.op with | .store .. => o.dst.isNone | _ => true

/-- What one operation has read and written. -/
abbrev Rw := List Key × List Wr

structure Ran where
  σ : St
  ps : List Prop
  rw : List Rw
  cs : List Orc

/-- Operations in the order of the text. -/
def runOps (N : Nat × Nat) (ops : Array Oper) : List Oper → List Orc → St → Option Ran
  | [], cs, σ => some ⟨σ, [], [], cs⟩
  | o :: os, cs, σ =>
    if fits N o then
      match (gstep P T ops o (if needs o then cs.headD {} else {})).run σ with
      | some g => match runOps N ops os (if needs o then cs.tail else cs) (σ.puts g.a) with
        | some r => some ⟨r.σ, g.ps ++ r.ps, (g.rs, g.a) :: r.rw, r.cs⟩
        | none => none
      | none => none
    else none

def wkey : Wr → Key
  | .s n _ => .s n
  | .o n _ => .o n

def hit (a b : List Key) : Bool := a.any fun k => b.any fun k' => k == k'

/-- Which operations must stand ahead of each, as bits. -/
def masks : Nat → List Oper → List Nat → List Nat
  | _, [], acc => acc
  | i, o :: os, acc => masks (i + 1) os (acc ++ [o.after.toList.foldl (fun m e => if Region.binds .any e then m ||| 2 ^ e.on ||| acc.getD e.on 0 else m) 0])

/-- Every edge that binds points backwards. -/
def backward : Nat → List Oper → Bool
  | _, [] => true
  | i, o :: os => (o.after.toList.all fun e => !Region.binds .any e || decide (e.on < i)) && backward (i + 1) os

/-- Two operations that neither must precede the other leave each other alone. -/
def apartAll (ms : List Nat) (rw : List Rw) : Bool :=
  (List.range rw.length).all fun j => (List.range j).all fun i => (ms.getD j 0).testBit i ||
    (!hit ((rw.getD i ([], [])).2.map wkey) ((rw.getD j ([], [])).1) && !hit ((rw.getD i ([], [])).2.map wkey) ((rw.getD j ([], [])).2.map wkey) && !hit ((rw.getD i ([], [])).1) ((rw.getD j ([], [])).2.map wkey))

def runRegion (N : Nat × Nat) (ops : Array Oper) (draw : Bool) (cs : List Orc) (σ : St) : Option Ran :=
  match runOps P T N ops ops.toList cs σ with
  | some r => if draw then (if backward 0 ops.toList && apartAll (masks 0 ops.toList []) r.rw then some r else none) else some r
  | none => none

end

end Go.Pi

/- The relation between the abstract state and the machine ('Rep'), and its frame. -/
namespace Go.Pi

/-- What is fixed while a function runs: its slots, the world at its entry, the blocks that it was handed. -/
structure Ctx where
  F : Nat × Nat
  par : Nat → Value
  w0 : World
  X : Nat → Prop
  fx : Nat → Nat → Value

/-- How many slots there are; the first 'lo' of them are the arguments and stay. -/
def Ctx.N (C : Ctx) : Nat := C.F.2
def Ctx.lo (C : Ctx) : Nat := C.F.1
/-- A slot that may be written. -/
def Ctx.Fit (C : Ctx) (d : Nat) : Prop := C.lo ≤ d ∧ d < C.N

/-- What the abstract state does not tell: each object's header and blocks. -/
structure Gh where
  hv : Nat → Value
  fp : Nat → Nat → Prop

def Gh.L (g : Gh) (b : Nat) : Prop := ∃ i, g.fp i b

def isSlAt (t : Ty) (f : Nat) : Prop := ∃ t' ys, (cells t (dflt t))[f]? = some (.sl t' ys)

/-- The cell of an element's slice holds v. -/
def HdrAt (w : World) (h : Value) (t : Ty) (n i f : Nat) (v : Value) : Prop :=
  ∃ blk off cap, h = hdr blk off n cap ∧ i < n ∧ isSlAt t f ∧ w.cell? ⟨blk, off + i * width t + f, none⟩ = some v

def SubOk (O : Nat → Option Obj) (g : Gh) (w : World) (o γ i f : Nat) (v : Value) : Prop :=
  ((O o).isSome ∧ ∀ t xs γ' i' f' o2, O o = some (.hole t xs γ' i' f' o2) → γ ≤ γ') ∧ (∀ t xs γ', O o = some (.tree t xs γ') → γ ≤ γ' ∧ (γ = γ' → HdrAt w (g.hv o) t xs.length i f v)) ∧
    (∀ t xs γ', O o = some (.ret t xs γ') → γ ≤ γ' ∧ (γ = γ' → HdrAt w (g.hv o) t xs.length i f v))

/-- Owned elements but for some cells. -/
structure OwnX (w : World) (t : Ty) (xs : List (den t)) (blk off cap : Nat) (S : Nat → Prop) (D : Nat → Nat → Prop) : Prop where
  ex : ∃ (c : Array Value) (e : TypeId) (V : Nat → Nat → Value) (F : Nat → Nat → Nat → Prop), w.heap[blk]? = some (.cells c e (0, 0)) ∧ off + cap * width t ≤ c.size ∧ xs.length ≤ cap ∧ cap ≤ 9223372036854775807 ∧
    (∀ i f, i < xs.length → f < width t → c[off + i * width t + f]? = some (V i f)) ∧
    (∀ i x, xs[i]? = some x → ∀ f l, (cells t x)[f]? = some l → ¬ D i f → Own w l (V i f) (F i f)) ∧
    (∀ b, S b ↔ b = blk ∨ ∃ i f, i < xs.length ∧ f < width t ∧ ¬ D i f ∧ F i f b) ∧
    (∀ i f, i < xs.length → f < width t → ¬ D i f → ¬ F i f blk) ∧
    (∀ i f j g b, i < xs.length → f < width t → j < xs.length → g < width t → ¬ D i f → ¬ D j g → F i f b → F j g b → i = j ∧ f = g)

theorem OwnX.mono {w w' : World} {t : Ty} {xs : List (den t)} {blk off cap : Nat} {S : Nat → Prop} {D : Nat → Nat → Prop} (h : OwnX w t xs blk off cap S D) (hw : ∀ b, S b → w'.heap[b]? = w.heap[b]?) : OwnX w' t xs blk off cap S D := by
  obtain ⟨c, e, V, F, hb, hsz, hlen, h63, hc, hn, hS, hself, hdis⟩ := h
  refine ⟨c, e, V, F, ?_, hsz, hlen, h63, hc, ?_, hS, hself, hdis⟩
  · rw [hw _ ((hS _).2 (.inl rfl))]; exact hb
  · intro i x hx f l hl hD
    have hi : i < xs.length := (List.getElem?_eq_some_iff.1 hx).1
    have hf : f < width t := by rw [← cells_length t x]; exact (List.getElem?_eq_some_iff.1 hl).1
    exact (hn i x hx f l hl hD).mono (fun b hb' => hw b ((hS b).2 (.inr ⟨i, f, hi, hf, hD, hb'⟩)))

theorem OwnX.congr {w : World} {t : Ty} {xs : List (den t)} {blk off cap : Nat} {S S' : Nat → Prop} {D : Nat → Nat → Prop} (h : OwnX w t xs blk off cap S D) (hs : ∀ b, S' b ↔ S b) : OwnX w t xs blk off cap S' D := by
  obtain ⟨c, e, V, F, hb, hsz, hlen, h63, hc, hn, hS, hself, hdis⟩ := h
  exact ⟨c, e, V, F, hb, hsz, hlen, h63, hc, hn, fun b => (hs b).trans (hS b), hself, hdis⟩

/-- Elements that own, in a block that nobody writes any more. -/
def ElemsOk (w : World) (ok : Nat → Prop) (t : Ty) (ys : List (den t)) (v : Value) (S : Nat → Prop) : Prop :=
  (ys = [] ∧ (∃ a c, v = .slice a 0 c) ∧ ∀ b, ¬ S b) ∨ ∃ (blk off cap : Nat) (V : Nat → Nat → Value) (F : Nat → Nat → Nat → Prop), v = hdr blk off ys.length cap ∧ ok blk ∧ ys.length ≤ cap ∧
    (∀ i f, i < ys.length → f < width t → w.cell? ⟨blk, off + i * width t + f, none⟩ = some (V i f)) ∧
    (∀ i x, ys[i]? = some x → ∀ f l, (cells t x)[f]? = some l → Own w l (V i f) (F i f)) ∧
    (∀ b, S b ↔ ∃ i f, i < ys.length ∧ f < width t ∧ F i f b) ∧
    (∀ i f j g b, i < ys.length → f < width t → j < ys.length → g < width t → F i f b → F j g b → i = j ∧ f = g)

def BpOk (O : Nat → Option Obj) (g : Gh) (o off : Nat) (v : Value) : Prop :=
  (O o).isSome ∧ ∃ blk, g.hv o = .pointer (some ⟨blk, 0, none⟩) ∧ v = .pointer (some ⟨blk, off, none⟩)

def RepLV (P : Program) (C : Ctx) (O : Nat → Option Obj) (g : Gh) (w : World) : LV → Value → Prop
  | .val u, v => v = u ∧ plain u = true
  | .ro t xs, v => Rd w (okB w g.L) (.sl t xs) v
  | .fix k j t xs, v => v = C.fx k j ∧ Rd w (okB w g.L) (.sl t xs) v
  | .nil _, v => ∃ a, v = .slice a 0 0
  | .tr o, v => (O o).isSome ∧ v = g.hv o ∧ ∃ a n c, v = .slice a n c
  | .sub o γ i f, v => SubOk O g w o γ i f v ∧ ∃ a n c, v = .slice a n c
  | .bp o off, v => BpOk O g o off v
  | .ep t b i off, v => ∃ vb blk o n cap, RepLV P C O g w b vb ∧ vb = hdr blk o n cap ∧ i < n ∧ v = .pointer (some ⟨blk, o + i * width t + off, none⟩)
  | .clo f caps, v => ∃ vs : List Value, v = .func (.func f) #[] vs.toArray ∧ Each (fun o u => BpOk O g o 0 u) caps vs
  | .fn p, v => FnOk P C.w0 C.X v p

def RepVD (P : Program) (C : Ctx) (O : Nat → Option Obj) (g : Gh) (w : World) (x : VD) (v : Value) : Prop :=
  ∃ us, v = mkv x.1 us ∧ Each (RepLV P C O g w) x.2 us ∧ (x.1 = false → x.2.length = 1)

def RepSV (P : Program) (C : Ctx) (O : Nat → Option Obj) (g : Gh) (w : World) : SV → Value → Prop
  | .v x, v => RepVD P C O g w x v
  | .tup xs, v => ∃ us, v = .tuple (parts xs us).toArray ∧ Each (RepLV P C O g w) (xs.flatMap (·.2)) us ∧ ∀ x ∈ xs, x.1 = false → x.2.length = 1
  | .undef, v => v = undef

def RepObj (P : Program) (C : Ctx) (O : Nat → Option Obj) (g : Gh) (w : World) (i : Nat) : Obj → Prop
  | .box ls => ∃ blk c e, g.hv i = .pointer (some ⟨blk, 0, none⟩) ∧ w.heap[blk]? = some (.cells c e (0, 0)) ∧ (∀ b, g.fp i b ↔ b = blk) ∧ Each (RepLV P C O g w) ls c.toList
  | .rbox ls => (∀ b, ¬ g.fp i b) ∧ ∃ blk c e, g.hv i = .pointer (some ⟨blk, 0, none⟩) ∧ w.heap[blk]? = some (.cells c e (0, 0)) ∧ okB w g.L blk ∧ Each (RepLV P C O g w) ls c.toList
  | .tree t xs _ => Own w (.sl t xs) (g.hv i) (g.fp i)
  | .ret t xs _ => (∀ b, ¬ g.fp i b) ∧ Rd w (okB w g.L) (.sl t xs) (g.hv i)
  | .dead => ∀ b, ¬ g.fp i b
  | .hole t xs _ k f o2 => (O o2).isSome ∧ k < xs.length ∧ isSlAt t f ∧ (∃ a n c, g.hv o2 = .slice a n c) ∧ ∃ blk off cap, g.hv i = hdr blk off xs.length cap ∧ OwnX w t xs blk off cap (g.fp i) (fun a b => a = k ∧ b = f) ∧
      w.cell? ⟨blk, off + k * width t + f, none⟩ = some (g.hv o2)
  | .pair t n k oA oB => (∀ b, ¬ g.fp i b) ∧ (O oA).isSome ∧ (O oB).isSome ∧ k ≤ n ∧ ∃ a cap, n ≤ cap ∧ g.hv i = .slice a n cap ∧
      g.hv oA = .slice (if cap = 0 then a else a.map (·.add (0 * width t))) (k - 0) (cap - 0) ∧ g.hv oB = .slice (if cap = k then a else a.map (·.add (k * width t))) (n - k) (cap - k)
  | .elems t ys => ElemsOk w (okB w g.L) t ys (g.hv i) (g.fp i)

structure Rep (P : Program) (C : Ctx) (σ : St) (g : Gh) (a : Act) (w : World) : Prop where
  defers : a.defers = []
  size : a.tmps.size = C.N
  par : ∀ k, k < C.lo → a.tmps.getD k undef = C.par k
  grown : Up C.w0 w
  kept : ∀ b, b < C.w0.heap.size → ¬ C.X b → w.heap[b]? = C.w0.heap[b]?
  absent : ∀ i, σ.o i = none → ∀ b, ¬ g.fp i b
  fps : ∀ i b, g.fp i b → b < w.heap.size ∧ (b < C.w0.heap.size → C.X b)
  dis : ∀ i j b, g.fp i b → g.fp j b → i = j
  objs : ∀ i x, σ.o i = some x → RepObj P C σ.o g w i x
  slots : ∀ n x, σ.s n = some x → n < C.N ∧ RepSV P C σ.o g w x (a.tmps.getD n undef)

variable {P : Program} {C : Ctx}

/-- What a change must leave for what slots hold to stay true. -/
structure Frm (O : Nat → Option Obj) (g : Gh) (w : World) (O' : Nat → Option Obj) (g' : Gh) (w' : World) : Prop where
  ok : ∀ b, okB w g.L b → okB w' g'.L b ∧ w'.heap[b]? = w.heap[b]?
  ob : ∀ i, (O i).isSome → (O' i).isSome ∧ g'.hv i = g.hv i
  sub : ∀ o γ i f v, SubOk O g w o γ i f v → SubOk O' g' w' o γ i f v

section
variable {O O' : Nat → Option Obj} {g g' : Gh} {w w' : World}

theorem Frm.rd (F : Frm O g w O' g' w') {l : Leaf} {v : Value} (h : Rd w (okB w g.L) l v) : Rd w' (okB w' g'.L) l v :=
  h.mono (fun b hb => (F.ok b hb).2) (fun b hb => (F.ok b hb).1)

theorem Frm.bp (F : Frm O g w O' g' w') {o off : Nat} {v : Value} (h : BpOk O g o off v) : BpOk O' g' o off v := by
  obtain ⟨h1, blk, h2, h3⟩ := h
  exact ⟨(F.ob o h1).1, blk, by rw [(F.ob o h1).2]; exact h2, h3⟩

theorem Frm.lv (F : Frm O g w O' g' w') : ∀ {l : LV} {v : Value}, RepLV P C O g w l v → RepLV P C O' g' w' l v
  | .val _, _, h => h
  | .ro _ _, _, h => F.rd h
  | .fix _ _ _ _, _, h => ⟨h.1, F.rd h.2⟩
  | .nil _, _, h => h
  | .tr _, _, h => ⟨(F.ob _ h.1).1, h.2.1.trans (F.ob _ h.1).2.symm, h.2.2⟩
  | .sub _ _ _ _, _, h => ⟨F.sub _ _ _ _ _ h.1, h.2⟩
  | .bp _ _, _, h => F.bp h
  | .ep _ _ _ _, _, ⟨vb, blk, o, n, cap, h, r⟩ => ⟨vb, blk, o, n, cap, F.lv h, r⟩
  | .clo _ _, _, ⟨vs, h, e⟩ => ⟨vs, h, e.len, fun j o u ho hu => F.bp (e.at_ j o u ho hu)⟩
  | .fn _, _, h => h

theorem Each.imp {α : Type} {R R' : α → Value → Prop} {ls : List α} {us : List Value} (h : Each R ls us) (hr : ∀ l u, R l u → R' l u) : Each R' ls us :=
  ⟨h.len, fun j l u hl hu => hr l u (h.at_ j l u hl hu)⟩

theorem Frm.vd (F : Frm O g w O' g' w') {x : VD} {v : Value} (h : RepVD P C O g w x v) : RepVD P C O' g' w' x v := by
  obtain ⟨us, h1, h2, h3⟩ := h
  exact ⟨us, h1, h2.imp fun _ _ => F.lv, h3⟩

theorem Frm.sv (F : Frm O g w O' g' w') {x : SV} {v : Value} (h : RepSV P C O g w x v) : RepSV P C O' g' w' x v := by
  cases x with
  | v x => exact F.vd h
  | tup xs => obtain ⟨us, h1, h2, h3⟩ := h; exact ⟨us, h1, h2.imp fun _ _ => F.lv, h3⟩
  | undef => exact h

theorem Frm.refl : Frm O g w O g w := ⟨fun _ h => ⟨h, rfl⟩, fun _ h => ⟨h, rfl⟩, fun _ _ _ _ _ h => h⟩

theorem Frm.trans {O'' : Nat → Option Obj} {g'' : Gh} {w'' : World} (F : Frm O g w O' g' w') (G : Frm O' g' w' O'' g'' w'') : Frm O g w O'' g'' w'' :=
  ⟨fun b h => ⟨(G.ok b (F.ok b h).1).1, (G.ok b (F.ok b h).1).2.trans (F.ok b h).2⟩,
   fun i h => ⟨(G.ob i (F.ob i h).1).1, (G.ob i (F.ob i h).1).2.trans (F.ob i h).2⟩,
   fun o γ i f v h => G.sub o γ i f v (F.sub o γ i f v h)⟩

end

/-- The machine's slot d holds v from now on. -/
def Act.at_ (a : Act) (d : Option Tmp) (v : Value) : Act := a.put d v

theorem getD_put (a : Act) (d n : Nat) (v : Value) (hd : d < a.tmps.size) :
    (a.put (some d) v).tmps.getD n undef = if n = d then v else a.tmps.getD n undef := by
  simp only [Act.put, Array.getD_eq_getD_getElem?, Array.getElem?_setIfInBounds]
  by_cases h : d = n
  · subst h; simp [hd]
  · simp [h, Ne.symm h]

/-- A slot is written; memory is as it was. -/
theorem Rep.slot {σ : St} {g : Gh} {a : Act} {w : World} (h : Rep P C σ g a w) {d : Nat} {x : SV} {v : Value} (hd : C.Fit d) (hx : RepSV P C σ.o g w x v) :
    Rep P C (σ.put (.s d x)) g (a.put (some d) v) w where
  defers := h.defers
  size := by simpa [Act.put] using h.size
  par := by
    intro k hk
    rw [getD_put _ _ _ _ (by rw [h.size]; exact hd.2), if_neg (by have := hd.1; omega)]
    exact h.par k hk
  grown := h.grown
  kept := h.kept
  absent := h.absent
  fps := h.fps
  dis := h.dis
  objs := h.objs
  slots := by
    intro n y hy
    simp only [St.put] at hy
    rw [getD_put _ _ _ _ (by rw [h.size]; exact hd.2)]
    by_cases e : n = d
    · subst e
      simp only [if_true, Option.some.injEq] at hy
      subst hy
      simp only [if_true]
      exact ⟨hd.2, hx⟩
    · simp only [if_neg e] at hy ⊢
      exact h.slots n y hy

end Go.Pi

/- Small laws of the run: answers that the state gives, and what they are on the machine. -/
namespace Go.Pi
variable {P : Program} {C : Ctx} {T : Tab}

/-- The question q comes to a, and all that it asks for holds. -/
def Ev {α : Type} (σ : St) (q : Q α) (a : α) : Prop := ∃ ps rs, q.run σ = some ⟨a, ps, rs⟩ ∧ ∀ p ∈ ps, p

section
variable {α β : Type} {σ : St}
theorem Ev_ret {a b : α} : Ev σ (.ret a) b ↔ a = b := by
  constructor
  · rintro ⟨ps, rs, h, _⟩; simp [Q.run] at h; exact h.1
  · rintro rfl; exact ⟨[], [], rfl, fun p h => by cases h⟩
theorem Ev_fail {b : α} : Ev σ (.fail) b ↔ False := by
  constructor
  · rintro ⟨ps, rs, h, _⟩; simp [Q.run] at h
  · exact False.elim
theorem Ev_slot {n : Nat} {k : SV → Q α} {b : α} : Ev σ (.slot n k) b ↔ ∃ x, σ.s n = some x ∧ Ev σ (k x) b := by
  constructor
  · rintro ⟨ps, rs, h, hp⟩
    simp only [Q.run] at h
    split at h
    · rename_i x hx
      split at h
      · rename_i gt hg
        simp only [Option.some.injEq, Got.mk.injEq] at h
        obtain ⟨rfl, rfl, rfl⟩ := h
        exact ⟨x, hx, gt.ps, gt.rs, hg, hp⟩
      · cases h
    · cases h
  · rintro ⟨x, hx, ps, rs, h, hp⟩
    exact ⟨ps, .s n :: rs, by simp [Q.run, hx, h], hp⟩
theorem Ev_obj {n : Nat} {k : Obj → Q α} {b : α} : Ev σ (.obj n k) b ↔ ∃ x, σ.o n = some x ∧ Ev σ (k x) b := by
  constructor
  · rintro ⟨ps, rs, h, hp⟩
    simp only [Q.run] at h
    split at h
    · rename_i x hx
      split at h
      · rename_i gt hg
        simp only [Option.some.injEq, Got.mk.injEq] at h
        obtain ⟨rfl, rfl, rfl⟩ := h
        exact ⟨x, hx, gt.ps, gt.rs, hg, hp⟩
      · cases h
    · cases h
  · rintro ⟨x, hx, ps, rs, h, hp⟩
    exact ⟨ps, .o n :: rs, by simp [Q.run, hx, h], hp⟩
theorem Ev_free {n : Nat} {k : Q α} {b : α} : Ev σ (.free n k) b ↔ σ.o n = none ∧ Ev σ k b := by
  constructor
  · rintro ⟨ps, rs, h, hp⟩
    simp only [Q.run] at h
    split at h
    · rename_i hx
      split at h
      · rename_i gt hg
        simp only [Option.some.injEq, Got.mk.injEq] at h
        obtain ⟨rfl, rfl, rfl⟩ := h
        exact ⟨hx, gt.ps, gt.rs, hg, hp⟩
      · cases h
    · cases h
  · rintro ⟨hx, ps, rs, h, hp⟩
    exact ⟨ps, .o n :: rs, by simp [Q.run, hx, h], hp⟩
theorem Ev_ask {p : Prop} {k : Q α} {b : α} : Ev σ (.ask p k) b ↔ p ∧ Ev σ k b := by
  constructor
  · rintro ⟨ps, rs, h, hp⟩
    simp only [Q.run] at h
    split at h
    · rename_i gt hg
      simp only [Option.some.injEq, Got.mk.injEq] at h
      obtain ⟨rfl, rfl, rfl⟩ := h
      exact ⟨hp p (List.mem_cons_self ..), gt.ps, gt.rs, hg, fun q hq => hp q (List.mem_cons_of_mem _ hq)⟩
    · cases h
  · rintro ⟨hx, ps, rs, h, hp⟩
    refine ⟨p :: ps, rs, by simp [Q.run, h], ?_⟩
    intro q hq
    rcases List.mem_cons.1 hq with rfl | hq
    · exact hx
    · exact hp q hq
theorem Ev_bind {q : Q α} {f : α → Q β} {b : β} : Ev σ (q.bind f) b ↔ ∃ a, Ev σ q a ∧ Ev σ (f a) b := by
  induction q with
  | ret a => simp only [Q.bind, Ev_ret]; exact ⟨fun h => ⟨a, rfl, h⟩, fun ⟨_, e, h⟩ => e ▸ h⟩
  | slot n k ih => simp only [Q.bind, Ev_slot, ih]; exact ⟨fun ⟨x, hx, a, h1, h2⟩ => ⟨a, ⟨x, hx, h1⟩, h2⟩, fun ⟨a, ⟨x, hx, h1⟩, h2⟩ => ⟨x, hx, a, h1, h2⟩⟩
  | obj n k ih => simp only [Q.bind, Ev_obj, ih]; exact ⟨fun ⟨x, hx, a, h1, h2⟩ => ⟨a, ⟨x, hx, h1⟩, h2⟩, fun ⟨a, ⟨x, hx, h1⟩, h2⟩ => ⟨x, hx, a, h1, h2⟩⟩
  | free n k ih => simp only [Q.bind, Ev_free, ih]; exact ⟨fun ⟨hx, a, h1, h2⟩ => ⟨a, ⟨hx, h1⟩, h2⟩, fun ⟨a, ⟨hx, h1⟩, h2⟩ => ⟨hx, a, h1, h2⟩⟩
  | ask p k ih => simp only [Q.bind, Ev_ask, ih]; exact ⟨fun ⟨hx, a, h1, h2⟩ => ⟨a, ⟨hx, h1⟩, h2⟩, fun ⟨a, ⟨hx, h1⟩, h2⟩ => ⟨hx, a, h1, h2⟩⟩
  | fail => simp only [Q.bind, Ev_fail]; exact ⟨False.elim, fun ⟨_, h, _⟩ => h⟩
end

theorem mkv_one (u : Value) : mkv false [u] = u := rfl

/-- One cell. -/
theorem Each.one {α : Type} {R : α → Value → Prop} {l : α} {us : List Value} (h : Each R [l] us) : ∃ u, us = [u] ∧ R l u := by
  match us, h with
  | [u], h => exact ⟨u, rfl, h.at_ 0 l u rfl rfl⟩
  | [], h => have := h.len; simp at this
  | _ :: _ :: _, h => have := h.len; simp at this

theorem Each.mk1 {α : Type} {R : α → Value → Prop} {l : α} {u : Value} (h : R l u) : Each R [l] [u] :=
  ⟨rfl, fun j l' u' hl hu => by
    match j with
    | 0 => simp at hl hu; subst hl; subst hu; exact h
    | j + 1 => simp at hl⟩

section
variable {O : Nat → Option Obj} {σ : St} {g : Gh} {a : Act} {w : World}

theorem RepSV.mk1 {l : LV} {u : Value} (h : RepLV P C O g w l u) : RepSV P C O g w (.v (false, [l])) u :=
  ⟨[u], rfl, Each.mk1 h, fun _ => rfl⟩

theorem opd_ok (h : Rep P C σ g a w) {ty : TypeId} {x : Operand} {v : SV} (e : Ev σ (opd T ty x) v) : RepSV P C σ.o g w v (a.eval x) := by
  unfold opd at e
  split at e
  · rw [Ev_slot] at e
    obtain ⟨y, hy, e⟩ := e
    rw [Ev_ret] at e; subst e
    exact (h.slots _ _ hy).2
  · split at e
    · rw [Ev_ret] at e; subst e
      exact RepSV.mk1 ⟨none, rfl⟩
    · exact (Ev_fail.1 e).elim
  · split at e
    · rename_i hp
      rw [Ev_ret] at e; subst e
      exact RepSV.mk1 ⟨rfl, hp⟩
    · exact (Ev_fail.1 e).elim
  · rw [Ev_ret] at e; subst e
    refine RepSV.mk1 ⟨[], rfl, rfl, ?_⟩
    intro j o u ho; simp at ho
  · exact (Ev_fail.1 e).elim

theorem asOne_ok {v : SV} {l : LV} (e : Ev σ (asOne v) l) : v = .v (false, [l]) := by
  unfold asOne at e
  split at e
  · rw [Ev_ret] at e; subst e; rfl
  · exact (Ev_fail.1 e).elim

theorem RepSV.one {l : LV} {u : Value} (h : RepSV P C O g w (.v (false, [l])) u) : RepLV P C O g w l u := by
  obtain ⟨us, rfl, he, _⟩ := h
  obtain ⟨u, rfl, hu⟩ := he.one
  exact hu

theorem asVD_ok {v : SV} {x : VD} (e : Ev σ (asVD v) x) : v = .v x := by
  unfold asVD at e
  split at e
  · rw [Ev_ret] at e; subst e; rfl
  · exact (Ev_fail.1 e).elim

theorem asI_ok {v : SV} {x : IntKind × Int} (e : Ev σ (asI v) x) : v = .v (false, [.val (.int x.1 x.2)]) := by
  unfold asI at e
  split at e
  · rw [Ev_ret] at e; subst e; rfl
  · exact (Ev_fail.1 e).elim

theorem asB_ok {v : SV} {b : Bool} (e : Ev σ (asB v) b) : v = .v (false, [.val (.bool b)]) := by
  unfold asB at e
  split at e
  · rw [Ev_ret] at e; subst e; rfl
  · exact (Ev_fail.1 e).elim

theorem RepSV.val {u v : Value} (h : RepSV P C O g w (.v (false, [.val u])) v) : v = u := h.one.1

/-- The blocks that a lent content lies in. -/
def okRd (g : Gh) (w : World) (os : List Nat) (b : Nat) : Prop := okB w g.L b ∨ ∃ o ∈ os, g.fp o b

theorem okRd_nil {b : Nat} (h : okB w g.L b) (os : List Nat) : okRd g w os b := .inl h

theorem HdrAt.rd {t : Ty} {xs : List (den t)} {hv v : Value} {i f : Nat} {ok : Nat → Prop} (hh : HdrAt w hv t xs.length i f v) (hr : Rd w ok (.sl t xs) hv) {l : Leaf}
    (hl : (cells t (xs.getD i (dflt t)))[f]? = some l) : Rd w ok l v := by
  obtain ⟨blk, off, cap, rfl, hi, _, hc⟩ := hh
  rcases hr.slice with ⟨rfl, _⟩ | ⟨blk', off', cap', V, hok, hlen, he, hcc, hn⟩
  · simp at hi
  · simp only [hdr, Value.slice.injEq, Option.some.injEq, Addr.mk.injEq] at he
    obtain ⟨⟨rfl, rfl, _⟩, _, rfl⟩ := he
    have hx : xs[i]? = some (xs.getD i (dflt t)) := by
      rw [List.getD_eq_getElem?_getD, List.getElem?_eq_getElem hi]; rfl
    have hf : f < width t := by
      rcases Nat.lt_or_ge f (cells t (xs.getD i (dflt t))).length with h | h
      · rw [cells_length] at h; exact h
      · rw [List.getElem?_eq_none h] at hl; cases hl
    have := hcc i f hi hf
    rw [hc] at this
    rw [Option.some.inj this]
    exact hn i _ hx f l hl

theorem cont_ok (h : Rep P C σ g a w) {l : LV} {x : Leaf} (e : Ev σ (cont l) x) {v : Value} (hv : RepLV P C σ.o g w l v) : Rd w (okRd g w (objOf l)) x v := by
  unfold cont at e
  split at e
  · rw [Ev_ret] at e; subst e; rw [hv.1]; exact .val _
  · rw [Ev_ret] at e; subst e; exact Rd.mono hv (fun _ _ => rfl) (fun b hb => .inl hb)
  · rw [Ev_ret] at e; subst e; exact Rd.mono hv.2 (fun _ _ => rfl) (fun b hb => .inl hb)
  · rw [Ev_ret] at e; subst e
    obtain ⟨a, rfl⟩ := hv
    exact .nil _ _ _
  · rename_i o
    rw [Ev_obj] at e
    obtain ⟨y, hy, e⟩ := e
    have ho := h.objs _ _ hy
    split at e
    · rw [Ev_ret] at e; subst e
      rw [hv.2.1]
      exact (Own.rd ho).mono (fun _ _ => rfl) (fun b hb => .inr ⟨o, by simp [objOf], hb⟩)
    · rw [Ev_ret] at e; subst e
      rw [hv.2.1]
      exact Rd.mono ho.2 (fun _ _ => rfl) (fun b hb => .inl hb)
    · exact (Ev_fail.1 e).elim
  · rename_i o γ i f
    rw [Ev_obj] at e
    obtain ⟨y, hy, e⟩ := e
    have ho := h.objs _ _ hy
    obtain ⟨⟨_, h1, h2⟩, _⟩ := hv
    split at e
    · rename_i t xs γ'
      split at e
      · rename_i hγ
        split at e
        · rename_i t' ys hl
          rw [Ev_ret] at e; subst e
          exact (((h1 _ _ _ hy).2 hγ).rd (Own.rd ho) hl).mono (fun _ _ => rfl) (fun b hb => .inr ⟨o, by simp [objOf], hb⟩)
        · exact (Ev_fail.1 e).elim
      · exact (Ev_fail.1 e).elim
    · rename_i t xs γ'
      split at e
      · rename_i hγ
        split at e
        · rename_i t' ys hl
          rw [Ev_ret] at e; subst e
          exact (((h2 _ _ _ hy).2 hγ).rd ho.2 hl).mono (fun _ _ => rfl) (fun b hb => .inl hb)
        · exact (Ev_fail.1 e).elim
      · exact (Ev_fail.1 e).elim
    · exact (Ev_fail.1 e).elim
  · exact (Ev_fail.1 e).elim

theorem Each.cons {α : Type} {R : α → Value → Prop} {l : α} {ls : List α} {us : List Value} (h : Each R (l :: ls) us) : ∃ u us', us = u :: us' ∧ R l u ∧ Each R ls us' := by
  match us, h with
  | [], h => have := h.len; simp at this
  | u :: us', h =>
    exact ⟨u, us', rfl, h.at_ 0 l u rfl rfl, by have := h.len; simpa using this, fun j l' u' hl hu => h.at_ (j + 1) l' u' (by simpa using hl) (by simpa using hu)⟩

theorem Each.cons' {α : Type} {R : α → Value → Prop} {l : α} {ls : List α} {u : Value} {us : List Value} (h1 : R l u) (h2 : Each R ls us) : Each R (l :: ls) (u :: us) :=
  ⟨by simp [h2.len], fun j l' u' hl hu => by
    match j with
    | 0 => simp at hl hu; subst hl; subst hu; exact h1
    | j + 1 => exact h2.at_ j l' u' (by simpa using hl) (by simpa using hu)⟩

theorem Each.nil' {α : Type} {R : α → Value → Prop} {us : List Value} (h : Each R [] us) : us = [] := by
  have := h.len; simpa using this

theorem conts_ok (h : Rep P C σ g a w) : ∀ {ls : List LV} {xs : List Leaf} {us : List Value}, Ev σ (conts ls) xs → Each (RepLV P C σ.o g w) ls us →
    Each (Rd w (okRd g w (ls.flatMap objOf))) xs us
  | [], xs, us, e, hv => by
    rw [conts, Ev_ret] at e; subst e
    rw [hv.nil']
    exact ⟨rfl, fun j l u hl => by simp at hl⟩
  | l :: ls, xs, us, e, hv => by
    rw [conts, Ev_bind] at e
    obtain ⟨x, e1, e⟩ := e
    rw [Ev_bind] at e
    obtain ⟨xs', e2, e⟩ := e
    rw [Ev_ret] at e; subst e
    obtain ⟨u, us', rfl, h1, h2⟩ := hv.cons
    refine Each.cons' ((cont_ok h e1 h1).mono (fun _ _ => rfl) ?_) ((conts_ok h e2 h2).imp fun _ _ hr => hr.mono (fun _ _ => rfl) ?_)
    · rintro b (hb | ⟨o, ho, hb⟩)
      · exact .inl hb
      · exact .inr ⟨o, by simp [List.mem_flatMap]; exact .inl ho, hb⟩
    · rintro b (hb | ⟨o, ho, hb⟩)
      · exact .inl hb
      · refine .inr ⟨o, ?_, hb⟩
        simp only [List.flatMap_cons, List.mem_append]; exact .inr ho

theorem asSl_ok (h : Rep P C σ g a w) {l : LV} {x : (t : Ty) × List (den t)} (e : Ev σ (asSl l) x) {v : Value} (hv : RepLV P C σ.o g w l v) :
    Rd w (okRd g w (objOf l)) (.sl x.1 x.2) v := by
  unfold asSl at e
  rw [Ev_bind] at e
  obtain ⟨y, e1, e⟩ := e
  split at e
  · rw [Ev_ret] at e; subst e
    exact cont_ok h e1 hv
  · exact (Ev_fail.1 e).elim

theorem asSl_cont {l : LV} {x : (t : Ty) × List (den t)} (e : Ev σ (asSl l) x) : Ev σ (cont l) (.sl x.1 x.2) := by
  unfold asSl at e
  rw [Ev_bind] at e
  obtain ⟨y, e1, e⟩ := e
  split at e
  · rw [Ev_ret] at e; subst e
    exact e1
  · exact (Ev_fail.1 e).elim

end
end Go.Pi

/- The machine's small steps: types, loads, stores, new rows. -/
namespace Go.Pi
variable {P : Program} {C : Ctx} {T : Tab}

def zeroOf : Leaf → Value
  | .val v => v
  | .sl _ _ => .slice none 0 0

def zeroVal (t : Ty) : Value := mkv (isAgg t) ((cells t (dflt t)).map zeroOf)

/-- The program's types are what the table says. -/
structure TabOk (P : Program) (T : Tab) : Prop where
  mixed : P.follows .mixedOrders = true
  info : ∀ t ty, T.ty t = some ty → ∃ i, P.info? t = some i ∧ i.size = width ty ∧ i.zero = some (zeroVal ty) ∧ i.bytes = T.bytes t
  int : ∀ t k, T.ty t = some (.int k) → P.underlying t = some (.int k)
  bool : ∀ t, T.ty t = some .bool → P.underlying t = some .bool
  str : ∀ t, T.ty t = some .str → P.underlying t = some .string
  sl : ∀ t te, T.ty t = some (.sl te) → ∃ e, P.underlying t = some (.slice e) ∧ T.elem t = some e ∧ T.ty e = some te
  st : ∀ t n, T.ty t = some (.st n) → ∃ fs, P.underlying t = some (.struct fs) ∧ (∀ f ∈ fs, (P.info? f.type).isSome = true)
  foff : ∀ t j k n, T.foff t j = some (k, n) → ∃ fs f i, P.underlying t = some (.struct fs) ∧ fs[j]? = some f ∧ f.offset = k ∧ P.info? f.type = some i ∧ i.size = n ∧ n ≠ 0
  elem : ∀ t e, T.elem t = some e → P.underlying t = some (.slice e)

theorem size_setCells (b : Nat) : ∀ (vs : List Value) (o : Nat) (w : World), (w.setCells b o vs).heap.size = w.heap.size
  | [], _, _ => rfl
  | v :: r, o, w => by rw [World.setCells, size_setCells b r]; simp
theorem Up.alloc (w : World) (o : Go.Obj) : Up w (w.alloc o) := ⟨by simp, rfl, rfl⟩
theorem Up.setCells (b : Nat) : ∀ (vs : List Value) (o : Nat) (w : World), Up w (w.setCells b o vs)
  | [], _, w => Up.refl w
  | v :: r, o, w => by
    rw [World.setCells]
    exact Up.trans (b := w.setCell ⟨b, o, none⟩ v) ⟨by simp, rfl, rfl⟩ (Up.setCells b r _ _)

theorem heap_setCell_other (w : World) (b o : Nat) (v : Value) (i : Nat) (h : i ≠ b) : (w.setCell ⟨b, o, none⟩ v).heap[i]? = w.heap[i]? := by
  simp only [World.setCell, Array.getElem?_modify]
  rw [if_neg (fun e => h e.symm)]

theorem heap_setCells_other (b : Nat) : ∀ (vs : List Value) (o : Nat) (w : World) (i : Nat), i ≠ b → (w.setCells b o vs).heap[i]? = w.heap[i]?
  | [], _, _, _, _ => rfl
  | v :: r, o, w, i, h => by rw [World.setCells, heap_setCells_other b r _ _ _ h, heap_setCell_other _ _ _ _ _ h]

theorem heap_setCells_same (b : Nat) : ∀ (vs : List Value) (o : Nat) (w : World) (c : Array Value) (e : TypeId) (fr : Nat × Nat), w.heap[b]? = some (.cells c e fr) → o + vs.length ≤ c.size →
    ∃ c', (w.setCells b o vs).heap[b]? = some (.cells c' e fr) ∧ c'.toList = splice c.toList o vs
  | [], o, w, c, e, fr, h, _ => ⟨c, h, by simp [splice]⟩
  | v :: r, o, w, c, e, fr, h, hl => by
    have h1 : (w.setCell ⟨b, o, none⟩ v).heap[b]? = some (.cells (c.setIfInBounds o v) e fr) := by
      simp [World.setCell, Array.getElem?_modify, h]
    simp only [List.length_cons] at hl
    obtain ⟨c', h2, h3⟩ := heap_setCells_same b r (o + 1) _ _ e fr h1 (by simp; omega)
    refine ⟨c', h2, ?_⟩
    rw [h3]
    have ho : o < c.toList.length := by simp; omega
    have e1 : (c.setIfInBounds o v).toList = c.toList.take o ++ v :: c.toList.drop (o + 1) := by
      rw [Array.toList_setIfInBounds, List.set_eq_take_append_cons_drop, if_pos ho]
    have e2 : (c.toList.take o).length = o := by rw [List.length_take]; omega
    rw [e1]
    unfold splice
    rw [List.take_append, e2, List.take_of_length_le (l := c.toList.take o) (by omega), List.drop_append, e2]
    rw [List.drop_of_length_le (l := c.toList.take o) (by omega)]
    have e3 : o + 1 + r.length - o = r.length + 1 := by omega
    have e4 : o + 1 - o = 1 := by omega
    rw [e3, e4]
    simp only [List.take_succ_cons, List.take_zero, List.drop_succ_cons, List.drop_drop, List.nil_append, List.append_assoc, List.cons_append, List.length_cons]
    congr 4
    omega

theorem there_of_heap {w : World} {b o n : Nat} {c : Array Value} {e : TypeId} (h : w.heap[b]? = some (.cells c e (0, 0))) (hn : o + n ≤ c.size) : w.there b o n := fun j hj => by
  constructor
  · rw [World.cell_of_heap h, Array.getElem?_eq_getElem (by omega)]; rfl
  · simp [World.frozen?, h]

theorem isRow_of {t : TypeId} {ty : Ty} (H : TabOk P T) (h : T.ty t = some ty) : ∃ d, P.underlying t = some d ∧ d.isRow = isAgg ty := by
  cases ty with
  | int k => exact ⟨_, H.int _ _ h, rfl⟩
  | bool => exact ⟨_, H.bool _ h, rfl⟩
  | str => exact ⟨_, H.str _ h, rfl⟩
  | sl te => obtain ⟨e, h1, _⟩ := H.sl _ _ h; exact ⟨_, h1, rfl⟩
  | st n => obtain ⟨fs, h1, _⟩ := H.st _ _ h; exact ⟨_, h1, rfl⟩

theorem run_isAgg {t : TypeId} {d : TypeDesc} (h : P.underlying t = some d) (w : World) : (Go.isAgg t).run P w = .ok d.isRow w := by
  unfold Go.isAgg
  rw [Sem.run_bind, run_underlying h w]
  cases d <;> rfl

/-- A load. -/
theorem load_run (H : TabOk P T) {t : TypeId} {ty : Ty} (h : T.ty t = some ty) {w : World} {b o : Nat} {us : List Value} (hl : us.length = width ty) (hc : w.rangeAt b o us) :
    (Instr.loadAt t (.pointer (some ⟨b, o, none⟩))).run P w = .ok (mkv (isAgg ty) us) w := by
  obtain ⟨d, hd, hr⟩ := isRow_of H h
  obtain ⟨i, hi, hs, _⟩ := H.info _ _ h
  cases hag : isAgg ty with
  | true =>
    exact run_loadAt_mid w b o t us d hc hd (hr.trans hag) (by rw [hi, hl]; simp [hs])
  | false =>
    have hw : width ty = 1 := by cases ty <;> first | rfl | cases hag
    match us, hl with
    | [u], _ =>
      have hu := hc 0 u rfl
      simp only [Nat.add_zero] at hu
      have hg : (Go.isAgg t).run P w = .ok false w := by rw [run_isAgg hd, hr, hag]
      simp [Instr.loadAt, Instr.sureAddr, loadVar, Sem.run_bind, hg, hu, mkv]
    | [], hl => rw [hw] at hl; cases hl
    | _ :: _ :: _, hl => rw [hw] at hl; simp at hl

/-- A store. -/
theorem store_run (H : TabOk P T) {t : TypeId} {ty : Ty} (h : T.ty t = some ty) {w : World} {b o : Nat} {us : List Value} (hl : us.length = width ty) (hc : w.there b o us.length)
    (h1 : ∀ u ∈ us, u.oneCell' = true) :
    (Instr.storeAt t (.pointer (some ⟨b, o, none⟩)) (mkv (isAgg ty) us)).run P w = .ok () (w.setCells b o us) := by
  obtain ⟨i, hi, hs, _⟩ := H.info _ _ h
  cases hag : isAgg ty with
  | true =>
    simp only [mkv]
    rw [run_storeAt_mid w b o t us.toArray (by simpa using hc) (by rw [hi]; simp [hs, hl]) (all_oneCell_toArray h1)]
  | false =>
    have hw : width ty = 1 := by cases ty <;> first | rfl | cases hag
    match us, hl, hc, h1 with
    | [u], _, hc, h1 =>
      have hh := hc 0 (by simp)
      simp only [Nat.add_zero] at hh
      obtain ⟨x, hx⟩ := Option.isSome_iff_exists.1 hh.1
      have h1u := h1 u (by simp)
      have hcells : u.cells = #[u] := by cases u <;> first | rfl | simp [Value.oneCell'] at h1u
      have hst := run_store P w ⟨b, o, none⟩ u .plain h1u
      rw [hx, hh.2] at hst
      simp only [Bool.false_eq_true, if_false] at hst
      have hsz : (sizeOf t).run P w = .ok 1 w := by simp [sizeOf, typeInfo, hi, hs, hw]
      simp [Instr.storeAt, Instr.sureAddr, storeVar, Sem.run_bind, mkv, hcells, hsz, storeCells, Addr.add, hst, World.setCells]
    | [], hl, _, _ => rw [hw] at hl; cases hl
    | _ :: _ :: _, hl, _, _ => rw [hw] at hl; simp at hl

theorem RepLV.one {O : Nat → Option Obj} {g : Gh} {w : World} : ∀ {l : LV} {v : Value}, RepLV P C O g w l v → v.oneCell' = true
  | .val u, v, h => by
    obtain ⟨rfl, hp⟩ := h
    revert hp; cases v <;> simp [plain, Value.oneCell']
  | .ro _ _, _, h => by obtain ⟨a, c, rfl⟩ := h.len; rfl
  | .fix _ _ _ _, _, h => by obtain ⟨a, c, rfl⟩ := h.2.len; rfl
  | .nil _, _, h => by obtain ⟨a, rfl⟩ := h; rfl
  | .tr _, _, h => by obtain ⟨_, _, a, n, c, rfl⟩ := h; rfl
  | .sub _ _ _ _, _, h => by obtain ⟨_, a, n, c, rfl⟩ := h; rfl
  | .bp _ _, _, h => by obtain ⟨_, blk, _, rfl⟩ := h; rfl
  | .ep _ _ _ _, _, h => by obtain ⟨_, _, _, _, _, _, _, _, rfl⟩ := h; rfl
  | .clo _ _, _, h => by obtain ⟨_, rfl, _⟩ := h; rfl
  | .fn _, _, h => by obtain ⟨_, _, rfl, _, _⟩ := h; rfl

end Go.Pi

/- One operation of the abstract run is one operation of the machine: those that only look. -/
namespace Go.Pi
variable {P : Program} {C : Ctx} {T : Tab}

theorem puts_append (σ : St) (ws ws' : List Wr) : σ.puts (ws ++ ws') = (σ.puts ws).puts ws' := by
  induction ws generalizing σ with
  | nil => rfl
  | cons w ws ih => simp only [List.cons_append, St.puts, ih]

theorem puts_dead (os : List Nat) (σ : St) : (σ.puts (os.map fun o => .o o .dead)).s = σ.s ∧ ∀ i, (σ.puts (os.map fun o => .o o .dead)).o i = if i ∈ os then some .dead else σ.o i := by
  induction os generalizing σ with
  | nil => exact ⟨rfl, fun i => by simp [St.puts]⟩
  | cons o os ih =>
    obtain ⟨h1, h2⟩ := ih (σ.put (.o o .dead))
    refine ⟨by simpa [St.puts, St.put] using h1, fun i => ?_⟩
    simp only [List.map_cons, St.puts, h2]
    by_cases e : i ∈ os
    · simp [e]
    · by_cases e' : i = o
      · subst e'; simp [e, St.put]
      · simp [e, e', St.put]

section
variable {σ : St} {g : Gh} {a : Act} {w : World}

theorem wp_val {o : Oper} {v : Value} {w' : World} {K : Act → World → Prop} {Q : Exit → Act → World → Prop} (h : (execOp a.eval o).run P w = .ok (.value v) w') (k : K (a.put o.dst v) w') : o.wp P a w K Q := by
  unfold Oper.wp; rw [h]; exact k

theorem Rep.slotW (h : Rep P C σ g a w) {dst : Option Tmp} {x : SV} {v : Value} (hd : ∀ d, dst = some d → C.Fit d) (hx : RepSV P C σ.o g w x v) :
    Rep P C (σ.puts (slotW dst x)) g (a.put dst v) w := by
  cases dst with
  | none => exact h
  | some d => exact h.slot (hd d rfl) hx

/-- Memory turns under the slots. -/
theorem Rep.step (h : Rep P C σ g a w) {O' : Nat → Option Obj} {g' : Gh} {w' : World}
    (hsz : Up w w') (hheap : ∀ b, b < w.heap.size → ¬ g.L b → w'.heap[b]? = w.heap[b]?)
    (hL : ∀ b, g'.L b → g.L b ∨ w.heap.size ≤ b) (hob : ∀ i, (σ.o i).isSome → (O' i).isSome ∧ g'.hv i = g.hv i)
    (hsub : ∀ o γ i f v, SubOk σ.o g w o γ i f v → SubOk O' g' w' o γ i f v)
    (hnone : ∀ i, O' i = none → ∀ b, ¬ g'.fp i b) (hfp : ∀ i b, g'.fp i b → b < w'.heap.size) (hdis : ∀ i j b, g'.fp i b → g'.fp j b → i = j)
    (hobj : Frm σ.o g w O' g' w' → ∀ i x, O' i = some x → RepObj P C O' g' w' i x) : Frm σ.o g w O' g' w' ∧ Rep P C ⟨σ.s, O'⟩ g' a w' := by
  have F : Frm σ.o g w O' g' w' := by
    refine ⟨fun b hb => ⟨⟨Nat.lt_of_lt_of_le hb.1 hsz.size, fun hl => ?_⟩, hheap b hb.1 hb.2⟩, hob, hsub⟩
    rcases hL b hl with h1 | h1
    · exact hb.2 h1
    · exact absurd hb.1 (Nat.not_lt.2 h1)
  refine ⟨F, h.defers, h.size, h.par, h.grown.trans hsz, ?_, hnone, ?_, hdis, hobj F, ?_⟩
  · intro b hb hx
    rw [hheap b (Nat.lt_of_lt_of_le hb h.grown.size) (fun ⟨i, hi⟩ => hx ((h.fps i b hi).2 hb)), h.kept b hb hx]
  · intro i b hb
    refine ⟨hfp i b hb, fun h0 => ?_⟩
    rcases hL b ⟨i, hb⟩ with ⟨j, hj⟩ | h1
    · exact (h.fps j b hj).2 h0
    · exact absurd (Nat.lt_of_lt_of_le h0 h.grown.size) (Nat.not_lt.2 h1)
  · intro n x hx
    obtain ⟨h1, h2⟩ := h.slots n x hx
    exact ⟨h1, F.sv h2⟩

theorem RepObj.keep {O O' : Nat → Option Obj} {g g' : Gh} {w w' : World} (F : Frm O g w O' g' w') {i : Nat} {x : Obj} (hv : g'.hv i = g.hv i) (hfp : ∀ b, g'.fp i b ↔ g.fp i b)
    (hh : ∀ b, g.fp i b → w'.heap[b]? = w.heap[b]?) (h : RepObj P C O g w i x) : RepObj P C O' g' w' i x := by
  cases x with
  | box ls =>
    obtain ⟨blk, c, e, h1, h2, h3, h4⟩ := h
    exact ⟨blk, c, e, hv.trans h1, (hh blk ((h3 blk).2 rfl)).trans h2, fun b => (hfp b).trans (h3 b), h4.imp fun _ _ => F.lv⟩
  | rbox ls =>
    obtain ⟨h0, blk, c, e, h1, h2, h3, h4⟩ := h
    exact ⟨fun b hb => h0 b ((hfp b).1 hb), blk, c, e, hv.trans h1, ((F.ok blk h3).2).trans h2, (F.ok blk h3).1, h4.imp fun _ _ => F.lv⟩
  | tree t xs γ =>
    show Own w' _ (g'.hv i) (g'.fp i)
    rw [hv]
    exact (Own.mono h hh).congr hfp
  | ret t xs γ =>
    refine ⟨fun b hb => h.1 b ((hfp b).1 hb), ?_⟩
    rw [hv]
    exact F.rd h.2
  | dead => exact fun b hb => h b ((hfp b).1 hb)
  | hole t xs γ k f o2 =>
    obtain ⟨h1, h2, h3, h4, blk, off, cap, h5, h6, h7⟩ := h
    have hb : g.fp i blk := by
      obtain ⟨c, e, V, F', _, _, _, _, _, _, hS, _⟩ := h6
      exact (hS _).2 (.inl rfl)
    refine ⟨(F.ob o2 h1).1, h2, h3, by rw [(F.ob o2 h1).2]; exact h4, blk, off, cap, hv.trans h5, (h6.mono hh).congr hfp, ?_⟩
    rw [World.cell_congr (hh blk hb), (F.ob o2 h1).2]; exact h7
  | pair t n k oA oB =>
    obtain ⟨h0, h1, h2, h3, a, cap, h4, h5, h6, h7⟩ := h
    exact ⟨fun b hb => h0 b ((hfp b).1 hb), (F.ob oA h1).1, (F.ob oB h2).1, h3, a, cap, h4, hv.trans h5, (F.ob oA h1).2.trans h6, (F.ob oB h2).2.trans h7⟩
  | elems t ys =>
    show ElemsOk _ _ _ _ (g'.hv i) (g'.fp i)
    rw [hv]
    rcases h with ⟨h1, h2, h3⟩ | ⟨blk, off, cap, V, F', h1, h2, h3, h4, h5, h6, h7⟩
    · exact .inl ⟨h1, h2, fun b hb => h3 b ((hfp b).1 hb)⟩
    · refine .inr ⟨blk, off, cap, V, F', h1, (F.ok blk h2).1, h3, fun a b ha hb => by rw [World.cell_congr (F.ok blk h2).2]; exact h4 a b ha hb, fun a x hx b l hl => ?_, fun b => (hfp b).trans (h6 b), h7⟩
      have ha : a < ys.length := (List.getElem?_eq_some_iff.1 hx).1
      have hb : b < width t := by rw [← cells_length t x]; exact (List.getElem?_eq_some_iff.1 hl).1
      exact (h5 a x hx b l hl).mono (fun c hc => hh c ((h6 c).2 ⟨a, b, ha, hb, hc⟩))

/-- A type's elements in a load out of a slice. -/
theorem Rd.elem {ok : Nat → Prop} {t : Ty} {xs : List (den t)} {blk off n cap i : Nat} (h : Rd w ok (.sl t xs) (hdr blk off n cap)) (hi : i < n) :
    n = xs.length ∧ ok blk ∧ ∃ us : List Value, us.length = width t ∧ w.rangeAt blk (off + i * width t) us ∧ Each (Rd w ok) (cells t (xs.getD i (dflt t))) us := by
  rcases h.slice with ⟨rfl, a, c, he⟩ | ⟨blk', off', cap', V, hok, hlen, he, hcc, hn⟩
  · simp only [hdr, Value.slice.injEq] at he
    omega
  · simp only [hdr, Value.slice.injEq, Option.some.injEq, Addr.mk.injEq] at he
    obtain ⟨⟨rfl, rfl, _⟩, rfl, rfl⟩ := he
    refine ⟨rfl, hok, (List.range (width t)).map (V i), by simp, ?_, ⟨by simp [cells_length], ?_⟩⟩
    · intro j v hv
      have hj : j < width t := by
        rcases Nat.lt_or_ge j (width t) with h | h
        · exact h
        · rw [List.getElem?_eq_none (by simpa using h)] at hv; cases hv
      simp [List.getElem?_map, List.getElem?_range hj] at hv
      subst hv
      have := hcc i j hi hj
      rwa [Nat.add_assoc] at this ⊢
    · intro j l u hl hu
      have hx : xs[i]? = some (xs.getD i (dflt t)) := by
        rw [List.getD_eq_getElem?_getD, List.getElem?_eq_getElem hi]; rfl
      have hj : j < width t := by
        rcases Nat.lt_or_ge j (width t) with h | h
        · exact h
        · rw [List.getElem?_eq_none (by simpa using h)] at hu; cases hu
      simp [List.getElem?_map, List.getElem?_range hj] at hu
      subst hu
      exact hn i _ hx j l hl

theorem dflt_cells (t : Ty) (x : den t) (f : Nat) (t' : Ty) (ys : List (den t')) (h : (cells t x)[f]? = some (.sl t' ys)) : isSlAt t f := by
  have hf : f < (cells t x).length := by
    rcases Nat.lt_or_ge f (cells t x).length with h' | h'
    · exact h'
    · rw [List.getElem?_eq_none h'] at h; cases h
  rw [cells_length] at hf
  cases t with
  | int k => simp [cells] at h; have : f = 0 := by simp [width] at hf; exact hf
             subst this; simp at h
  | bool => simp [cells] at h; have : f = 0 := by simp [width] at hf; exact hf
            subst this; simp at h
  | str => simp [cells] at h; have : f = 0 := by simp [width] at hf; exact hf
           subst this; simp at h
  | sl te => have : f = 0 := by simp [width] at hf; exact hf
             subst this; exact ⟨te, [], rfl⟩
  | st n =>
    cases n <;> simp only [width, widthS] at hf <;>
      (match f, hf with
        | 0, _ => first | exact ⟨_, _, rfl⟩ | (simp [cells, cellsS] at h)
        | 1, _ => first | exact ⟨_, _, rfl⟩ | (simp [cells, cellsS] at h)
        | 2, _ => first | exact ⟨_, _, rfl⟩ | (simp [cells, cellsS] at h) | omega
        | 3, _ => first | exact ⟨_, _, rfl⟩ | (simp [cells, cellsS] at h) | omega
        | 4, _ => first | exact ⟨_, _, rfl⟩ | (simp [cells, cellsS] at h) | omega
        | 5, _ => first | exact ⟨_, _, rfl⟩ | (simp [cells, cellsS] at h) | omega
        | 6, _ => first | exact ⟨_, _, rfl⟩ | (simp [cells, cellsS] at h) | omega
        | 7, _ => first | exact ⟨_, _, rfl⟩ | (simp [cells, cellsS] at h) | omega
        | 8, _ => first | exact ⟨_, _, rfl⟩ | (simp [cells, cellsS] at h) | omega
        | 9, _ => first | exact ⟨_, _, rfl⟩ | (simp [cells, cellsS] at h) | omega
        | 10, _ => first | exact ⟨_, _, rfl⟩ | (simp [cells, cellsS] at h) | omega
        | 11, _ => first | exact ⟨_, _, rfl⟩ | (simp [cells, cellsS] at h) | omega
        | 12, _ => first | exact ⟨_, _, rfl⟩ | (simp [cells, cellsS] at h) | omega
        | 13, _ => first | exact ⟨_, _, rfl⟩ | (simp [cells, cellsS] at h) | omega
        | 14, _ => first | exact ⟨_, _, rfl⟩ | (simp [cells, cellsS] at h) | omega
        | k + 15, hk => omega)

end
end Go.Pi

/- One operation of the abstract run is one operation of the machine: loads, and what only computes. -/
namespace Go.Pi
variable {P : Program} {C : Ctx} {T : Tab}

theorem cells_all (t : Ty) (x : den t) : (cells t x).all leafPlain = true := by
  cases t with
  | st n => cases n <;> rfl
  | _ => rfl

theorem cells_plain {t : Ty} {x : den t} {u : Value} (h : Leaf.val u ∈ cells t x) : plain u = true :=
  List.all_eq_true.1 (cells_all t x) _ h

section
variable {σ : St} {g : Gh} {a : Act} {w : World}

theorem elemLVs_ok (h : Rep P C σ g a w) {b : LV} {i : Nat} {t : Ty} {xs : List (den t)} (es : Ev σ (asSl b) ⟨t, xs⟩) {blk off n cap : Nat} (hb : RepLV P C σ.o g w b (hdr blk off n cap)) (hi : i < n) :
    ∀ (f : Nat) (leaves : List Leaf) (us : List Value) (lvs : List LV), (∀ j, leaves[j]? = (cells t (xs.getD i (dflt t)))[f + j]?) → w.rangeAt blk (off + i * width t + f) us → us.length = leaves.length →
      Ev σ (elemLVs b i f leaves) lvs → Each (RepLV P C σ.o g w) lvs us := by
  intro f leaves
  induction leaves generalizing f with
  | nil =>
    intro us lvs _ _ hl e
    rw [elemLVs, Ev_ret] at e; subst e
    exact ⟨by simpa using hl, fun j l u hl' => by simp at hl'⟩
  | cons leaf ls ih =>
    intro us lvs hle hr hl e
    match us, hl with
    | u :: us, hl =>
      have hr0 : w.cell? ⟨blk, off + i * width t + f, none⟩ = some u := by simpa using hr 0 u rfl
      have hr1 : w.rangeAt blk (off + i * width t + (f + 1)) us := fun j v hv => by
        have := hr (j + 1) v (by simpa using hv)
        rwa [show off + i * width t + f + (j + 1) = off + i * width t + (f + 1) + j by omega] at this
      have hle1 : ∀ j, ls[j]? = (cells t (xs.getD i (dflt t)))[f + 1 + j]? := fun j => by
        have := hle (j + 1)
        simp only [List.getElem?_cons_succ] at this
        rw [this]; congr 1; omega
      have hhere : (cells t (xs.getD i (dflt t)))[f]? = some leaf := by
        have := hle 0; simpa using this.symm
      have hlen : us.length = ls.length := by simpa using hl
      cases leaf with
      | val v =>
        rw [elemLVs, Ev_bind] at e
        obtain ⟨r, e1, e⟩ := e
        rw [Ev_ret] at e; subst e
        refine Each.cons' ?_ (ih (f + 1) us r hle1 hr1 hlen e1)
        have hrd := (Rd.elem (asSl_ok h es hb) hi).2.2
        obtain ⟨us0, hl0, hrr, hea⟩ := hrd
        have hf : f < width t := by
          rcases Nat.lt_or_ge f (cells t (xs.getD i (dflt t))).length with h' | h'
          · rwa [cells_length] at h'
          · rw [List.getElem?_eq_none h'] at hhere; cases hhere
        have hl0 : us0.length = width t := hl0
        have hu0 : us0[f]? = some (us0[f]'(by omega)) := List.getElem?_eq_getElem (by omega)
        have := hrr f _ hu0
        rw [hr0] at this
        have hR := hea.at_ f _ _ hhere hu0
        rw [← Option.some.inj this] at hR
        cases hR with
        | val => exact ⟨rfl, cells_plain (List.mem_of_getElem? hhere)⟩
      | sl t' ys =>
        rw [elemLVs, Ev_bind] at e
        obtain ⟨x, e0, e⟩ := e
        rw [Ev_bind] at e
        obtain ⟨r, e1, e⟩ := e
        rw [Ev_ret] at e; subst e
        refine Each.cons' ?_ (ih (f + 1) us r hle1 hr1 hlen e1)
        have hf : f < width t := by
          rcases Nat.lt_or_ge f (cells t (xs.getD i (dflt t))).length with h' | h'
          · rwa [cells_length] at h'
          · rw [List.getElem?_eq_none h'] at hhere; cases hhere
        have key : ∀ ok : Nat → Prop, Rd w ok (.sl t xs) (hdr blk off n cap) → Rd w ok (.sl t' ys) u := fun ok hrd => by
          obtain ⟨hnx, hok, us0, hl0, hrr, hea⟩ := Rd.elem hrd hi
          have hu0 : us0[f]? = some (us0[f]'(by omega)) := List.getElem?_eq_getElem (by omega)
          have := hrr f _ hu0
          rw [hr0] at this
          have hR := hea.at_ f _ _ hhere hu0
          rwa [← Option.some.inj this] at hR
        have ec := asSl_cont es
        cases b <;> unfold elemHere at e0
        case ro tb xb =>
          rw [Ev_ret] at e0; subst e0
          simp only [cont, Ev_ret, Leaf.sl.injEq] at ec
          obtain ⟨rfl, hx⟩ := ec
          have hx := eq_of_heq hx; subst hx
          exact key _ hb
        case fix k0 j0 tb xb =>
          rw [Ev_ret] at e0; subst e0
          simp only [cont, Ev_ret, Leaf.sl.injEq] at ec
          obtain ⟨rfl, hx⟩ := ec
          have hx := eq_of_heq hx; subst hx
          exact key _ hb.2
        case tr o =>
          rw [Ev_obj] at e0
          obtain ⟨y, hy, e0⟩ := e0
          simp only [cont, Ev_obj] at ec
          obtain ⟨y', hy', ec⟩ := ec
          rw [hy] at hy'; obtain rfl := Option.some.inj hy'
          have ho := h.objs _ _ hy
          split at e0
          · rename_i tb xb γ
            rw [Ev_ret] at e0; subst e0
            simp only [Ev_ret, Leaf.sl.injEq] at ec
            obtain ⟨rfl, hx⟩ := ec
            have hx := eq_of_heq hx; subst hx
            have hR := key _ (by rw [hb.2.1]; exact Own.rd ho)
            refine ⟨⟨⟨by rw [hy]; rfl, fun t0 xs0 γ0 _ _ _ h0 => by rw [hy] at h0; cases h0⟩, fun t0 xs0 γ0 h0 => ?_, fun t0 xs0 γ0 h0 => ?_⟩, ?_⟩
            · rw [hy] at h0; simp only [Option.some.injEq, Obj.tree.injEq] at h0
              obtain ⟨rfl, h0, rfl⟩ := h0
              have h0 := eq_of_heq h0; subst h0
              exact ⟨Nat.le_refl _, fun _ => ⟨blk, off, cap, by rw [← hb.2.1, (Rd.elem (asSl_ok h es hb) hi).1], by rw [← (Rd.elem (asSl_ok h es hb) hi).1]; exact hi, dflt_cells _ _ _ _ _ hhere, hr0⟩⟩
            · rw [hy] at h0; cases h0
            · obtain ⟨a, c, hc⟩ := hR.len; exact ⟨a, _, c, hc⟩
          · rename_i tb xb γb
            rw [Ev_ret] at e0; subst e0
            simp only [Ev_ret, Leaf.sl.injEq] at ec
            obtain ⟨rfl, hx⟩ := ec
            have hx := eq_of_heq hx; subst hx
            exact key _ (by rw [hb.2.1]; exact ho.2)
          · exact (Ev_fail.1 e0).elim
        case sub o γ0 i0 f0 =>
          rw [Ev_obj] at e0
          obtain ⟨y, hy, e0⟩ := e0
          simp only [cont, Ev_obj] at ec
          obtain ⟨y', hy', ec⟩ := ec
          rw [hy] at hy'; obtain rfl := Option.some.inj hy'
          have ho := h.objs _ _ hy
          split at e0
          · rename_i tb xb γb
            rw [Ev_ret] at e0; subst e0
            simp only at ec
            split at ec
            · rename_i hγ
              split at ec
              · rename_i t0 y0 hl'
                rw [Ev_ret] at ec
                rw [ec] at hl'
                exact key _ (((hb.1.2.2 _ _ _ hy).2 hγ).rd ho.2 hl')
              · exact (Ev_fail.1 ec).elim
            · exact (Ev_fail.1 ec).elim
          · exact (Ev_fail.1 e0).elim
        all_goals exact (Ev_fail.1 e0).elim

theorem Each.sub {α : Type} {R : α → Value → Prop} {ls : List α} {us : List Value} (h : Each R ls us) (off n : Nat) : Each R ((ls.drop off).take n) ((us.drop off).take n) :=
  ⟨by simp [h.len], fun j l u hl hu => by
    simp only [List.getElem?_take, List.getElem?_drop] at hl hu
    split at hl
    · rename_i hj; simp only [hj, if_true] at hu; exact h.at_ _ l u hl hu
    · cases hl⟩

theorem rangeAt_sub {b o : Nat} {us : List Value} (h : w.rangeAt b o us) (off n : Nat) : w.rangeAt b (o + off) ((us.drop off).take n) := fun j v hv => by
  simp only [List.getElem?_take, List.getElem?_drop] at hv
  split at hv
  · have := h (off + j) v hv; rwa [Nat.add_assoc]
  · cases hv

variable {K : Act → World → Prop} {Qx : Exit → Act → World → Prop}

/-- What the operation leaves: the state's writes, on the machine. -/
def After (P : Program) (C : Ctx) (σ : St) (ws : List Wr) (a : Act) (w : World) : Prop := ∃ g, Rep P C (σ.puts ws) g a w

theorem VDlen {x : VD} {ag : Bool} (h : x.1 = ag) (hw : x.2.length = 1 ∨ ag = true) : x.1 = false → x.2.length = 1 := by
  intro e; rcases hw with h' | h'
  · exact h'
  · rw [h] at e; rw [e] at h'; cases h'

theorem width_one {ty : Ty} (h : isAgg ty = false) : width ty = 1 := by cases ty <;> first | rfl | cases h

theorem load_ok (H : TabOk P T) (h : Rep P C σ g a w) {o : Oper} (hd : ∀ d, o.dst = some d → C.Fit d) {t : TypeId} {x : Operand} (ho : o.op = .load t x) {c : Orc} {pk : Bool} {ws : List Wr}
    (e : Ev σ (step P T o c pk) ws) : o.wp P a w (After P C σ ws) Qx := by
  unfold Go.Pi.step at e
  rw [ho] at e
  simp only at e
  rw [Ev_bind] at e
  obtain ⟨v, e1, e⟩ := e
  rw [Ev_bind] at e
  obtain ⟨l, e2, e⟩ := e
  have hv := opd_ok h e1
  obtain rfl := asOne_ok e2
  have hl := hv.one
  split at e
  · rename_i ob off ty hty
    rw [Ev_obj] at e
    obtain ⟨y, hy, e⟩ := e
    split at e
    · rename_i ls
      split at e
      · rename_i hle
        rw [Ev_ret] at e; subst e
        obtain ⟨hs, blk, hb, hx⟩ := hl
        obtain ⟨blk', cc, el, hb', hheap, _, hea⟩ := h.objs _ _ hy
        rw [hb] at hb'; simp only [Value.pointer.injEq, Option.some.injEq, Addr.mk.injEq] at hb'
        obtain ⟨rfl, _⟩ := hb'
        have hr : w.rangeAt blk off ((cc.toList.drop off).take (width ty)) := fun j v hv => by
          rw [World.cell_of_heap hheap]
          simp only [List.getElem?_take, List.getElem?_drop] at hv
          split at hv
          · simpa using hv
          · cases hv
        have hrun := load_run H hty (w := w) (b := blk) (o := off) (us := (cc.toList.drop off).take (width ty)) (by
          have := hea.len; rw [List.length_take, List.length_drop]; omega) hr
        refine wp_val (v := mkv (isAgg ty) ((cc.toList.drop off).take (width ty))) (w' := w) ?_ ⟨g, h.slotW hd ⟨_, rfl, hea.sub off (width ty), ?_⟩⟩
        · unfold execOp; rw [ho]; simp only [hx, Sem.run_bind, hrun, Result.andThen_ok, Sem.run_pure]
        · intro hag; have := width_one hag; rw [List.length_take, List.length_drop]; omega
      · exact (Ev_fail.1 e).elim
    · rename_i ls
      split at e
      · rename_i hle
        rw [Ev_ret] at e; subst e
        obtain ⟨hs, blk, hb, hx⟩ := hl
        obtain ⟨_, blk', cc, el, hb', hheap, _, hea⟩ := h.objs _ _ hy
        rw [hb] at hb'; simp only [Value.pointer.injEq, Option.some.injEq, Addr.mk.injEq] at hb'
        obtain ⟨rfl, _⟩ := hb'
        have hr : w.rangeAt blk off ((cc.toList.drop off).take (width ty)) := fun j v hv => by
          rw [World.cell_of_heap hheap]
          simp only [List.getElem?_take, List.getElem?_drop] at hv
          split at hv
          · simpa using hv
          · cases hv
        have hrun := load_run H hty (w := w) (b := blk) (o := off) (us := (cc.toList.drop off).take (width ty)) (by
          have := hea.len; rw [List.length_take, List.length_drop]; omega) hr
        refine wp_val (v := mkv (isAgg ty) ((cc.toList.drop off).take (width ty))) (w' := w) ?_ ⟨g, h.slotW hd ⟨_, rfl, hea.sub off (width ty), ?_⟩⟩
        · unfold execOp; rw [ho]; simp only [hx, Sem.run_bind, hrun, Result.andThen_ok, Sem.run_pure]
        · intro hag; have := width_one hag; rw [List.length_take, List.length_drop]; omega
      · exact (Ev_fail.1 e).elim
    · exact (Ev_fail.1 e).elim
  · rename_i t' b i off ty hty
    rw [Ev_bind] at e
    obtain ⟨⟨t'', xs⟩, e3, e⟩ := e
    simp only at e
    split at e
    · rename_i hc
      obtain ⟨rfl, hle⟩ := hc
      rw [Ev_bind] at e
      obtain ⟨lvs, e4, e⟩ := e
      rw [Ev_ret] at e; subst e
      obtain ⟨vb, blk, o', n, cap, hb, rfl, hi, hx⟩ := hl
      obtain ⟨hn, hok, us, hul, hr, _⟩ := Rd.elem (asSl_ok h e3 hb) hi
      have hul : us.length = width t'' := hul
      have hea := elemLVs_ok h e3 hb hi 0 _ us lvs (fun j => by simp) (by simpa using hr) (by rw [hul, cells_length]) e4
      have hr2 : w.rangeAt blk (o' + i * width t'' + off) ((us.drop off).take (width ty)) := rangeAt_sub hr off (width ty)
      have hrun := load_run H hty (w := w) (us := (us.drop off).take (width ty)) (by rw [List.length_take, List.length_drop]; omega) hr2
      refine wp_val (v := mkv (isAgg ty) ((us.drop off).take (width ty))) (w' := w) ?_ ⟨g, h.slotW hd ⟨_, rfl, hea.sub off (width ty), ?_⟩⟩
      · unfold execOp; rw [ho]; simp only [hx, Sem.run_bind, hrun, Result.andThen_ok, Sem.run_pure]
      · intro hag; have h1 := width_one hag; have h2 := hea.len; rw [List.length_take, List.length_drop]; omega
    · exact (Ev_fail.1 e).elim
  · exact (Ev_fail.1 e).elim

end
end Go.Pi

/- One operation of the abstract run is one operation of the machine: what only computes. -/
namespace Go.Pi
variable {P : Program} {C : Ctx} {T : Tab}
section
variable {σ : St} {g : Gh} {a : Act} {w : World} {Qx : Exit → Act → World → Prop}

/-- An operation that makes one value and leaves memory alone. -/
theorem after_val (h : Rep P C σ g a w) {o : Oper} (hd : ∀ d, o.dst = some d → C.Fit d) {x : SV} {v : Value} (hr : (execOp a.eval o).run P w = .ok (.value v) w) (hx : RepSV P C σ.o g w x v) :
    o.wp P a w (After P C σ (slotW o.dst x)) Qx := wp_val hr ⟨g, h.slotW hd hx⟩

theorem move_ok (h : Rep P C σ g a w) {o : Oper} (hd : ∀ d, o.dst = some d → C.Fit d) {x : Operand} (ho : o.op = .move x ∨ o.op = .assign x) {c : Orc} {pk : Bool} {ws : List Wr}
    (e : Ev σ (step P T o c pk) ws) : o.wp P a w (After P C σ ws) Qx := by
  have e' : Ev σ ((opd T o.type x).bind fun v => .ret (slotW o.dst v)) ws := by
    unfold Go.Pi.step at e
    rcases ho with ho | ho <;> (rw [ho] at e; exact e)
  rw [Ev_bind] at e'
  obtain ⟨v, e1, e2⟩ := e'
  rw [Ev_ret] at e2; subst e2
  refine after_val h hd ?_ (opd_ok h e1)
  unfold execOp
  rcases ho with ho | ho <;> (rw [ho]; rfl)

theorem pick_ok (h : Rep P C σ g a w) {o : Oper} (hd : ∀ d, o.dst = some d → C.Fit d) {cn x y : Operand} (ho : o.op = .pick cn x y) {c : Orc} {pk : Bool} {ws : List Wr}
    (e : Ev σ (step P T o c pk) ws) : o.wp P a w (After P C σ ws) Qx := by
  unfold Go.Pi.step at e
  rw [ho] at e
  simp only [Ev_bind, Ev_ask] at e
  obtain ⟨v, e1, b, e2, hb, v', e3, e4⟩ := e
  rw [Ev_ret] at e4; subst e4
  have hv := opd_ok h e1
  rw [asB_ok e2] at hv
  have hv := hv.val
  refine after_val h hd ?_ (opd_ok h e3)
  unfold execOp
  rw [ho]
  simp only [hv, asBool, Sem.run_bind, Sem.run_pure, Result.andThen_ok, hb]
  cases pk <;> rfl

theorem nilCheck_ok (h : Rep P C σ g a w) {o : Oper} (hd : ∀ d, o.dst = some d → C.Fit d) {x : Operand} (ho : o.op = .nilCheck x) {c : Orc} {pk : Bool} {ws : List Wr}
    (e : Ev σ (step P T o c pk) ws) : o.wp P a w (After P C σ ws) Qx := by
  unfold Go.Pi.step at e
  rw [ho] at e
  simp only [Ev_bind] at e
  obtain ⟨v, e1, l, e2, e⟩ := e
  have hv := opd_ok h e1
  rw [asOne_ok e2] at hv
  have hv := hv.one
  split at e
  · rw [Ev_ret] at e; subst e
    refine after_val h hd ?_ (RepSV.mk1 hv)
    obtain ⟨_, blk, _, hx⟩ := hv
    unfold execOp
    rw [ho]
    simp only [hx, Sem.run_pure]
  · exact (Ev_fail.1 e).elim

theorem extract_ok (h : Rep P C σ g a w) {o : Oper} (hd : ∀ d, o.dst = some d → C.Fit d) {x : Operand} {j : Nat} (ho : o.op = .extract x j) {c : Orc} {pk : Bool} {ws : List Wr}
    (e : Ev σ (step P T o c pk) ws) : o.wp P a w (After P C σ ws) Qx := by
  unfold Go.Pi.step at e
  rw [ho] at e
  simp only [Ev_bind] at e
  obtain ⟨v, e1, e⟩ := e
  have hv := opd_ok h e1
  split at e
  · rename_i vs
    split at e
    · rename_i vd hvd
      rw [Ev_ret] at e; subst e
      obtain ⟨us, hx, hea, hag⟩ := hv
      have key : ∀ (vs : List VD) (us : List Value) (j : Nat) (vd : VD), vs[j]? = some vd → Each (RepLV P C σ.o g w) (vs.flatMap (·.2)) us → (∀ x ∈ vs, x.1 = false → x.2.length = 1) →
          ∃ u, (parts vs us)[j]? = some u ∧ RepVD P C σ.o g w vd u := by
        intro vs
        induction vs with
        | nil => intro us j vd hj; simp at hj
        | cons x xs ih =>
          intro us j vd hj hea hag
          simp only [List.flatMap_cons] at hea
          have h1 : Each (RepLV P C σ.o g w) x.2 (us.take x.2.length) := ⟨by have := hea.len; simp at this; rw [List.length_take]; omega, fun j l u hl hu => by
            have hj : j < x.2.length := by
              rcases Nat.lt_or_ge j x.2.length with h' | h'
              · exact h'
              · rw [List.getElem?_eq_none h'] at hl; cases hl
            rw [List.getElem?_take, if_pos hj] at hu
            exact hea.at_ j l u (by rw [List.getElem?_append_left hj]; exact hl) hu⟩
          have h2 : Each (RepLV P C σ.o g w) (xs.flatMap (·.2)) (us.drop x.2.length) := ⟨by have := hea.len; simp at this ⊢; omega, fun j l u hl hu => by
            rw [List.getElem?_drop] at hu
            exact hea.at_ _ l u (by rw [List.getElem?_append_right (by omega)]; rw [Nat.add_sub_cancel_left]; exact hl) hu⟩
          match j with
          | 0 =>
            simp at hj; subst hj
            exact ⟨_, rfl, _, rfl, h1, hag _ (by simp)⟩
          | j + 1 => exact ih _ j vd (by simpa using hj) h2 (fun y hy => hag y (by simp [hy]))
      obtain ⟨u, hu, hr⟩ := key vs us j vd hvd hea hag
      refine after_val h hd ?_ (x := .v vd) (v := u) hr
      unfold execOp
      rw [ho]
      simp only [hx, Instr.extract, Sem.run_bind]
      simp [hu]
    · exact (Ev_fail.1 e).elim
  · exact (Ev_fail.1 e).elim

theorem fieldAddr_ok (H : TabOk P T) (h : Rep P C σ g a w) {o : Oper} (hd : ∀ d, o.dst = some d → C.Fit d) {t : TypeId} {x : Operand} {j : Nat} (ho : o.op = .fieldAddr t x j) {c : Orc} {pk : Bool} {ws : List Wr}
    (e : Ev σ (step P T o c pk) ws) : o.wp P a w (After P C σ ws) Qx := by
  unfold Go.Pi.step at e
  rw [ho] at e
  simp only [Ev_bind] at e
  obtain ⟨v, e1, l, e2, e⟩ := e
  have hv := opd_ok h e1
  rw [asOne_ok e2] at hv
  have hv := hv.one
  have run : ∀ k n blk off, T.foff t j = some (k, n) → a.eval x = .pointer (some ⟨blk, off, none⟩) → (execOp a.eval o).run P w = .ok (.value (.pointer (some ⟨blk, off + k, none⟩))) w := by
    intro k n blk off hk hx
    obtain ⟨fs, f, i, h1, h2, h3, h4, h5, h6⟩ := H.foff _ _ _ _ hk
    unfold execOp
    rw [ho]
    simp only [hx, Instr.fieldAt, Instr.sureAddr, Sem.run_bind, run_underlying h1, Result.andThen_ok, h2, Sem.run_pure, fieldPlace, sizeOf, typeInfo, run_program, h4, h5, if_neg h6, h3, Addr.add_mid]
  split at e
  · rename_i k n ob off hk _
    rw [Ev_ret] at e; subst e
    obtain ⟨hs, blk, hb, hx⟩ := hv
    exact after_val h hd (run _ _ _ _ hk hx) (RepSV.mk1 ⟨hs, blk, hb, rfl⟩)
  · rename_i k n te b i off hk _
    rw [Ev_ret] at e; subst e
    obtain ⟨vb, blk, o', n', cap, hb, he, hi, hx⟩ := hv
    exact after_val h hd (run _ _ _ _ hk hx) (RepSV.mk1 ⟨vb, blk, o', n', cap, hb, he, hi, by rw [Nat.add_assoc]⟩)
  · exact (Ev_fail.1 e).elim

theorem elem_of {t : TypeId} {te : Ty} (h : (T.elem t).bind T.ty = some te) : ∃ e, T.elem t = some e ∧ T.ty e = some te := by
  cases he : T.elem t with
  | none => rw [he] at h; cases h
  | some e => rw [he] at h; exact ⟨e, rfl, h⟩

theorem indexAddr_ok (H : TabOk P T) (h : Rep P C σ g a w) {o : Oper} (hd : ∀ d, o.dst = some d → C.Fit d) {t : TypeId} {x y : Operand} (ho : o.op = .indexAddr t x y) {c : Orc} {pk : Bool} {ws : List Wr}
    (e : Ev σ (step P T o c pk) ws) : o.wp P a w (After P C σ ws) Qx := by
  unfold Go.Pi.step at e
  rw [ho] at e
  simp only [Ev_bind] at e
  obtain ⟨v, e1, l, e2, v', e3, ⟨k, n⟩, e4, ⟨te, xs⟩, e5, e⟩ := e
  simp only at e
  split at e
  case isFalse => exact (Ev_fail.1 e).elim
  rename_i hte
  rw [Ev_ask, Ev_ret] at e
  obtain ⟨hb, e⟩ := e
  subst e
  have hv := opd_ok h e1
  rw [asOne_ok e2] at hv
  have hv := hv.one
  have hy := opd_ok h e3
  rw [asI_ok e4] at hy
  have hy := hy.val
  have hr := asSl_ok h e5 hv
  rcases hr.slice with ⟨hnil, _⟩ | ⟨blk, off, cap, V, hok, hlen, he, _⟩
  · simp only at hnil; subst hnil; simp at hb; omega
  · simp only at hlen he hb
    have hi : n.toNat < xs.length := by omega
    refine after_val h hd ?_ (RepSV.mk1 (l := .ep te l n.toNat 0) (u := .pointer (some ⟨blk, off + n.toNat * width te, none⟩)) ⟨_, blk, off, xs.length, cap, hv, he, hi, rfl⟩)
    obtain ⟨e', hE, hE'⟩ := elem_of hte
    have hu := H.elem _ _ hE
    obtain ⟨i, hi1, hi2, _⟩ := H.info _ _ hE'
    unfold execOp
    rw [ho]
    have hlt : n < (xs.length : Int) := hb.2
    simp [he, hy, hdr, Instr.indexAt, asIntOf, Sem.run_bind, run_underlying hu, hb.1, hlt, sizeOf, typeInfo, hi1, hi2, Addr.add_mid]

theorem eqGuard_run {op : BinOp} {t : TypeId} {x y : Operand} {u v : Value} (hu : u ≠ .nilIface) (hu' : ∀ c, u ≠ .agg c) (w : World) : (eqGuard op t x y u v).run P w = .ok () w := by
  cases u <;> first
    | exact absurd rfl hu
    | exact absurd rfl (hu' _)
    | (cases op <;> rfl)

theorem binInt_run {xt : TypeId} {op : BinOp} {k : IntKind} {x y : Int} {r : Value} (hs : op ≠ .shl) (hs' : op ≠ .shr) (e : Ev σ (binInt op k x y) r) (w : World) :
    (binOp op xt (.int k x) (.int k y)).run P w = .ok r w := by
  cases op <;> first
    | exact absurd rfl hs
    | exact absurd rfl hs'
    | (rw [binInt, Ev_ret] at e; subst e; simp [binOp, Op.intArith, Op.intBits, Op.intCmp]; done)
    | (rw [binInt, Ev_ask, Ev_ret] at e; obtain ⟨h0, e⟩ := e; subst e; simp [binOp, Op.intDiv, h0]; done)

theorem equalIn_bool {t : TypeId} (hu : P.underlying t = some .bool) (d : Nat) (a b : Bool) (w : World) : (Op.equalIn (d + 1) t (.bool a) (.bool b)).run P w = .ok (a == b) w := by
  rw [Op.equalIn]
  simp only [Sem.run_bind, run_underlying hu, Result.andThen_ok, Sem.run_pure]

theorem equal_bool {t : TypeId} (hu : P.underlying t = some .bool) (a b : Bool) (w : World) : (Op.equal t (.bool a) (.bool b)).run P w = .ok (a == b) w :=
  equalIn_bool hu 9999 a b w

theorem binV_run (H : TabOk P T) {xt : TypeId} {op : BinOp} {x y : Value} {r : Value} (e : Ev σ (binV T xt op x y) r) (w : World) :
    (binOp op xt x y).run P w = .ok r w ∧ x ≠ .nilIface ∧ ∀ c, x ≠ .agg c := by
  unfold binV at e
  split at e
  · rename_i k a k' b
    refine ⟨?_, by simp, by simp⟩
    split at e
    · rw [Ev_ask, Ev_ret] at e; obtain ⟨h0, e⟩ := e; subst e
      simp [binOp, Op.shift, h0]
    · rw [Ev_ask, Ev_ret] at e; obtain ⟨h0, e⟩ := e; subst e
      simp [binOp, Op.shift, h0]
    · rename_i hs hs'
      split at e
      · rename_i hk; subst hk
        exact binInt_run (fun h => hs h) (fun h => hs' h) e w
      · exact (Ev_fail.1 e).elim
  · rename_i a b
    refine ⟨?_, by simp, by simp⟩
    unfold binStr at e
    split at e
    · rw [Ev_ask, Ev_ret] at e; obtain ⟨h0, e⟩ := e; subst e
      have h0' : ¬ ((a.size + b.size : Nat) : Int) > IntKind.i64.max := by omega
      simp only [binOp, Op.stringOp, if_neg h0', Sem.run_pure]
    · rw [Ev_ret] at e; subst e; simp [binOp, Op.stringOp]
    · rw [Ev_ret] at e; subst e; simp [binOp, Op.stringOp]
    · exact (Ev_fail.1 e).elim
  · rename_i a b
    refine ⟨?_, by simp, by simp⟩
    split at e
    · rename_i ht
      have hu := H.bool _ ht
      split at e
      · rw [Ev_ret] at e; subst e
        have := equal_bool hu a b w
        show ((Op.equal xt (.bool a) (.bool b)) >>= fun r => (pure (.bool r) : Sem Value)).run P w = _
        rw [Sem.run_bind, this]; rfl
      · rw [Ev_ret] at e; subst e
        have := equal_bool hu a b w
        show ((Op.equal xt (.bool a) (.bool b)) >>= fun r => (pure (.bool !r) : Sem Value)).run P w = _
        rw [Sem.run_bind, this]; rfl
      · exact (Ev_fail.1 e).elim
    · exact (Ev_fail.1 e).elim
  · exact (Ev_fail.1 e).elim

theorem binV_plain {xt : TypeId} {op : BinOp} {x y : Value} {r : Value} (e : Ev σ (binV T xt op x y) r) : plain r = true := by
  unfold binV at e
  split at e
  · split at e
    · rw [Ev_ask, Ev_ret] at e; rw [← e.2]; rfl
    · rw [Ev_ask, Ev_ret] at e; rw [← e.2]; rfl
    · split at e
      · unfold binInt at e
        split at e <;> first
          | (rw [Ev_ret] at e; rw [← e]; rfl)
          | (rw [Ev_ask, Ev_ret] at e; rw [← e.2]; rfl)
          | exact (Ev_fail.1 e).elim
      · exact (Ev_fail.1 e).elim
  · unfold binStr at e
    split at e <;> first
      | (rw [Ev_ret] at e; rw [← e]; rfl)
      | (rw [Ev_ask, Ev_ret] at e; rw [← e.2]; rfl)
      | exact (Ev_fail.1 e).elim
  · split at e
    · split at e <;> first
        | (rw [Ev_ret] at e; rw [← e]; rfl)
        | exact (Ev_fail.1 e).elim
    · exact (Ev_fail.1 e).elim
  · exact (Ev_fail.1 e).elim

theorem binOp_ok (H : TabOk P T) (h : Rep P C σ g a w) {o : Oper} (hd : ∀ d, o.dst = some d → C.Fit d) {op : BinOp} {xt yt : TypeId} {x y : Operand} (ho : o.op = .binOp op xt x y yt) {c : Orc} {pk : Bool} {ws : List Wr}
    (e : Ev σ (step P T o c pk) ws) : o.wp P a w (After P C σ ws) Qx := by
  unfold Go.Pi.step at e
  rw [ho] at e
  simp only [Ev_bind] at e
  obtain ⟨v, e1, l, e2, v', e3, l', e4, e⟩ := e
  have hx := opd_ok h e1
  have hy := opd_ok h e3
  rw [asOne_ok e2] at hx
  rw [asOne_ok e4] at hy
  split at e
  · rw [Ev_bind] at e
    obtain ⟨r, e5, e⟩ := e
    rw [Ev_ret] at e; subst e
    obtain ⟨hr, h1, h2⟩ := binV_run (P := P) H e5 w
    refine after_val h hd ?_ (RepSV.mk1 ⟨rfl, binV_plain e5⟩)
    unfold execOp
    rw [ho]
    simp only [hx.val, hy.val, Sem.run_bind, eqGuard_run h1 h2, Result.andThen_ok, hr, Sem.run_pure]
  · exact (Ev_fail.1 e).elim

theorem unOp_ok (h : Rep P C σ g a w) {o : Oper} (hd : ∀ d, o.dst = some d → C.Fit d) {op : UnOp} {xt : TypeId} {x : Operand} (ho : o.op = .unOp op xt x) {c : Orc} {pk : Bool} {ws : List Wr}
    (e : Ev σ (step P T o c pk) ws) : o.wp P a w (After P C σ ws) Qx := by
  unfold Go.Pi.step at e
  rw [ho] at e
  simp only [Ev_bind] at e
  obtain ⟨v, e1, l, e2, e⟩ := e
  have hx := opd_ok h e1
  rw [asOne_ok e2] at hx
  split at e
  · rw [Ev_bind] at e
    obtain ⟨r, e5, e⟩ := e
    rw [Ev_ret] at e; subst e
    have hx := hx.val
    unfold unV at e5
    split at e5
    · rw [Ev_ret] at e5; subst e5
      refine after_val h hd ?_ (RepSV.mk1 ⟨rfl, rfl⟩)
      unfold execOp; rw [ho]
      simp [hx, Op.unary, Op.intArith]
    · rw [Ev_ret] at e5; subst e5
      refine after_val h hd ?_ (RepSV.mk1 ⟨rfl, rfl⟩)
      unfold execOp; rw [ho]
      simp [hx, Op.unary]
    · exact (Ev_fail.1 e5).elim
  · exact (Ev_fail.1 e).elim

theorem convert_ok (H : TabOk P T) (h : Rep P C σ g a w) {o : Oper} (hd : ∀ d, o.dst = some d → C.Fit d) {s t : TypeId} {x : Operand} (ho : o.op = .convert s t x) {c : Orc} {pk : Bool} {ws : List Wr}
    (e : Ev σ (step P T o c pk) ws) : o.wp P a w (After P C σ ws) Qx := by
  unfold Go.Pi.step at e
  rw [ho] at e
  simp only [Ev_bind] at e
  obtain ⟨v, e1, ⟨k, n⟩, e2, e⟩ := e
  have hx := opd_ok h e1
  rw [asI_ok e2] at hx
  have hx := hx.val
  simp only at e hx
  split at e
  · rename_i k0 k' hs hk
    rw [Ev_ret] at e; subst e
    have hs1 := H.int _ _ hs
    refine after_val h hd ?_ (RepSV.mk1 ⟨rfl, rfl⟩)
    unfold execOp; rw [ho]
    simp [hx, convert, run_underlying hs1, run_underlying (H.int _ _ hk), Conv.intToInt]
  · exact (Ev_fail.1 e).elim

theorem opds_ok (h : Rep P C σ g a w) : ∀ {ts : List TypeId} {xs : List Operand} {vs : List SV}, Ev σ (opds T ts xs) vs →
    vs.length = xs.length ∧ ∀ (j : Nat) x v, xs[j]? = some x → vs[j]? = some v → RepSV P C σ.o g w v (a.eval x)
  | ts, [], vs, e => by
    rw [opds, Ev_ret] at e; subst e
    exact ⟨rfl, fun j x v hx => by simp at hx⟩
  | ts, x :: xs, vs, e => by
    rw [opds, Ev_bind] at e
    obtain ⟨v, e1, e⟩ := e
    rw [Ev_bind] at e
    obtain ⟨vs', e2, e⟩ := e
    rw [Ev_ret] at e; subst e
    obtain ⟨h1, h2⟩ := opds_ok h e2
    refine ⟨by simp [h1], fun j y u hy hu => ?_⟩
    match j with
    | 0 => simp at hy hu; subst hy; subst hu; exact opd_ok h e1
    | j + 1 => exact h2 j y u (by simpa using hy) (by simpa using hu)

theorem makeFunc_ok (h : Rep P C σ g a w) {o : Oper} (hd : ∀ d, o.dst = some d → C.Fit d) {f : FuncId} {fs cs : Array Operand} (ho : o.op = .makeFunc (.func f) fs cs) {c : Orc} {pk : Bool} {ws : List Wr}
    (e : Ev σ (step P T o c pk) ws) : o.wp P a w (After P C σ ws) Qx := by
  unfold Go.Pi.step at e
  rw [ho] at e
  simp only at e
  split at e
  · rename_i h0
    rw [Ev_bind] at e
    obtain ⟨vs, e1, e⟩ := e
    obtain ⟨hl, hv⟩ := opds_ok h e1
    split at e
    · rename_i obs hobs
      rw [Ev_ret] at e; subst e
      have key : ∀ (vs : List SV) (obs : List Nat) (xs : List Operand), vs.mapM (fun | .v (false, [.bp ob 0]) => some ob | _ => none) = some obs → vs.length = xs.length →
          (∀ (j : Nat) x v, xs[j]? = some x → vs[j]? = some v → RepSV P C σ.o g w v (a.eval x)) → Each (fun o u => BpOk σ.o g o 0 u) obs (xs.map a.eval) := by
        intro vs
        induction vs with
        | nil => intro obs xs hm hl hv
                 simp at hm; subst hm
                 match xs, hl with
                 | [], _ => exact ⟨rfl, fun j l u hl => by simp at hl⟩
        | cons v vs ih =>
          intro obs xs hm hl hv
          match xs, hl with
          | x :: xs, hl =>
            rw [List.mapM_cons] at hm
            simp only [Option.bind_eq_bind, Option.bind_eq_some_iff] at hm
            obtain ⟨ob, h1, obs', h2, h3⟩ := hm
            simp at h3; subst h3
            split at h1
            · rename_i ob'
              simp at h1; subst h1
              exact Each.cons' (hv 0 x _ rfl rfl).one (ih obs' xs h2 (by simpa using hl) (fun j y u hy hu => hv (j + 1) y u (by simpa using hy) (by simpa using hu)))
            · cases h1
      refine after_val h hd ?_ (RepSV.mk1 (l := .clo f obs) (u := .func (.func f) #[] (cs.map a.eval)) ⟨cs.toList.map a.eval, by congr 1; apply Array.ext'; simp, key vs obs cs.toList hobs hl hv⟩)
      unfold execOp
      rw [ho]
      have : fs = #[] := Array.eq_empty_of_size_eq_zero h0
      subst this
      simp [Instr.makeFunc]
    · exact (Ev_fail.1 e).elim
  · exact (Ev_fail.1 e).elim

theorem foldMM_run {isMax : Bool} {k : IntKind} (h : Rep P C σ g a w) : ∀ {x : Int} {vs : List SV} {xs : List Operand} {r : Int}, Ev σ (foldMM isMax k x vs) r → vs.length = xs.length →
    (∀ (j : Nat) x v, xs[j]? = some x → vs[j]? = some v → RepSV P C σ.o g w v (a.eval x)) →
    ((xs.map a.eval).foldlM (if isMax then Builtin.max2 else Builtin.min2) (.int k x)).run P w = .ok (.int k r) w
  | x, [], [], r, e, _, _ => by
    rw [foldMM, Ev_ret] at e; subst e; rfl
  | x, v :: vs, y :: xs, r, e, hl, hv => by
    rw [foldMM, Ev_bind] at e
    obtain ⟨⟨k', n⟩, e1, e⟩ := e
    simp only at e
    split at e
    · rename_i hk
      have hy := hv 0 y v rfl rfl
      rw [asI_ok e1] at hy
      have hy := hy.val
      simp only at hy
      have ih := foldMM_run h (xs := xs) e (by simpa using hl) (fun j y u hy hu => hv (j + 1) y u (by simpa using hy) (by simpa using hu))
      rw [List.map_cons, List.foldlM_cons, Sem.run_bind, hy]
      cases isMax
      · simp only [Bool.false_eq_true, if_false] at ih ⊢
        simp only [Builtin.min2, Sem.run_pure, Result.andThen_ok]
        exact ih
      · simp only [if_true] at ih ⊢
        simp only [Builtin.max2, Sem.run_pure, Result.andThen_ok]
        exact ih
    · exact (Ev_fail.1 e).elim

theorem mm_ok (h : Rep P C σ g a w) {o : Oper} (hd : ∀ d, o.dst = some d → C.Fit d) {b : Builtin} (hb : b = .max ∨ b = .min) {xs : Array Operand} {ts : Array TypeId}
    (ho : o.op = .call { callee := .builtin b, args := xs, argTypes := ts }) {c : Orc} {pk : Bool} {ws : List Wr}
    (e : Ev σ (step P T o c pk) ws) : o.wp P a w (After P C σ ws) Qx := by
  obtain ⟨isMax, e'⟩ : ∃ isMax, (b = if isMax then .max else .min) ∧ Ev σ ((opds T [] xs.toList).bind fun
    | v :: vs => (asI v).bind fun (k, n) => (foldMM isMax k n vs).bind fun r => .ret (one o.dst (.val (.int k r)))
    | [] => .fail) ws := by
    unfold Go.Pi.step at e
    rw [ho] at e
    rcases hb with rfl | rfl
    · exact ⟨true, rfl, e⟩
    · exact ⟨false, rfl, e⟩
  obtain ⟨rfl, e⟩ := e'
  rw [Ev_bind] at e
  obtain ⟨vs, e1, e⟩ := e
  obtain ⟨hl, hv⟩ := opds_ok h e1
  match vs, hl, hv, e with
  | [], _, _, e => exact (Ev_fail.1 e).elim
  | v :: vs, hl, hv, e =>
    simp only [Ev_bind] at e
    obtain ⟨⟨k, n⟩, e2, r, e3, e⟩ := e
    rw [Ev_ret] at e; subst e
    match hx : xs.toList, hl with
    | y :: ys, hl =>
      rw [hx] at hv
      have hy := hv 0 y v rfl rfl
      rw [asI_ok e2] at hy
      have hy := hy.val
      simp only at hy
      have hf := foldMM_run h (xs := ys) e3 (by simpa using hl) (fun j y u hy hu => hv (j + 1) y u (by simpa using hy) (by simpa using hu))
      refine after_val h hd ?_ (RepSV.mk1 (l := .val (.int k r)) ⟨rfl, rfl⟩)
      have hm : xs.toList.map a.eval = .int k n :: ys.map a.eval := by rw [hx]; simp [hy]
      unfold execOp
      rw [ho]
      cases isMax
      · simp only [Bool.false_eq_true, if_false] at hf ⊢
        simp [resolve, invoke, builtin, Builtin.min_, hm, hf]
      · simp only [if_true] at hf ⊢
        simp [resolve, invoke, builtin, Builtin.max_, hm, hf]

theorem len_ok (H : TabOk P T) (h : Rep P C σ g a w) {o : Oper} (hd : ∀ d, o.dst = some d → C.Fit d) {xs : Array Operand} {ts : Array TypeId}
    (ho : o.op = .call { callee := .builtin .len, args := xs, argTypes := ts }) {c : Orc} {pk : Bool} {ws : List Wr}
    (e : Ev σ (step P T o c pk) ws) : o.wp P a w (After P C σ ws) Qx := by
  unfold Go.Pi.step at e
  rw [ho] at e
  simp only at e
  split at e
  · rename_i x t hx ht
    simp only [Ev_bind] at e
    obtain ⟨v, e1, l, e2, e⟩ := e
    have hv := opd_ok h e1
    rw [asOne_ok e2] at hv
    have exs : xs = #[x] := by apply Array.ext'; simpa using hx
    have ets : ts = #[t] := by apply Array.ext'; simpa using ht
    subst exs ets
    split at e
    · rename_i s
      split at e
      · rename_i hs
        rw [Ev_ret] at e; subst e
        refine after_val h hd ?_ (RepSV.mk1 (l := .val (.int .i64 s.size)) ⟨rfl, rfl⟩)
        unfold execOp
        rw [ho]
        simp [resolve, invoke, builtin, Builtin.len_, hv.val, run_underlying (H.str _ hs), goInt]
      · exact (Ev_fail.1 e).elim
    · rw [Ev_bind] at e
      obtain ⟨⟨te, ys⟩, e3, e⟩ := e
      simp only at e
      split at e
      · rename_i hte
        rw [Ev_ret] at e; subst e
        obtain ⟨a', c', hs⟩ := (asSl_ok h e3 hv.one).len
        obtain ⟨e', hE, _⟩ := elem_of hte
        refine after_val h hd ?_ (RepSV.mk1 (l := .val (.int .i64 ys.length)) ⟨rfl, rfl⟩)
        unfold execOp
        rw [ho]
        simp [resolve, invoke, builtin, Builtin.len_, hs, run_underlying (H.elem _ _ hE), goInt]
      · exact (Ev_fail.1 e).elim
  · exact (Ev_fail.1 e).elim

end
end Go.Pi

/- One operation of the abstract run is one operation of the machine: cuts. -/
namespace Go.Pi
variable {P : Program} {C : Ctx} {T : Tab}
section
variable {σ : St} {g : Gh} {a : Act} {w : World} {Qx : Exit → Act → World → Prop}

theorem bound_ok (h : Rep P C σ g a w) {x : Option Operand} {r : Option Int} (e : Ev σ (bound T x) r) :
    (x = none ∧ r = none) ∨ ∃ y k n, x = some y ∧ r = some n ∧ a.eval y = .int k n := by
  unfold bound at e
  split at e
  · rw [Ev_ret] at e; subst e; exact .inl ⟨rfl, rfl⟩
  · rename_i y
    rw [Ev_bind] at e
    obtain ⟨v, e1, e⟩ := e
    rw [Ev_bind] at e
    obtain ⟨⟨k, n⟩, e2, e⟩ := e
    rw [Ev_ret] at e; subst e
    have hy := opd_ok h e1
    rw [asI_ok e2] at hy
    exact .inr ⟨y, k, n, rfl, rfl, hy.val⟩

theorem sliceBound_run {k : IntKind} {n : Int} {y : Nat} {code : BoundsCode} (h : 0 ≤ n ∧ n ≤ (y : Int)) : (Instr.sliceBound (.int k n) y code).run P w = .ok n.toNat w := by
  simp [Instr.sliceBound, asIntOf, h.1, h.2]

theorem sliceBounds_run (isSl : Bool) {len cap : Nat} (hlc : len ≤ cap) {x y : Option Operand} {lo hi : Option Int}
    (hx : (x = none ∧ lo = none) ∨ ∃ y k n, x = some y ∧ lo = some n ∧ a.eval y = .int k n) (hy : (y = none ∧ hi = none) ∨ ∃ z k n, y = some z ∧ hi = some n ∧ a.eval z = .int k n)
    (hb : cutAsk len lo hi) : (Instr.sliceBounds isSl len cap (x.map a.eval) (y.map a.eval) none).run P w = .ok ((lo.getD 0).toNat, (hi.getD len).toNat, cap) w := by
  rcases hx with ⟨rfl, rfl⟩ | ⟨x', k, n, rfl, rfl, hx⟩ <;> rcases hy with ⟨rfl, rfl⟩ | ⟨y', k', n', rfl, rfl, hy⟩ <;> simp only [cutAsk] at hb
  · simp [Instr.sliceBounds]
  · have h1 : (n' : Int) ≤ (cap : Int) := by omega
    simp [Instr.sliceBounds, hy, sliceBound_run (P := P) (w := w) (k := k') ⟨hb.1, h1⟩]
  · simp [Instr.sliceBounds, hx, sliceBound_run (P := P) (w := w) (k := k) ⟨hb.1, hb.2⟩]
  · have h1 : (n' : Int) ≤ (cap : Int) := by omega
    have h2 : n ≤ ((n'.toNat : Nat) : Int) := by omega
    simp [Instr.sliceBounds, hx, hy, sliceBound_run (P := P) (w := w) (k := k') ⟨(by omega : 0 ≤ n'), h1⟩, sliceBound_run (P := P) (w := w) (k := k) ⟨hb.1, h2⟩]

theorem Rd.cut {ok : Nat → Prop} {t : Ty} {xs : List (den t)} {blk off cap l h : Nat} (hr : Rd w ok (.sl t xs) (hdr blk off xs.length cap)) (hlh : l ≤ h) (hh : h ≤ xs.length) (hc : xs.length ≤ cap) :
    Rd w ok (.sl t ((xs.take h).drop l)) (.slice (if cap = l then some ⟨blk, off, none⟩ else some ((⟨blk, off, none⟩ : Addr).add (l * width t))) (h - l) (cap - l)) := by
  have hlen : ((xs.take h).drop l).length = h - l := by rw [List.length_drop, List.length_take]; omega
  by_cases he : h - l = 0
  · have : (xs.take h).drop l = [] := List.eq_nil_of_length_eq_zero (by omega)
    rw [this, he]; exact .nil _ _ _
  · rw [if_neg (by omega), Addr.add_mid]
    rcases hr.slice with ⟨rfl, _⟩ | ⟨blk', off', cap', V, hok, hlen', heq, hcc, hn⟩
    · simp at hh; omega
    · simp only [hdr, Value.slice.injEq, Option.some.injEq, Addr.mk.injEq] at heq
      obtain ⟨⟨rfl, rfl, _⟩, _, rfl⟩ := heq
      have := Rd.sl (w := w) (ok := ok) t ((xs.take h).drop l) blk (off + l * width t) (cap - l) (fun i f => V (l + i) f) hok (by rw [hlen]; omega) (fun i f hi hf => by
        rw [hlen] at hi
        have := hcc (l + i) f (by omega) hf
        rw [Nat.add_mul] at this
        rw [← this]; congr 2; omega) (fun i x hx f l' hl' => by
        rw [List.getElem?_drop, List.getElem?_take] at hx
        split at hx
        · exact hn _ x hx f l' hl'
        · cases hx)
      rw [hlen] at this
      exact this

theorem cutL_eq {α : Type} (xs : List α) (lo hi : Option Int) (hb : cutAsk xs.length lo hi) :
    cutL xs lo hi = (xs.take (hi.getD xs.length).toNat).drop (lo.getD 0).toNat ∧ (lo.getD 0).toNat ≤ (hi.getD xs.length).toNat ∧ (hi.getD xs.length).toNat ≤ xs.length := by
  cases lo <;> cases hi <;> simp only [cutAsk] at hb <;> simp [cutL] <;> omega

/-- A cut of a slice. -/
theorem slice_run (H : TabOk P T) {t : TypeId} {te : Ty} (hte : (T.elem t).bind T.ty = some te) {ok : Nat → Prop} {xs : List (den te)} {v : Value} (hr : Rd w ok (.sl te xs) v)
    {x y : Option Operand} {lo hi : Option Int}
    (hx : (x = none ∧ lo = none) ∨ ∃ y k n, x = some y ∧ lo = some n ∧ a.eval y = .int k n) (hy : (y = none ∧ hi = none) ∨ ∃ z k n, y = some z ∧ hi = some n ∧ a.eval z = .int k n)
    (hb : cutAsk xs.length lo hi) : ∃ v', (Instr.sliceAt t v (x.map a.eval) (y.map a.eval) none).run P w = .ok v' w ∧ Rd w ok (.sl te (cutL xs lo hi)) v' := by
  obtain ⟨e', hE, hE'⟩ := elem_of hte
  have hu := H.elem _ _ hE
  obtain ⟨i, hi1, hi2, _⟩ := H.info _ _ hE'
  obtain ⟨hc1, hc2, hc3⟩ := cutL_eq xs lo hi hb
  rcases hr.slice with ⟨rfl, aa, c, rfl⟩ | ⟨blk, off, cap, V, hok, hlen, rfl, _⟩
  · have hsb := sliceBounds_run (P := P) (w := w) (a := a) true (len := 0) (cap := c) (Nat.zero_le _) hx hy hb
    refine ⟨.slice (if c = (lo.getD 0).toNat then aa else aa.map (·.add ((lo.getD 0).toNat * width te))) ((hi.getD 0).toNat - (lo.getD 0).toNat) (c - (lo.getD 0).toNat), ?_, ?_⟩
    · simp [Instr.sliceAt, Instr.slice, run_underlying hu, hsb, sizeOf, typeInfo, hi1, hi2]
    · rw [hc1]
      simp only [List.length_nil] at hc2 hc3
      simp only [List.take_nil, List.drop_nil]
      rw [show (hi.getD 0).toNat - (lo.getD 0).toNat = 0 by simp at hc3 ⊢; omega]
      exact .nil _ _ _
  · have hsb := sliceBounds_run (P := P) (w := w) (a := a) true hlen hx hy hb
    refine ⟨.slice (if cap = (lo.getD 0).toNat then some ⟨blk, off, none⟩ else some ((⟨blk, off, none⟩ : Addr).add ((lo.getD 0).toNat * width te))) ((hi.getD xs.length).toNat - (lo.getD 0).toNat) (cap - (lo.getD 0).toNat), ?_, ?_⟩
    · simp [Instr.sliceAt, Instr.slice, run_underlying hu, hdr, hsb, sizeOf, typeInfo, hi1, hi2]
    · rw [hc1]; exact Rd.cut hr hc2 hc3 hlen

end
end Go.Pi

/- Objects that turn: a tree that is given up; dead trees; a fresh box; a fresh tree; stores. -/
namespace Go.Pi
variable {P : Program} {C : Ctx} {T : Tab}
section
variable {σ : St} {g : Gh} {a : Act} {w : World} {Qx : Exit → Act → World → Prop}

theorem put_o_ne {i j : Nat} {x : Obj} (h : j ≠ i) : (σ.put (.o i x)).o j = σ.o j := by simp [St.put, h]
theorem put_o_eq {i : Nat} {x : Obj} : (σ.put (.o i x)).o i = some x := by simp [St.put]

/-- A tree that is given up stays readable for ever. -/
theorem Rep.retire (h : Rep P C σ g a w) {ob : Nat} {t : Ty} {xs : List (den t)} {γ : Nat} (ho : σ.o ob = some (.tree t xs γ)) :
    ∃ g', Frm σ.o g w (σ.put (.o ob (.ret t xs γ))).o g' w ∧ Rep P C (σ.put (.o ob (.ret t xs γ))) g' a w ∧ Rd w (okB w g'.L) (.sl t xs) (g.hv ob) := by
  have hown : Own w (.sl t xs) (g.hv ob) (g.fp ob) := h.objs _ _ ho
  let g' : Gh := ⟨g.hv, fun j b => j ≠ ob ∧ g.fp j b⟩
  have hrd : Rd w (okB w g'.L) (.sl t xs) (g.hv ob) := hown.rd.mono (fun _ _ => rfl) (fun b hb => ⟨(h.fps _ _ hb).1, fun ⟨j, hj, hb'⟩ => hj (h.dis _ _ _ hb' hb)⟩)
  refine ⟨g', ?_⟩
  have := h.step (O' := (σ.put (.o ob (.ret t xs γ))).o) (g' := g') (w' := w) (Up.refl _) (fun _ _ _ => rfl) (fun b ⟨j, _, hb⟩ => .inl ⟨j, hb⟩)
    (fun i hi => ⟨by by_cases e : i = ob <;> simp [St.put, e, hi], rfl⟩) ?_ ?_ (fun i b hb => (h.fps i b hb.2).1) (fun i j b hi hj => h.dis i j b hi.2 hj.2) ?_
  · exact ⟨this.1, this.2, hrd⟩
  · rintro o γ0 i f v ⟨h1, h2, h3⟩
    by_cases e : o = ob
    · subst e
      refine ⟨⟨by simp [St.put], fun t0 xs0 γ1 _ _ _ h0 => ?_⟩, fun t0 xs0 γ1 h0 => ?_, fun t0 xs0 γ1 h0 => ?_⟩
      · rw [put_o_eq] at h0; cases h0
      · rw [put_o_eq] at h0; cases h0
      · rw [put_o_eq] at h0; simp only [Option.some.injEq, Obj.ret.injEq] at h0
        obtain ⟨rfl, hx, rfl⟩ := h0
        have hx := eq_of_heq hx; subst hx
        exact h2 _ _ _ ho
    · refine ⟨⟨by rw [put_o_ne e]; exact h1.1, fun t0 xs0 γ1 i' f' o2 h0 => h1.2 t0 xs0 γ1 i' f' o2 (by rw [put_o_ne e] at h0; exact h0)⟩, fun t0 xs0 γ1 h0 => ?_, fun t0 xs0 γ1 h0 => ?_⟩
      · rw [put_o_ne e] at h0; exact h2 _ _ _ h0
      · rw [put_o_ne e] at h0; exact h3 _ _ _ h0
  · intro i hi b hb
    by_cases e : i = ob
    · exact hb.1 e
    · rw [put_o_ne e] at hi; exact h.absent i hi b hb.2
  · intro F i x hx
    by_cases e : i = ob
    · subst e
      rw [put_o_eq] at hx; obtain rfl := Option.some.inj hx
      exact ⟨fun b hb => hb.1 rfl, hrd⟩
    · rw [put_o_ne e] at hx
      exact RepObj.keep F rfl (fun b => ⟨fun hb => hb.2, fun hb => ⟨e, hb⟩⟩) (fun _ _ => rfl) (h.objs i x hx)

theorem slice_ok (H : TabOk P T) (h : Rep P C σ g a w) {o : Oper} (hd : ∀ d, o.dst = some d → C.Fit d) {t : TypeId} {x : Operand} {lo hi : Option Operand} (ho : o.op = .slice t x lo hi none) {c : Orc} {pk : Bool} {ws : List Wr}
    (e : Ev σ (step P T o c pk) ws) : o.wp P a w (After P C σ ws) Qx := by
  unfold Go.Pi.step at e
  rw [ho] at e
  simp only [Ev_bind] at e
  obtain ⟨v, e1, l, e2, l0, e3, h0, e4, e⟩ := e
  have hv := opd_ok h e1
  rw [asOne_ok e2] at hv
  have hl := bound_ok h e3
  have hh := bound_ok h e4
  split at e
  · rename_i s
    split at e
    · rename_i hs
      rw [Ev_ask, Ev_ret] at e
      obtain ⟨hb, e⟩ := e
      subst e
      have hv := hv.val
      have hsb := sliceBounds_run (P := P) (w := w) (a := a) false (Nat.le_refl s.size) hl hh hb
      refine after_val h hd ?_ (RepSV.mk1 ⟨rfl, rfl⟩)
      unfold execOp
      rw [ho]
      simp only [hv, Instr.sliceAt, Instr.slice, Sem.run_bind, run_underlying (H.str _ hs), Result.andThen_ok, Option.map_none, Option.isSome_none, Bool.false_eq_true, if_false, hsb, Sem.run_pure]
      congr 5
      cases h0 <;> rfl
    · exact (Ev_fail.1 e).elim
  · rename_i ob
    rw [Ev_obj] at e
    obtain ⟨y, hy, e⟩ := e
    split at e
    · rename_i te xs γ
      split at e
      · rename_i hte
        rw [Ev_ask, Ev_ret] at e
        obtain ⟨hb, e⟩ := e
        subst e
        obtain ⟨g', F, h', hrd⟩ := h.retire hy
        have hv := hv.one
        obtain ⟨v', hr, hR⟩ := slice_run H hte (v := a.eval x) (by rw [hv.2.1]; exact hrd) hl hh hb
        refine after_val (σ := σ.put (.o ob (.ret te xs γ))) h' hd ?_ (RepSV.mk1 (l := .ro te (cutL xs l0 h0)) hR)
        unfold execOp
        rw [ho]
        simp only [Option.map_none, Sem.run_bind, hr, Result.andThen_ok, Sem.run_pure]
      · exact (Ev_fail.1 e).elim
    · rename_i te xs γ
      split at e
      · rename_i hte
        rw [Ev_ask, Ev_ret] at e
        obtain ⟨hb, e⟩ := e
        subst e
        have hv := hv.one
        obtain ⟨v', hr, hR⟩ := slice_run H hte (v := a.eval x) (by rw [hv.2.1]; exact (h.objs _ _ hy).2) hl hh hb
        refine after_val h hd ?_ (RepSV.mk1 (l := .ro te (cutL xs l0 h0)) hR)
        unfold execOp
        rw [ho]
        simp only [Option.map_none, Sem.run_bind, hr, Result.andThen_ok, Sem.run_pure]
      · exact (Ev_fail.1 e).elim
    · exact (Ev_fail.1 e).elim
  · rename_i hns hnt
    split at e
    · exact (Ev_fail.1 e).elim
    · rename_i hsub
      rw [Ev_bind] at e
      obtain ⟨⟨te, xs⟩, e5, e⟩ := e
      simp only at e
      split at e
      · rename_i hte
        rw [Ev_ask, Ev_ret] at e
        obtain ⟨hb, e⟩ := e
        subst e
        have hR0 : Rd w (okB w g.L) (.sl te xs) (a.eval x) := by
          have := asSl_ok h e5 hv.one
          refine this.mono (fun _ _ => rfl) ?_
          rintro b (hb | ⟨ob, hob, _⟩)
          · exact hb
          · cases l <;> simp [objOf] at hob
            · exact absurd rfl (hnt _)
            · simp [isSub] at hsub
        obtain ⟨v', hr, hR⟩ := slice_run H hte hR0 hl hh hb
        refine after_val h hd ?_ (RepSV.mk1 (l := .ro te (cutL xs l0 h0)) hR)
        unfold execOp
        rw [ho]
        simp only [Option.map_none, Sem.run_bind, hr, Result.andThen_ok, Sem.run_pure]
      · exact (Ev_fail.1 e).elim

end
end Go.Pi

/- A fresh object in the place of others. -/
namespace Go.Pi
variable {P : Program} {C : Ctx} {T : Tab}
section
variable {σ : St} {g : Gh} {a : Act} {w : World} {Qx : Exit → Act → World → Prop}

theorem cell_lt {b n : Nat} {v : Value} (h : w.cell? ⟨b, n, none⟩ = some v) : b < w.heap.size := by
  rcases Nat.lt_or_ge b w.heap.size with h' | h'
  · exact h'
  · simp [World.cell?, Array.getElem?_eq_none h'] at h

/-- The block that an element's slice lies in is the object's own, or one that nobody writes. -/
theorem SubOk.frame (h : Rep P C σ g a w) {O' : Nat → Option Obj} {g' : Gh} {w' : World} {o γ i f : Nat} {v : Value} (hs : SubOk σ.o g w o γ i f v)
    (hh : ∀ b, b < w.heap.size → (g.fp o b ∨ ¬ g.L b) → w'.heap[b]? = w.heap[b]?) (hv : g'.hv o = g.hv o) (hO : O' o = σ.o o) : SubOk O' g' w' o γ i f v := by
  obtain ⟨h1, h2, h3⟩ := hs
  refine ⟨⟨by rw [hO]; exact h1.1, fun t xs γ' i' f' o2 h0 => h1.2 t xs γ' i' f' o2 (by rw [← hO]; exact h0)⟩, fun t xs γ' h0 => ?_, fun t xs γ' h0 => ?_⟩
  · rw [hO] at h0
    refine ⟨(h2 t xs γ' h0).1, fun hγ => ?_⟩
    obtain ⟨blk, off, cap, he, hi, hf, hc⟩ := (h2 t xs γ' h0).2 hγ
    have ho : Own w (.sl t xs) (g.hv o) (g.fp o) := h.objs _ _ h0
    have hb : g.fp o blk := by
      rw [he] at ho
      rcases ho.rd.slice with ⟨rfl, _⟩ | ⟨blk', off', cap', V, hok, _, heq, _⟩
      · simp at hi
      · simp only [hdr, Value.slice.injEq, Option.some.injEq, Addr.mk.injEq] at heq
        obtain ⟨⟨rfl, _⟩, _⟩ := heq
        exact hok
    exact ⟨blk, off, cap, hv.trans he, hi, hf, by rw [World.cell_congr (hh blk (cell_lt hc) (.inl hb))]; exact hc⟩
  · rw [hO] at h0
    refine ⟨(h3 t xs γ' h0).1, fun hγ => ?_⟩
    obtain ⟨blk, off, cap, he, hi, hf, hc⟩ := (h3 t xs γ' h0).2 hγ
    have ho := h.objs _ _ h0
    have hb : ¬ g.L blk := by
      have hr := ho.2
      rw [he] at hr
      rcases hr.slice with ⟨rfl, _⟩ | ⟨blk', off', cap', V, hok, _, heq, _⟩
      · simp at hi
      · simp only [hdr, Value.slice.injEq, Option.some.injEq, Addr.mk.injEq] at heq
        obtain ⟨⟨rfl, _⟩, _⟩ := heq
        exact hok.2
    exact ⟨blk, off, cap, hv.trans he, hi, hf, by rw [World.cell_congr (hh blk (cell_lt hc) (.inr hb))]; exact hc⟩

/-- The ghosts behind a swap. -/
def Gh.swap (g : Gh) (os : List Nat) (i : Nat) (v : Value) (S : Nat → Prop) : Gh :=
  ⟨fun j => if j = i then v else g.hv j, fun j b => if j = i then S b else j ∉ os ∧ g.fp j b⟩

def swapW (os : List Nat) (i : Nat) (x : Obj) : List Wr := os.map (fun o => Wr.o o .dead) ++ [.o i x]

theorem swap_o (os : List Nat) (i : Nat) (x : Obj) (j : Nat) : (σ.puts (swapW os i x)).o j = if j = i then some x else if j ∈ os then some .dead else σ.o j := by
  rw [swapW, puts_append]
  simp only [St.puts, St.put]
  by_cases e : j = i
  · simp [e]
  · simp only [if_neg e]; exact (puts_dead os σ).2 j

theorem swap_s (os : List Nat) (i : Nat) (x : Obj) : (σ.puts (swapW os i x)).s = σ.s := by
  rw [swapW, puts_append]
  simp only [St.puts, St.put]
  exact (puts_dead os σ).1

/-- Objects os die; i is born, in their blocks and in new ones. -/
theorem Rep.swap (h : Rep P C σ g a w) {os : List Nat} {i : Nat} {x : Obj} {v : Value} {S : Nat → Prop} {w' : World} (hi : σ.o i = none)
    (hsz : Up w w') (hheap : ∀ b, b < w.heap.size → (∀ o ∈ os, ¬ g.fp o b) → w'.heap[b]? = w.heap[b]?)
    (hS : ∀ b, S b → b < w'.heap.size ∧ (w.heap.size ≤ b ∨ ∃ o ∈ os, g.fp o b))
    (hx : Frm σ.o g w (σ.puts (swapW os i x)).o (g.swap os i v S) w' → RepObj P C (σ.puts (swapW os i x)).o (g.swap os i v S) w' i x) :
    Frm σ.o g w (σ.puts (swapW os i x)).o (g.swap os i v S) w' ∧ Rep P C (σ.puts (swapW os i x)) (g.swap os i v S) a w' := by
  have ne : ∀ j, (σ.o j).isSome → j ≠ i := fun j hj e => by rw [e, hi] at hj; cases hj
  have hLL : ∀ b, (g.swap os i v S).L b → g.L b ∨ w.heap.size ≤ b := by
    rintro b ⟨j, hb⟩
    simp only [Gh.swap] at hb
    split at hb
    · rcases (hS b hb).2 with h1 | ⟨o, _, h1⟩
      · exact .inr h1
      · exact .inl ⟨o, h1⟩
    · exact .inl ⟨j, hb.2⟩
  have hs := h.step (O' := (σ.puts (swapW os i x)).o) (g' := g.swap os i v S) (w' := w') hsz (fun b hb hl => hheap b hb (fun o _ ho => hl ⟨o, ho⟩)) hLL ?_ ?_ ?_ ?_ ?_ ?_
  · refine ⟨hs.1, ?_⟩
    have : (⟨σ.s, (σ.puts (swapW os i x)).o⟩ : St) = σ.puts (swapW os i x) := by
      rw [show σ.s = (σ.puts (swapW os i x)).s from (swap_s os i x).symm]
    rw [← this]; exact hs.2
  · intro j hj
    have := ne j hj
    rw [swap_o, if_neg this]
    refine ⟨by split <;> simp_all, by simp [Gh.swap, this]⟩
  · rintro o γ k f u hsub
    have hj := ne o hsub.1.1
    by_cases e : o ∈ os
    · refine ⟨⟨by rw [swap_o, if_neg hj, if_pos e]; rfl, fun t xs γ' _ _ _ h0 => ?_⟩, fun t xs γ' h0 => ?_, fun t xs γ' h0 => ?_⟩ <;>
        (rw [swap_o, if_neg hj, if_pos e] at h0; cases h0)
    · refine hsub.frame h (fun b hb hf => hheap b hb (fun o' ho' hb' => ?_)) (by simp [Gh.swap, hj]) (by rw [swap_o, if_neg hj, if_neg e])
      rcases hf with hf | hf
      · have := h.dis _ _ _ hf hb'; subst this; exact e ho'
      · exact hf ⟨o', hb'⟩
  · intro j hj b hb
    rw [swap_o] at hj
    simp only [Gh.swap] at hb
    split at hj
    · cases hj
    · rename_i hne
      rw [if_neg hne] at hb
      split at hj
      · cases hj
      · exact h.absent j hj b hb.2
  · intro j b hb
    simp only [Gh.swap] at hb
    split at hb
    · exact (hS b hb).1
    · exact Nat.lt_of_lt_of_le (h.fps j b hb.2).1 hsz.size
  · intro j k b hj hk
    simp only [Gh.swap] at hj hk
    split at hj
    · rename_i e1
      split at hk
      · rename_i e2; rw [e1, e2]
      · rcases (hS b hj).2 with h1 | ⟨o, ho, h1⟩
        · have := (h.fps k b hk.2).1; omega
        · have := h.dis _ _ _ h1 hk.2; subst this; exact absurd ho hk.1
    · split at hk
      · rcases (hS b hk).2 with h1 | ⟨o, ho, h1⟩
        · have := (h.fps j b hj.2).1; omega
        · have := h.dis _ _ _ h1 hj.2; subst this; exact absurd ho hj.1
      · exact h.dis j k b hj.2 hk.2
  · intro F j y hy
    rw [swap_o] at hy
    split at hy
    · rename_i e; subst e
      obtain rfl := Option.some.inj hy
      exact hx F
    · rename_i hne
      split at hy
      · rename_i e
        obtain rfl := Option.some.inj hy
        intro b hb
        simp only [Gh.swap, if_neg hne] at hb
        exact hb.1 e
      · rename_i e
        refine RepObj.keep F (by simp [Gh.swap, hne]) (fun b => by simp [Gh.swap, hne, e]) (fun b hb => ?_) (h.objs j y hy)
        exact hheap b (h.fps j b hb).1 (fun o ho hb' => by have := h.dis _ _ _ hb hb'; subst this; exact e ho)

theorem heap_alloc_lt (o : Go.Obj) {b : Nat} (h : b < w.heap.size) : (w.alloc o).heap[b]? = w.heap[b]? := by
  simp only [World.alloc, Array.getElem?_push]
  rw [if_neg (by omega)]

theorem heap_alloc_new (o : Go.Obj) : (w.alloc o).heap[w.heap.size]? = some o := by
  unfold World.alloc
  simp only [Array.getElem?_push, if_true]

/-- A fresh variable. -/
theorem Rep.newBox (h : Rep P C σ g a w) {i : Nat} {ls : List LV} {us : List Value} (hi : σ.o i = none) (hea : Each (RepLV P C σ.o g w) ls us) (e : TypeId) :
    ∃ g', Frm σ.o g w (σ.put (.o i (.box ls))).o g' (w.alloc (.cells us.toArray e)) ∧ Rep P C (σ.put (.o i (.box ls))) g' a (w.alloc (.cells us.toArray e)) ∧
      g'.hv i = .pointer (some ⟨w.heap.size, 0, none⟩) := by
  have := h.swap (os := []) (i := i) (x := .box ls) (v := .pointer (some ⟨w.heap.size, 0, none⟩)) (S := fun b => b = w.heap.size) (w' := w.alloc (.cells us.toArray e)) hi
    ⟨by simp, rfl, rfl⟩ (fun b hb _ => heap_alloc_lt _ hb) (fun b hb => by subst hb; simp) (fun F => ?_)
  · exact ⟨_, this.1, this.2, by simp [Gh.swap]⟩
  · refine ⟨w.heap.size, us.toArray, e, by simp [Gh.swap], heap_alloc_new _, fun b => by simp [Gh.swap], ?_⟩
    exact hea.imp fun _ _ => F.lv

theorem newVar_run {t : TypeId} {v : Value} : (newVar t v).run P w = .ok ⟨w.heap.size, 0, none⟩ (w.alloc (.cells v.cells t)) := by
  simp [newVar, newRow]

theorem mkv_cells {ag : Bool} {us : List Value} (h1 : ag = false → us.length = 1) (h2 : ∀ u ∈ us, u.oneCell' = true) : (mkv ag us).cells = us.toArray := by
  cases ag with
  | true => rfl
  | false =>
    match us, h1 rfl with
    | [u], _ =>
      have := h2 u (by simp)
      simp only [mkv]
      cases u <;> first | rfl | simp [Value.oneCell'] at this

theorem Each.oneCell {O : Nat → Option Obj} {ls : List LV} {us : List Value} (h : Each (RepLV P C O g w) ls us) : ∀ u ∈ us, u.oneCell' = true := by
  intro u hu
  obtain ⟨j, hj, rfl⟩ := List.mem_iff_getElem.1 hu
  have hl : j < ls.length := by rw [← h.len]; exact hj
  exact (h.at_ j _ _ (List.getElem?_eq_getElem hl) (List.getElem?_eq_getElem hj)).one

theorem box_ok (h : Rep P C σ g a w) {o : Oper} (hd : ∀ d, o.dst = some d → C.Fit d) {t : TypeId} {x : Operand} (ho : o.op = .box t x) {c : Orc} {pk : Bool} {ws : List Wr}
    (e : Ev σ (step P T o c pk) ws) : o.wp P a w (After P C σ ws) Qx := by
  unfold Go.Pi.step at e
  rw [ho] at e
  simp only [Ev_bind] at e
  obtain ⟨v, e1, ⟨ag, ls⟩, e2, e⟩ := e
  have hv := opd_ok h e1
  obtain rfl := asVD_ok e2
  simp only at e
  split at e
  · rename_i ty d hty hdst
    split at e
    · rename_i hc
      rw [Ev_free, Ev_ret] at e
      obtain ⟨hf, e⟩ := e
      subst e
      obtain ⟨us, hx, hea, hag⟩ := hv
      simp only at hx hea hag
      obtain ⟨g', F, h', hv'⟩ := h.newBox hf hea t
      have hcells := mkv_cells (ag := ag) (us := us) (fun e => by rw [hea.len]; exact hag e) hea.oneCell
      refine wp_val (v := .pointer (some ⟨w.heap.size, 0, none⟩)) (w' := w.alloc (.cells us.toArray t)) ?_ ⟨g', ?_⟩
      · unfold execOp
        rw [ho]
        simp only [hx, Instr.box, Sem.run_bind, newVar_run, Result.andThen_ok, Sem.run_pure, hcells]
      · rw [hdst]
        exact h'.slot (hd d hdst) (RepSV.mk1 ⟨by rw [put_o_eq]; rfl, _, hv', rfl⟩)
    · exact (Ev_fail.1 e).elim
  · exact (Ev_fail.1 e).elim

theorem zeroLVs_ok {O : Nat → Option Obj} (t : Ty) : Each (RepLV P C O g w) (zeroLVs t) ((cells t (dflt t)).map zeroOf) := by
  refine ⟨by simp [zeroLVs], fun j l u hl hu => ?_⟩
  simp only [zeroLVs, List.getElem?_map, Option.map_eq_some_iff] at hl hu
  obtain ⟨x, hx, rfl⟩ := hl
  obtain ⟨y, hy, rfl⟩ := hu
  rw [hx] at hy; obtain rfl := Option.some.inj hy
  cases x with
  | val u => exact ⟨rfl, cells_plain (List.mem_of_getElem? hx)⟩
  | sl t' ys => exact ⟨none, rfl⟩

theorem alloc_ok (H : TabOk P T) (h : Rep P C σ g a w) {o : Oper} (hd : ∀ d, o.dst = some d → C.Fit d) {t : TypeId} (ho : o.op = .alloc t) {c : Orc} {pk : Bool} {ws : List Wr}
    (e : Ev σ (step P T o c pk) ws) : o.wp P a w (After P C σ ws) Qx := by
  unfold Go.Pi.step at e
  rw [ho] at e
  simp only at e
  split at e
  · rename_i ty d hty hdst
    rw [Ev_free, Ev_ret] at e
    obtain ⟨hf, e⟩ := e
    subst e
    obtain ⟨i, hi, hs, hz, _⟩ := H.info _ _ hty
    have hea := zeroLVs_ok (P := P) (C := C) (O := σ.o) (g := g) (w := w) ty
    obtain ⟨g', F, h', hv'⟩ := h.newBox hf hea t
    have hcells : (zeroVal ty).cells = ((cells ty (dflt ty)).map zeroOf).toArray :=
      mkv_cells (fun e => by have := width_one e; simp [cells_length, this]) hea.oneCell
    refine wp_val (v := .pointer (some ⟨w.heap.size, 0, none⟩)) (w' := w.alloc (.cells ((cells ty (dflt ty)).map zeroOf).toArray t)) ?_ ⟨g', ?_⟩
    · unfold execOp
      rw [ho]
      simp [Instr.alloc, zeroValue, typeInfo, hi, hz, newVar_run, hcells]
    · rw [hdst]
      exact h'.slot (hd d hdst) (RepSV.mk1 ⟨by rw [put_o_eq]; rfl, _, hv', rfl⟩)
  · exact (Ev_fail.1 e).elim

end
end Go.Pi

/- Struct literals; cells laid over cells. -/
namespace Go.Pi
variable {P : Program} {C : Ctx} {T : Tab}

theorem splice_cons {α : Type} (l : List α) (o : Nat) (v : α) (r : List α) (ho : o < l.length) : splice (l.set o v) (o + 1) r = splice l o (v :: r) := by
  have e1 : l.set o v = l.take o ++ v :: l.drop (o + 1) := by rw [List.set_eq_take_append_cons_drop, if_pos ho]
  have e2 : (l.take o).length = o := by rw [List.length_take]; omega
  rw [e1]
  unfold splice
  rw [List.take_append, e2, List.take_of_length_le (l := l.take o) (by omega), List.drop_append, e2]
  rw [List.drop_of_length_le (l := l.take o) (by omega)]
  have e3 : o + 1 + r.length - o = r.length + 1 := by omega
  have e4 : o + 1 - o = 1 := by omega
  rw [e3, e4]
  simp only [List.take_succ_cons, List.take_zero, List.drop_succ_cons, List.drop_drop, List.nil_append, List.append_assoc, List.cons_append, List.length_cons]
  congr 4
  omega

theorem length_splice {α : Type} (l : List α) (o : Nat) (r : List α) (h : o + r.length ≤ l.length) : (splice l o r).length = l.length := by
  simp only [splice, List.length_append, List.length_take, List.length_drop]; omega

theorem Each.splice {α : Type} {R : α → Value → Prop} {ls : List α} {us : List Value} (h : Each R ls us) {new : List α} {nus : List Value} (hn : Each R new nus) (off : Nat) (ho : off + new.length ≤ ls.length) :
    Each R (splice ls off new) (splice us off nus) := by
  refine ⟨by rw [length_splice _ _ _ ho, length_splice _ _ _ (by rw [hn.len, h.len]; exact ho), h.len], fun j l u hl hu => ?_⟩
  have h1 : (ls.take off).length = off := by rw [List.length_take]; omega
  have h2 : (us.take off).length = off := by rw [List.length_take, h.len]; omega
  simp only [Go.Pi.splice, List.append_assoc, hn.len] at hl hu
  rcases Nat.lt_or_ge j off with hj | hj
  · rw [List.getElem?_append_left (by omega), List.getElem?_take, if_pos hj] at hl hu
    exact h.at_ j l u hl hu
  · rw [List.getElem?_append_right (by omega), h1] at hl
    rw [List.getElem?_append_right (by omega), h2] at hu
    rcases Nat.lt_or_ge (j - off) new.length with hk | hk
    · rw [List.getElem?_append_left hk] at hl
      rw [List.getElem?_append_left (by rw [hn.len]; exact hk)] at hu
      exact hn.at_ _ l u hl hu
    · rw [List.getElem?_append_right hk, List.getElem?_drop] at hl
      rw [List.getElem?_append_right (by rw [hn.len]; exact hk), List.getElem?_drop, hn.len] at hu
      exact h.at_ _ l u hl hu

theorem foldl_splice (off : Nat) : ∀ (us : List Value) (n : Nat) (cs : Array Value), off + n + us.length ≤ cs.size →
    ((us.zipIdx n).foldl (fun cs (x : Value × Nat) => cs.setIfInBounds (off + x.2) x.1) cs).toList = splice cs.toList (off + n) us
  | [], n, cs, _ => by simp [splice]
  | u :: us, n, cs, h => by
    simp only [List.length_cons] at h
    rw [List.zipIdx_cons, List.foldl_cons, foldl_splice off us (n + 1) _ (by simp; omega), Array.toList_setIfInBounds]
    exact splice_cons _ _ _ _ (by simp; omega)

theorem fill_cons {place : Nat → Option (Nat × Nat)} {cs : Array Value} {i : Nat} {v : Value} {rest : List (Nat × Value)} {off : Nat} {us : List Value} (hp : place i = some (off, us.length)) (hv : v.cells = us.toArray)
    (ho : off + us.length ≤ cs.size) : Instr.fill place cs ((i, v) :: rest) = Instr.fill place (splice cs.toList off us).toArray rest := by
  rw [Instr.fill, hp]
  simp only [hv, List.size_toArray, ne_eq, not_true_eq_false, decide_false, Bool.false_or, decide_eq_true_eq]
  rw [if_neg (by omega)]
  congr 1
  apply Array.ext'
  have := foldl_splice off us 0 cs (by omega)
  simp only [Nat.add_zero] at this
  rw [← this]
  simp

section
variable {σ : St} {g : Gh} {a : Act} {w : World} {Qx : Exit → Act → World → Prop}

theorem RepVD.cells {O : Nat → Option Obj} {x : VD} {v : Value} (h : RepVD P C O g w x v) : ∃ us, v = mkv x.1 us ∧ Each (RepLV P C O g w) x.2 us ∧ v.cells = us.toArray := by
  obtain ⟨us, rfl, hea, hag⟩ := h
  exact ⟨us, rfl, hea, mkv_cells (fun e => by rw [hea.len]; exact hag e) hea.oneCell⟩

theorem lay_ok (h : Rep P C σ g a w) {t : TypeId} {place : Nat → Option (Nat × Nat)} (hp : ∀ j k n, T.foff t j = some (k, n) → place j = some (k, n)) :
    ∀ {ps : List (Nat × Operand)} {ls ls' : List LV} {us : List Value}, Ev σ (lay T t ls ps) ls' → Each (RepLV P C σ.o g w) ls us →
      ∃ us', Instr.fill place us.toArray (ps.map fun (p : Nat × Operand) => (p.1, a.eval p.2)) = some us'.toArray ∧ Each (RepLV P C σ.o g w) ls' us'
  | [], ls, ls', us, e, hea => by
    rw [lay, Ev_ret] at e; subst e
    exact ⟨us, rfl, hea⟩
  | (i, x) :: ps, ls, ls', us, e, hea => by
    rw [lay] at e
    split at e
    · rename_i off n hoff
      rw [Ev_bind] at e
      obtain ⟨v, e1, e⟩ := e
      rw [Ev_bind] at e
      obtain ⟨⟨ag, new⟩, e2, e⟩ := e
      simp only at e
      split at e
      · rename_i hc
        obtain ⟨hn, hle⟩ := hc
        have hv : RepSV P C σ.o g w v (a.eval x) := by
          split at e1
          · split at e1
            · rw [Ev_ret] at e1; subst e1
              exact RepSV.mk1 ⟨none, rfl⟩
            · exact (Ev_fail.1 e1).elim
          · exact opd_ok h e1
        obtain rfl := asVD_ok e2
        obtain ⟨us0, hx, hea0, hcells⟩ := RepVD.cells hv
        simp only at hea0
        have hl0 : us0.length = n := by rw [hea0.len]; exact hn
        obtain ⟨us', hf, hea'⟩ := lay_ok h hp e (hea.splice hea0 off (by omega))
        refine ⟨us', ?_, hea'⟩
        rw [List.map_cons, fill_cons (off := off) (us := us0) (by rw [hl0]; exact hp _ _ _ hoff) hcells (by have := hea.len; simp; omega)]
        exact hf
      · exact (Ev_fail.1 e).elim
    · exact (Ev_fail.1 e).elim

theorem build_ok (H : TabOk P T) (h : Rep P C σ g a w) {o : Oper} (hd : ∀ d, o.dst = some d → C.Fit d) {t : TypeId} {ps : Array (Nat × Operand)} (ho : o.op = .build t ps) {c : Orc} {pk : Bool} {ws : List Wr}
    (e : Ev σ (step P T o c pk) ws) : o.wp P a w (After P C σ ws) Qx := by
  unfold Go.Pi.step at e
  rw [ho] at e
  simp only at e
  split at e
  · rename_i n hty
    rw [Ev_bind] at e
    obtain ⟨ls, e1, e⟩ := e
    rw [Ev_ret] at e; subst e
    obtain ⟨i, hi, hs, hz, _⟩ := H.info _ _ hty
    obtain ⟨fs, hu, hfs⟩ := H.st _ _ hty
    obtain ⟨places, hpl⟩ : ∃ places, fs.toList.mapM (fun f => (P.info? f.type).map fun i => (f.offset, i.size)) = some places := by
      have : ∀ l : List Field, (∀ f ∈ l, (P.info? f.type).isSome = true) → ∃ places, l.mapM (fun f => (P.info? f.type).map fun i => (f.offset, i.size)) = some places := by
        intro l
        induction l with
        | nil => intro _; exact ⟨[], rfl⟩
        | cons f l ih =>
          intro hl
          obtain ⟨i, hi⟩ := Option.isSome_iff_exists.1 (hl f (by simp))
          obtain ⟨ps, hps⟩ := ih (fun f hf => hl f (by simp [hf]))
          exact ⟨(f.offset, i.size) :: ps, by simp [List.mapM_cons, hi, hps]⟩
      exact this _ (fun f hf => hfs f (by simpa using hf))
    have hplace : ∀ (l : List Field) (places : List (Nat × Nat)), l.mapM (fun f => (P.info? f.type).map fun i => (f.offset, i.size)) = some places → ∀ (j : Nat) f i, l[j]? = some f → P.info? f.type = some i → places[j]? = some (f.offset, i.size) := by
      intro l
      induction l with
      | nil => intro places _ j f i hj; simp at hj
      | cons f l ih =>
        intro places hm j f' i hj hi
        simp only [List.mapM_cons, Option.bind_eq_bind, Option.pure_def, Option.bind_eq_some_iff] at hm
        obtain ⟨p, hp, r, hr, he⟩ := hm
        simp at he; subst he
        match j with
        | 0 => simp at hj; subst hj; rw [hi] at hp; simp at hp; subst hp; rfl
        | j + 1 => simpa using ih r hr j f' i (by simpa using hj) hi
    obtain ⟨us', hf, hea⟩ := lay_ok h (t := t) (place := (places.toArray[·]?)) (fun j k n hk => by
      obtain ⟨fs', f, i', h1, h2, h3, h4, h5, _⟩ := H.foff _ _ _ _ hk
      rw [hu] at h1; simp only [Option.some.injEq, TypeDesc.struct.injEq] at h1; subst h1
      have := hplace _ _ hpl j f i' (by simpa using h2) h4
      simp [this, h3, h5]) e1 (zeroLVs_ok (P := P) (C := C) (O := σ.o) (g := g) (w := w) (.st n))
    have hb : P.built t (ps.map fun (p : Nat × Operand) => (p.1, a.eval p.2)).toList = some us'.toArray := by
      unfold Program.built
      rw [hi, hu]
      simp only [hz, hpl]
      have : (zeroVal (.st n)).cells = ((cells (.st n) (dflt (.st n))).map zeroOf).toArray := rfl
      rw [this, Array.toList_map]
      exact hf
    refine after_val h hd (v := .agg us'.toArray) ?_ (x := .v (true, ls)) ⟨us', rfl, hea, fun e => by cases e⟩
    unfold execOp
    rw [ho]
    simp only [Sem.run_bind]
    rw [run_build w t _ _ hb]
    rfl
  · exact (Ev_fail.1 e).elim

end
end Go.Pi

/- Slice literals; make. -/
namespace Go.Pi
variable {P : Program} {C : Ctx} {T : Tab}
section
variable {σ : St} {g : Gh} {a : Act} {w : World} {Qx : Exit → Act → World → Prop}

/-- The blocks of the cell that holds an owned tree. -/
def fpLV (g : Gh) (l : LV) (b : Nat) : Prop := ∃ o, l = .tr o ∧ g.fp o b

/-- What is given away by cells. -/
theorem given_ok (h : Rep P C σ g a w) : ∀ {ls : List LV} {xs : List Leaf} {os : List Nat} {us : List Value}, Ev σ (given ls) (xs, os) → Each (RepLV P C σ.o g w) ls us →
    xs.length = ls.length ∧ os.Nodup ∧ (∀ o, o ∈ os ↔ LV.tr o ∈ ls) ∧ (∀ o ∈ os, ∃ t ys γ, σ.o o = some (.tree t ys γ)) ∧
      (∀ (j : Nat) l x u, ls[j]? = some l → xs[j]? = some x → us[j]? = some u → Own w x u (fpLV g l)) ∧
      (∀ (i j : Nat) o, ls[i]? = some (LV.tr o) → ls[j]? = some (LV.tr o) → i = j)
  | [], xs, os, us, e, hv => by
    rw [given, Ev_ret] at e
    obtain ⟨rfl, rfl⟩ := Prod.mk.inj e
    exact ⟨rfl, List.nodup_nil, fun o => by simp, (fun o ho => by cases ho), (fun j l x u hl => by simp at hl), (fun i j o hi => by simp at hi)⟩
  | l :: ls, xs, os, us, e, hv => by
    obtain ⟨u, us', rfl, h1, h2⟩ := hv.cons
    have plainCase : ∀ (x : Leaf), (∀ o, l ≠ .tr o) → Own w x u (fpLV g l) → Ev σ ((given ls).bind fun (xs, os) => .ret (x :: xs, os)) (xs, os) →
        xs.length = (l :: ls).length ∧ os.Nodup ∧ (∀ o, o ∈ os ↔ LV.tr o ∈ l :: ls) ∧ (∀ o ∈ os, ∃ t ys γ, σ.o o = some (.tree t ys γ)) ∧
          (∀ (j : Nat) l' x' u', (l :: ls)[j]? = some l' → xs[j]? = some x' → (u :: us')[j]? = some u' → Own w x' u' (fpLV g l')) ∧
          (∀ (i j : Nat) o, (l :: ls)[i]? = some (LV.tr o) → (l :: ls)[j]? = some (LV.tr o) → i = j) := by
      intro x hne hown e
      rw [Ev_bind] at e
      obtain ⟨⟨xs', os'⟩, e1, e⟩ := e
      rw [Ev_ret] at e
      obtain ⟨rfl, rfl⟩ := Prod.mk.inj e
      obtain ⟨i1, i2, i3, i4, i5, i6⟩ := given_ok h e1 h2
      refine ⟨by simp [i1], i2, fun o => ?_, i4, fun j l' x' u' hl hx hu => ?_, fun i j o hi hj => ?_⟩
      · rw [i3 o, List.mem_cons]
        exact ⟨.inr, fun h => h.resolve_left (fun e => hne o e.symm)⟩
      · match j with
        | 0 => simp at hl hx hu; subst hl; subst hx; subst hu; exact hown
        | j + 1 => exact i5 j l' x' u' (by simpa using hl) (by simpa using hx) (by simpa using hu)
      · match i, j with
        | 0, _ => simp at hi; exact absurd hi (hne o)
        | _, 0 => simp at hj; exact absurd hj (hne o)
        | i + 1, j + 1 => rw [i6 i j o (by simpa using hi) (by simpa using hj)]
    cases l with
    | val v =>
      rw [given] at e
      refine plainCase (.val v) (by simp) ?_ e
      rw [h1.1]; exact .val _ _ (fun b ⟨o, ho, _⟩ => by cases ho)
    | nil t =>
      rw [given] at e
      refine plainCase (.sl t []) (by simp) ?_ e
      obtain ⟨aa, rfl⟩ := h1
      exact .nil _ _ _ (fun b ⟨o, ho, _⟩ => by cases ho)
    | tr o =>
      rw [given, Ev_obj] at e
      obtain ⟨y, hy, e⟩ := e
      split at e
      · rename_i t ys γ
        rw [Ev_bind] at e
        obtain ⟨⟨xs', os'⟩, e1, e⟩ := e
        simp only at e
        split at e
        · exact (Ev_fail.1 e).elim
        · rename_i hc
          rw [Ev_ret] at e
          obtain ⟨rfl, rfl⟩ := Prod.mk.inj e
          obtain ⟨i1, i2, i3, i4, i5, i6⟩ := given_ok h e1 h2
          have hno : o ∉ os' := by simpa using hc
          have hnl : LV.tr o ∉ ls := fun h => hno ((i3 o).2 h)
          refine ⟨by simp [i1], List.nodup_cons.2 ⟨hno, i2⟩, fun o' => ?_, fun o' ho' => ?_, fun j l' x' u' hl hx hu => ?_, fun i j o' hi hj => ?_⟩
          · rw [List.mem_cons, List.mem_cons, i3 o', LV.tr.injEq]
          · rcases List.mem_cons.1 ho' with rfl | ho'
            · exact ⟨t, ys, γ, hy⟩
            · exact i4 o' ho'
          · match j with
            | 0 =>
              simp at hl hx hu; subst hl; subst hx; subst hu
              have : Own w (.sl t ys) (g.hv o) (g.fp o) := h.objs _ _ hy
              rw [h1.2.1]
              exact this.congr (fun b => ⟨fun ⟨o', ho', hb⟩ => by cases ho'; exact hb, fun hb => ⟨o, rfl, hb⟩⟩)
            | j + 1 => exact i5 j l' x' u' (by simpa using hl) (by simpa using hx) (by simpa using hu)
          · match i, j with
            | 0, 0 => rfl
            | 0, j + 1 =>
              simp at hi hj; subst hi
              exact absurd (List.mem_of_getElem? hj) hnl
            | i + 1, 0 =>
              simp at hi hj; subst hj
              exact absurd (List.mem_of_getElem? hi) hnl
            | i + 1, j + 1 => rw [i6 i j o' (by simpa using hi) (by simpa using hj)]
      · exact (Ev_fail.1 e).elim
    | ro _ _ => rw [given] at e <;> first | exact (Ev_fail.1 e).elim | simp
    | fix _ _ _ _ => rw [given] at e <;> first | exact (Ev_fail.1 e).elim | simp
    | sub _ _ _ _ => rw [given] at e <;> first | exact (Ev_fail.1 e).elim | simp
    | bp _ _ => rw [given] at e <;> first | exact (Ev_fail.1 e).elim | simp
    | ep _ _ _ _ => rw [given] at e <;> first | exact (Ev_fail.1 e).elim | simp
    | clo _ _ => rw [given] at e <;> first | exact (Ev_fail.1 e).elim | simp
    | fn _ => rw [given] at e <;> first | exact (Ev_fail.1 e).elim | simp

/-- Elements of a literal: their cells. -/
theorem elems_ok (h : Rep P C σ g a w) {et : TypeId} {te : Ty} : ∀ {n : Nat} {ps : List (Nat × Operand)} {r : List (List LV)}, Ev σ (elems T et te n ps) r →
    ∃ uss : List (List Value), uss.length = r.length ∧ r.length = ps.length ∧ (∀ (j : Nat) ls us, r[j]? = some ls → uss[j]? = some us → ls.length = width te ∧ Each (RepLV P C σ.o g w) ls us) ∧
      (∀ (j : Nat) p us, ps[j]? = some p → uss[j]? = some us → p.1 = n + j ∧ (a.eval p.2).cells = us.toArray)
  | n, [], r, e => by
    rw [elems, Ev_ret] at e; subst e
    exact ⟨[], rfl, rfl, (fun j ls us hl => by simp at hl), (fun j p us hp => by simp at hp)⟩
  | n, (i, x) :: ps, r, e => by
    rw [elems] at e
    split at e
    · rename_i hi
      rw [Ev_bind] at e
      obtain ⟨v, e1, e⟩ := e
      rw [Ev_bind] at e
      obtain ⟨⟨ag, ls⟩, e2, e⟩ := e
      simp only at e
      split at e
      · rename_i hc
        rw [Ev_bind] at e
        obtain ⟨r', e3, e⟩ := e
        rw [Ev_ret] at e; subst e
        have hv := opd_ok h e1
        obtain rfl := asVD_ok e2
        obtain ⟨us, hx, hea, hcells⟩ := RepVD.cells hv
        obtain ⟨uss, i1, i2, i3, i4⟩ := elems_ok h e3
        refine ⟨us :: uss, by simp [i1], by simp [i2], fun j ls' us' hl hu => ?_, fun j p us' hp hu => ?_⟩
        · match j with
          | 0 => simp at hl hu; subst hl; subst hu; exact ⟨hc.2, hea⟩
          | j + 1 => exact i3 j ls' us' (by simpa using hl) (by simpa using hu)
        · match j with
          | 0 => simp at hp hu; subst hp; subst hu; exact ⟨by simp [hi], hcells⟩
          | j + 1 =>
            have := i4 j p us' (by simpa using hp) (by simpa using hu)
            exact ⟨by omega, this.2⟩
      · exact (Ev_fail.1 e).elim
    · exact (Ev_fail.1 e).elim

/-- A literal's cells, laid one element behind the other. -/
theorem fill_all {wd : Nat} (hw : 0 < wd) : ∀ (ps : List (Nat × Value)) (uss : List (List Value)) (k : Nat) (cs : Array Value), uss.length = ps.length → (∀ us ∈ uss, us.length = wd) → cs.size = (k + ps.length) * wd →
    (∀ (j : Nat) p us, ps[j]? = some p → uss[j]? = some us → p.1 = k + j ∧ p.2.cells = us.toArray) →
    Instr.fill (fun i => some (i * wd, wd)) cs ps = some (cs.toList.take (k * wd) ++ uss.flatten).toArray
  | [], uss, k, cs, hl, _, hs, _ => by
    have : uss = [] := by simpa using hl
    subst this
    simp only [List.length_nil, Nat.add_zero] at hs
    rw [Instr.fill, List.take_of_length_le (by simp [hs])]
    simp
  | p :: ps, uss, k, cs, hl, hus, hs, hp => by
    match uss, hl with
    | us :: uss, hl =>
      obtain ⟨i, v⟩ := p
      obtain ⟨h1, h2⟩ := hp 0 (i, v) us rfl rfl
      simp only [Nat.add_zero] at h1; subst h1
      have hlen := hus us (by simp)
      simp only [List.length_cons] at hs
      have hle : i * wd + wd ≤ cs.size := by
        rw [hs]
        have : (i + (ps.length + 1)) * wd = i * wd + wd + ps.length * wd := by rw [Nat.add_mul, Nat.add_mul]; omega
        omega
      rw [fill_cons (off := i * wd) (us := us) (by rw [hlen]) h2 (by rw [hlen]; exact hle)]
      rw [fill_all hw ps uss (i + 1) _ (by simpa using hl) (fun u hu => hus u (by simp [hu])) (by
        rw [List.size_toArray, length_splice _ _ _ (by rw [hlen]; simpa using hle)]
        simp only [Array.length_toList, hs]
        congr 1; omega) (fun j p u hj hu => by
          have := hp (j + 1) p u (by simpa using hj) (by simpa using hu)
          exact ⟨by omega, this.2⟩)]
      congr 2
      have e1 : (i + 1) * wd = i * wd + wd := by rw [Nat.add_mul]; omega
      have e2 : (List.take (i * wd) cs.toList).length = i * wd := by rw [List.length_take]; simp; omega
      rw [e1]
      simp only [splice]
      rw [List.append_assoc, List.take_append, e2, List.take_of_length_le (l := List.take (i * wd) cs.toList) (by omega)]
      have e3 : i * wd + wd - i * wd = us.length := by omega
      rw [e3, List.take_append_of_le_length (Nat.le_refl _), List.take_of_length_le (Nat.le_refl _)]
      simp [List.append_assoc]

end
end Go.Pi

/- Slice literals that own; make. -/
namespace Go.Pi
variable {P : Program} {C : Ctx} {T : Tab}
section
variable {σ : St} {g : Gh} {a : Act} {w : World} {Qx : Exit → Act → World → Prop}

def fpAt (g : Gh) (r : List (List LV)) (j f : Nat) (b : Nat) : Prop := ∃ ls l, r[j]? = some ls ∧ ls[f]? = some l ∧ fpLV g l b

theorem givens_ok (h : Rep P C σ g a w) {te : Ty} : ∀ {r : List (List LV)} {xs : List (den te)} {os : List Nat} {uss : List (List Value)}, Ev σ (givens te r) (xs, os) → uss.length = r.length →
    (∀ (j : Nat) ls us, r[j]? = some ls → uss[j]? = some us → ls.length = width te ∧ Each (RepLV P C σ.o g w) ls us) →
    xs.length = r.length ∧ (∀ o ∈ os, ∃ t ys γ, σ.o o = some (.tree t ys γ)) ∧
      (∀ (j : Nat) us x, uss[j]? = some us → xs[j]? = some x → ∀ (f : Nat) l u, (cells te x)[f]? = some l → us[f]? = some u → Own w l u (fpAt g r j f)) ∧
      (∀ j f b, fpAt g r j f b → ∃ o ∈ os, g.fp o b) ∧ (∀ i f j f' b, fpAt g r i f b → fpAt g r j f' b → i = j ∧ f = f')
  | [], xs, os, uss, e, hl, hea => by
    rw [givens, Ev_ret] at e
    obtain ⟨rfl, rfl⟩ := Prod.mk.inj e
    exact ⟨rfl, (fun o ho => by cases ho), (fun j us x _ hx => by simp at hx), (fun j f b ⟨ls, l, h1, _⟩ => by simp at h1), (fun i f j f' b ⟨ls, l, h1, _⟩ => by simp at h1)⟩
  | ls :: r, xs, os, uss, e, hl, hea => by
    match uss, hl with
    | us :: uss, hl =>
      rw [givens, Ev_bind] at e
      obtain ⟨⟨ys, os1⟩, e1, e⟩ := e
      simp only at e
      rw [Ev_bind] at e
      obtain ⟨⟨xs', os2⟩, e2, e⟩ := e
      simp only at e
      split at e
      · rename_i x hx
        split at e
        · exact (Ev_fail.1 e).elim
        · rename_i hno
          rw [Ev_ret] at e
          obtain ⟨rfl, rfl⟩ := Prod.mk.inj e
          obtain ⟨hw, hea0⟩ := hea 0 ls us rfl rfl
          obtain ⟨i1, i2, i3, i4, i5, i6⟩ := given_ok h e1 hea0
          obtain ⟨k1, k2, k3, k4, k5⟩ := givens_ok h e2 (uss := uss) (by simpa using hl) (fun j l u hl hu => hea (j + 1) l u (by simpa using hl) (by simpa using hu))
          have hcx := cells_ofCells te ys x hx
          have hd : ∀ o, o ∈ os1 → o ∈ os2 → False := fun o h1 h2 => hno (List.any_eq_true.2 ⟨o, h1, by simpa using h2⟩)
          have z : ∀ f b, fpAt g (ls :: r) 0 f b → ∃ o, ls[f]? = some (.tr o) ∧ g.fp o b := by
            rintro f b ⟨ls', l, h1, h2, o, rfl, h3⟩
            simp at h1; subst h1; exact ⟨o, h2, h3⟩
          have s : ∀ j f b, fpAt g (ls :: r) (j + 1) f b → fpAt g r j f b := by
            rintro j f b ⟨ls', l, h1, h2⟩
            exact ⟨ls', l, by simpa using h1, h2⟩
          refine ⟨by simp [k1], fun o ho => ?_, fun j us' x' hu hx' f l u hl' hu' => ?_, fun j f b hb => ?_, fun i f j f' b hi hj => ?_⟩
          · rcases List.mem_append.1 ho with ho | ho
            · exact i4 o ho
            · exact k2 o ho
          · match j with
            | 0 =>
              simp at hu hx'; subst hu; subst hx'
              rw [hcx] at hl'
              have hf : f < ls.length := by rw [← i1]; exact (List.getElem?_eq_some_iff.1 hl').1
              have := i5 f ls[f] l u (List.getElem?_eq_getElem hf) hl' hu'
              refine this.congr (fun b => ⟨fun hb => ?_, fun hb => ⟨ls, ls[f], rfl, List.getElem?_eq_getElem hf, hb⟩⟩)
              obtain ⟨o, h1, h2⟩ := z f b hb
              rw [List.getElem?_eq_getElem hf] at h1
              exact ⟨o, Option.some.inj h1, h2⟩
            | j + 1 =>
              refine (k3 j us' x' (by simpa using hu) (by simpa using hx') f l u hl' hu').congr (fun b => ⟨s j f b, fun ⟨ls', l', h1, h2⟩ => ⟨ls', l', by simpa using h1, h2⟩⟩)
          · match j with
            | 0 =>
              obtain ⟨o, h1, h2⟩ := z f b hb
              exact ⟨o, List.mem_append.2 (.inl ((i3 o).2 (List.mem_of_getElem? h1))), h2⟩
            | j + 1 =>
              obtain ⟨o, h1, h2⟩ := k4 j f b (s j f b hb)
              exact ⟨o, List.mem_append.2 (.inr h1), h2⟩
          · match i, j with
            | 0, 0 =>
              obtain ⟨o, h1, h2⟩ := z f b hi
              obtain ⟨o', h1', h2'⟩ := z f' b hj
              have := h.dis _ _ _ h2 h2'; subst this
              exact ⟨rfl, i6 f f' o h1 h1'⟩
            | 0, j + 1 =>
              obtain ⟨o, h1, h2⟩ := z f b hi
              obtain ⟨o', h1', h2'⟩ := k4 j f' b (s j f' b hj)
              have := h.dis _ _ _ h2 h2'; subst this
              exact (hd o ((i3 o).2 (List.mem_of_getElem? h1)) h1').elim
            | i + 1, 0 =>
              obtain ⟨o, h1, h2⟩ := z f' b hj
              obtain ⟨o', h1', h2'⟩ := k4 i f b (s i f b hi)
              have := h.dis _ _ _ h2 h2'; subst this
              exact (hd o ((i3 o).2 (List.mem_of_getElem? h1)) h1').elim
            | i + 1, j + 1 =>
              obtain ⟨h1, h2⟩ := k5 i f j f' b (s i f b hi) (s j f' b hj)
              exact ⟨by rw [h1], h2⟩
      · exact (Ev_fail.1 e).elim

theorem flatten_get {α : Type} {wd : Nat} : ∀ (uss : List (List α)) (j f : Nat), (∀ us ∈ uss, us.length = wd) → f < wd → uss.flatten[j * wd + f]? = (uss[j]?).bind (·[f]?)
  | [], j, f, _, _ => by simp
  | us :: uss, j, f, hl, hf => by
    have h0 := hl us (by simp)
    rw [List.flatten_cons]
    match j with
    | 0 => rw [List.getElem?_append_left (by omega)]; simp
    | j + 1 =>
      have e1 : (j + 1) * wd = j * wd + wd := by rw [Nat.add_mul]; omega
      rw [List.getElem?_append_right (by omega)]
      rw [show (j + 1) * wd + f - us.length = j * wd + f by omega, flatten_get uss j f (fun u hu => hl u (by simp [hu])) hf]
      simp

theorem flatten_length {α : Type} {wd : Nat} : ∀ (uss : List (List α)), (∀ us ∈ uss, us.length = wd) → uss.flatten.length = uss.length * wd
  | [], _ => by simp
  | us :: uss, hl => by
    rw [List.flatten_cons, List.length_append, flatten_length uss (fun u hu => hl u (by simp [hu])), hl us (by simp), List.length_cons, Nat.add_mul]; omega

/-- A new row of elements that are owned. -/
theorem Own.newRow {te : Ty} {xs : List (den te)} {uss : List (List Value)} {rest : List Value} {e : TypeId} {F : Nat → Nat → Nat → Prop} (hl : uss.length = xs.length) (hus : ∀ us ∈ uss, us.length = width te)
    {cap : Nat} (hcap : xs.length ≤ cap) (h63 : cap ≤ 9223372036854775807) (hrest : rest.length = (cap - xs.length) * width te)
    (hown : ∀ (j : Nat) us x, uss[j]? = some us → xs[j]? = some x → ∀ (f : Nat) l u, (cells te x)[f]? = some l → us[f]? = some u → Own w l u (F j f))
    (hold : ∀ j f b, F j f b → b < w.heap.size) (hdis : ∀ i f j f' b, F i f b → F j f' b → i = j ∧ f = f') :
    Own (w.alloc (.cells (uss.flatten ++ rest).toArray e)) (.sl te xs) (hdr w.heap.size 0 xs.length cap) (fun b => b = w.heap.size ∨ ∃ i f, i < xs.length ∧ f < width te ∧ F i f b) := by
  have hfl := flatten_length uss hus
  refine .sl te xs w.heap.size 0 cap (uss.flatten ++ rest).toArray e (fun i f => ((uss[i]?).bind (·[f]?)).getD undef) F _ (heap_alloc_new _) ?_ hcap h63 ?_ ?_ (fun b => Iff.rfl) ?_ ?_
  · have : cap * width te = xs.length * width te + (cap - xs.length) * width te := by rw [← Nat.add_mul]; congr 1; omega
    simp only [List.size_toArray, List.length_append, hfl, hrest, hl]; omega
  · intro i f hi hf
    have hlt : i * width te + f < uss.flatten.length := by
      rw [hfl, hl]
      have : (i + 1) * width te ≤ xs.length * width te := Nat.mul_le_mul_right _ hi
      rw [Nat.add_mul] at this; omega
    rw [Nat.zero_add]
    show ((uss.flatten ++ rest).toArray)[i * width te + f]? = _
    rw [List.getElem?_toArray, List.getElem?_append_left hlt, flatten_get uss i f hus hf]
    have hiu : i < uss.length := by omega
    rw [List.getElem?_eq_getElem hiu]
    have hfu : f < uss[i].length := by rw [hus _ (List.getElem_mem hiu)]; exact hf
    simp [List.getElem?_eq_getElem hfu]
  · intro i x hx f l hl'
    have hi : i < xs.length := (List.getElem?_eq_some_iff.1 hx).1
    have hiu : i < uss.length := by omega
    have hf : f < width te := by rw [← cells_length te x]; exact (List.getElem?_eq_some_iff.1 hl').1
    have hfu : f < uss[i].length := by rw [hus _ (List.getElem_mem hiu)]; exact hf
    have := hown i uss[i] x (List.getElem?_eq_getElem hiu) hx f l uss[i][f] hl' (List.getElem?_eq_getElem hfu)
    rw [List.getElem?_eq_getElem hiu]
    simp only [Option.bind_some, List.getElem?_eq_getElem hfu, Option.getD_some]
    exact this.mono (fun b hb => heap_alloc_lt _ (hold i f b hb))
  · intro i f _ _ hb
    have := hold i f _ hb; omega
  · intro i f j f' b _ _ _ _ h1 h2
    exact hdis i f j f' b h1 h2

end
end Go.Pi

/- Slice literals; make: the operations. -/
namespace Go.Pi
variable {P : Program} {C : Ctx} {T : Tab}
section
variable {σ : St} {g : Gh} {a : Act} {w : World} {Qx : Exit → Act → World → Prop}

theorem buildSlice_run (H : TabOk P T) {t e : TypeId} {te : Ty} (ht : T.elem t = some e) (he : T.ty e = some te) {n : Nat} {ps : Array (Nat × Value)} {uss : List (List Value)} (hn : ps.size = n) (hs : n * width te ≤ 16777216)
    (hl : uss.length = n) (hus : ∀ us ∈ uss, us.length = width te) (hp : ∀ (j : Nat) p us, ps.toList[j]? = some p → uss[j]? = some us → p.1 = j ∧ p.2.cells = us.toArray) :
    (Instr.buildSlice t n ps).run P w = .ok (.slice (some ⟨w.heap.size, 0, none⟩) n n) (w.alloc (.cells uss.flatten.toArray e)) := by
  have hu := H.elem _ _ ht
  obtain ⟨i, hi1, hi2, hz, _⟩ := H.info _ _ he
  have hnot : ¬ (n * width te > 2 ^ 24) := by
    have : (2 : Nat) ^ 24 = 16777216 := by decide
    omega
  have key : ∀ z : Array Value, Instr.fill (fun i => some (i * width te, width te)) ((Array.range (n * width te)).map (z[· % z.size]!)) ps.toList = some uss.flatten.toArray := by
    intro z
    have := fill_all (width_pos te) ps.toList uss 0 ((Array.range (n * width te)).map (z[· % z.size]!)) (by simp [hl, hn]) hus (by simp [hn]) (fun j p us hj hu => by
      have := hp j p us hj hu; exact ⟨by omega, this.2⟩)
    rw [this]; simp
  unfold Instr.buildSlice
  simp only [Sem.run_bind, run_underlying hu, Result.andThen_ok]
  have hsz : (sizeOf e).run P w = .ok (width te) w := by simp [sizeOf, typeInfo, hi1, hi2]
  rw [hsz]
  simp only [Result.andThen_ok, if_neg hnot]
  by_cases h0 : n * width te = 0
  · simp only [if_pos h0]
    rw [Sem.run_bind]
    simp only [Sem.run_pure, Result.andThen_ok]
    rw [key]
    simp [Go.newRow]
  · simp only [if_neg h0]
    have hzz : (zeroValue e).run P w = .ok (zeroVal te) w := by simp [zeroValue, typeInfo, hi1, hz]
    rw [Sem.run_bind, hzz]
    simp only [Result.andThen_ok]
    rw [Sem.run_bind]
    simp only [Sem.run_pure, Result.andThen_ok]
    rw [key]
    simp [Go.newRow]

/-- Some trees have been given up. -/
def Given (σ τ : St) : Prop := τ.s = σ.s ∧ ∀ i, τ.o i = σ.o i ∨ ∃ t xs γ, σ.o i = some (.tree t xs γ) ∧ τ.o i = some (.ret t xs γ)

theorem put_same {τ : St} {i : Nat} {x : Obj} (h : τ.o i = some x) : τ.put (.o i x) = τ := by
  cases τ with
  | mk s o =>
    simp only [St.put, St.mk.injEq, true_and]
    funext m
    split
    · rename_i e; rw [e]; exact h.symm
    · rfl

theorem lent_ok : ∀ {ls : List LV} {xs : List Leaf} {ws : List Wr} {us : List Value} {τ : St} {g : Gh}, Ev σ (lent ls) (xs, ws) → Given σ τ → Rep P C τ g a w → Each (RepLV P C τ.o g w) ls us →
    ∃ g', Given σ (τ.puts ws) ∧ Frm τ.o g w (τ.puts ws).o g' w ∧ Rep P C (τ.puts ws) g' a w ∧ Each (Rd w (okB w g'.L)) xs us
  | [], xs, ws, us, τ, g, e, hg, h, hea => by
    rw [lent, Ev_ret] at e
    obtain ⟨rfl, rfl⟩ := Prod.mk.inj e
    rw [hea.nil']
    exact ⟨g, hg, .refl, h, rfl, fun j l u hl => by simp at hl⟩
  | l :: ls, xs, ws, us, τ, g, e, hg, h, hea => by
    obtain ⟨u, us', rfl, h1, h2⟩ := hea.cons
    have other : (∀ o, l ≠ .tr o) → objOf l = [] → Ev σ ((cont l).bind fun x => (lent ls).bind fun (ys, ws) => .ret (x :: ys, ws)) (xs, ws) →
        ∃ g', Given σ (τ.puts ws) ∧ Frm τ.o g w (τ.puts ws).o g' w ∧ Rep P C (τ.puts ws) g' a w ∧ Each (Rd w (okB w g'.L)) xs (u :: us') := by
      intro hne hobj e
      rw [Ev_bind] at e
      obtain ⟨x, e1, e⟩ := e
      rw [Ev_bind] at e
      obtain ⟨⟨ys, ws'⟩, e2, e⟩ := e
      rw [Ev_ret] at e
      obtain ⟨rfl, rfl⟩ := Prod.mk.inj e
      obtain ⟨g', i1, i2, i3, i4⟩ := lent_ok e2 hg h h2
      refine ⟨g', i1, i2, i3, Each.cons' ?_ i4⟩
      have hx : Rd w (okB w g.L) x u := by
        have e1' : Ev τ (cont l) x := by
          cases l <;> first | exact e1 | (simp [objOf] at hobj)
        have := cont_ok h e1' h1
        rw [hobj] at this
        exact this.mono (fun _ _ => rfl) (fun b hb => hb.resolve_right (by rintro ⟨o, ho, _⟩; cases ho))
      exact i2.rd hx
    cases l with
    | tr o =>
      rw [lent, Ev_obj] at e
      obtain ⟨y, hy, e⟩ := e
      have step : ∀ t zs γ, y = .tree t zs γ ∨ y = .ret t zs γ → ∃ g1, Given σ (τ.put (.o o (.ret t zs γ))) ∧ Frm τ.o g w (τ.put (.o o (.ret t zs γ))).o g1 w ∧ Rep P C (τ.put (.o o (.ret t zs γ))) g1 a w ∧
          Rd w (okB w g1.L) (.sl t zs) u := by
        intro t zs γ hyy
        rcases hg.2 o with ho | ⟨t', zs', γ', ho, ho'⟩
        · rcases hyy with rfl | rfl
          · obtain ⟨g1, F, hr, hrd⟩ := h.retire (ho.trans hy)
            refine ⟨g1, ⟨hg.1, fun i => ?_⟩, F, hr, by rw [h1.2.1]; exact hrd⟩
            by_cases e : i = o
            · subst e; exact .inr ⟨t, zs, γ, hy, put_o_eq⟩
            · rw [put_o_ne e]; exact hg.2 i
          · have := ho.trans hy
            rw [put_same this]
            exact ⟨g, hg, .refl, h, by rw [h1.2.1]; exact (h.objs _ _ this).2⟩
        · rw [hy] at ho
          obtain rfl := Option.some.inj ho
          rcases hyy with hyy | hyy
          · cases hyy
            rw [put_same ho']
            exact ⟨g, hg, .refl, h, by rw [h1.2.1]; exact (h.objs _ _ ho').2⟩
          · cases hyy
      split at e
      · rename_i t zs γ
        rw [Ev_bind] at e
        obtain ⟨⟨ys, ws'⟩, e2, e⟩ := e
        rw [Ev_ret] at e
        obtain ⟨rfl, rfl⟩ := Prod.mk.inj e
        obtain ⟨g1, j1, j2, j3, j4⟩ := step t zs γ (.inl rfl)
        obtain ⟨g', i1, i2, i3, i4⟩ := lent_ok e2 j1 j3 (h2.imp fun _ _ => j2.lv)
        exact ⟨g', i1, j2.trans i2, i3, Each.cons' (i2.rd j4) i4⟩
      · rename_i t zs γ
        rw [Ev_bind] at e
        obtain ⟨⟨ys, ws'⟩, e2, e⟩ := e
        rw [Ev_ret] at e
        obtain ⟨rfl, rfl⟩ := Prod.mk.inj e
        obtain ⟨g1, j1, j2, j3, j4⟩ := step t zs γ (.inr rfl)
        have hsame : τ.put (.o o (.ret t zs γ)) = τ := by
          rcases hg.2 o with ho | ⟨t', zs', γ', ho, ho'⟩
          · exact put_same (ho.trans hy)
          · rw [hy] at ho; cases ho
        rw [hsame] at j1 j2 j3
        obtain ⟨g', i1, i2, i3, i4⟩ := lent_ok e2 j1 j3 (h2.imp fun _ _ => j2.lv)
        exact ⟨g', i1, j2.trans i2, i3, Each.cons' (i2.rd j4) i4⟩
      · exact (Ev_fail.1 e).elim
    | sub _ _ _ _ => rw [lent] at e; exact (Ev_fail.1 e).elim
    | val v => rw [lent] at e <;> first | exact other (by simp) rfl e | simp
    | nil t => rw [lent] at e <;> first | exact other (by simp) rfl e | simp
    | ro _ _ => rw [lent] at e <;> first | exact other (by simp) rfl e | simp
    | fix _ _ _ _ => rw [lent] at e <;> first | exact other (by simp) rfl e | simp
    | bp _ _ => rw [lent] at e <;> first | exact other (by simp) rfl e | simp
    | ep _ _ _ _ => rw [lent] at e <;> first | exact other (by simp) rfl e | simp
    | clo _ _ => rw [lent] at e <;> first | exact other (by simp) rfl e | simp
    | fn _ => rw [lent] at e <;> first | exact other (by simp) rfl e | simp

theorem lents_ok {te : Ty} : ∀ {r : List (List LV)} {xs : List (den te)} {ws : List Wr} {uss : List (List Value)} {τ : St} {g : Gh}, Ev σ (lents te r) (xs, ws) → Given σ τ → Rep P C τ g a w → uss.length = r.length →
    (∀ (j : Nat) ls us, r[j]? = some ls → uss[j]? = some us → Each (RepLV P C τ.o g w) ls us) →
    ∃ g', Frm τ.o g w (τ.puts ws).o g' w ∧ Rep P C (τ.puts ws) g' a w ∧ xs.length = r.length ∧
      (∀ (j : Nat) us x, uss[j]? = some us → xs[j]? = some x → ∀ (f : Nat) l u, (cells te x)[f]? = some l → us[f]? = some u → Rd w (okB w g'.L) l u)
  | [], xs, ws, uss, τ, g, e, hg, h, hl, hea => by
    rw [lents, Ev_ret] at e
    obtain ⟨rfl, rfl⟩ := Prod.mk.inj e
    exact ⟨g, .refl, h, rfl, fun j us x _ hx => by simp at hx⟩
  | ls :: r, xs, ws, uss, τ, g, e, hg, h, hl, hea => by
    match uss, hl with
    | us :: uss, hl =>
      rw [lents, Ev_bind] at e
      obtain ⟨⟨ys, ws1⟩, e1, e⟩ := e
      simp only at e
      rw [Ev_bind] at e
      obtain ⟨⟨xs', ws2⟩, e2, e⟩ := e
      simp only at e
      split at e
      · rename_i x hx
        rw [Ev_ret] at e
        obtain ⟨rfl, rfl⟩ := Prod.mk.inj e
        obtain ⟨g1, j1, j2, j3, j4⟩ := lent_ok e1 hg h (hea 0 ls us rfl rfl)
        obtain ⟨g', i1, i2, i3, i4⟩ := lents_ok e2 j1 j3 (uss := uss) (by simpa using hl) (fun j l u hl hu => (hea (j + 1) l u (by simpa using hl) (by simpa using hu)).imp fun _ _ => j2.lv)
        have hcx := cells_ofCells te ys x hx
        rw [puts_append]
        refine ⟨g', j2.trans i1, i2, by simp [i3], fun j us' x' hu hx' f l u hl' hu' => ?_⟩
        match j with
        | 0 =>
          simp at hu hx'; subst hu; subst hx'
          rw [hcx] at hl'
          exact i1.rd (j4.at_ f l u hl' hu')
        | j + 1 => exact i4 j us' x' (by simpa using hu) (by simpa using hx') f l u hl' hu'
      · exact (Ev_fail.1 e).elim

theorem Rep.nothing (h : Rep P C σ g a w) {w' : World} (he : Ext w w') : Frm σ.o g w σ.o g w' ∧ Rep P C σ g a w' := by
  have := h.step (O' := σ.o) (g' := g) (w' := w') he.1 (fun b hb _ => he.2 b hb) (fun b hb => .inl hb) (fun i hi => ⟨hi, rfl⟩)
    (fun o γ i f v hs => hs.frame h (fun b hb _ => he.2 b hb) rfl rfl) h.absent (fun i b hb => Nat.lt_of_lt_of_le (h.fps i b hb).1 he.1.size) h.dis
    (fun F i x hx => RepObj.keep F rfl (fun _ => Iff.rfl) (fun b hb => he.2 b (h.fps i b hb).1) (h.objs i x hx))
  exact this

theorem buildSlice_ok (H : TabOk P T) (h : Rep P C σ g a w) {o : Oper} (hd : ∀ d, o.dst = some d → C.Fit d) {t : TypeId} {n : Nat} {ps : Array (Nat × Operand)} (ho : o.op = .buildSlice t n ps) {c : Orc} {pk : Bool} {ws : List Wr}
    (e : Ev σ (step P T o c pk) ws) : o.wp P a w (After P C σ ws) Qx := by
  unfold Go.Pi.step at e
  rw [ho] at e
  simp only at e
  split at e
  · rename_i et d het hdst
    split at e
    · rename_i te hte
      split at e
      · rename_i hc
        rw [Ev_bind] at e
        obtain ⟨r, e1, e⟩ := e
        obtain ⟨uss, k1, k2, k3, k4⟩ := elems_ok h e1
        have hps : ps.toList.length = n := by simp [hc.1]
        have hus : ∀ us ∈ uss, us.length = width te := by
          intro us hu
          obtain ⟨j, hj, rfl⟩ := List.mem_iff_getElem.1 hu
          have hjr : j < r.length := by omega
          obtain ⟨q1, q2⟩ := k3 j r[j] uss[j] (List.getElem?_eq_getElem hjr) (List.getElem?_eq_getElem hj)
          rw [q2.len, q1]
        have hrun := buildSlice_run (P := P) (w := w) H het hte (n := n) (ps := ps.map fun (p : Nat × Operand) => (p.1, a.eval p.2)) (uss := uss) (by simp [hc.1]) hc.2 (by omega) hus (fun j p us hj hu => by
          rw [Array.toList_map, List.getElem?_map, Option.map_eq_some_iff] at hj
          obtain ⟨q, hq, rfl⟩ := hj
          have := k4 j q us hq hu
          exact ⟨by omega, this.2⟩)
        have hex : (execOp a.eval o).run P w = .ok (.value (.slice (some ⟨w.heap.size, 0, none⟩) n n)) (w.alloc (.cells uss.flatten.toArray et)) := by
          unfold execOp
          rw [ho]
          simp only [Sem.run_bind]
          rw [hrun]
          rfl
        split at e
        · rw [Ev_bind] at e
          obtain ⟨⟨xs, ws'⟩, e2, e⟩ := e
          rw [Ev_ret] at e; subst e
          obtain ⟨g', F, h', hl', hrd⟩ := lents_ok e2 ⟨rfl, fun i => .inl rfl⟩ h k1 (fun j ls us hl hu => (k3 j ls us hl hu).2)
          have hext : Ext w (w.alloc (.cells uss.flatten.toArray et)) := ⟨⟨by simp, rfl, rfl⟩, fun b hb => heap_alloc_lt _ hb⟩
          obtain ⟨F2, h2⟩ := h'.nothing hext
          refine wp_val hex ⟨g', ?_⟩
          rw [hdst, puts_append]
          refine h2.slot (hd d hdst) (RepSV.mk1 ?_)
          have hlx : xs.length = n := by omega
          have := Rd.sl (w := w.alloc (.cells uss.flatten.toArray et)) (ok := okB (w.alloc (.cells uss.flatten.toArray et)) g'.L) te xs w.heap.size 0 n (fun i f => ((uss[i]?).bind (·[f]?)).getD undef)
            ⟨by simp, fun ⟨j, hj⟩ => Nat.lt_irrefl _ (h'.fps j _ hj).1⟩ (by omega) (fun i f hi hf => by
              rw [World.cell_of_heap (heap_alloc_new (w := w) _), Nat.zero_add, List.getElem?_toArray, flatten_get uss i f hus hf]
              have hiu : i < uss.length := by omega
              rw [List.getElem?_eq_getElem hiu]
              have hfu : f < uss[i].length := by rw [hus _ (List.getElem_mem hiu)]; exact hf
              simp [List.getElem?_eq_getElem hfu]) (fun i x hx f l hl'' => by
              have hi : i < xs.length := (List.getElem?_eq_some_iff.1 hx).1
              have hiu : i < uss.length := by omega
              have hf : f < width te := by rw [← cells_length te x]; exact (List.getElem?_eq_some_iff.1 hl'').1
              have hfu : f < uss[i].length := by rw [hus _ (List.getElem_mem hiu)]; exact hf
              rw [List.getElem?_eq_getElem hiu]
              simp only [Option.bind_some, List.getElem?_eq_getElem hfu, Option.getD_some]
              exact F2.rd (hrd i uss[i] x (List.getElem?_eq_getElem hiu) hx f l uss[i][f] hl'' (List.getElem?_eq_getElem hfu)))
          rw [hlx] at this
          exact this
        · rw [Ev_bind] at e
          obtain ⟨⟨xs, os⟩, e2, e⟩ := e
          simp only at e
          rw [Ev_free, Ev_ret] at e
          obtain ⟨hf, e⟩ := e
          subst e
          obtain ⟨q1, q2, q3, q4, q5⟩ := givens_ok h e2 k1 k3
          have hlx : xs.length = n := by omega
          have hown := Own.newRow (w := w) (te := te) (xs := xs) (uss := uss) (rest := []) (e := et) (F := fpAt g r) (by omega) hus (cap := xs.length) (Nat.le_refl _) (by have := width_pos te; have h1 : n * 1 ≤ n * width te := Nat.mul_le_mul_left _ this; omega) (by simp) q3 (fun j f b hb => by
            obtain ⟨oo, _, hb⟩ := q4 j f b hb; exact (h.fps oo b hb).1) q5
          rw [List.append_nil] at hown
          obtain ⟨F, h'⟩ := h.swap (os := os) (i := oid d 0) (x := .tree te xs 0) (v := hdr w.heap.size 0 xs.length xs.length) (S := fun b => b = w.heap.size ∨ ∃ i f, i < xs.length ∧ f < width te ∧ fpAt g r i f b)
            (w' := w.alloc (.cells uss.flatten.toArray et)) hf ⟨by simp, rfl, rfl⟩ (fun b hb _ => heap_alloc_lt _ hb) (fun b hb => by
              rcases hb with rfl | ⟨i, f, _, _, hb⟩
              · exact ⟨by simp, .inl (Nat.le_refl _)⟩
              · obtain ⟨oo, hoo, hb⟩ := q4 i f b hb
                exact ⟨Nat.lt_of_lt_of_le (h.fps oo b hb).1 (by simp), .inr ⟨oo, hoo, hb⟩⟩) (fun F => by
              show Own _ _ ((g.swap os (oid d 0) _ _).hv (oid d 0)) ((g.swap os (oid d 0) _ _).fp (oid d 0))
              simp only [Gh.swap, if_true]
              exact hown)
          refine wp_val hex ⟨g.swap os (oid d 0) (hdr w.heap.size 0 xs.length xs.length) (fun b => b = w.heap.size ∨ ∃ i f, i < xs.length ∧ f < width te ∧ fpAt g r i f b), ?_⟩
          rw [hdst]
          have : (List.map (fun o => Wr.o o .dead) os ++ [Wr.o (oid d 0) (.tree te xs 0), Wr.s d (.v (false, [.tr (oid d 0)]))]) = swapW os (oid d 0) (.tree te xs 0) ++ [Wr.s d (.v (false, [.tr (oid d 0)]))] := by
            simp [swapW]
          rw [this, puts_append]
          refine h'.slot (hd d hdst) (RepSV.mk1 ⟨by rw [swap_o, if_pos rfl]; rfl, ?_, _, _, _, rfl⟩)
          simp only [Gh.swap, if_true, hlx, hdr]
      · exact (Ev_fail.1 e).elim
    · exact (Ev_fail.1 e).elim
  · exact (Ev_fail.1 e).elim

end
end Go.Pi

/- make; append. -/
namespace Go.Pi
variable {P : Program} {C : Ctx} {T : Tab}
section
variable {σ : St} {g : Gh} {a : Act} {w : World} {Qx : Exit → Act → World → Prop}

/-- A fresh tree, born in new blocks and in the blocks of those that die. -/
theorem after_tree (h : Rep P C σ g a w) {o : Oper} (hd : ∀ d, o.dst = some d → C.Fit d) {d : Tmp} (hdst : o.dst = some d) {os : List Nat} {te : Ty} {xs : List (den te)} {v : Value} {S : Nat → Prop} {w' : World}
    (hr : (execOp a.eval o).run P w = .ok (.value v) w') (hf : σ.o (oid d 0) = none) (hv : ∃ aa n c, v = .slice aa n c)
    (hsz : Up w w') (hheap : ∀ b, b < w.heap.size → (∀ o ∈ os, ¬ g.fp o b) → w'.heap[b]? = w.heap[b]?)
    (hS : ∀ b, S b → b < w'.heap.size ∧ (w.heap.size ≤ b ∨ ∃ o ∈ os, g.fp o b)) (hown : Own w' (.sl te xs) v S) :
    o.wp P a w (After P C σ (os.map (fun o => Wr.o o .dead) ++ [Wr.o (oid d 0) (.tree te xs 0), Wr.s d (.v (false, [.tr (oid d 0)]))])) Qx := by
  obtain ⟨F, h'⟩ := h.swap (os := os) (i := oid d 0) (x := .tree te xs 0) (v := v) (S := S) (w' := w') hf hsz hheap hS (fun F => by
    show Own _ _ ((g.swap os (oid d 0) _ _).hv (oid d 0)) ((g.swap os (oid d 0) _ _).fp (oid d 0))
    simp only [Gh.swap, if_true]
    exact hown)
  refine wp_val hr ⟨g.swap os (oid d 0) v S, ?_⟩
  rw [hdst]
  have : (os.map (fun o => Wr.o o .dead) ++ [Wr.o (oid d 0) (.tree te xs 0), Wr.s d (.v (false, [.tr (oid d 0)]))]) = swapW os (oid d 0) (.tree te xs 0) ++ [Wr.s d (.v (false, [.tr (oid d 0)]))] := by
    simp [swapW]
  rw [this, puts_append]
  exact h'.slot (hd d hdst) (RepSV.mk1 ⟨by rw [swap_o, if_pos rfl]; rfl, by simp only [Gh.swap, if_true], hv⟩)

theorem zero_cells (te : Ty) (n : Nat) (z : Array Value) (hz : z.size = width te) : (Array.range (n * width te)).map (z[· % z.size]!) = (List.replicate n z.toList).flatten.toArray := by
  apply Array.ext'
  apply List.ext_getElem?
  intro i
  simp only [Array.toList_map, Array.toList_range, List.getElem?_map]
  have hfl := flatten_length (wd := width te) (List.replicate n z.toList) (fun us hu => by rw [(List.mem_replicate.1 hu).2]; simpa using hz)
  rw [List.length_replicate] at hfl
  rcases Nat.lt_or_ge i (n * width te) with hi | hi
  · have hw := width_pos te
    rw [List.getElem?_range hi]
    have hdiv : i / width te < n := Nat.div_lt_of_lt_mul (by rw [Nat.mul_comm]; exact hi)
    have hmod := Nat.mod_lt i hw
    have hsplit : i = (i / width te) * width te + i % width te := by rw [Nat.mul_comm]; exact (Nat.div_add_mod i (width te)).symm
    have := flatten_get (wd := width te) (List.replicate n z.toList) (i / width te) (i % width te) (fun us hu => by rw [(List.mem_replicate.1 hu).2]; simpa using hz) hmod
    rw [← hsplit, List.getElem?_replicate, if_pos hdiv] at this
    rw [this, hz]
    have hlt : i % width te < z.size := by omega
    simp [hlt]
  · rw [List.getElem?_eq_none (by simpa using hi), List.getElem?_eq_none (by rw [hfl]; exact hi)]
    rfl

theorem zero_own (te : Ty) {w : World} (f : Nat) (l : Leaf) (u : Value) (hl : (cells te (dflt te))[f]? = some l) (hu : ((cells te (dflt te)).map zeroOf)[f]? = some u) : Own w l u (fun _ => False) := by
  rw [List.getElem?_map, hl] at hu
  simp only [Option.map_some, Option.some.injEq] at hu
  subst hu
  cases l with
  | val v => exact .val _ _ (fun _ h => h)
  | sl t ys =>
    have : ys = [] := by
      have hf : f < (cells te (dflt te)).length := (List.getElem?_eq_some_iff.1 hl).1
      have key : ∀ t : Ty, (cells t (dflt t)).all (fun | .sl _ ys => ys.isEmpty | .val _ => true) = true := by
        intro t
        cases t with
        | st n => cases n <;> rfl
        | _ => rfl
      have := List.all_eq_true.1 (key te) _ (List.mem_of_getElem? hl)
      simpa using this
    subst this
    exact .nil _ _ _ (fun _ h => h)

theorem makeSlice_ok (H : TabOk P T) (h : Rep P C σ g a w) {o : Oper} (hd : ∀ d, o.dst = some d → C.Fit d) {t : TypeId} {n m : Operand} (ho : o.op = .makeSlice t n m) {c : Orc} {pk : Bool} {ws : List Wr}
    (e : Ev σ (step P T o c pk) ws) : o.wp P a w (After P C σ ws) Qx := by
  unfold Go.Pi.step at e
  rw [ho] at e
  simp only at e
  split at e
  · rename_i et d het hdst
    split at e
    · rename_i te hte
      simp only [Ev_bind, Ev_ask, Ev_free, Ev_ret] at e
      obtain ⟨v1, e1, ⟨k1, l⟩, e2, v2, e3, ⟨k2, k⟩, e4, ⟨h0, h1, h2, h3⟩, hf, e⟩ := e
      subst e
      simp only at h0 h1 h2 h3
      subst h1
      have hn := opd_ok h e1
      rw [asI_ok e2] at hn
      have hm := opd_ok h e3
      rw [asI_ok e4] at hm
      have hn := hn.val
      have hm := hm.val
      simp only at hn hm
      have hu := H.elem _ _ het
      obtain ⟨i, hi1, hi2, hz, hb⟩ := H.info _ _ hte
      let z := (cells te (dflt te)).map zeroOf
      have hzs : (zeroVal te).cells = z.toArray := mkv_cells (fun e => by have := width_one e; simp [cells_length, this]) (zeroLVs_ok (P := P) (C := C) (O := σ.o) (g := g) (w := w) te).oneCell
      have hzl : z.length = width te := by simp [z, cells_length]
      have hl : l.toNat = l := by omega
      have hown := Own.newRow (w := w) (te := te) (xs := List.replicate l.toNat (dflt te)) (uss := List.replicate l.toNat z) (rest := []) (e := et) (F := fun _ _ _ => False) (by simp)
        (fun us hu => by rw [(List.mem_replicate.1 hu).2]; exact hzl) (cap := l.toNat) (by simp) (by omega) (by simp) (fun j us x hu hx f lf u hl hu' => by
          have hu := (List.mem_replicate.1 (List.mem_of_getElem? hu)).2
          have hx := (List.mem_replicate.1 (List.mem_of_getElem? hx)).2
          subst hu; subst hx
          exact zero_own te f lf u hl hu') (fun _ _ _ h => h.elim) (fun _ _ _ _ _ h => h.elim)
      rw [List.append_nil] at hown
      have hcells : (Array.range (l.toNat * width te)).map (fun x => z.toArray[x % z.toArray.size]!) = (List.replicate l.toNat z).flatten.toArray := zero_cells te l.toNat z.toArray (by simpa using hzl)
      have hrun : (execOp a.eval o).run P w = .ok (.value (.slice (some ⟨w.heap.size, 0, none⟩) l.toNat l.toNat)) (w.alloc (.cells (List.replicate l.toNat z).flatten.toArray et)) := by
        have hr := run_make (P := P) w t et i (zeroVal te) hu hi1 hz k1 k2 l l h0 (Int.le_refl _) (by rw [hb]; omega) (by omega)
        unfold execOp
        rw [ho]
        simp only [hn, hm, Sem.run_bind]
        rw [hr]
        simp only [Result.andThen_ok, Sem.run_pure, hi2, hzs, madeCells]
        rw [hcells]
      have := after_tree (Qx := Qx) h hd hdst (os := []) (v := hdr w.heap.size 0 (List.replicate l.toNat (dflt te)).length l.toNat) (by rw [hrun]; simp [hdr]) hf ⟨_, _, _, rfl⟩ (Up.alloc _ _)
        (fun b hb _ => heap_alloc_lt _ hb) (fun b hb => by
          rcases hb with rfl | ⟨_, _, _, _, hb⟩
          · exact ⟨by simp, .inl (Nat.le_refl _)⟩
          · exact hb.elim) hown
      simpa using this
    · exact (Ev_fail.1 e).elim
  · exact (Ev_fail.1 e).elim

/-- What is appended, as the machine sees it. -/
structure Adds (P : Program) (w : World) (te : Ty) (tx : TypeId) (ys : List (den te)) (v : Value) (S : Nat → Prop) where
  uss : List (List Value)
  F : Nat → Nat → Nat → Prop
  len : uss.length = ys.length
  each : ∀ us ∈ uss, us.length = width te
  src : Src P (width te) tx v ys.length uss.flatten w
  own : ∀ (j : Nat) us x, uss[j]? = some us → ys[j]? = some x → ∀ (f : Nat) l u, (cells te x)[f]? = some l → us[f]? = some u → Own w l u (F j f)
  sub : ∀ j f b, F j f b → S b
  rng : ∀ j f b, F j f b → j < ys.length ∧ f < width te
  dis : ∀ i f j f' b, F i f b → F j f' b → i = j ∧ f = f'

theorem leaf_one {ok : Nat → Prop} {l : Leaf} {u : Value} (hp : leafPlain l = true) (h : Rd w ok l u) : u.oneCell' = true := by
  cases h with
  | val v => revert hp; cases u <;> simp [leafPlain, plain, Value.oneCell']
  | nil => rfl
  | sl => rfl

theorem rows_of {ok : Nat → Prop} {te : Ty} {ys : List (den te)} {blk off cap : Nat} {V : Nat → Nat → Value} (hcc : ∀ i f, i < ys.length → f < width te → w.cell? ⟨blk, off + i * width te + f, none⟩ = some (V i f))
    (hn : ∀ i x, ys[i]? = some x → ∀ f l, (cells te x)[f]? = some l → Rd w ok l (V i f)) {tx e' : TypeId} (hk : P.underlying tx = some (.slice e')) :
    Src P (width te) tx (hdr blk off ys.length cap) ys.length (((List.range ys.length).map fun i => (List.range (width te)).map (V i)).flatten) w ∧
      (∀ us ∈ ((List.range ys.length).map fun i => (List.range (width te)).map (V i)), us.length = width te) ∧
      (∀ (j f : Nat), j < ys.length → f < width te → (((List.range ys.length).map fun i => (List.range (width te)).map (V i))[j]?).bind (·[f]?) = some (V j f)) := by
  have hl : ∀ us ∈ ((List.range ys.length).map fun i => (List.range (width te)).map (V i)), us.length = width te := by
    intro us hu
    obtain ⟨i, _, rfl⟩ := List.mem_map.1 hu
    simp
  have hget : ∀ (j f : Nat), j < ys.length → f < width te → (((List.range ys.length).map fun i => (List.range (width te)).map (V i))[j]?).bind (·[f]?) = some (V j f) := by
    intro j f hj hf
    rw [List.getElem?_map, List.getElem?_range hj]
    simp [hf]
  have hflen := flatten_length _ hl
  rw [List.length_map, List.length_range] at hflen
  refine ⟨Src.ofSlice w hk _ _ _ _ hflen (fun k u hu => ?_) (fun u hu => ?_), hl, hget⟩
  · have hk' : k < ys.length * width te := by rw [← hflen]; exact (List.getElem?_eq_some_iff.1 hu).1
    have hw := width_pos te
    have hdiv : k / width te < ys.length := Nat.div_lt_of_lt_mul (by rw [Nat.mul_comm]; exact hk')
    have hmod := Nat.mod_lt k hw
    have hsplit : k = (k / width te) * width te + k % width te := by rw [Nat.mul_comm]; exact (Nat.div_add_mod k (width te)).symm
    rw [hsplit, flatten_get _ _ _ hl hmod, hget _ _ hdiv hmod] at hu
    rw [Addr.add_mid, hsplit, ← Option.some.inj hu, ← hcc _ _ hdiv hmod, Nat.add_assoc]
  · obtain ⟨us, h1, h2⟩ := List.mem_flatten.1 hu
    obtain ⟨i, hi, rfl⟩ := List.mem_map.1 h1
    obtain ⟨f, hf, rfl⟩ := List.mem_map.1 h2
    rw [List.mem_range] at hi hf
    have hfl : f < (cells te ys[i]).length := by rw [cells_length]; exact hf
    exact leaf_one (List.all_eq_true.1 (cells_all te ys[i]) _ (List.getElem_mem hfl)) (hn i ys[i] (List.getElem?_eq_getElem hi) f _ (List.getElem?_eq_getElem hfl))

theorem flat_val {te : Ty} (hf : flat te = true) {y : den te} {f : Nat} {l : Leaf} (hl : (cells te y)[f]? = some l) : ∃ v, l = .val v := by
  cases l with
  | val v => exact ⟨v, rfl⟩
  | sl t' zs =>
    obtain ⟨t'', zs', h⟩ := dflt_cells te y f t' zs hl
    have : hasSl (cells te (dflt te)) = true := by
      have key : ∀ ls : List Leaf, Leaf.sl t'' zs' ∈ ls → hasSl ls = true := by
        intro ls
        induction ls with
        | nil => intro h; cases h
        | cons a ls ih =>
          intro h
          cases a with
          | sl _ _ => rfl
          | val v => rcases List.mem_cons.1 h with h | h
                     · cases h
                     · exact ih h
      exact key _ (List.mem_of_getElem? h)
    simp [flat, this] at hf

/-- Flat elements are copied from whatever is readable. -/
theorem Adds.ofFlat {te : Ty} (hf : flat te = true) {ok : Nat → Prop} {ys : List (den te)} {v : Value} (hr : Rd w ok (.sl te ys) v) {tx e' : TypeId} (hk : P.underlying tx = some (.slice e')) (S : Nat → Prop) :
    Nonempty (Adds P w te tx ys v S) := by
  rcases hr.slice with ⟨rfl, aa, c, rfl⟩ | ⟨blk, off, cap, V, hok, hlen, rfl, hcc, hn⟩
  · refine ⟨⟨[], fun _ _ _ => False, rfl, (fun us hu => by cases hu), ?_, (fun j us x hu => by simp at hu), (fun _ _ _ h => h.elim), (fun _ _ _ h => h.elim), (fun _ _ _ _ _ h => h.elim)⟩⟩
    cases aa with
    | none => exact Src.ofNil w hk c
    | some aa => exact Src.ofSlice w hk aa 0 c [] (by simp) (fun j u hu => by simp at hu) (fun u hu => by cases hu)
  · obtain ⟨h1, h2, h3⟩ := rows_of (P := P) (cap := cap) hcc hn hk
    refine ⟨⟨_, fun _ _ _ => False, by simp, h2, h1, fun j us x hu hx f l u hl hu' => ?_, (fun _ _ _ h => h.elim), (fun _ _ _ h => h.elim), (fun _ _ _ _ _ h => h.elim)⟩⟩
    have hj : j < ys.length := (List.getElem?_eq_some_iff.1 hx).1
    have hfw : f < width te := by rw [← cells_length te x]; exact (List.getElem?_eq_some_iff.1 hl).1
    have := h3 j f hj hfw
    rw [hu] at this
    simp only [Option.bind_some, hu'] at this
    rw [Option.some.inj this]
    obtain ⟨v, rfl⟩ := flat_val hf hl
    cases hn j x hx f _ hl with
    | val => exact .val _ _ (fun _ h => h)

/-- Owned elements are moved. -/
theorem Adds.ofOwn {te : Ty} {ys : List (den te)} {v : Value} {S : Nat → Prop} (ho : Own w (.sl te ys) v S) {tx e' : TypeId} (hk : P.underlying tx = some (.slice e')) : Nonempty (Adds P w te tx ys v S) := by
  cases ho with
  | nil t aa S hS =>
    refine ⟨⟨[], fun _ _ _ => False, rfl, (fun us hu => by cases hu), ?_, (fun j us x hu => by simp at hu), (fun _ _ _ h => h.elim), (fun _ _ _ h => h.elim), (fun _ _ _ _ _ h => h.elim)⟩⟩
    cases aa with
    | none => exact Src.ofNil w hk 0
    | some aa => exact Src.ofSlice w hk aa 0 0 [] (by simp) (fun j u hu => by simp at hu) (fun u hu => by cases hu)
  | sl t xs blk off cap c e V F S hb hsz hlen h63 hc hn hS hself hdis =>
    obtain ⟨h1, h2, h3⟩ := rows_of (P := P) (w := w) (te := te) (ys := ys) (blk := blk) (off := off) (cap := cap) (V := V) (ok := fun _ => True) (fun i f hi hf => by rw [World.cell_of_heap hb]; exact hc i f hi hf)
      (fun i x hx f l hl => (hn i x hx f l hl).rd.mono (fun _ _ => rfl) (fun _ _ => trivial)) hk
    refine ⟨⟨_, fun j f b => j < ys.length ∧ f < width te ∧ F j f b, by simp, h2, h1, fun j us x hu hx f l u hl hu' => ?_, fun j f b hb' => (hS b).2 (.inr ⟨j, f, hb'.1, hb'.2.1, hb'.2.2⟩), (fun j f b hb' => ⟨hb'.1, hb'.2.1⟩),
      fun i f j f' b h1 h2 => hdis i f j f' b h1.1 h1.2.1 h2.1 h2.2.1 h1.2.2 h2.2.2⟩⟩
    have hj : j < ys.length := (List.getElem?_eq_some_iff.1 hx).1
    have hfw : f < width te := by rw [← cells_length te x]; exact (List.getElem?_eq_some_iff.1 hl).1
    have := h3 j f hj hfw
    rw [hu] at this
    simp only [Option.bind_some, hu'] at this
    rw [Option.some.inj this]
    exact (hn j x hx f l hl).congr (fun b => ⟨fun h => h.2.2, fun h => ⟨hj, hfw, h⟩⟩)

end
end Go.Pi

/- append. -/
namespace Go.Pi
variable {P : Program} {C : Ctx} {T : Tab}
section
variable {σ : St} {g : Gh} {a : Act} {w : World} {Qx : Exit → Act → World → Prop}

theorem setCells_mono {b o : Nat} {vs : List Value} {l : Leaf} {v : Value} {S : Nat → Prop} (h : Own w l v S) (hS : ¬ S b) : Own (w.setCells b o vs) l v S :=
  h.mono (fun b' hb => heap_setCells_other b vs o w b' (fun e => hS (e ▸ hb)))

/-- There is room behind an owned row. -/
theorem Own.room {te : Ty} {xs ys : List (den te)} {blk off cap : Nat} {S S2 : Nat → Prop} {tx : TypeId} {vb : Value} (hO : Own w (.sl te xs) (hdr blk off xs.length cap) S) (A : Adds P w te tx ys vb S2)
    (hroom : xs.length + ys.length ≤ cap) (hpos : 0 < ys.length) (hap : ∀ b, S b → ¬ S2 b) :
    Own (w.setCells blk (off + xs.length * width te) A.uss.flatten) (.sl te (xs ++ ys)) (hdr blk off (xs.length + ys.length) cap) (fun b => S b ∨ S2 b ∧ ∃ j f, A.F j f b) ∧
      (∀ j, j < A.uss.flatten.length → (w.cell? ⟨blk, off + xs.length * width te + j, none⟩).isSome = true) ∧ (∀ j, j < A.uss.flatten.length → w.frozen? ⟨blk, off + xs.length * width te + j, none⟩ = false) ∧ S blk := by
  have hfl := flatten_length A.uss A.each
  rw [A.len] at hfl
  generalize hv : hdr blk off xs.length cap = v at hO
  cases hO with
  | nil t aa S hS =>
    simp only [hdr, Value.slice.injEq] at hv
    obtain ⟨_, _, rfl⟩ := hv
    simp at hroom; subst hroom; simp at hpos
  | sl t xs blk' off' cap' c e V F S hb hsz hlen h63 hc hn hS hself hdis =>
    simp only [hdr, Value.slice.injEq, Option.some.injEq, Addr.mk.injEq, and_true, true_and] at hv
    obtain ⟨⟨rfl, rfl⟩, rfl⟩ := hv
    have hmul : (xs.length + ys.length) * width te ≤ cap * width te := Nat.mul_le_mul_right _ hroom
    rw [Nat.add_mul] at hmul
    have hfit : off + xs.length * width te + A.uss.flatten.length ≤ c.size := by rw [hfl]; omega
    obtain ⟨c', hb', hc'⟩ := heap_setCells_same blk A.uss.flatten (off + xs.length * width te) w c e (0, 0) hb hfit
    have hthere := there_of_heap hb hfit
    refine ⟨?_, fun j hj => (hthere j hj).1, fun j hj => (hthere j hj).2, (hS _).2 (.inl rfl)⟩
    have hcsz : c'.size = c.size := by
      rw [← Array.length_toList, hc', length_splice _ _ _ (by simpa using hfit)]; simp
    have hget : ∀ k : Nat, c'[k]? = (splice c.toList (off + xs.length * width te) A.uss.flatten)[k]? := fun k => by rw [← Array.getElem?_toList, hc']
    have hblk2 : ∀ j f, ¬ A.F j f blk := fun j f hF => hap blk ((hS _).2 (.inl rfl)) (A.sub j f blk hF)
    have hlow : ∀ k, k < off + xs.length * width te → c'[k]? = c[k]? := by
      intro k hk
      rw [hget, splice, List.append_assoc, List.getElem?_append_left (by rw [List.length_take]; simp; omega), List.getElem?_take, if_pos hk, Array.getElem?_toList]
    have hnew : ∀ i f, i < ys.length → f < width te → c'[off + (xs.length + i) * width te + f]? = (A.uss[i]?).bind (·[f]?) := by
      intro i f hi hf
      have e1 : (List.take (off + xs.length * width te) c.toList).length = off + xs.length * width te := by rw [List.length_take]; simp; omega
      have e2 : off + (xs.length + i) * width te + f = off + xs.length * width te + (i * width te + f) := by rw [Nat.add_mul]; omega
      have e3 : i * width te + f < A.uss.flatten.length := by
        rw [hfl]
        have : (i + 1) * width te ≤ ys.length * width te := Nat.mul_le_mul_right _ hi
        rw [Nat.add_mul] at this; omega
      rw [hget, splice, List.append_assoc, e2, List.getElem?_append_right (by omega), e1, Nat.add_sub_cancel_left, List.getElem?_append_left e3, flatten_get _ _ _ A.each hf]
    have hlenxy : (xs ++ ys).length = xs.length + ys.length := List.length_append
    have := Own.sl (w := w.setCells blk (off + xs.length * width te) A.uss.flatten) te (xs ++ ys) blk off cap c' e
      (fun i f => if i < xs.length then V i f else ((A.uss[i - xs.length]?).bind (·[f]?)).getD undef) (fun i f b => if i < xs.length then f < width te ∧ F i f b else A.F (i - xs.length) f b)
      (fun b => S b ∨ S2 b ∧ ∃ j f, A.F j f b) hb' (by omega) (by omega) h63 (fun i f hi hf => by
        by_cases hlt : i < xs.length
        · simp only [if_pos hlt]
          rw [hlow _ (by
            have : (i + 1) * width te ≤ xs.length * width te := Nat.mul_le_mul_right _ hlt
            rw [Nat.add_mul] at this; omega)]
          exact hc i f hlt hf
        · simp only [if_neg hlt]
          rw [hlenxy] at hi
          have := hnew (i - xs.length) f (by omega) hf
          rw [show xs.length + (i - xs.length) = i by omega] at this
          rw [this]
          have hiu : i - xs.length < A.uss.length := by rw [A.len]; omega
          rw [List.getElem?_eq_getElem hiu]
          have hfu : f < (A.uss[i - xs.length]).length := by rw [A.each _ (List.getElem_mem hiu)]; exact hf
          simp [List.getElem?_eq_getElem hfu]) (fun i x hx f l hl => by
        have hfw : f < width te := by rw [← cells_length te x]; exact (List.getElem?_eq_some_iff.1 hl).1
        by_cases hlt : i < xs.length
        · simp only [if_pos hlt]
          rw [List.getElem?_append_left hlt] at hx
          have := setCells_mono (b := blk) (o := off + xs.length * width te) (vs := A.uss.flatten) (hn i x hx f l hl) (hself i f hlt hfw)
          exact this.congr (fun b => ⟨fun h => h.2, fun h => ⟨hfw, h⟩⟩)
        · simp only [if_neg hlt]
          rw [List.getElem?_append_right (by omega)] at hx
          have hiy : i - xs.length < ys.length := (List.getElem?_eq_some_iff.1 hx).1
          have hiu : i - xs.length < A.uss.length := by rw [A.len]; exact hiy
          have hfu : f < (A.uss[i - xs.length]).length := by rw [A.each _ (List.getElem_mem hiu)]; exact hfw
          rw [List.getElem?_eq_getElem hiu]
          simp only [Option.bind_some, List.getElem?_eq_getElem hfu, Option.getD_some]
          exact setCells_mono (A.own _ _ _ (List.getElem?_eq_getElem hiu) hx f l _ hl (List.getElem?_eq_getElem hfu)) (hblk2 _ _)) (fun b => by
        constructor
        · rintro (h | ⟨_, j, f, h⟩)
          · rcases (hS b).1 h with rfl | ⟨i, f, hi, hf, h⟩
            · exact .inl rfl
            · exact .inr ⟨i, f, by omega, hf, by simp only [if_pos hi]; exact ⟨hf, h⟩⟩
          · obtain ⟨q1, q2⟩ := A.rng j f b h
            refine .inr ⟨xs.length + j, f, by omega, q2, ?_⟩
            rw [if_neg (by omega), Nat.add_sub_cancel_left]
            exact h
        · rintro (rfl | ⟨i, f, hi, hf, h⟩)
          · exact .inl ((hS _).2 (.inl rfl))
          · by_cases hlt : i < xs.length
            · simp only [if_pos hlt] at h
              exact .inl ((hS b).2 (.inr ⟨i, f, hlt, hf, h.2⟩))
            · simp only [if_neg hlt] at h
              exact .inr ⟨A.sub _ _ _ h, _, _, h⟩) (fun i f hi hf => by
        by_cases hlt : i < xs.length
        · simp only [if_pos hlt]; exact fun h => hself i f hlt hf h.2
        · simp only [if_neg hlt]; exact hblk2 _ _) (fun i f j f' b hi hf hj hf' h1 h2 => by
        by_cases hlt : i < xs.length <;> by_cases hlt' : j < xs.length <;> simp only [hlt, hlt', if_true, if_false] at h1 h2
        · exact hdis i f j f' b hlt hf hlt' hf' h1.2 h2.2
        · exact (hap b ((hS b).2 (.inr ⟨i, f, hlt, hf, h1.2⟩)) (A.sub _ _ _ h2)).elim
        · exact (hap b ((hS b).2 (.inr ⟨j, f', hlt', hf', h2.2⟩)) (A.sub _ _ _ h1)).elim
        · obtain ⟨e1, e2⟩ := A.dis _ _ _ _ _ h1 h2
          exact ⟨by omega, e2⟩)
    rw [hlenxy] at this
    exact this

theorem grownCap_le (w : World) (need old : Nat) (e : TypeId) : need ≤ grownCap w need old e := by
  simp only [grownCap, Question.cut]; omega

/-- Elements put behind an owned row: what the machine does. -/
theorem append_run (H : TabOk P T) {t tx e : TypeId} {te : Ty} (ht : T.elem t = some e) (he : T.ty e = some te) {xs ys : List (den te)} {va vb : Value} {S S2 : Nat → Prop} (hO : Own w (.sl te xs) va S) (A : Adds P w te tx ys vb S2)
    (hsz : ((xs.length + ys.length : Nat) : Int) * (T.bytes e : Int) ≤ 140737488355328) (hap : ∀ b, S b → ¬ S2 b) (hold : ∀ b, S b ∨ S2 b → b < w.heap.size) (ty : TypeId) (h63 : xs.length + ys.length ≤ 9223372036854775807) :
    ∃ v' w' S', (Builtin.append_ #[t, tx] ty #[va, vb]).run P w = .ok v' w' ∧ (∃ aa n c, v' = .slice aa n c) ∧ Own w' (.sl te (xs ++ ys)) v' S' ∧ Up w w' ∧
      (∀ b, b < w.heap.size → ¬ S b → w'.heap[b]? = w.heap[b]?) ∧ (∀ b, S' b → b < w'.heap.size ∧ (w.heap.size ≤ b ∨ S b ∨ S2 b)) := by
  have hu := H.elem _ _ ht
  obtain ⟨i, hi1, hi2, hz, hb⟩ := H.info _ _ he
  have hsrc : Src P i.size tx vb ys.length A.uss.flatten w := by rw [hi2]; exact A.src
  have hszN : (xs.length + ys.length) * i.bytes ≤ 140737488355328 := by
    have h1 : (((xs.length + ys.length) * T.bytes e : Nat) : Int) ≤ 140737488355328 := by rw [Int.natCast_mul]; exact hsz
    rw [hb]; omega
  obtain ⟨aa, cap, rfl⟩ := hO.rd.len
  by_cases hy : ys.length = 0
  · have : ys = [] := List.eq_nil_of_length_eq_zero hy
    subst this
    have hle : xs.length ≤ cap := by
      generalize hv : Value.slice aa xs.length cap = v at hO
      cases hO with
      | nil t aa S hS => simp
      | sl t xs blk off cap' c e V F S hb hsz hlen => simp only [hdr, Value.slice.injEq] at hv; omega
    have hu0 : A.uss.flatten = [] := by
      have : A.uss = [] := List.eq_nil_of_length_eq_zero A.len
      rw [this]; rfl
    rw [hu0] at hsrc
    have := run_append_nothing (P := P) w t tx ty e i hu hi1 aa xs.length cap hle vb hsrc
    exact ⟨_, w, S, this, ⟨_, _, _, rfl⟩, by rw [List.append_nil]; exact hO, Up.refl _, fun _ _ _ => rfl, fun b hb => ⟨hold b (.inl hb), .inr (.inl hb)⟩⟩
  · by_cases hroom : xs.length + ys.length ≤ cap
    · have haa : ∃ blk off, aa = some ⟨blk, off, none⟩ := by
        generalize hv : Value.slice aa xs.length cap = v at hO
        cases hO with
        | nil t aa S hS => simp only [Value.slice.injEq] at hv; omega
        | sl t xs blk off cap' c e V F S hb hsz hlen => simp only [hdr, Value.slice.injEq] at hv; exact ⟨_, _, hv.1⟩
      obtain ⟨blk, off, rfl⟩ := haa
      obtain ⟨h1, h2, h3, h4⟩ := Own.room hO A hroom (by omega) hap
      have hr := run_append_room_src (P := P) w t tx ty e i hu hi1 blk off xs.length cap vb ys.length A.uss.flatten hsrc hroom (by rw [hi2]; exact h2) (by rw [hi2]; exact h3)
      rw [hi2] at hr
      refine ⟨_, _, _, hr, ⟨_, _, _, rfl⟩, h1, Up.setCells _ _ _ _, fun b _ hS => heap_setCells_other _ _ _ _ _ (fun e => hS (e ▸ h4)), fun b hb => ?_⟩
      rw [size_setCells]
      rcases hb with hb | ⟨hb, _⟩
      · exact ⟨hold b (.inl hb), .inr (.inl hb)⟩
      · exact ⟨hold b (.inr hb), .inr (.inr hb)⟩
    · -- a new row
      obtain ⟨ussX, FX, hXl, hXe, hfirst, hXown, hXsub, hXdis⟩ : ∃ (ussX : List (List Value)) (FX : Nat → Nat → Nat → Prop), ussX.length = xs.length ∧ (∀ us ∈ ussX, us.length = width te) ∧
          (Builtin.firstCells i.size xs.length (.slice aa xs.length cap)).run P w.drew = .ok ussX.flatten.toArray w.drew ∧
          (∀ (j : Nat) us x, ussX[j]? = some us → xs[j]? = some x → ∀ (f : Nat) l u, (cells te x)[f]? = some l → us[f]? = some u → Own w l u (FX j f)) ∧ (∀ j f b, FX j f b → S b) ∧
          (∀ i f j f' b, FX i f b → FX j f' b → i = j ∧ f = f') := by
        obtain ⟨B⟩ := Adds.ofOwn (P := P) (tx := t) hO hu
        refine ⟨B.uss, B.F, B.len, B.each, ?_, B.own, B.sub, B.dis⟩
        rw [hi2]; exact B.src.cellsD
      have hg : cap < xs.length + ys.length := by omega
      have hr := run_append_grow_src (P := P) w t tx ty e i (zeroVal te) hu hi1 hz aa xs.length cap ussX.flatten hfirst vb ys.length A.uss.flatten hsrc hg (by omega) (growslice_fits hg hszN)
      have hcap := grownCap_le w (xs.length + ys.length) cap e
      generalize hnc : grownCap w (xs.length + ys.length) cap e = nc at hr hcap
      have hzs : (zeroVal te).cells.size = width te := by
        have := mkv_cells (ag := isAgg te) (us := (cells te (dflt te)).map zeroOf) (fun e => by have := width_one e; simp [cells_length, this]) (zeroLVs_ok (P := P) (C := ⟨(0, 0), fun _ => undef, w, fun _ => False, fun _ _ => undef⟩) (O := fun _ => none) (g := ⟨fun _ => undef, fun _ _ => False⟩) (w := w) te).oneCell
        unfold zeroVal; rw [this]; simp [cells_length]
      have hrest : (Builtin.zeroCells (zeroVal te).cells (nc - (xs.length + ys.length))).toList.length = (nc - (xs ++ ys).length) * width te := by
        simp [Builtin.zeroCells, hzs]
      have hown := Own.newRow (w := w.drew) (te := te) (xs := xs ++ ys) (uss := ussX ++ A.uss) (rest := (Builtin.zeroCells (zeroVal te).cells (nc - (xs.length + ys.length))).toList) (e := e)
        (F := fun j f b => if j < xs.length then FX j f b else A.F (j - xs.length) f b) (by rw [List.length_append, List.length_append, hXl, A.len]) (fun us hu => by
          rcases List.mem_append.1 hu with h | h
          · exact hXe us h
          · exact A.each us h) (cap := nc) (by rw [List.length_append]; exact hcap) (by rw [← hnc]; exact grownCap_le_maxLen _ _ _ _ (by unfold maxLen; omega)) hrest (fun j us x hu hx f l u hl hu' => by
          by_cases hlt : j < xs.length
          · simp only [if_pos hlt]
            rw [List.getElem?_append_left (by rw [hXl]; exact hlt)] at hu
            rw [List.getElem?_append_left hlt] at hx
            exact (hXown j us x hu hx f l u hl hu').mono (fun _ _ => rfl)
          · simp only [if_neg hlt]
            rw [List.getElem?_append_right (by omega), hXl] at hu
            rw [List.getElem?_append_right (by omega)] at hx
            exact (A.own _ us x hu hx f l u hl hu').mono (fun _ _ => rfl)) (fun j f b hb => by
          by_cases hlt : j < xs.length
          · simp only [if_pos hlt] at hb; exact hold b (.inl (hXsub j f b hb))
          · simp only [if_neg hlt] at hb; exact hold b (.inr (A.sub _ f b hb))) (fun p f q f' b h1 h2 => by
          by_cases hlt : p < xs.length <;> by_cases hlt' : q < xs.length <;> simp only [hlt, hlt', if_true, if_false] at h1 h2
          · exact hXdis _ _ _ _ _ h1 h2
          · exact (hap b (hXsub _ _ _ h1) (A.sub _ _ _ h2)).elim
          · exact (hap b (hXsub _ _ _ h2) (A.sub _ _ _ h1)).elim
          · obtain ⟨e1, e2⟩ := A.dis _ _ _ _ _ h1 h2
            exact ⟨by omega, e2⟩)
      have hblock : ((ussX ++ A.uss).flatten ++ (Builtin.zeroCells (zeroVal te).cells (nc - (xs.length + ys.length))).toList).toArray =
          (ussX.flatten ++ A.uss.flatten).toArray ++ Builtin.zeroCells (zeroVal te).cells (nc - (xs.length + ys.length)) := by
        apply Array.ext'; simp
      rw [hblock] at hown
      refine ⟨_, _, _, hr, ⟨_, _, _, rfl⟩, by rw [List.length_append] at hown; exact hown, ⟨(by rw [World.size_alloc]; exact Nat.le_succ _), rfl, rfl⟩, fun b hb _ => heap_alloc_lt (w := w.drew) _ hb, fun b hb => ?_⟩
      have hlt0 : w.heap.size < (w.drew.alloc (.cells ((ussX.flatten ++ A.uss.flatten).toArray ++ Builtin.zeroCells (zeroVal te).cells (nc - (xs.length + ys.length))) e)).heap.size := by rw [World.size_alloc]; exact Nat.lt_succ_self _
      rcases hb with rfl | ⟨p, f, _, _, hb⟩
      · exact ⟨hlt0, .inl (Nat.le_refl _)⟩
      · by_cases hlt : p < xs.length
        · simp only [if_pos hlt] at hb
          have := hXsub _ _ _ hb
          exact ⟨Nat.lt_trans (hold b (.inl this)) hlt0, .inr (.inl this)⟩
        · simp only [if_neg hlt] at hb
          have := A.sub _ _ _ hb
          exact ⟨Nat.lt_trans (hold b (.inr this)) hlt0, .inr (.inr this)⟩

end
end Go.Pi

/- append: the operation. Stores. -/
namespace Go.Pi
variable {P : Program} {C : Ctx} {T : Tab}
section
variable {σ : St} {g : Gh} {a : Act} {w : World} {Qx : Exit → Act → World → Prop}

theorem append_core (H : TabOk P T) (h : Rep P C σ g a w) {o : Oper} (hd : ∀ d, o.dst = some d → C.Fit d) {d : Tmp} (hdst : o.dst = some d) {x y : Operand} {t tx : TypeId}
    (ho : o.op = .call { callee := .builtin .append, args := #[x, y], argTypes := #[t, tx] }) {e : TypeId} {te : Ty} (ht : T.elem t = some e) (he : T.ty e = some te) {xs ys : List (den te)} {S S2 : Nat → Prop}
    (hO : Own w (.sl te xs) (a.eval x) S) (hA : Nonempty (Adds P w te tx ys (a.eval y) S2)) (hsz : ((xs.length + ys.length : Nat) : Int) * (T.bytes e : Int) ≤ 140737488355328) (hap : ∀ b, S b → ¬ S2 b)
    {os : List Nat} (hos : ∀ b, S b ∨ S2 b → ∃ o ∈ os, g.fp o b) (hf : σ.o (oid d 0) = none) (h63 : xs.length + ys.length ≤ 9223372036854775807) :
    o.wp P a w (After P C σ (os.map (fun o => Wr.o o .dead) ++ [Wr.o (oid d 0) (.tree te (xs ++ ys) 0), Wr.s d (.v (false, [.tr (oid d 0)]))])) Qx := by
  obtain ⟨A⟩ := hA
  obtain ⟨v', w', S', hr, hv, hown, hsz', hheap, hS⟩ := append_run (P := P) H ht he hO A hsz hap (fun b hb => by obtain ⟨oo, _, hb⟩ := hos b hb; exact (h.fps oo b hb).1) o.type h63
  refine after_tree (v := v') (S := S') (w' := w') h hd hdst ?_ hf hv hsz' (fun b hb hno => hheap b hb (fun hS => ?_)) (fun b hb => ?_) hown
  · unfold execOp
    rw [ho]
    simp [resolve, invoke, builtin, hr]
  · obtain ⟨oo, h1, h2⟩ := hos b (.inl hS)
    exact hno oo h1 h2
  · refine ⟨(hS b hb).1, ?_⟩
    rcases (hS b hb).2 with h1 | h1
    · exact .inl h1
    · exact .inr (hos b h1)

theorem bytes_bound {n : Nat} {k : Nat} (hk : 0 < k) (h : (n : Int) * (k : Int) ≤ 140737488355328) : n ≤ 9223372036854775807 := by
  have h1 : ((n * k : Nat) : Int) ≤ 140737488355328 := by rw [Int.natCast_mul]; exact h
  have h2 : n * k ≤ 140737488355328 := by omega
  have h3 : n * 1 ≤ n * k := Nat.mul_le_mul_left _ hk
  omega

theorem addTo_ok (H : TabOk P T) (h : Rep P C σ g a w) {o : Oper} (hd : ∀ d, o.dst = some d → C.Fit d) {d : Tmp} (hdst : o.dst = some d) {x y : Operand} {t tx : TypeId}
    (ho : o.op = .call { callee := .builtin .append, args := #[x, y], argTypes := #[t, tx] }) {e ex : TypeId} (ht : T.elem t = some e) (hex : T.elem tx = some ex) {te : Ty} {xs : List (den te)} {S : Nat → Prop} {used : List Nat}
    (hO : Own w (.sl te xs) (a.eval x) S) (hused : ∀ b, S b ↔ ∃ o ∈ used, g.fp o b) {b : LV} (hb : RepLV P C σ.o g w b (a.eval y)) (hbytes : 0 < T.bytes e) {ws : List Wr}
    (ev : Ev σ (step.addTo T d e te xs used b) ws) : o.wp P a w (After P C σ ws) Qx := by
  unfold step.addTo at ev
  rw [Ev_bind] at ev
  obtain ⟨⟨oy, more⟩, e1, ev⟩ := ev
  have key : ∀ ys : List (den te), oy = some ys → (∃ S2, Nonempty (Adds P w te tx ys (a.eval y) S2) ∧ (∀ b, S2 b → ∃ o ∈ more, g.fp o b)) → o.wp P a w (After P C σ ws) Qx := by
    intro ys hy ⟨S2, hA, hS2⟩
    subst hy
    simp only at ev
    split at ev
    · exact (Ev_fail.1 ev).elim
    · rename_i hc
      rw [Ev_ask, Ev_free, Ev_ret] at ev
      obtain ⟨hsz, hf, ev⟩ := ev
      subst ev
      have hno : ∀ o, o ∈ used → o ∈ more → False := fun o h1 h2 => hc (.inl (List.any_eq_true.2 ⟨o, h1, by simpa using h2⟩))
      have hte : T.ty e = some te := Decidable.not_not.1 (fun h => hc (.inr h))
      refine append_core H h hd hdst ho ht hte hO hA hsz (fun b h1 h2 => ?_) (os := used ++ more) (fun b hb => ?_) hf (bytes_bound hbytes hsz)
      · obtain ⟨o1, m1, f1⟩ := (hused b).1 h1
        obtain ⟨o2, m2, f2⟩ := hS2 b h2
        have := h.dis _ _ _ f1 f2; subst this
        exact hno _ m1 m2
      · rcases hb with hb | hb
        · obtain ⟨o1, m1, f1⟩ := (hused b).1 hb; exact ⟨o1, List.mem_append.2 (.inl m1), f1⟩
        · obtain ⟨o2, m2, f2⟩ := hS2 b hb; exact ⟨o2, List.mem_append.2 (.inr m2), f2⟩
  have hux := H.elem _ _ hex
  cases oy with
  | none => exact (Ev_fail.1 ev).elim
  | some ys =>
    refine key ys rfl ?_
    split at e1
    · rename_i ob
      split at e1
      · exact (Ev_fail.1 e1).elim
      · rename_i hnu
        rw [Ev_obj] at e1
        obtain ⟨z, hz, e1⟩ := e1
        have hoz := h.objs _ _ hz
        split at e1
        · rename_i t' ys' γ
          split at e1
          · rename_i ht'
            subst ht'
            rw [Ev_ret] at e1
            simp only [Prod.mk.injEq, Option.some.injEq] at e1
            obtain ⟨e1, e2⟩ := e1
            subst e1
            have hoz : Own w (.sl t' ys') (a.eval y) (g.fp ob) := by rw [hb.2.1]; exact hoz
            by_cases hfl : flat t' = true
            · rw [if_pos hfl] at e2; subst e2
              exact ⟨fun _ => False, Adds.ofFlat hfl hoz.rd hux _, fun b hb => hb.elim⟩
            · rw [if_neg hfl] at e2; subst e2
              exact ⟨g.fp ob, Adds.ofOwn hoz hux, fun b hb => ⟨ob, by simp, hb⟩⟩
          · exact (Ev_fail.1 e1).elim
        · rename_i t' ys' γ
          split at e1
          · rename_i ht'
            subst ht'
            split at e1
            · rename_i hfl
              rw [Ev_ret] at e1
              simp only [Prod.mk.injEq, Option.some.injEq] at e1
              obtain ⟨e1, e2⟩ := e1
              subst e1; subst e2
              have hoz := hoz.2
              rw [← hb.2.1] at hoz
              exact ⟨fun _ => False, Adds.ofFlat hfl hoz hux _, fun b hb => hb.elim⟩
            · exact (Ev_fail.1 e1).elim
          · exact (Ev_fail.1 e1).elim
        · exact (Ev_fail.1 e1).elim
    · rw [Ev_bind] at e1
      obtain ⟨⟨t', ys'⟩, e3, e1⟩ := e1
      simp only at e1
      split at e1
      · rename_i ht'
        subst ht'
        split at e1
        · rename_i hfl
          rw [Ev_ret] at e1
          simp only [Prod.mk.injEq, Option.some.injEq] at e1
          obtain ⟨e1, e2⟩ := e1
          subst e1; subst e2
          exact ⟨fun _ => False, Adds.ofFlat hfl (asSl_ok h e3 hb) hux _, fun b hb => hb.elim⟩
        · exact (Ev_fail.1 e1).elim
      · exact (Ev_fail.1 e1).elim

theorem append_ok (H : TabOk P T) (hB : ∀ t e, T.elem t = some e → 0 < T.bytes e) (h : Rep P C σ g a w) {o : Oper} (hd : ∀ d, o.dst = some d → C.Fit d) {xs : Array Operand} {ts : Array TypeId}
    (ho : o.op = .call { callee := .builtin .append, args := xs, argTypes := ts }) {c : Orc} {pk : Bool} {ws : List Wr} (e : Ev σ (step P T o c pk) ws) : o.wp P a w (After P C σ ws) Qx := by
  unfold Go.Pi.step at e
  rw [ho] at e
  simp only at e
  split at e
  · rename_i x y t tx d hx ht hdst
    have exs : xs = #[x, y] := by apply Array.ext'; simpa using hx
    have ets : ts = #[t, tx] := by apply Array.ext'; simpa using ht
    subst exs ets
    split at e
    · rename_i et ex het hex
      simp only [Ev_bind] at e
      obtain ⟨v1, e1, l1, e2, v2, e3, l2, e4, e⟩ := e
      have hv1 := opd_ok h e1
      rw [asOne_ok e2] at hv1
      have hv2 := opd_ok h e3
      rw [asOne_ok e4] at hv2
      have hv1 := hv1.one
      have hv2 := hv2.one
      split at e
      · rename_i te
        obtain ⟨aa, hva⟩ := hv1
        exact addTo_ok H h hd hdst ho het hex (S := fun _ => False) (used := []) (by rw [hva]; exact .nil _ _ _ (fun _ h => h)) (fun b => by simp) hv2 (hB _ _ het) e
      · rename_i ob _
        rw [Ev_obj] at e
        obtain ⟨z, hz, e⟩ := e
        have hoz := h.objs _ _ hz
        split at e
        · rename_i te zs γ
          exact addTo_ok H h hd hdst ho het hex (S := g.fp ob) (used := [ob]) (by rw [hv1.2.1]; exact hoz) (fun b => by simp) hv2 (hB _ _ het) e
        · exact (Ev_fail.1 e).elim
      · exact (Ev_fail.1 e).elim
    · exact (Ev_fail.1 e).elim
  · exact (Ev_fail.1 e).elim

theorem wp_unit {o : Oper} {w' : World} {K : Act → World → Prop} (hr : (execOp a.eval o).run P w = .ok .skip w') (k : K (a.put o.dst undef) w') : o.wp P a w K Qx := by
  unfold Oper.wp; rw [hr]; exact k

/-- A store into a variable. -/
theorem storeBox (H : TabOk P T) (h : Rep P C σ g a w) {ob off : Nat} {ls new : List LV} {us : List Value} {t : TypeId} {ty : Ty} (hty : T.ty t = some ty) (hob : σ.o ob = some (.box ls)) (hea : Each (RepLV P C σ.o g w) new us)
    (hl : new.length = width ty) (hle : off + width ty ≤ ls.length) {v : Value} (hp : BpOk σ.o g ob off v) :
    ∃ w', (Instr.storeAt t v (mkv (isAgg ty) us)).run P w = .ok () w' ∧ Rep P C (σ.put (.o ob (.box (splice ls off new)))) g a w' := by
  obtain ⟨hs, blk, hb, rfl⟩ := hp
  obtain ⟨blk', cc, el, hb', hheap, hfp, hcs⟩ := h.objs _ _ hob
  rw [hb] at hb'; simp only [Value.pointer.injEq, Option.some.injEq, Addr.mk.injEq, and_true] at hb'
  subst hb'
  have hlu : us.length = width ty := by rw [hea.len]; exact hl
  have hcsz : cc.size = ls.length := by have := hcs.len; simpa using this
  have hfit : off + us.length ≤ cc.size := by omega
  have hrun := store_run H hty (w := w) (b := blk) (o := off) (us := us) hlu (there_of_heap hheap hfit) hea.oneCell
  obtain ⟨c', hb2, hc2⟩ := heap_setCells_same blk us off w cc el (0, 0) hheap hfit
  refine ⟨_, hrun, ?_⟩
  have hoth : ∀ b, b ≠ blk → (w.setCells blk off us).heap[b]? = w.heap[b]? := fun b hb => heap_setCells_other blk us off w b hb
  have := h.step (O' := (σ.put (.o ob (.box (splice ls off new)))).o) (g' := g) (w' := w.setCells blk off us) (Up.setCells _ _ _ _)
    (fun b _ hL => hoth b (fun e => hL ⟨ob, (hfp b).2 e⟩)) (fun b hb => .inl hb) (fun i hi => ⟨by by_cases e : i = ob <;> simp [St.put, e, hi], rfl⟩) ?_ ?_ (fun i b hb => by rw [size_setCells]; exact (h.fps i b hb).1) h.dis ?_
  · exact this.2
  · rintro o γ i f u ⟨h1, h2, h3⟩
    by_cases e : o = ob
    · subst e
      exact ⟨⟨by simp [St.put], (fun t0 xs0 γ1 _ _ _ h0 => by rw [put_o_eq] at h0; cases h0)⟩, (fun t0 xs0 γ1 h0 => by rw [put_o_eq] at h0; cases h0), (fun t0 xs0 γ1 h0 => by rw [put_o_eq] at h0; cases h0)⟩
    · refine SubOk.frame h ⟨h1, h2, h3⟩ (fun b _ hb => hoth b (fun eb => ?_)) rfl (put_o_ne e)
      rcases hb with hb | hb
      · exact e (h.dis _ _ _ hb ((hfp b).2 eb))
      · exact hb ⟨ob, (hfp b).2 eb⟩
  · intro i hi b hb
    by_cases e : i = ob
    · subst e; rw [put_o_eq] at hi; cases hi
    · rw [put_o_ne e] at hi; exact h.absent i hi b hb
  · intro F i x hx
    by_cases e : i = ob
    · subst e
      rw [put_o_eq] at hx; obtain rfl := Option.some.inj hx
      refine ⟨blk, c', el, hb, hb2, hfp, ?_⟩
      rw [hc2]
      exact (hcs.imp fun _ _ => F.lv).splice (hea.imp fun _ _ => F.lv) off (by omega)
    · rw [put_o_ne e] at hx
      exact RepObj.keep F rfl (fun _ => Iff.rfl) (fun b hb' => hoth b (fun eb => e (h.dis _ _ _ hb' ((hfp b).2 eb)))) (h.objs i x hx)

end
end Go.Pi

/- Stores into elements of an owned row. -/
namespace Go.Pi
variable {P : Program} {C : Ctx} {T : Tab}
section
variable {σ : St} {g : Gh} {a : Act} {w : World} {Qx : Exit → Act → World → Prop}

theorem kinds (t : Ty) (x : den t) : (cells t x).map leafSl = (cells t (dflt t)).map leafSl := by
  cases t with
  | st n => cases n <;> rfl
  | _ => rfl

theorem not_slAt {t : Ty} {x : den t} {f : Nat} {v : Value} (h : (cells t x)[f]? = some (.val v)) : ¬ isSlAt t f := by
  rintro ⟨t', ys, h'⟩
  have h1 : ((cells t x).map leafSl)[f]? = some false := by rw [List.getElem?_map, h]; rfl
  have h2 : ((cells t (dflt t)).map leafSl)[f]? = some true := by rw [List.getElem?_map, h']; rfl
  rw [kinds] at h1; rw [h1] at h2; cases h2

theorem hasSl_false {ls : List Leaf} (h : hasSl ls = false) {j : Nat} {l : Leaf} (hj : ls[j]? = some l) : ∃ v, l = .val v := by
  induction ls generalizing j with
  | nil => simp at hj
  | cons a ls ih =>
    cases a with
    | sl _ _ => simp [hasSl] at h
    | val v =>
      match j with
      | 0 => simp at hj; exact ⟨v, hj.symm⟩
      | j + 1 => exact ih (by simpa [hasSl] using h) (by simpa using hj)

theorem splice_get {α : Type} (l : List α) (o : Nat) (r : List α) (h : o + r.length ≤ l.length) (k : Nat) : (splice l o r)[k]? = if k < o then l[k]? else if k < o + r.length then r[k - o]? else l[k]? := by
  have e1 : (List.take o l).length = o := by rw [List.length_take]; omega
  rw [splice, List.append_assoc]
  by_cases h1 : k < o
  · rw [if_pos h1, List.getElem?_append_left (by omega), List.getElem?_take, if_pos h1]
  · rw [if_neg h1, List.getElem?_append_right (by omega), e1]
    by_cases h2 : k < o + r.length
    · rw [if_pos h2, List.getElem?_append_left (by omega)]
    · rw [if_neg h2, List.getElem?_append_right (by omega), List.getElem?_drop]
      congr 1; omega

/-- An element's cells are overwritten. -/
theorem OwnX.store {t : Ty} {xs : List (den t)} {blk off cap i k : Nat} {S : Nat → Prop} {D : Nat → Nat → Prop} (hO : OwnX w t xs blk off cap S D) (hi : i < xs.length) {ys : List Leaf} {us : List Value}
    (hfit : k + us.length ≤ width t) (hD : ∀ i' f, D i' f → i' = i ∧ k ≤ f ∧ f < k + us.length) (hly : ys.length = us.length) {R : Nat → Nat → Prop} {x' : den t} (hx' : cells t x' = splice (cells t (xs.getD i (dflt t))) k ys)
    (hown : ∀ (j : Nat) l u, ys[j]? = some l → us[j]? = some u → Own w l u (R j)) (hR : ∀ j b, R j b → ¬ S b) (hRd : ∀ i j b, R i b → R j b → i = j) :
    ∃ S' : Nat → Prop, Own (w.setCells blk (off + i * width t + k) us) (.sl t (xs.set i x')) (hdr blk off xs.length cap) S' ∧ S blk ∧ w.there blk (off + i * width t + k) us.length ∧
      (∀ b, S' b → S b ∨ ∃ j, R j b) ∧
      (∀ i' f v, i' < xs.length → f < width t → (i' = i → f < k ∨ k + us.length ≤ f) → w.cell? ⟨blk, off + i' * width t + f, none⟩ = some v → (w.setCells blk (off + i * width t + k) us).cell? ⟨blk, off + i' * width t + f, none⟩ = some v) := by
  obtain ⟨c, e, V, F, hb, hsz, hlen, h63, hc, hn, hS, hself, hdis⟩ := hO
  have hrow : ∀ i', i' < xs.length → i' * width t + width t ≤ xs.length * width t := fun i' hi' => by
    have : (i' + 1) * width t ≤ xs.length * width t := Nat.mul_le_mul_right _ hi'
    rw [Nat.add_mul] at this; omega
  have hcapm : xs.length * width t ≤ cap * width t := Nat.mul_le_mul_right _ hlen
  have hri := hrow i hi
  have hfit' : off + i * width t + k + us.length ≤ c.size := by omega
  obtain ⟨c', hb', hc'⟩ := heap_setCells_same blk us (off + i * width t + k) w c e (0, 0) hb hfit'
  have hcsz : c'.size = c.size := by
    rw [← Array.length_toList, hc', length_splice _ _ _ (by simpa using hfit')]; simp
  have hget : ∀ q : Nat, c'[q]? = if q < off + i * width t + k then c[q]? else if q < off + i * width t + k + us.length then us[q - (off + i * width t + k)]? else c[q]? := fun q => by
    rw [← Array.getElem?_toList, hc', splice_get _ _ _ (by simpa using hfit')]
    simp
  have hsame : ∀ i' f, i' < xs.length → f < width t → (i' = i → f < k ∨ k + us.length ≤ f) → c'[off + i' * width t + f]? = c[off + i' * width t + f]? := by
    intro i' f hi' hf hne
    rw [hget]
    have := hrow i' hi'
    by_cases e1 : i' = i
    · subst e1
      rcases hne rfl with h | h
      · rw [if_pos (by omega)]
      · rw [if_neg (by omega), if_neg (by omega)]
    · rcases Nat.lt_or_gt_of_ne e1 with h | h
      · have : i' * width t + width t ≤ i * width t := by
          have : (i' + 1) * width t ≤ i * width t := Nat.mul_le_mul_right _ h
          rw [Nat.add_mul] at this; omega
        rw [if_pos (by omega)]
      · have : i * width t + width t ≤ i' * width t := by
          have : (i + 1) * width t ≤ i' * width t := Nat.mul_le_mul_right _ h
          rw [Nat.add_mul] at this; omega
        rw [if_neg (by omega), if_neg (by omega)]
  have hRblk : ∀ j, ¬ R j blk := fun j h => hR j blk h ((hS _).2 (.inl rfl))
  have hxi : xs[i]? = some (xs.getD i (dflt t)) := by rw [List.getD_eq_getElem?_getD, List.getElem?_eq_getElem hi]; rfl
  have hly' : ys.length = us.length := hly
  let inR : Nat → Nat → Prop := fun i' f => i' = i ∧ k ≤ f ∧ f < k + us.length
  have dec : ∀ i' f, Decidable (inR i' f) := fun i' f => inferInstanceAs (Decidable (i' = i ∧ k ≤ f ∧ f < k + us.length))
  let V' : Nat → Nat → Value := fun i' f => if i' = i ∧ k ≤ f ∧ f < k + us.length then (us[f - k]?).getD undef else V i' f
  let F' : Nat → Nat → Nat → Prop := fun i' f b => if i' = i ∧ k ≤ f ∧ f < k + us.length then R (f - k) b else F i' f b
  refine ⟨fun b => b = blk ∨ ∃ i' f, i' < (xs.set i x').length ∧ f < width t ∧ F' i' f b, ?_, (hS _).2 (.inl rfl), there_of_heap hb hfit', ?_, ?_⟩
  · have hlx : (xs.set i x').length = xs.length := List.length_set
    have := Own.sl (w := w.setCells blk (off + i * width t + k) us) t (xs.set i x') blk off cap c' e V' F' (fun b => b = blk ∨ ∃ i' f, i' < (xs.set i x').length ∧ f < width t ∧ F' i' f b) hb' (by omega) (by omega) h63
      (fun i' f hi' hf => by
        rw [hlx] at hi'
        by_cases hin : i' = i ∧ k ≤ f ∧ f < k + us.length
        · simp only [V', if_pos hin]
          obtain ⟨rfl, h1, h2⟩ := hin
          rw [hget, if_neg (by omega), if_pos (by omega)]
          rw [show off + i' * width t + f - (off + i' * width t + k) = f - k by omega, List.getElem?_eq_getElem (by omega)]
          rfl
        · simp only [V', if_neg hin]
          rw [hsame i' f hi' hf (fun e => by
            rcases Nat.lt_or_ge f k with h | h
            · exact .inl h
            · exact .inr (by
                rcases Nat.lt_or_ge f (k + us.length) with h' | h'
                · exact absurd ⟨e, h, h'⟩ hin
                · exact h'))]
          exact hc i' f hi' hf)
      (fun i' y hy f l hl => by
        have hi' : i' < xs.length := by rw [← hlx]; exact (List.getElem?_eq_some_iff.1 hy).1
        have hf : f < width t := by rw [← cells_length t y]; exact (List.getElem?_eq_some_iff.1 hl).1
        by_cases hin : i' = i ∧ k ≤ f ∧ f < k + us.length
        · simp only [V', F', if_pos hin]
          obtain ⟨rfl, h1, h2⟩ := hin
          rw [List.getElem?_set_self hi] at hy
          obtain rfl := Option.some.inj hy
          rw [hx', splice_get _ _ _ (by rw [cells_length]; omega), if_neg (by omega), if_pos (by omega)] at hl
          have hu : us[f - k]? = some us[f - k] := List.getElem?_eq_getElem (by omega)
          rw [hu]
          exact setCells_mono (hown _ _ _ hl hu) (hRblk _)
        · simp only [V', F', if_neg hin]
          have hold : ∃ z, xs[i']? = some z ∧ (cells t z)[f]? = some l := by
            by_cases e1 : i' = i
            · subst e1
              rw [List.getElem?_set_self hi] at hy
              obtain rfl := Option.some.inj hy
              refine ⟨_, hxi, ?_⟩
              rw [hx', splice_get _ _ _ (by rw [cells_length]; omega)] at hl
              by_cases h1 : f < k
              · rwa [if_pos h1] at hl
              · rw [if_neg h1, if_neg (by
                  intro h2
                  exact hin ⟨rfl, by omega, by omega⟩)] at hl
                exact hl
            · rw [List.getElem?_set_ne (fun e => e1 e.symm)] at hy
              exact ⟨y, hy, hl⟩
          obtain ⟨z, hz, hl'⟩ := hold
          exact setCells_mono (hn i' z hz f l hl' (fun hd => hin (hD _ _ hd))) (hself i' f hi' hf (fun hd => hin (hD _ _ hd)))) (fun b => Iff.rfl)
      (fun i' f hi' hf => by
        rw [hlx] at hi'
        by_cases hin : i' = i ∧ k ≤ f ∧ f < k + us.length
        · simp only [F', if_pos hin]; exact hRblk _
        · simp only [F', if_neg hin]; exact hself i' f hi' hf (fun hd => hin (hD _ _ hd)))
      (fun i1 f1 i2 f2 b h1 hf1 h2 hf2 hb1 hb2 => by
        rw [hlx] at h1 h2
        by_cases hin1 : i1 = i ∧ k ≤ f1 ∧ f1 < k + us.length <;> by_cases hin2 : i2 = i ∧ k ≤ f2 ∧ f2 < k + us.length
        · simp only [F', if_pos hin1] at hb1
          simp only [F', if_pos hin2] at hb2
          have := hRd _ _ _ hb1 hb2
          exact ⟨by omega, by omega⟩
        · simp only [F', if_pos hin1] at hb1
          simp only [F', if_neg hin2] at hb2
          exact (hR _ _ hb1 ((hS b).2 (.inr ⟨i2, f2, h2, hf2, (fun hd => hin2 (hD _ _ hd)), hb2⟩))).elim
        · simp only [F', if_neg hin1] at hb1
          simp only [F', if_pos hin2] at hb2
          exact (hR _ _ hb2 ((hS b).2 (.inr ⟨i1, f1, h1, hf1, (fun hd => hin1 (hD _ _ hd)), hb1⟩))).elim
        · simp only [F', if_neg hin1] at hb1
          simp only [F', if_neg hin2] at hb2
          exact hdis i1 f1 i2 f2 b h1 hf1 h2 hf2 (fun hd => hin1 (hD _ _ hd)) (fun hd => hin2 (hD _ _ hd)) hb1 hb2)
    rw [hlx] at this
    rw [hlx]
    exact this
  · rintro b (rfl | ⟨i', f, hi', hf, hb1⟩)
    · exact .inl ((hS _).2 (.inl rfl))
    · rw [List.length_set] at hi'
      by_cases hin : i' = i ∧ k ≤ f ∧ f < k + us.length
      · simp only [F', if_pos hin] at hb1; exact .inr ⟨_, hb1⟩
      · simp only [F', if_neg hin] at hb1; exact .inl ((hS b).2 (.inr ⟨i', f, hi', hf, (fun hd => hin (hD _ _ hd)), hb1⟩))
  · intro i' f v hi' hf hne hcell
    rw [World.cell_of_heap hb] at hcell
    rw [World.cell_of_heap hb', hsame i' f hi' hf hne]
    exact hcell


theorem Own.ownX {t : Ty} {xs : List (den t)} {blk off cap : Nat} {S : Nat → Prop} (hO : Own w (.sl t xs) (hdr blk off xs.length cap) S) (hx : xs ≠ []) : OwnX w t xs blk off cap S fun _ _ => False := by
  generalize hv : hdr blk off xs.length cap = v at hO
  cases hO with
  | nil t aa S hS => exact absurd rfl hx
  | sl t xs blk' off' cap' c e V F S hb hsz hlen h63 hc hn hS hself hdis =>
    simp only [hdr, Value.slice.injEq, Option.some.injEq, Addr.mk.injEq, and_true, true_and] at hv
    obtain ⟨⟨rfl, rfl⟩, rfl⟩ := hv
    exact ⟨c, e, V, F, hb, hsz, hlen, h63, hc, fun i x hx f l hl _ => hn i x hx f l hl, fun b => (hS b).trans ⟨fun h => h.imp id fun ⟨i, f, h1, h2, h3⟩ => ⟨i, f, h1, h2, fun h => h, h3⟩, fun h => h.imp id fun ⟨i, f, h1, h2, _, h3⟩ => ⟨i, f, h1, h2, h3⟩⟩,
      fun i f h1 h2 _ => hself i f h1 h2, fun i f j g b h1 h2 h3 h4 _ _ => hdis i f j g b h1 h2 h3 h4⟩

theorem Own.store {t : Ty} {xs : List (den t)} {blk off cap i k : Nat} {S : Nat → Prop} (hO : Own w (.sl t xs) (hdr blk off xs.length cap) S) (hi : i < xs.length) {ys : List Leaf} {us : List Value}
    (hfit : k + us.length ≤ width t) (hly : ys.length = us.length) {R : Nat → Nat → Prop} {x' : den t} (hx' : cells t x' = splice (cells t (xs.getD i (dflt t))) k ys)
    (hown : ∀ (j : Nat) l u, ys[j]? = some l → us[j]? = some u → Own w l u (R j)) (hR : ∀ j b, R j b → ¬ S b) (hRd : ∀ i j b, R i b → R j b → i = j) :
    ∃ S' : Nat → Prop, Own (w.setCells blk (off + i * width t + k) us) (.sl t (xs.set i x')) (hdr blk off xs.length cap) S' ∧ S blk ∧ w.there blk (off + i * width t + k) us.length ∧
      (∀ b, S' b → S b ∨ ∃ j, R j b) ∧
      (∀ i' f v, i' < xs.length → f < width t → (i' = i → f < k ∨ k + us.length ≤ f) → w.cell? ⟨blk, off + i' * width t + f, none⟩ = some v → (w.setCells blk (off + i * width t + k) us).cell? ⟨blk, off + i' * width t + f, none⟩ = some v) :=
  (hO.ownX (fun e => by rw [e] at hi; cases hi)).store hi hfit (fun _ _ h => h.elim) hly hx' hown hR hRd

theorem contains_false {os : List Nat} {o : Nat} (h : os.contains o = false) : o ∉ os := by simpa using h

/-- A store into an element's cells, as the object's owner sees it. -/
theorem storeCore (H : TabOk P T) (h : Rep P C σ g a w) {ob i k : Nat} {new : List LV} {us : List Value} {t : TypeId} {ty : Ty} (hty : T.ty t = some ty) {te : Ty} {xs : List (den te)} {γn : Nat} {D : Nat → Nat → Prop}
    (hobs : (σ.o ob).isSome) (hea : Each (RepLV P C σ.o g w) new us) (hl : new.length = width ty) (hle : k + width ty ≤ width te) (hi : i < xs.length) {blk off cap : Nat} (hh : g.hv ob = hdr blk off xs.length cap) (hO : OwnX w te xs blk off cap (g.fp ob) D) (hD : ∀ i' f, D i' f → i' = i ∧ k ≤ f ∧ f < k + us.length)
    {ys : List Leaf} {os : List Nat} (hg : Ev σ (given new) (ys, os)) (hno : ob ∉ os) {x' : den te} (hx' : cells te x' = splice (cells te (xs.getD i (dflt te))) k ys)
    (hsn : ∀ w', (∀ i' f v, i' < xs.length → f < width te → (i' = i → f < k ∨ k + us.length ≤ f) → w.cell? ⟨blk, off + i' * width te + f, none⟩ = some v → w'.cell? ⟨blk, off + i' * width te + f, none⟩ = some v) →
      ∀ γ0 i' f v, SubOk σ.o g w ob γ0 i' f v → γ0 ≤ γn ∧ (γ0 = γn → HdrAt w' (g.hv ob) te (xs.set i x').length i' f v)) :
    ∃ w' g', (Instr.storeAt t (.pointer (some ⟨blk, off + i * width te + k, none⟩)) (mkv (isAgg ty) us)).run P w = .ok () w' ∧
      Rep P C (σ.puts (.o ob (.tree te (xs.set i x') γn) :: os.map fun o => .o o .dead)) g' a w' := by
  obtain ⟨i1, i2, i3, i4, i5, i6⟩ := given_ok h hg hea
  have hlu : us.length = width ty := by rw [hea.len]; exact hl
  have hly : ys.length = us.length := by rw [i1, hea.len]
  let R : Nat → Nat → Prop := fun j b => ∃ l, new[j]? = some l ∧ fpLV g l b
  obtain ⟨S', hO', hblk, hth, hS', hkeep⟩ := OwnX.store hO hi (k := k) (ys := ys) (us := us) (R := R) (by omega) hD hly hx' (fun j l u hl' hu => by
      have hj : j < new.length := by rw [← i1]; exact (List.getElem?_eq_some_iff.1 hl').1
      have := i5 j new[j] l u (List.getElem?_eq_getElem hj) hl' hu
      exact this.congr (fun b => ⟨fun ⟨l', h1, h2⟩ => by rw [List.getElem?_eq_getElem hj] at h1; rw [Option.some.inj h1]; exact h2, fun hb => ⟨_, List.getElem?_eq_getElem hj, hb⟩⟩))
    (fun j b ⟨l, h1, o, h2, h3⟩ hb => by
      subst h2
      have := h.dis _ _ _ h3 hb; subst this
      exact hno ((i3 o).2 (List.mem_of_getElem? h1)))
    (fun p q b ⟨l, h1, o, h2, h3⟩ ⟨l', h1', o', h2', h3'⟩ => by
      subst h2; subst h2'
      have := h.dis _ _ _ h3 h3'; subst this
      exact i6 p q o h1 h1')
  have hRos : ∀ b j, R j b → ∃ o ∈ os, g.fp o b := fun b j ⟨l, h1, o, h2, h3⟩ => by
    subst h2; exact ⟨o, (i3 o).2 (List.mem_of_getElem? h1), h3⟩
  have hrun := store_run H hty (w := w) (b := blk) (o := off + i * width te + k) (us := us) hlu hth hea.oneCell
  let O' := (σ.puts (.o ob (.tree te (xs.set i x') γn) :: os.map fun o => .o o .dead)).o
  have hO'v : ∀ j, O' j = if j ∈ os then some .dead else if j = ob then some (.tree te (xs.set i x') γn) else σ.o j := fun j => by
    show (((σ.put _).puts _).o) j = _
    rw [(puts_dead os _).2]
    by_cases e : j ∈ os
    · simp [e]
    · simp [e, St.put]
  have hSv : (σ.puts (.o ob (.tree te (xs.set i x') γn) :: os.map fun o => .o o .dead)).s = σ.s := by
    show ((σ.put _).puts _).s = _
    rw [(puts_dead os _).1]; rfl
  let g' : Gh := ⟨g.hv, fun j b => if j = ob then S' b else j ∉ os ∧ g.fp j b⟩
  have hoth : ∀ b, b ≠ blk → (w.setCells blk (off + i * width te + k) us).heap[b]? = w.heap[b]? := fun b hb => heap_setCells_other _ _ _ _ _ hb
  have hne : ∀ j, (σ.o j).isSome → O' j ≠ none := fun j hj => by
    rw [hO'v]; split
    · simp
    · split
      · simp
      · intro e; rw [e] at hj; cases hj
  refine ⟨_, g', hrun, ?_⟩
  have := h.step (O' := O') (g' := g') (w' := w.setCells blk (off + i * width te + k) us) (Up.setCells _ _ _ _) (fun b _ hL => hoth b (fun e => hL ⟨ob, e ▸ hblk⟩)) ?_ ?_ ?_ ?_ ?_ ?_ ?_
  · have e : (⟨σ.s, O'⟩ : St) = σ.puts (.o ob (.tree te (xs.set i x') γn) :: os.map fun o => .o o .dead) := by
      rw [show σ.s = _ from hSv.symm]
    rw [← e]; exact this.2
  · rintro b ⟨j, hb⟩
    simp only [g'] at hb
    split at hb
    · rcases hS' b hb with h1 | ⟨q, h1⟩
      · exact .inl ⟨ob, h1⟩
      · obtain ⟨o, _, h2⟩ := hRos b q h1; exact .inl ⟨o, h2⟩
    · exact .inl ⟨j, hb.2⟩
  · intro j hj
    exact ⟨by rw [Option.isSome_iff_ne_none]; exact hne j hj, rfl⟩
  · intro o γ0 i' f v hs
    by_cases e1 : o ∈ os
    · refine ⟨⟨by rw [Option.isSome_iff_ne_none]; exact hne o hs.1.1, fun t0 xs0 γ1 _ _ _ h0 => ?_⟩, fun t0 xs0 γ1 h0 => ?_, fun t0 xs0 γ1 h0 => ?_⟩ <;> (rw [hO'v, if_pos e1] at h0; cases h0)
    · by_cases e2 : o = ob
      · subst e2
        have hn := hsn _ hkeep _ _ _ _ hs
        refine ⟨⟨by rw [Option.isSome_iff_ne_none]; exact hne o hs.1.1, fun t0 xs0 γ1 _ _ _ h0 => by rw [hO'v, if_neg e1, if_pos rfl] at h0; cases h0⟩, fun t0 xs0 γ1 h0 => ?_, fun t0 xs0 γ1 h0 => ?_⟩
        · rw [hO'v, if_neg e1, if_pos rfl] at h0
          simp only [Option.some.injEq, Obj.tree.injEq] at h0
          obtain ⟨rfl, h0, rfl⟩ := h0
          have h0 := eq_of_heq h0; subst h0
          exact hn
        · rw [hO'v, if_neg e1, if_pos rfl] at h0; cases h0
      · refine hs.frame h (fun b _ hb => hoth b (fun eb => ?_)) rfl (by rw [hO'v, if_neg e1, if_neg e2])
        subst eb
        rcases hb with hb | hb
        · exact e2 (h.dis _ _ _ hb hblk)
        · exact hb ⟨ob, hblk⟩
  · intro j hj b hb
    rw [hO'v] at hj
    simp only [g'] at hb
    split at hj
    · cases hj
    · rename_i e1
      split at hj
      · cases hj
      · rename_i e2
        rw [if_neg e2] at hb
        exact h.absent j hj b hb.2
  · intro j b hb
    rw [size_setCells]
    simp only [g'] at hb
    split at hb
    · rcases hS' b hb with h1 | ⟨q, h1⟩
      · exact (h.fps _ _ h1).1
      · obtain ⟨o, _, h2⟩ := hRos b q h1; exact (h.fps _ _ h2).1
    · exact (h.fps _ _ hb.2).1
  · intro p q b hp hq
    simp only [g'] at hp hq
    have key : ∀ j, S' b → j ∉ os → g.fp j b → j = ob := fun j hS hj hb => by
      rcases hS' b hS with h1 | ⟨r, h1⟩
      · exact h.dis _ _ _ hb h1
      · obtain ⟨o, ho, h2⟩ := hRos b r h1
        have := h.dis _ _ _ hb h2; subst this; exact absurd ho hj
    split at hp <;> split at hq
    · rename_i e1 e2; rw [e1, e2]
    · rename_i e1 e2; rw [e1]; exact (key q hp hq.1 hq.2).symm
    · rename_i e1 e2; rw [e2]; exact key p hq hp.1 hp.2
    · exact h.dis _ _ _ hp.2 hq.2
  · intro F j x hx
    rw [hO'v] at hx
    split at hx
    · rename_i e1
      obtain rfl := Option.some.inj hx
      intro b hb
      simp only [g'] at hb
      split at hb
      · rename_i e2; subst e2; exact hno e1
      · exact hb.1 e1
    · rename_i e1
      split at hx
      · rename_i e2
        subst e2
        obtain rfl := Option.some.inj hx
        show Own _ _ (g.hv j) (g'.fp j)
        have hfp : g'.fp j = S' := by funext b; simp [g']
        rw [hfp, hh, ← List.length_set (as := xs) (i := i) (a := x')]
        rw [List.length_set]
        exact hO'
      · rename_i e2
        refine RepObj.keep F rfl (fun b => by simp [g', e1, e2]) (fun b hb => hoth b (fun eb => ?_)) (h.objs j x hx)
        subst eb
        exact e2 (h.dis _ _ _ hb hblk)

/-- A store into an element. -/
theorem storeElem (H : TabOk P T) (h : Rep P C σ g a w) {ob i k : Nat} {new : List LV} {us : List Value} {t : TypeId} {ty : Ty} (hty : T.ty t = some ty) {te : Ty} {xs : List (den te)} {γ : Nat}
    (hob : σ.o ob = some (.tree te xs γ)) (hea : Each (RepLV P C σ.o g w) new us) (hl : new.length = width ty) (hle : k + width ty ≤ width te) (hi : i < xs.length) {blk off cap : Nat} (hh : g.hv ob = hdr blk off xs.length cap)
    {ys : List Leaf} {os : List Nat} (hg : Ev σ (given new) (ys, os)) (hno : ob ∉ os) {x' : den te} (hx' : cells te x' = splice (cells te (xs.getD i (dflt te))) k ys) :
    ∃ w' g', (Instr.storeAt t (.pointer (some ⟨blk, off + i * width te + k, none⟩)) (mkv (isAgg ty) us)).run P w = .ok () w' ∧
      Rep P C (σ.puts (.o ob (.tree te (xs.set i x') (if hasSl ys then γ + 1 else γ)) :: os.map fun o => .o o .dead)) g' a w' := by
  have hO : Own w (.sl te xs) (hdr blk off xs.length cap) (g.fp ob) := by rw [← hh]; exact h.objs _ _ hob
  have hlu : us.length = width ty := by rw [hea.len]; exact hl
  have hly : ys.length = us.length := by rw [(given_ok h hg hea).1, hea.len]
  refine storeCore H h hty (by rw [hob]; rfl) hea hl hle hi hh (hO.ownX (fun e => by rw [e] at hi; cases hi)) (fun _ _ h => h.elim) hg hno hx' fun w' hkeep γ0 i' f v hs => ?_
  obtain ⟨hle2, h2⟩ := hs.2.1 _ _ _ hob
  by_cases hsl : hasSl ys = true
  · rw [if_pos hsl]
    exact ⟨by omega, fun e => absurd hle2 (by omega)⟩
  · rw [if_neg hsl]
    refine ⟨hle2, fun e => ?_⟩
    obtain ⟨blk2, off2, cap2, he, hi', hf, hcell⟩ := h2 e
    rw [hh] at he
    simp only [hdr, Value.slice.injEq, Option.some.injEq, Addr.mk.injEq, and_true, true_and] at he
    obtain ⟨⟨rfl, rfl⟩, rfl⟩ := he
    refine ⟨blk, off, cap, by rw [List.length_set]; exact hh, by rw [List.length_set]; exact hi', hf, ?_⟩
    have hfw : f < width te := by
      obtain ⟨t', zs, hz⟩ := hf
      rw [← cells_length te (dflt te)]; exact (List.getElem?_eq_some_iff.1 hz).1
    refine hkeep i' f v hi' hfw (fun e => ?_) hcell
    rcases Nat.lt_or_ge f k with h' | h'
    · exact .inl h'
    · right
      rcases Nat.lt_or_ge f (k + us.length) with h'' | h''
      · exfalso
        have hj : f - k < ys.length := by omega
        obtain ⟨u, hu⟩ := hasSl_false (by simpa using hsl) (List.getElem?_eq_getElem hj)
        have : (cells te x')[f]? = some (.val u) := by
          rw [hx', splice_get _ _ _ (by rw [cells_length]; omega), if_neg (by omega), if_pos (by omega), List.getElem?_eq_getElem hj, hu]
        exact not_slAt this hf
      · exact h''

theorem store_ok (H : TabOk P T) (h : Rep P C σ g a w) {o : Oper} (hdn : o.dst = none) {t : TypeId} {x y : Operand} (ho : o.op = .store t x y) {c : Orc} {pk : Bool} {ws : List Wr}
    (e : Ev σ (step P T o c pk) ws) : o.wp P a w (After P C σ ws) Qx := by
  unfold Go.Pi.step at e
  rw [ho] at e
  simp only [Ev_bind] at e
  obtain ⟨v1, e1, l, e2, v2, e3, ⟨ag, new⟩, e4, e⟩ := e
  have hv1 := opd_ok h e1
  rw [asOne_ok e2] at hv1
  have hv2 := opd_ok h e3
  obtain rfl := asVD_ok e4
  obtain ⟨us, hy, hea, hag⟩ := hv2
  simp only at hy hea hag e
  split at e
  · rename_i ob off ty hty
    have hv1 := hv1.one
    rw [Ev_obj] at e
    obtain ⟨z, hz, e⟩ := e
    split at e
    · rename_i ls
      split at e
      · rename_i hc
        obtain ⟨rfl, hl, hle⟩ := hc
        rw [Ev_ret] at e; subst e
        obtain ⟨w', hr, hrep⟩ := storeBox H h hty hz hea hl hle hv1
        refine wp_unit (w' := w') ?_ ⟨g, ?_⟩
        · unfold execOp
          rw [ho]
          simp only [hy, Sem.run_bind, hr, Result.andThen_ok, Sem.run_pure]
        · rw [hdn]; exact hrep
      · exact (Ev_fail.1 e).elim
    · exact (Ev_fail.1 e).elim
  · rename_i t' ob i off ty hty
    have hv1 := hv1.one
    rw [Ev_obj] at e
    obtain ⟨z, hz, e⟩ := e
    split at e
    · rename_i te xs γ
      rw [Ev_bind] at e
      obtain ⟨⟨ys, os⟩, e5, e⟩ := e
      simp only at e
      split at e
      · rename_i hc
        obtain ⟨rfl, rfl, hl, hle, hno⟩ := hc
        split at e
        · rename_i x' hx'
          rw [Ev_ret] at e; subst e
          obtain ⟨vb, blk, o', n, cap, hb, he, hi, hp⟩ := hv1
          have hO : Own w (.sl te xs) (g.hv ob) (g.fp ob) := h.objs _ _ hz
          have hn : n = xs.length := by
            obtain ⟨aa, cc, hh⟩ := hO.rd.len
            rw [hb.2.1, hh] at he
            simp only [hdr, Value.slice.injEq] at he
            exact he.2.1.symm
          subst hn
          obtain ⟨w', g', hr, hrep⟩ := storeElem H h hty hz hea hl hle hi (by rw [← hb.2.1]; exact he) e5 (contains_false hno) (cells_ofCells _ _ _ hx')
          refine wp_unit (w' := w') ?_ ⟨g', ?_⟩
          · unfold execOp
            rw [ho]
            simp only [hy, hp, Sem.run_bind, hr, Result.andThen_ok, Sem.run_pure]
          · rw [hdn]; exact hrep
        · exact (Ev_fail.1 e).elim
      · exact (Ev_fail.1 e).elim
    · exact (Ev_fail.1 e).elim
  · exact (Ev_fail.1 e).elim

end
end Go.Pi

/- Calls: how arguments are handed over. -/
namespace Go.Pi
variable {P : Program} {C : Ctx} {T : Tab}
section
variable {σ : St} {g : Gh} {a : Act} {w : World} {Qx : Exit → Act → World → Prop}

/-- An object that is lent: by which leaf, what it is behind the call, which blocks go along. -/
structure Ent where
  j : Nat
  o : Nat
  x : Obj
  S : Nat → Prop
  After : World → Prop

def Ent.wr (e : Ent) : Wr := .o e.o e.x

/-- What is known of a lent object. -/
structure Lend (P : Program) (C : Ctx) (σ : St) (g : Gh) (w : World) (e : Ent) : Prop where
  sub : ∀ b, e.S b → g.fp e.o b
  here : (σ.o e.o).isSome
  subs : ∀ (O' : Nat → Option Obj) (g' : Gh) (w' : World), g'.hv e.o = g.hv e.o → O' e.o = some e.x → (∀ b, b < w.heap.size → g.fp e.o b → ¬ e.S b → w'.heap[b]? = w.heap[b]?) →
    ∀ γ i f v, SubOk σ.o g w e.o γ i f v → SubOk O' g' w' e.o γ i f v
  back : ∀ (O' : Nat → Option Obj) (g' : Gh) (w' : World), Frm σ.o g w O' g' w' → g'.hv e.o = g.hv e.o → (∀ b, g'.fp e.o b ↔ e.x ≠ .dead ∧ g.fp e.o b) → (∀ b, b < w.heap.size → g.fp e.o b → ¬ e.S b → w'.heap[b]? = w.heap[b]?) →
    e.After w' → RepObj P C O' g' w' e.o e.x

/-- What is known of an argument. -/
structure ArgF (P : Program) (C : Ctx) (σ : St) (g : Gh) (w : World) (ad : AD) (ws : List Wr) (rds : List Nat) (v : Value) (es : List Ent) : Prop where
  ws_ : ws = es.map Ent.wr
  lend : ∀ e ∈ es, Lend P C σ g w e
  ok : ∀ X : Nat → Prop, (∀ b, X b → g.L b) → (∀ o ∈ rds, ∀ b, g.fp o b → ¬ X b) → ArgOk P w X v (fun j b => ∃ e ∈ es, e.j = j ∧ e.S b) ad
  after : ∀ w', ArgAfter w w' v (fun j b => ∃ e ∈ es, e.j = j ∧ e.S b) ad → ∀ e ∈ es, (∀ e' ∈ es, e'.j = e.j → e' = e) → e.After w'
  mv : ad.moves = true → ∀ e ∈ es, e.x = .dead
  js : ∀ e ∈ es, ∀ e' ∈ es, e'.j = e.j → e' = e
  nm : ad.moves = false → ∀ e ∈ es, e.x ≠ .dead

theorem okRd_to {os : List Nat} {X : Nat → Prop} (h : Rep P C σ g a w) (hX : ∀ b, X b → g.L b) (hos : ∀ o ∈ os, ∀ b, g.fp o b → ¬ X b) {b : Nat} (hb : okRd g w os b) : okB w X b := by
  rcases hb with hb | ⟨o, ho, hb⟩
  · exact ⟨hb.1, fun hx => hb.2 (hX b hx)⟩
  · exact ⟨(h.fps o b hb).1, hos o ho b hb⟩

theorem argF_v (h : Rep P C σ g a w) {ag : Bool} {ls : List LV} {xs : List Leaf} {v : Value} (hv : RepVD P C σ.o g w (ag, ls) v) (e : Ev σ (conts ls) xs) : ArgF P C σ g w (.v (ag, xs)) [] (ls.flatMap objOf) v [] := by
  obtain ⟨us, rfl, hea, hag⟩ := hv
  have hc := conts_ok h e hea
  exact
    { ws_ := rfl
      lend := fun e he => by cases he
      ok := fun X hX hos => ⟨(fun j b ⟨e, he, _⟩ => by cases he), us, rfl, hc.imp fun l u hr => hr.mono (fun _ _ => rfl) (fun b hb => okRd_to h hX hos hb), fun e => by rw [← hc.len, hea.len]; exact hag e⟩
      after := fun _ _ e he => by cases he
      mv := fun _ e he => by cases he
      js := fun e he => by cases he
      nm := fun _ e he => by cases he }

theorem fnOk_move (h : Rep P C σ g a w) {v : Value} {p : FnP} (hf : FnOk P C.w0 C.X v p) {X : Nat → Prop} (hX : ∀ b, X b → g.L b) : FnOk P w X v p := by
  obtain ⟨f, caps, hv, hc, hcall⟩ := hf
  refine ⟨f, caps, hv, hc, fun w1 vs xs r hsz hsame hp hl hrd => hcall w1 vs xs r (h.grown.trans hsz) (fun b hb hx => ?_) hp hl hrd⟩
  rw [hsame b (Nat.lt_of_lt_of_le hb h.grown.size) (fun hxb => by obtain ⟨i, hi⟩ := hX b hxb; exact hx ((h.fps i b hi).2 hb)), h.kept b hb hx]

theorem argF_fn (h : Rep P C σ g a w) {p : FnP} {v : Value} (hv : RepVD P C σ.o g w (false, [.fn p]) v) : ArgF P C σ g w (.fn p) [] [] v [] := by
  have hv : FnOk P C.w0 C.X v p := RepSV.one (P := P) (C := C) hv
  exact
    { ws_ := rfl
      lend := fun e he => by cases he
      ok := fun X hX _ => ⟨(fun j b ⟨e, he, _⟩ => by cases he), fnOk_move h hv hX⟩
      after := fun _ _ e he => by cases he
      mv := fun _ e he => by cases he
      js := fun e he => by cases he
      nm := fun _ e he => by cases he }

/-- Captured variables: what lies there. -/
theorem boxes_ok (h : Rep P C σ g a w) : ∀ {caps : List Nat} {xss : List (List Leaf)} {os : List Nat} {us : List Value}, Ev σ (boxConts caps) xss → Ev σ (boxObjs caps) os → Each (fun o u => BpOk σ.o g o 0 u) caps us →
    xss.length = caps.length ∧ ∀ (X : Nat → Prop), (∀ b, X b → g.L b) → (∀ o ∈ os, ∀ b, g.fp o b → ¬ X b) → ∀ (j : Nat) ls u, xss[j]? = some ls → us[j]? = some u →
      ∃ blk c e, u = .pointer (some ⟨blk, 0, none⟩) ∧ w.heap[blk]? = some (.cells c e (0, 0)) ∧ okB w X blk ∧ Each (Rd w (okB w X)) ls c.toList
  | [], xss, os, us, e, e', hea => by
    rw [boxConts, Ev_ret] at e; subst e
    exact ⟨rfl, fun X _ _ j ls u hl => by simp at hl⟩
  | o :: caps, xss, os, us, e, e', hea => by
    obtain ⟨u, us', rfl, h1, h2⟩ := hea.cons
    rw [boxConts, Ev_obj] at e
    rw [boxObjs, Ev_obj] at e'
    obtain ⟨y, hy, e⟩ := e
    obtain ⟨y', hy', e'⟩ := e'
    rw [hy] at hy'; obtain rfl := Option.some.inj hy'
    obtain ⟨hs, blk, hb, hu⟩ := h1
    have main : ∀ ls, (y = .box ls ∨ y = .rbox ls) → Ev σ ((conts ls).bind fun xs => (boxConts caps).bind fun xss => .ret (xs :: xss)) xss → Ev σ ((boxObjs caps).bind fun r => .ret (o :: (ls.flatMap objOf ++ r))) os →
        xss.length = (o :: caps).length ∧ ∀ (X : Nat → Prop), (∀ b, X b → g.L b) → (∀ o ∈ os, ∀ b, g.fp o b → ¬ X b) → ∀ (j : Nat) ls u', xss[j]? = some ls → (u :: us')[j]? = some u' →
          ∃ blk c e, u' = .pointer (some ⟨blk, 0, none⟩) ∧ w.heap[blk]? = some (.cells c e (0, 0)) ∧ okB w X blk ∧ Each (Rd w (okB w X)) ls c.toList := by
      intro ls hyl e e'
      rw [Ev_bind] at e e'
      obtain ⟨xs, e1, e⟩ := e
      rw [Ev_bind] at e
      obtain ⟨xss', e2, e⟩ := e
      rw [Ev_ret] at e; subst e
      obtain ⟨r, e3, e'⟩ := e'
      rw [Ev_ret] at e'; subst e'
      obtain ⟨i1, i2⟩ := boxes_ok h e2 e3 h2
      refine ⟨by simp [i1], fun X hX hos j ls' u' hl hu' => ?_⟩
      match j with
      | 0 =>
        simp at hl hu'; subst hl; subst hu'
        have hobj := h.objs _ _ hy
        have fin : ∀ (c : Array Value) (e : TypeId), w.heap[blk]? = some (.cells c e (0, 0)) → okB w X blk → Each (RepLV P C σ.o g w) ls c.toList →
            ∃ blk c e, u = .pointer (some ⟨blk, 0, none⟩) ∧ w.heap[blk]? = some (.cells c e (0, 0)) ∧ okB w X blk ∧ Each (Rd w (okB w X)) xs c.toList := fun c e hh hok hcs =>
          ⟨blk, c, e, hu, hh, hok, (conts_ok h e1 hcs).imp fun l u hr => hr.mono (fun _ _ => rfl) (fun b hb => okRd_to h hX (fun o' ho' => hos o' (by simp [ho'])) hb)⟩
        rcases hyl with rfl | rfl
        · obtain ⟨blk', c, e, hb', hh, hfp, hcs⟩ := hobj
          rw [hb] at hb'; simp only [Value.pointer.injEq, Option.some.injEq, Addr.mk.injEq, and_true] at hb'
          subst hb'
          exact fin c e hh ⟨(h.fps o _ ((hfp blk).2 rfl)).1, hos o (by simp) blk ((hfp blk).2 rfl)⟩ hcs
        · obtain ⟨_, blk', c, e, hb', hh, hok, hcs⟩ := hobj
          rw [hb] at hb'; simp only [Value.pointer.injEq, Option.some.injEq, Addr.mk.injEq, and_true] at hb'
          subst hb'
          exact fin c e hh ⟨hok.1, fun hx => hok.2 (hX _ hx)⟩ hcs
      | j + 1 => exact i2 X hX (fun o' ho' => hos o' (by simp [ho'])) j ls' u' (by simpa using hl) (by simpa using hu')
    split at e
    · exact main _ (.inl rfl) e e'
    · exact main _ (.inr rfl) e e'
    · exact (Ev_fail.1 e).elim

theorem argF_clo (h : Rep P C σ g a w) {p : FnP} {f : FuncId} {caps : List Nat} {xss : List (List Leaf)} {os : List Nat} {v : Value} (hv : RepVD P C σ.o g w (false, [.clo f caps]) v) (e : Ev σ (boxConts caps) xss) (e' : Ev σ (boxObjs caps) os)
    (hclo : CloOk P f xss p) : ArgF P C σ g w (.fn p) [] os v [] := by
  have hv : RepLV P C σ.o g w (.clo f caps) v := RepSV.one (P := P) (C := C) hv
  obtain ⟨us, rfl, hea⟩ := hv
  obtain ⟨hl, hbx⟩ := boxes_ok h e e' hea
  refine
    { ws_ := rfl
      lend := fun e he => by cases he
      ok := fun X hX hos => ⟨(fun j b ⟨e, he, _⟩ => by cases he), f, us.toArray, rfl, hclo.1, fun w1 vs xs r hsz hsame hp hlv hrd => ?_⟩
      after := fun _ _ e he => by cases he
      mv := fun _ e he => by cases he
      js := fun e he => by cases he
      nm := fun _ e he => by cases he }
  have hc := (hclo.2 xs r hp).2 w1 (vs ++ us) (fun _ _ _ => False) (by simp [hlv, hea.len, hl]) (fun _ _ _ h => h.elim) (fun _ _ _ _ _ h => h.elim) (fun k ad v hk hv => by
    rcases Nat.lt_or_ge k xs.length with hlt | hge
    · rw [List.getElem?_append_left (by simpa using hlt), List.getElem?_map, Option.map_eq_some_iff] at hk
      obtain ⟨x, hx, rfl⟩ := hk
      rw [List.getElem?_append_left (by omega)] at hv
      obtain ⟨us1, hm, hea1, hag1⟩ := hrd k x v hx hv
      exact ⟨fun _ _ h => h, us1, hm, hea1.imp fun l u hr => hr.mono (fun _ _ => rfl) (fun b hb => ⟨hb, fun ⟨_, _, h⟩ => h⟩), hag1⟩
    · rw [List.getElem?_append_right (by simpa using hge), List.getElem?_map, Option.map_eq_some_iff, List.length_map] at hk
      obtain ⟨ls, hls, rfl⟩ := hk
      rw [List.getElem?_append_right (by omega), hlv] at hv
      obtain ⟨blk, c, e, hu, hh, hok, hcs⟩ := hbx X hX hos _ ls v hls hv
      refine ⟨fun _ _ h => h, blk, c, e, hu, ?_, ⟨Nat.lt_of_lt_of_le hok.1 hsz.size, fun ⟨_, _, h⟩ => h⟩, hcs.imp fun l u hr => hr.mono (fun b hb => hsame b hb.1 hb.2) (fun b hb => ⟨Nat.lt_of_lt_of_le hb.1 hsz.size, fun ⟨_, _, h⟩ => h⟩)⟩
      rw [hsame blk hok.1 hok.2]; exact hh)
  rw [show vs.toArray ++ us.toArray = (vs ++ us).toArray by simp]
  refine hc.mono ?_
  rintro e w2 ⟨rv, rfl, hsz2, hsame2, _, us2, R, hrv, how, hag⟩
  have hlen := how.len
  match us2, hlen with
  | [u2], _ =>
    have := how.own 0 _ u2 rfl rfl
    cases this with
    | val v S hS =>
      refine ⟨by rw [hrv]; rfl, hsz2, fun b hb => hsame2 b hb (fun ⟨_, _, h⟩ => h)⟩

end
end Go.Pi

/- Calls: arguments that are written. -/
namespace Go.Pi
variable {P : Program} {C : Ctx} {T : Tab}
section
variable {σ : St} {g : Gh} {a : Act} {w : World} {Qx : Exit → Act → World → Prop}

theorem postLVs_get : ∀ {ls : List LV} {post : List Leaf}, post.length = ls.length → ∀ {j : Nat} {l : LV}, (postLVs ls post)[j]? = some l →
    (∃ v u, ls[j]? = some (.val v) ∧ post[j]? = some (.val u) ∧ l = .val u) ∨ (ls[j]? = some l ∧ ∃ p, post[j]? = some p ∧ ∀ v u, ¬ (l = .val v ∧ p = .val u))
  | [], post, hl, j, l, h => by simp [postLVs] at h
  | l0 :: ls, p :: post, hl, j, l, h => by
    have hl' : post.length = ls.length := by simpa using hl
    have rest : ∀ j, (postLVs ls post)[j]? = some l → (∃ v u, (l0 :: ls)[j + 1]? = some (.val v) ∧ (p :: post)[j + 1]? = some (.val u) ∧ l = .val u) ∨
        ((l0 :: ls)[j + 1]? = some l ∧ ∃ q, (p :: post)[j + 1]? = some q ∧ ∀ v u, ¬ (l = .val v ∧ q = .val u)) := fun j h => by
      rcases postLVs_get hl' h with ⟨v, u, h1, h2, h3⟩ | ⟨h1, q, h2, h3⟩
      · exact .inl ⟨v, u, by simpa using h1, by simpa using h2, h3⟩
      · exact .inr ⟨by simpa using h1, q, by simpa using h2, h3⟩
    by_cases hc : ∃ v u, l0 = .val v ∧ p = .val u
    · obtain ⟨v, u, rfl, rfl⟩ := hc
      match j with
      | 0 => simp [postLVs] at h; exact .inl ⟨v, u, rfl, rfl, h.symm⟩
      | j + 1 => exact rest j (by simpa [postLVs] using h)
    · have hp : postLVs (l0 :: ls) (p :: post) = l0 :: postLVs ls post := by
        cases l0 <;> first | rfl | (cases p <;> first | rfl | exact absurd ⟨_, _, rfl, rfl⟩ hc)
      rw [hp] at h
      match j with
      | 0 =>
        simp at h; subst h
        exact .inr ⟨rfl, p, rfl, fun v u ⟨e1, e2⟩ => hc ⟨v, u, e1, e2⟩⟩
      | j + 1 => exact rest j (by simpa using h)
  | _ :: _, [], hl, _, _, _ => by simp at hl

theorem postLVs_length : ∀ {ls : List LV} {post : List Leaf}, post.length = ls.length → (postLVs ls post).length = ls.length
  | [], post, h => by simp [postLVs]
  | l :: ls, p :: post, h => by
    have := postLVs_length (ls := ls) (post := post) (by simpa using h)
    cases l <;> first | (simp [postLVs, this]; done) | (cases p <;> simp [postLVs, this])
  | _ :: _, [], h => by simp at h

theorem argF_ptr (h : Rep P C σ g a w) {o : Nat} {ls : List LV} {pre post : List Leaf} {v : Value} (hv : RepVD P C σ.o g w (false, [.bp o 0]) v) (ho : σ.o o = some (.box ls)) (e : Ev σ (conts ls) pre)
    (hlen : post.length = pre.length) (hk : post.map leafSl = pre.map leafSl) (hpl : post.all leafPlain = true) :
    ∃ es, ArgF P C σ g w (.ptr pre post) [.o o (.box (postLVs ls post))] (ls.flatMap objOf) v es := by
  have hv : RepLV P C σ.o g w (.bp o 0) v := RepSV.one (P := P) (C := C) hv
  obtain ⟨hs, blk, hb, rfl⟩ := hv
  obtain ⟨blk', c, el, hb', hheap, hfp, hcs⟩ := h.objs _ _ ho
  rw [hb] at hb'; simp only [Value.pointer.injEq, Option.some.injEq, Addr.mk.injEq, and_true] at hb'
  subst hb'
  have hcont := conts_ok h e hcs
  have hll : pre.length = ls.length := by have := hcont.len; have := hcs.len; omega
  let ent : Ent := ⟨0, o, .box (postLVs ls post), fun b => b = blk, fun w' => ∃ c' e', w'.heap[blk]? = some (.cells c' e' (0, 0)) ∧ c'.size = c.size ∧ (∀ (j : Nat) u, post[j]? = some (.val u) → c'[j]? = some u) ∧
    (∀ (j : Nat) t xs, post[j]? = some (.sl t xs) → c'[j]? = c[j]?)⟩
  refine ⟨[ent], rfl, ?_, ?_, ?_, (fun hm => by cases hm), ?_, ?_⟩
  · intro e' he'
    rw [List.mem_singleton] at he'; subst he'
    refine ⟨fun b hb => (hfp b).2 hb, hs, fun O' g' w' _ hO _ γ i f v _ => ?_, fun O' g' w' F hv hfp' hsame ⟨c', el', h1, h2, h3, h4⟩ => ?_⟩
    · have hO : O' o = some (.box (postLVs ls post)) := hO
      exact ⟨⟨by show (O' o).isSome = true; rw [hO]; rfl, (fun t xs γ' _ _ _ h0 => by rw [show O' ent.o = _ from hO] at h0; cases h0)⟩, (fun t xs γ' h0 => by rw [show O' ent.o = _ from hO] at h0; cases h0), (fun t xs γ' h0 => by rw [show O' ent.o = _ from hO] at h0; cases h0)⟩
    · refine ⟨blk, c', el', hv.trans hb, h1, fun b => (hfp' b).trans ⟨fun hh => (hfp b).1 hh.2, fun hh => ⟨by simp [ent], (hfp b).2 hh⟩⟩, ?_⟩
      refine ⟨by rw [postLVs_length (by omega)]; have := hcs.len; simp at this ⊢; omega, fun j l u hl hu => ?_⟩
      have hu : c'[j]? = some u := by simpa using hu
      rcases postLVs_get (by omega) hl with ⟨v0, u0, e1, e2, rfl⟩ | ⟨e1, p, e2, e3⟩
      · rw [h3 j u0 e2] at hu
        obtain rfl := Option.some.inj hu
        exact ⟨rfl, List.all_eq_true.1 hpl _ (List.mem_of_getElem? e2)⟩
      · cases p with
        | sl t xs =>
          rw [h4 j t xs e2] at hu
          exact F.lv (hcs.at_ j l u e1 (by simpa using hu))
        | val u0 =>
          -- a cell without a slice is told by its value
          exfalso
          have hjl : j < pre.length := by rw [← hlen]; exact (List.getElem?_eq_some_iff.1 e2).1
          have hkj : (pre.map leafSl)[j]? = some false := by rw [← hk, List.getElem?_map, e2]; rfl
          rw [List.getElem?_map, List.getElem?_eq_getElem hjl] at hkj
          have hpv : ∃ u1, pre[j] = .val u1 := by
            cases hp : pre[j] with
            | val u1 => exact ⟨u1, rfl⟩
            | sl t xs => rw [hp] at hkj; simp [leafSl] at hkj
          obtain ⟨u1, hu1⟩ := hpv
          have key : ∀ (ls : List LV) (pre : List Leaf), Ev σ (conts ls) pre → ∀ (j : Nat) l u1, ls[j]? = some l → pre[j]? = some (.val u1) → ∃ v, l = .val v := by
            intro ls
            induction ls with
            | nil => intro pre _ j l u1 hl; simp at hl
            | cons l0 ls ih =>
              intro pre he j l u1 hl hp
              rw [conts, Ev_bind] at he
              obtain ⟨x, hx, he⟩ := he
              rw [Ev_bind] at he
              obtain ⟨xs, hxs, he⟩ := he
              rw [Ev_ret] at he; subst he
              match j with
              | 0 =>
                simp at hl hp; subst hl; subst hp
                cases l0 with
                | val v => exact ⟨v, rfl⟩
                | sub o γ i f =>
                  rw [cont, Ev_obj] at hx
                  obtain ⟨y, hy, hx⟩ := hx
                  split at hx
                  · split at hx
                    · split at hx
                      · rw [Ev_ret] at hx; cases hx
                      · exact (Ev_fail.1 hx).elim
                    · exact (Ev_fail.1 hx).elim
                  · split at hx
                    · split at hx
                      · rw [Ev_ret] at hx; cases hx
                      · exact (Ev_fail.1 hx).elim
                    · exact (Ev_fail.1 hx).elim
                  · exact (Ev_fail.1 hx).elim
                | ro t xs => rw [cont, Ev_ret] at hx; cases hx
                | fix _ _ t xs => rw [cont, Ev_ret] at hx; cases hx
                | nil t => rw [cont, Ev_ret] at hx; cases hx
                | tr o =>
                  rw [cont, Ev_obj] at hx
                  obtain ⟨y, hy, hx⟩ := hx
                  split at hx
                  · rw [Ev_ret] at hx; cases hx
                  · rw [Ev_ret] at hx; cases hx
                  · exact (Ev_fail.1 hx).elim
                | bp _ _ => exact (Ev_fail.1 hx).elim
                | ep _ _ _ _ => exact (Ev_fail.1 hx).elim
                | clo _ _ => exact (Ev_fail.1 hx).elim
                | fn _ => exact (Ev_fail.1 hx).elim
              | j + 1 => exact ih xs hxs j l u1 (by simpa using hl) (by simpa using hp)
          obtain ⟨v, rfl⟩ := key ls pre e j l u1 e1 (by rw [List.getElem?_eq_getElem hjl, hu1])
          exact e3 v u0 ⟨rfl, rfl⟩
  · intro X hX hos
    refine ⟨hlen, blk, c, el, rfl, hheap, fun j b => ?_, hcont.imp fun l u hr => hr.mono (fun _ _ => rfl) (fun b hb => okRd_to h hX hos hb)⟩
    constructor
    · rintro ⟨e', he', h1, h2⟩
      rw [List.mem_singleton] at he'; subst he'
      exact ⟨h1.symm, h2⟩
    · rintro ⟨rfl, rfl⟩
      exact ⟨ent, by simp, rfl, rfl⟩
  · intro w' haf e' he' _
    rw [List.mem_singleton] at he'; subst he'
    exact haf blk c el rfl hheap
  · intro e1 h1 e2 h2 _
    rw [List.mem_singleton] at h1 h2; rw [h1, h2]
  · intro _ e' he'
    rw [List.mem_singleton] at he'; subst he'
    simp [ent]

end
end Go.Pi
