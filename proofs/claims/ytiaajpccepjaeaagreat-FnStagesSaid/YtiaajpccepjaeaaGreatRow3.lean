/- THE LAW FnStages HOLDS: for every slice of bytes the call returns true, and the slice reads as it did. No condition. -/
import Derived.Test.YtiaajpccepjaeaaGreatPf
import Derived.Test.YtiaajpccepjaeaaGreatRows
import Derived.WalkKit
import Derived.ProofKit
import Derived.OpenShut
import Derived.ShutString
import Derived.ChangeOld
import Derived.Below
import Derived.SizedLaws
namespace Go.Proofs.YtiaajpccepjaeaaGreat.fnStages
open Go.ChangeShapes Go.WideShapes Go.ChangeAt Go.RowKit Go.Pi
set_option linter.unusedVariables false
theorem own : ownKnob Tryz.prog.godebug = none := by kernel_rfl
theorem laidOut : laidOutB Tryz.prog = true := by kernel_rfl
def IsRow (k : IntKind) (w : World) (a : Option Addr) (len cap : Nat) (zs : List Int) : Prop :=
  (a = none ∧ len = 0 ∧ cap = 0 ∧ zs = []) ∨
  ∃ x, a = some x ∧ len ≤ cap ∧ cap ≤ maxLen ∧ zs.length = cap ∧ (∀ i, i < zs.length → w.cell? (x.add i) = some (.int k (zs.getD i 0))) ∧ ∀ n ∈ zs, (Lit.int k n).wf = true

/-- A row of bytes reads as its letters. -/
theorem row_rd {w : World} {a : Option Addr} {len cap : Nat} {zs : List Int} (h : IsRow .u8 w a len cap zs) : RdV w (okB w fun _ => False) (false, [.sl (.int .u8) (zs.take len)]) (.slice a len cap) := by
  refine ⟨[.slice a len cap], rfl, ?_, fun _ => rfl⟩
  refine ⟨rfl, fun j l u hl hu => ?_⟩
  match j with
  | j + 1 => simp at hl
  | 0 =>
    simp only [List.getElem?_cons_zero, Option.some.injEq] at hl hu
    subst hl; subst hu
    rcases h with ⟨rfl, rfl, rfl, rfl⟩ | ⟨x, rfl, hlc, hm, hz, hcell, hwf⟩
    · exact .nil _ _ _
    · by_cases hl0 : len = 0
      · subst hl0
        exact .nil _ _ _
      · have hn : x.spot = none := by
          have h0 := hcell 0 (by omega)
          cases hs : x.spot with
          | none => rfl
          | some s =>
            exfalso
            unfold World.cell? at h0
            have : (x.add 0).spot.isSome = true := by
              unfold Addr.add; rw [if_pos rfl, hs]; rfl
            rw [this] at h0
            revert h0
            cases w.heap[(x.add 0).block]? with
            | none => intro h; cases h
            | some o => cases o <;> intro h <;> simp at h
        obtain ⟨blk, off, sp⟩ := x
        simp only at hn
        subst hn
        have hc : ∀ i, i < zs.length → w.cell? ⟨blk, off + i, none⟩ = some (.int .u8 (zs.getD i 0)) := fun i hi => by
          have := hcell i hi
          unfold Addr.add at this
          by_cases h0 : i = 0
          · subst h0
            rw [if_pos rfl] at this
            exact this
          · rw [if_neg h0] at this
            exact this
        have hb : blk < w.heap.size := by
          have h0 := hc 0 (by omega)
          unfold World.cell? at h0
          rcases Nat.lt_or_ge blk w.heap.size with h | h
          · exact h
          · rw [Array.getElem?_eq_none h] at h0; cases h0
        have ht : (zs.take len).length = len := by rw [List.length_take]; omega
        have := Rd.sl (w := w) (ok := okB w fun _ => False) (.int .u8) (zs.take len) blk off cap (fun i _ => .int .u8 (zs.getD i 0)) ⟨hb, fun h => h⟩ (by rw [ht]; exact hlc)
          (fun i f hi hf => by
            have hf0 : f = 0 := by
              have : width (.int .u8) = 1 := rfl
              omega
            subst hf0
            have : width (.int .u8) = 1 := rfl
            rw [this, Nat.mul_one, Nat.add_zero]
            exact hc i (by omega))
          (fun i y hy f l hl => by
            have hyz : zs.getD i 0 = y := by
              rw [List.getElem?_take] at hy
              split at hy
              · rw [List.getD_eq_getElem?_getD, hy]; rfl
              · cases hy
            have : (cells (.int .u8) y) = [.val (.int .u8 y)] := rfl
            rw [this] at hl
            match f with
            | 0 =>
              simp only [List.getElem?_cons_zero, Option.some.injEq] at hl
              subst hl
              rw [hyz]
              exact .val _
            | f + 1 => simp at hl)
        rw [ht] at this
        exact this

theorem walk {w : World} {a : Option Addr} {len cap : Nat} {zs : List Int} (h : IsRow .u8 w a len cap zs) :
    Calls Tryz.prog 3 #[.slice a len cap] w fun e w' => e = .returned (.bool true) ∧ Up w w' ∧ ∀ b, b < w.heap.size → w'.heap[b]? = w.heap[b]? := by
  have hc : PCall Tryz.prog 3 [.v (false, [.sl (.int .u8) (zs.take len)])] (.one (false, [.val (.bool true)])) := w_FnStages_c (zs.take len) true (FnStages_law _)
  have := hc.2 w [.slice a len cap] (fun _ _ _ => False) rfl (fun _ _ _ h => h.elim) (fun _ _ _ _ _ h => h.elim) (fun k ad v hk hv => by
    match k with
    | k + 1 => simp at hk
    | 0 =>
      simp only [List.getElem?_cons_zero, Option.some.injEq] at hk hv
      subst hk; subst hv
      refine ⟨fun _ _ h => h, ?_⟩
      have hX : (fun b => ∃ (k j : Nat), (fun (_ _ _ : Nat) => False) k j b) = fun _ => False := by
        funext b; simp
      rw [hX]
      exact row_rd h)
  refine this.mono ?_
  rintro e w' ⟨rv, rfl, hup, hkeep, _, us, R, hrv, how, hone⟩
  refine ⟨?_, hup, fun b hb => hkeep b hb (by simp)⟩
  have hl : us.length = 1 := how.len
  match us, hl with
  | [u], _ =>
    have := how.own 0 _ _ rfl rfl
    cases this
    rw [hrv]
    rfl

theorem same {W W' : World} (h : ∀ b, b < W.heap.size → W'.heap[b]? = W.heap[b]?) {p : MemPlace} (hp : p.block < W.heap.size) : W.sameAt W' p := by
  cases p with
  | cell b o => exact World.cell?_of_block (w := W) (h b hp)
  | map b => exact h b hp

set_option maxRecDepth 100000 in
theorem lifted (os : Os) (started : os.Started) (H : Type) (enc : TypeId × Value → H) :
    ReturnsInHanded {} Tryz.checked os 3 .any (Rows.fnStagesSpec.pre6 enc Tryz.prog Tryz.f3 Rows.fnStagesRow.domain false) (Rows.fnStagesSpec.post enc Tryz.prog Tryz.f3 false true false false) := by
  refine returnsInHanded_of_change_sized (C := Tryz.checked) own started (by kernel_rfl) Tryz.func3
    (ChangeSpec.witness6 (enc := enc) (C := Tryz.checked) false ⟨#[], #[.slice none 0 0], []⟩ 8 (by kernel_rfl) (by kernel_rfl) (by kernel_rfl) (by kernel_rfl)) ?_
  intro W base args ds gs before hval0 hW hcnd hsz0 _
  have hval : ∀ (j : Nat) t v, Tryz.f3.params[j]? = some t → args[j]? = some v → Value.okWide Tryz.prog W .any base t v := hval0
  have hW' := hW
  obtain ⟨p, q, hA0, hV, rfl, hfz, hnd⟩ := hW
  have hA : DataW.TrodAll enc Tryz.prog W 0 (fun _ => true) true Tryz.f3.params.toList args.toList ds p := hA0
  rw [Tryz.params3] at hA hval
  obtain ⟨v0, vs0, d0, ds0, p0, q0, hargs, rfl, rfl, h0, r0⟩ := trodAll_cons hA
  obtain ⟨rfl, rfl, rfl⟩ := trodAll_nil r0
  obtain rfl : args = #[v0] := by cases args; simp_all
  obtain ⟨rfl, rfl⟩ := trodVars_none hV
  obtain ⟨a0, len0, cap0, rfl⟩ := okWide_slice Tryz.underlying22 (hval 0 22 v0 rfl rfl)
  have k0 := h0
  have lt0 : ∀ x ∈ p0, x.block < W.heap.size := by obtain ⟨m, hm⟩ := k0; exact DataW.trod_lt m _ _ _ hm
  obtain ⟨z0, w0⟩ : ∃ zs, IsRow .u8 W a0 len0 cap0 zs := by
    obtain ⟨fuel, hf⟩ := h0
    rcases open_ints Tryz.underlying22 Tryz.underlying5 (by kernel_rfl) hf with ⟨hcs, _⟩ | ⟨x, l, c, zs, hcs, _, hl, hm, hz, _, hcell, hwz⟩
    · simp [Value.cells] at hcs
      obtain ⟨rfl, rfl, rfl⟩ := hcs
      exact ⟨[], .inl ⟨rfl, rfl, rfl, rfl⟩⟩
    · simp [Value.cells] at hcs
      obtain ⟨rfl, rfl, rfl⟩ := hcs
      exact ⟨zs, .inr ⟨_, rfl, hl, hm, by simpa using hz, hcell, hwz⟩⟩
  clear hA0 hval0 hsz0
  refine (walk w0).mono fun e W' ⟨he, hup, hkeep⟩ => ?_
  subst he
  have hframe : ∀ may : MemPlace → Prop, W.keptBut W' may := fun may => by
    refine ⟨hup.os, hup.output, fun i hi => ?_⟩
    rw [hkeep i hi]
    split <;> simp_all
  have htrod : DataW.Trod enc Tryz.prog W' 0 (fun b => decide (b < W.heap.size)) true 22 (.slice a0 len0 cap0) d0 p0 :=
    WideElems.Trod_stays laidOut (by kernel_rfl) (of_decide_eq_true (by kernel_rfl)) k0 (fun x hx => same hkeep (lt0 x hx)) (fun x hx => by simpa using lt0 x hx)
  exact ⟨_, rfl, _, _, _, [], _, [], hW', trodAll_mk1 (shut_bool Tryz.underlying4 _), (trodAll_cons_mk htrod trodAll_mk0), rfl, hframe _, fun h => by cases h⟩

theorem over : Rows.fnStagesRow.holds Tryz.pinned (OpenSpec.ofChange Rows.fnStagesSpec) :=
  OpenClaim.holds_of_wide 3 Tryz.f3 rfl rfl rfl rfl rfl rfl rfl ⟨rfl, rfl, rfl, rfl, rfl⟩ rfl rfl rfl rfl rfl (by kernel_rfl) Tryz.func3 (by kernel_rfl)
    (of_decide_eq_true (by kernel_rfl)) (by unfold Func.isWrapper; first | (rw [if_pos (by decide +kernel)]; kernel_rfl) | (rw [if_neg (by decide +kernel)]; exact ⟨rfl, rfl⟩))
    (fun os started H enc _ => lifted os started H enc)
theorem proved : Rows.FnStagesSaid := over
end Go.Proofs.YtiaajpccepjaeaaGreat.fnStages
namespace Go.Proofs.YtiaajpccepjaeaaGreat
/-- The row. -/
theorem fnStages_holds : Rows.FnStagesSaid := fnStages.proved
end Go.Proofs.YtiaajpccepjaeaaGreat
