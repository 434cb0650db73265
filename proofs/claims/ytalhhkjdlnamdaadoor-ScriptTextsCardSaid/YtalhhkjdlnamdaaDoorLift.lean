/-
  What a walk gives at a row: the listed variables read, the frame.
-/
import Derived.Test.YtalhhkjdlnamdaaDoorKit
import Derived.Test.YtalhhkjdlnamdaaDoorWf
import Derived.Test.YtalhhkjdlnamdaaDoorTie
import Derived.Test.YtalhhkjdlnamdaaDoorCards
import Derived.WalkKit
import Derived.ProofKit
import Derived.OpenShut
import Derived.Deep.DeepHandedRow
import Derived.Lib.LaidTab
import Derived.LaidLaws
import Derived.LaidMore
import Derived.Lay
import Derived.SevenTiedAt
import Derived.Stop.Joined
import Derived.Stop.LaidErr
namespace Go.Proofs
open Go Go.SX Go.ChangeShapes Go.WideShapes Go.ChangeAt Go.RowKit
set_option maxRecDepth 100000
theorem Tryd.own : ownKnob Tryd.prog.godebug = none := by kernel_rfl
theorem Tryd.gPow : Tryd.prog.globalNamed "internal/strconv.uint64pow10" = some 21 := by kernel_rfl
theorem Tryd.gLong : Tryd.prog.globalNamed "quorate/api.ErrLong" = some 0 := by kernel_rfl
theorem Tryd.gForm : Tryd.prog.globalNamed "quorate/api.ErrForm" = some 1 := by kernel_rfl
theorem Tryd.tLong : (Tryd.prog.globals[0]?).map (·.type) = some 25 := by kernel_rfl
theorem Tryd.tForm : (Tryd.prog.globals[1]?).map (·.type) = some 25 := by kernel_rfl

theorem var_obj {P : Program} {W : World} {n : String} {g : Nat} {cs : Array Value} (hg : P.globalNamed n = some g) (h : W.var? P n = some cs) : ∃ e f, W.heap[g]? = some (.cells cs e f) := by
  unfold World.var? at h
  rw [hg] at h
  simp only [Option.bind_some] at h
  split at h
  · next cs' e f he => cases h; exact ⟨e, f, he⟩
  · cases h

theorem laid_iface {P : Program} {n nm : String} {d : DataW Unit} {r : List (String × DataW Unit)} {W : World} {g : Nat} {ti : TypeId} {ms : Array (String × TypeId)}
    (h : laidMet P ((n, .iface nm d) :: r) W) (hg : P.globalNamed n = some g) (ht : (P.globals[g]?).map (·.type) = some ti) (hi : P.underlying ti = some (.interface ms)) :
    ∃ arr e f u v, W.heap[g]? = some (.cells arr e f) ∧ arr[0]? = some (.iface u v) := by
  obtain ⟨ps, ⟨g0, t0, cs0, f0, p0, q0, hg0, ht0, hv0, hd0, _, e0⟩, _, _⟩ := h
  obtain rfl := Option.some.inj (hg.symm.trans hg0)
  obtain rfl := Option.some.inj (ht.symm.trans ht0)
  obtain ⟨fu, u, v, h1, _, _⟩ := iface_of_trod hi hd0
  obtain ⟨e, f, h2⟩ := var_obj hg hv0
  refine ⟨cs0, e, f, u, v, h2, ?_⟩
  rw [← Array.getElem?_toList, h1]; rfl

/-- the whole of a world, as memory that only is read -/
def RO.of (W : World) : RO := fun k => W.heap[k]?
theorem RO.var {P : Program} {W w : World} {n : String} {cs : Array Value} (hw : ∀ k o, RO.of W k = some o → w.heap[k]? = some o) (h : W.var? P n = some cs) : w.var? P n = some cs := by
  unfold World.var? at h ⊢
  cases hg : P.globalNamed n with
  | none => rw [hg] at h; cases h
  | some g =>
    rw [hg] at h
    simp only [Option.bind_some] at h ⊢
    split at h
    · next cs' e f he => rw [hw g _ he]; exact h
    · cases h
theorem RO.cell {W w : World} {g i : Nat} {v : Value} (hw : ∀ k o, RO.of W k = some o → w.heap[k]? = some o) (h : W.cell? ⟨g, i, none⟩ = some v) : w.cell? ⟨g, i, none⟩ = some v := by
  unfold World.cell? at h ⊢
  cases hg : W.heap[g]? with
  | none => simp only [hg] at h; cases h
  | some o => simp only [hg] at h; rw [hw g o hg]; exact h

theorem Gl.of {W : World} {m : Int} (hpow : Lib.TabIs Tryd.prog W "internal/strconv.uint64pow10" .u64 Lib.pow10Tab) (hmax : W.cell? ⟨18, 0, none⟩ = some (.int .i64 m))
    (h0 : ∃ arr e f u v, W.heap[0]? = some (.cells arr e f) ∧ arr[0]? = some (.iface u v)) (h1 : ∃ arr e f u v, W.heap[1]? = some (.cells arr e f) ∧ arr[0]? = some (.iface u v)) : Gl (RO.of W) := by
  obtain ⟨a0, e0, f0, u0, v0, p0, q0⟩ := h0
  obtain ⟨a1, e1, f1, u1, v1, p1, q1⟩ := h1
  exact ⟨fun w hw => RO.var hw hpow, ⟨m, fun w hw => RO.cell hw hmax⟩, a0, e0, f0, a1, e1, f1, u0, v0, u1, v1, p0, q0, p1, q1⟩

/-- what a law's walk gives at a call's own first world -/
theorem CallW.law {P : Program} {f : FuncId} {args : List SV} {vs : List Value} {W : World} (h : CallW P f args (RO.of W) [] (BoolRes (RO.of W) true)) (hv : DL [] (toSC args) vs) :
    Calls P f vs.toArray W fun e W' => e = .returned (.bool true) ∧ Below W.heap.size W W' := by
  refine callsIn_wide.1 ((h ⟨W, [], RO.of W⟩ W [] vs ⟨rfl, rfl, rfl, Nat.le_refl _, fun _ _ _ => rfl, ⟨[], rfl⟩, fun k ho => .inl ho⟩ ⟨rfl, fun n o hn => by simp at hn, fun n m b bs sz bs' sz' hn => by simp at hn, fun n b bs sz hn => by simp at hn, fun k o hk => hk, fun k o n bs sz _ hn => by simp at hn⟩ hv).mono ?_)
  rintro e w' ⟨v, sv, R', H', L, rfl, h1, h2, h3, h4, rfl, rfl, rfl⟩
  obtain rfl := raw_inv h1
  exact ⟨rfl, h3.os, h3.tape, h3.output, h3.size, fun k hk => h3.block k hk (fun ⟨n, bs, sz, hn⟩ => by simp at hn)⟩

theorem post_noplace {H : Type} {enc : TypeId × Value → H} {P : Program} {f : Func} {s : ChangeSpec} {apart fresh handsOn again : Bool} {W W' : World} {args : Array Value} {v : Value} {ds gs : List (DataW H)}
    (hW : DataW.Whole enc P f.params.toList s.vars apart W args.toList ds gs [])
    (hres : ∀ (b : Nat) (sp : Nat → Bool) (hd : Bool), DataW.TrodAll enc P W' b sp hd f.resultTypes.toList (v.resultList f.resultTypes.size) (s.fn H (ds ++ gs)).results [])
    (hargs : ∀ sp : Nat → Bool, DataW.TrodAll enc P W' 0 sp true f.params.toList args.toList (s.fn H (ds ++ gs)).args [])
    (hvars : ∀ sp : Nat → Bool, DataW.TrodVars enc P W' sp s.vars (s.fn H (ds ++ gs)).vars [])
    (hk : W.keptBut W' (· ∈ ([] : List MemPlace)))
    (hok : ∀ (j : Nat) (t : TypeId) (r : Value), f.resultTypes[j]? = some t → (v.resultList f.resultTypes.size)[j]? = some r → Value.okWide P W' .any 0 t r) :
    s.post enc P f apart fresh handsOn again W args v W' := by
  refine ⟨ds, gs, [], [], [], [], hW, hres _ _ _, hargs _, hvars _, World.keptBut_mono (fun p hp => absurd hp (by simp)) hk, fun _ => ?_⟩
  refine ⟨hok, _, _, [], ⟨[], [], trodAll_append (hargs _) (hres _ _ _), hvars _, rfl, ?_, ?_⟩, ?_⟩
  · intro b off hp; simp at hp
  · intro _; simp
  · intro p hp _; exact hp
end Go.Proofs
