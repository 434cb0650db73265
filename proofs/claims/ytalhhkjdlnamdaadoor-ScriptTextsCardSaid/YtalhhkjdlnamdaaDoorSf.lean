/-
  Range loops over functions, and the translation of a program's code.
-/
import Derived.Test.YtalhhkjdlnamdaaDoorSe
import Derived.RangeFuncRecord
import Derived.Shelf.Abstract
/- The symbolic machine: a function's contract. -/
namespace Go.SX
open Go

variable {P : Program} {T : List Blk} {cx : Cx} {F : Fence} {s : St} {a : Act} {w w' : World} {R : RO} {H : List SObj}

theorem dropD_ok {fn : Func} {tmps : Array Value} {Rr : Ending → World → Prop} {H' : List SObj} : ∀ {ns : List Nat} {ds : List Deferred} {H : List SObj} {w : World}, DD T ns ds → DH P w R T H → dropD ns H = some H' →
    (∀ w', DH P w' R T H' → WS w w' T [] → ∃ v, (results fn tmps).run P w' = .ok v w' ∧ Rr (.returned v) w') → LeavesInM F 0 P fn tmps Rr ds .returning w
  | [], _, H, w, .nil, hd, h, hk => by
    simp only [dropD] at h; cases h
    simp only [LeavesInM, LeavesIn]
    exact hk w hd (.refl _ _)
  | n :: r, _, H, w, .cons hb hr, hd, h, hk => by
    rename_i b bs sz ds
    simp only [dropD] at h
    split at h
    · rename_i ho
      have ho := hget_some ho rfl
      obtain ⟨b', sz', h1, h2⟩ := hd.obj n _ ho
      rw [h1] at hb
      simp only [Option.some.injEq, Blk.at.injEq] at hb
      obtain ⟨rfl, rfl, rfl⟩ := hb
      simp only [LeavesInM]
      refine ⟨by simp, .inl ⟨b', _, rfl, run_takeDeferred h2, ?_⟩⟩
      have hne : ∀ k, k ≠ b' → (w.putObj b' (.deferred none)).heap[k]? = w.heap[k]? := fun k hk => World.putObj_heap_other hk
      refine dropD_ok hr (hd.upd (x := .dead) h1 ⟨_, ho, rfl⟩ (by simp) hne trivial) h fun w' g1 g2 => hk w' g1 ?_
      have := (WS.upd (T := T) (w := w) (w' := w.putObj b' (.deferred none)) ⟨n, _, _, h1⟩ rfl rfl rfl (by simp) hne).trans (M := []) (by rw [List.append_nil]; exact g2)
      simpa using this
    · cases h

/-- what a call comes to, of a function with a body -/
theorem vcF_ok {f : FuncId} {fn : Func} {i : IF_} (hf : P.funcs[f]? = some fn) (ht : trF P fn = some i) {args : List SV} {K : SV → RO → List SObj → Prop}
    (h : vcF P i args R H K) : CallW P f args R H K := by
  intro cx w T vs hr hd hv
  obtain ⟨c, m, hb, hc, hnt, hres⟩ := trF_inv ht
  simp only [vcF] at h
  have hla := toSC_len args vs hv
  cases hle : Nat.ble (alen args) i.nt with
  | false => rw [hle] at h; exact h.elim
  | true =>
    rw [hle] at h
    simp only at h
    have hle := Nat.le_of_ble_eq_true hle
    have hfit : vs.length ≤ fn.ntmps := by omega
    refine callsIn_of_wp_marks hf hb trivial ?_
    have hden : Den P ⟨w, T, R⟩ Fence.wide ⟨R, H, argTm 0 args, i.nt, [], none, hlen H⟩ { tmps := vs.toArray ++ Array.replicate (fn.ntmps - vs.toArray.size) undef, defers := [] } w T := by
      refine ⟨⟨rfl, rfl, rfl, Nat.le_refl _, fun _ _ _ => rfl, ⟨[], by simp⟩, fun k hk => .inl hk⟩, hd, .refl _ _ _, ?_, ?_, .nil, rfl, by rw [hlen_eq]; exact Nat.le_of_eq hd.len⟩
      · have := argTm_ok args 0 vs [] (fn.ntmps - vs.toArray.size) hv rfl
        have e : ([] ++ vs ++ List.replicate (fn.ntmps - vs.toArray.size) undef).toArray = vs.toArray ++ Array.replicate (fn.ntmps - vs.toArray.size) undef := by
          apply Array.ext'; simp
        rw [e] at this; exact this
      · simp; omega
    refine wpIn_mono (vcC_ok c i.body m _ _ _ _ (by rw [← hnt] at hc; exact hc) h _ _ _ _ _ hden) ?_
    rintro e a' w' ⟨x, s', T', rfl, h1, h2, h3⟩
    have fin : vcOut (hlen H) s' i.res K → LeavesInM Fence.wide 0 P fn a'.tmps (fun e w' => ∃ v sv R' H' L, e = .returned v ∧ DV (T ++ L) sv v ∧ DH P w' R' (T ++ L) H' ∧ WS w w' T L ∧ RG R R' w T ∧ K sv R' H') a'.defers .returning w' := by
      intro h
      simp only [vcOut] at h
      split at h
      · exact h.elim
      · rename_i H1 hH1
        refine dropD_ok h1.dfr h1.dh hH1 fun w2 g1 g2 => ?_
        obtain ⟨vs', svs, e1, e2, e3⟩ := vcRs_ok (P := P) g1 h1.tm _ _ _ hres h
        obtain ⟨L, hL⟩ := h1.rel.pre
        simp only at hL
        have hrel : Rel ⟨w, T, R⟩ w2 T' := by have := h1.rel.step g2; rwa [List.append_nil] at this
        have hws : WS w w2 T L := ⟨hrel.os, hrel.tape, hrel.output, hrel.size, hrel.block, fun k hk => hrel.own k (by rw [hL]; exact hk)⟩
        have hrun : ∃ v, (results fn a'.tmps).run P w2 = .ok v w2 ∧ DV T' (retSV svs) v := by
          have : (results fn a'.tmps) = (do let vs ← fn.results.mapM (rs1 a'.tmps); pure (if h : vs.size = 1 then vs[0] else .tuple vs)) := by
            unfold results rs1; rfl
          rw [this, ← Array.toArray_toList (xs := fn.results), List.mapM_toArray]
          simp only [Sem.run_bind, Sem.run_map, e1, Result.andThen_ok]
          refine ⟨_, rfl, ?_⟩
          match svs, vs', e2 with
          | [], _, .nil => exact .tup (arr := #[]) .nil
          | [x], _, .cons p .nil => exact p
          | x :: y :: r, _, .cons p (.cons q t) => exact .tup (by simpa [toSC] using DL.cons p (.cons q t))
        obtain ⟨v, hv1, hv2⟩ := hrun
        refine ⟨v, hv1, ?_⟩
        split at e3
        · rename_i H2 hb1 hH2
          have hbase : T'.take (hlen H) = T := by rw [hL, hlen_eq, ← hd.len]; simp
          refine ⟨v, _, _, _, [], rfl, ?_, ?_, ?_, ?_, e3⟩
          · have := DV.trim (hlen H) hb1 hv2; rw [hbase] at this; simpa using this
          · have := g1.trim hH2; rw [hbase] at this; simpa using this
          · exact ⟨hrel.os, hrel.tape, hrel.output, hrel.size, hrel.block, fun k hk => .inl (by simpa using hk)⟩
          · exact h1.rg
        · exact ⟨v, _, _, _, L, rfl, by rw [← hL]; exact hv2, by rw [← hL]; exact g1, hws, h1.rg, e3⟩
    cases x with
    | normal => exact fin h3
    | ret => exact fin h3
    | exit id => exact h3.elim

theorem ent_of {f : FuncId} {fn : Func} (hf : P.funcs[f]? = some fn) (hn : (fn.name == "runtime.NumGoroutine") = false) (hb : fn.body.isSome = true) : Ent P f := by
  cases hc : fn.body with
  | none => rw [hc] at hb; cases hb
  | some c => exact fun args w => Go.Proofs.enters_of hf hn hc args w

end Go.SX

/- The symbolic machine: loops. -/
namespace Go.SX
open Go

variable {P : Program} {T : List Blk} {cx : Cx} {F : Fence} {s : St} {a : Act} {w w' : World} {R : RO} {H : List SObj}

/-- within a loop, at its body's head -/
def LoopIn (F : Fence) (P : Program) (c : Code) (Q : Exit → Act → World → Prop) (a : Act) (w : World) : Prop :=
  ∀ (b : Frame) (k : List Item) (cs : List Frame), b.roundOf = F.round → F.fn b.fn → F.room (cs.length + 1 + 0) →
    ∃ e a' w', Q e a' w' ∧ ArrivesIn (Machine.fenced P F) P (lone (b.atR a (.code c :: .inLoop c :: k)) cs w) b k cs e a' w'

theorem LoopIn.loop {c : Code} {Q : Exit → Act → World → Prop} (h : LoopIn F P c Q a w) : (Code.loop c).wpIn F 0 P Q a w := by
  intro b k cs hro hb hr
  obtain ⟨e, a', w', hq, harr⟩ := h b k cs hro hb hr
  exact ⟨e, a', w', hq, .of_steps (.one (fenced_calm hb hr rfl) stepR_loop) harr⟩

theorem LoopIn.round {c : Code} {Q : Exit → Act → World → Prop} (h : c.wpIn F 0 P (Exit.then (LoopIn F P c Q) Q) a w) : LoopIn F P c Q a w := by
  intro b k cs hro hb hr
  obtain ⟨e, a₁, w₁, hq, harr⟩ := h b (.inLoop c :: k) cs hro hb hr
  cases e with
  | normal =>
    obtain ⟨e₂, a₂, w₂, hq₂, harr₂⟩ := hq b k cs hro hb hr
    exact ⟨e₂, a₂, w₂, hq₂, .of_steps (StepsIn.trans harr (.one (fenced_calm hb hr rfl) stepR_inLoop)) harr₂⟩
  | exit id => exact ⟨_, a₁, w₁, hq, .pass (x := .inLoop c) rfl (fun _ _ => .inl (by simp)) harr⟩
  | goto l => exact ⟨_, a₁, w₁, hq, .pass (x := .inLoop c) rfl (fun _ _ => .inl (by simp)) harr⟩
  | ret => exact ⟨_, a₁, w₁, hq, .pass (x := .inLoop c) rfl (fun _ _ => .inl (by simp)) harr⟩
  | panic ch => exact ⟨_, a₁, w₁, hq, .pass (x := .inLoop c) rfl (fun _ _ => .inl (by simp)) harr⟩
  | outgrown => exact ⟨_, a₁, w₁, hq, .pass (x := .inLoop c) rfl (fun _ _ => .inl (by simp)) harr⟩

/-- a state, at a loop's head -/
inductive Lp (P : Program) (ic : IC) (s : St) (K : Xit → St → Prop) : Prop
  | mk (h : ∀ (c : Code) (m : Nat), trC P s.nt m c = some ic → ∀ (cx : Cx) (F : Fence) (a : Act) (w : World) (T : List Blk), Den P cx F s a w T →
      LoopIn F P c (fun e a' w' => ∃ x s' T', e = Xit.real x ∧ Den P cx F s' a' w' T' ∧ s'.nt = s.nt ∧ K x s') a w) : Lp P ic s K

def St.keep (s : St) (m : Nat) : St := { s with tm := s.tm.keep m }

theorem Lp.weak {ic : IC} {K : Xit → St → Prop} {m : Nat} (h : Lp P ic (s.keep m) K) : Lp P ic s K := by
  cases h with
  | mk h => exact ⟨fun c m' hc cx F a w T hd => h c m' hc cx F a w T (hd.keep m)⟩

theorem Lp.unroll {ic : IC} {N : St → Prop} {E : Nat → St → Prop} {Rt : St → Prop} (h : vcC P ic s (fun s' => Lp P ic s' (jn N E Rt)) E Rt) : Lp P ic s (jn N E Rt) := by
  refine ⟨fun c m hc cx F a w T hd => LoopIn.round ?_⟩
  refine wpIn_mono (vcC_ok c ic m s _ _ _ hc h cx F a w T hd) ?_
  rintro e a' w' ⟨x, s', T', rfl, h1, h2, h3⟩
  cases x with
  | normal =>
    have h3 : Lp P ic s' (jn N E Rt) := h3
    cases h3 with
    | mk h3 =>
      have := h3 c m (by rw [h2]; exact hc) cx F a' w' T' h1
      intro b k cs hro hb hr
      obtain ⟨e, a2, w2, ⟨x, s2, T2, g1, g2, g3, g4⟩, g5⟩ := this b k cs hro hb hr
      exact ⟨e, a2, w2, ⟨x, s2, T2, g1, g2, g3.trans h2, g4⟩, g5⟩
  | exit id => exact ⟨.exit id, s', T', rfl, h1, h2, h3⟩
  | ret => exact ⟨.ret, s', T', rfl, h1, h2, h3⟩

theorem Lp.stuck {ic : IC} {m : Nat} {K : Xit → St → Prop} (h : Lp P ic s K) : Stuck P (.loop m ic) s K := by
  cases h with
  | mk h =>
    refine ⟨fun c m' hc cx F a w T hd => ?_⟩
    have : ∃ c' m2, c = .loop c' ∧ trC P s.nt m2 c' = some ic := by
      cases c with
      | loop c' =>
        simp only [trC] at hc
        cases hx : trC P s.nt (useC c' ||| m') c' with
        | none => rw [hx] at hc; cases hc
        | some i => rw [hx] at hc; cases hc; exact ⟨c', _, rfl, hx⟩
      | skip => simp [trC] at hc
      | region id ops d => simp only [trC] at hc; split at hc <;> first | (cases hc; done) | (cases hl : ops.toList.mapM (trO P s.nt ops) <;> rw [hl] at hc <;> cases d <;> simp at hc)
      | seq x y => simp only [trC] at hc; cases hx : trC P s.nt (useC y ||| m') x <;> cases hy : trC P s.nt m' y <;> rw [hx, hy] at hc <;> cases hc
      | cond c x y => simp only [trC] at hc; cases hx : trC P s.nt m' x <;> cases hy : trC P s.nt m' y <;> rw [hx, hy] at hc <;> cases hc
      | block id x => simp only [trC] at hc; cases hx : trC P s.nt m' x <;> rw [hx] at hc <;> cases hc
      | rangeFunc f ps x y => simp only [trC] at hc; cases hx : trC P s.nt (useC x ||| useC y ||| m') x <;> cases hy : trC P s.nt (useC x ||| useC y ||| m') y <;> rw [hx, hy] at hc <;> simp at hc
      | exit id => simp [trC] at hc
      | ret => simp [trC] at hc
      | label _ => simp [trC] at hc
      | goto _ => simp [trC] at hc
      | scope _ => simp [trC] at hc
      | refuse _ => simp [trC] at hc
    obtain ⟨c', m2, rfl, hc'⟩ := this
    exact (h c' m2 hc' cx F a w T hd).loop

/-- a loop, by a family of states and a measure; mk: the temporaries that are kept from round to round -/
theorem loop_rule {α : Type} (mk : Nat) (S : α → St) (I : α → Prop) (μ : α → Nat) {ic : IC} {m : Nat} {N : St → Prop} {E : Nat → St → Prop} {Rt : St → Prop} (x : α) (h0 : s.keep mk = S x) (hI : I x)
    (step : ∀ x, I x → ∀ K : St → Prop, (∀ s' y, s'.keep mk = S y → I y → μ y < μ x → K s') → vcC P ic (S x) K E Rt) : Stuck P (.loop m ic) s (jn N E Rt) := by
  have key : ∀ n x, μ x = n → I x → Lp P ic (S x) (jn N E Rt) := by
    intro n
    induction n using Nat.strongRecOn with
    | _ n ih =>
      intro x hx hI
      refine Lp.unroll (step x hI _ fun s' y h1 h2 h3 => ?_)
      refine Lp.weak (m := mk) ?_
      rw [h1]
      exact ih (μ y) (by omega) y rfl h2
  refine Lp.stuck (Lp.weak (m := mk) ?_)
  rw [h0]
  exact key _ x rfl hI

end Go.SX

/- The symbolic machine: a call's contract over its own few objects, used in a larger heap. -/
namespace Go.SX
open Go

variable {P : Program} {T : List Blk} {cx : Cx} {F : Fence} {s : St} {a : Act} {w w' : World} {R : RO} {H : List SObj}

mutual
def SV.ren (f : Nat → Nat) : SV → SV
  | .any => .any
  | .raw v => .raw v
  | .ptr n o => .ptr (f n) o
  | .ep n o i w fo => .ep (f n) o i w fo
  | .sl n o i w l c => .sl (f n) o i w l c
  | .rep v i w fo => .rep v i w fo
  | .agg cs => .agg (cs.ren f)
  | .tup cs => .tup (cs.ren f)
  | .ifc t v => .ifc t (v.ren f)
  | .fn g a b => .fn g (a.ren f) (b.ren f)
  | .yl n => .yl (f n)
  | .mp n => .mp (f n)
  | .ze => .ze
def SC.ren (f : Nat → Nat) : SC → SC
  | .nil => .nil
  | .cons k v r => .cons k (v.ren f) (r.ren f)
end

def Tm.ren (f : Nat → Nat) : Tm → Tm
  | .nil => .nil
  | .cons t v r => .cons t (v.ren f) (r.ren f)

def SObj.ren (f : Nat → Nat) : SObj → SObj
  | .dead => .dead
  | .cells cs e => .cells (cs.ren f) e
  | .buf es w e => .buf es w e
  | .mapo es c => .mapo es c
  | .loop l => .loop { l with tm := l.tm.ren f, dfr := f l.dfr }
  | .dfr => .dfr

theorem Tm.get_ren (f : Nat → Nat) (tm : Tm) (t : Nat) : (tm.ren f).get t = (tm.get t).ren f := by
  induction tm with
  | nil => rfl
  | cons k v r ih =>
    simp only [Tm.ren, Tm.get]
    cases Nat.beq k t with
    | true => rfl
    | false => exact ih

section
variable {A B : List Blk} {f : Nat → Nat}

mutual
/-- outwards -/
theorem DV.ren (hf : ∀ n b, A[n]? = some b → B[f n]? = some b) : ∀ {s : SV} {v : Value}, DV A s v → DV B (s.ren f) v
  | _, _, .any v => .any v
  | _, _, .raw v => .raw v
  | _, _, .ptr h => .ptr (hf _ _ h)
  | _, _, .ep h => .ep (hf _ _ h)
  | _, _, .sl h a b => .sl (hf _ _ h) a b
  | _, _, .sl0 h => .sl0 (hf _ _ h)
  | _, _, .slnil h => .slnil (hf _ _ h)
  | _, _, .ze => .ze
  | _, _, .rep h => .rep h
  | _, _, .agg h => .agg (DC.ren hf h)
  | _, _, .tup h => .tup (DL.ren hf h)
  | _, _, .ifc h => .ifc (DV.ren hf h)
  | _, _, .fn p q => .fn (DL.ren hf p) (DL.ren hf q)
  | _, _, .yl h => .yl (hf _ _ h)
  | _, _, .mp h => .mp (hf _ _ h)
theorem DC.ren (hf : ∀ n b, A[n]? = some b → B[f n]? = some b) : ∀ {s : SC} {l : List Value}, DC A s l → DC B (s.ren f) l
  | _, _, .nil => .nil
  | _, _, .one a b c => .one (DV.ren hf a) b (DC.ren hf c)
  | _, _, .many a b c d e => .many a (DV.ren hf b) c d (DC.ren hf e)
theorem DL.ren (hf : ∀ n b, A[n]? = some b → B[f n]? = some b) : ∀ {s : SC} {l : List Value}, DL A s l → DL B (s.ren f) l
  | _, _, .nil => .nil
  | _, _, .cons a b => .cons (DV.ren hf a) (DL.ren hf b)
end

mutual
/-- inwards -/
theorem DV.nre (hf : ∀ n b, B[f n]? = some b → A[n]? = some b) : ∀ (s : SV) {v : Value}, DV B (s.ren f) v → DV A s v
  | .any, v, _ => .any v
  | .raw v, _, h => by cases h; exact .raw v
  | .ptr n o, _, h => by cases h with | ptr h => exact .ptr (hf _ _ h)
  | .ep n o i w fo, _, h => by cases h with | ep h => exact .ep (hf _ _ h)
  | .sl n o i w l c, _, h => by
    cases h with
    | sl h a b => exact .sl (hf _ _ h) a b
    | sl0 h => exact .sl0 (hf _ _ h)
    | slnil h => exact .slnil (hf _ _ h)
  | .rep v i w fo, _, h => by cases h with | rep h => exact .rep h
  | .agg cs, _, h => by cases h with | agg h => exact .agg (DC.nre hf cs h)
  | .tup cs, _, h => by cases h with | tup h => exact .tup (DL.nre hf cs h)
  | .ifc t s, _, h => by cases h with | ifc h => exact .ifc (DV.nre hf s h)
  | .fn g a b, _, h => by cases h with | fn p q => exact .fn (DL.nre hf a p) (DL.nre hf b q)
  | .yl n, _, h => by cases h with | yl h => exact .yl (hf _ _ h)
  | .mp n, _, h => by cases h with | mp h => exact .mp (hf _ _ h)
  | .ze, _, h => by cases h; exact .ze
theorem DC.nre (hf : ∀ n b, B[f n]? = some b → A[n]? = some b) : ∀ (s : SC) {l : List Value}, DC B (s.ren f) l → DC A s l
  | .nil, _, h => by cases h; exact .nil
  | .cons k v r, _, h => by
    cases h with
    | one a b c => exact .one (DV.nre hf v a) b (DC.nre hf r c)
    | many a b c d e => exact .many a (DV.nre hf v b) c d (DC.nre hf r e)
theorem DL.nre (hf : ∀ n b, B[f n]? = some b → A[n]? = some b) : ∀ (s : SC) {l : List Value}, DL B (s.ren f) l → DL A s l
  | .nil, _, h => by cases h; exact .nil
  | .cons k v r, _, h => by
    cases h with
    | cons a b => exact .cons (DV.nre hf v a) (DL.nre hf r b)
end

theorem DO.ren (hf : ∀ n b, A[n]? = some b → B[f n]? = some b) {n : Nat} {o : SObj} (h : DO P w A n o) : DO P w B (f n) (o.ren f) := by
  cases o with
  | dead => trivial
  | cells cs e => obtain ⟨b, arr, h1, h2, h3⟩ := h; exact ⟨b, arr, hf _ _ h1, h2, h3.ren hf⟩
  | buf es wd e =>
    rcases h with ⟨h1, h2⟩ | ⟨b, base, arr, post, pre, h1, h2⟩
    · exact .inl ⟨hf _ _ h1, h2⟩
    · exact .inr ⟨b, base, arr, post, pre, hf _ _ h1, h2⟩
  | mapo es clk => obtain ⟨b, sz, h1, h2⟩ := h; exact ⟨b, sz, hf _ _ h1, h2⟩
  | loop l =>
    obtain ⟨b, sz, r, h1, h2, h3⟩ := h
    obtain ⟨bs, sz', hd⟩ := h3.dfr
    exact ⟨b, sz, r, hf _ _ h1, h2, ⟨h3.st, h3.pend, h3.nt, fun t => by simp only [Tm.get_ren]; exact (h3.tm t).ren hf, h3.ps, h3.psl, h3.asg, h3.body, ⟨bs, sz', hf _ _ hd⟩⟩⟩
  | dfr => obtain ⟨b, sz, h1, h2⟩ := h; exact ⟨b, sz, hf _ _ h1, h2⟩

theorem DO.nre (hf : ∀ n b, B[f n]? = some b → A[n]? = some b) {n : Nat} (o : SObj) (h : DO P w B (f n) (o.ren f)) : DO P w A n o := by
  cases o with
  | dead => trivial
  | cells cs e => obtain ⟨b, arr, h1, h2, h3⟩ := h; exact ⟨b, arr, hf _ _ h1, h2, DC.nre hf _ h3⟩
  | buf es wd e =>
    rcases h with ⟨h1, h2⟩ | ⟨b, base, arr, post, pre, h1, h2⟩
    · exact .inl ⟨hf _ _ h1, h2⟩
    · exact .inr ⟨b, base, arr, post, pre, hf _ _ h1, h2⟩
  | mapo es clk => obtain ⟨b, sz, h1, h2⟩ := h; exact ⟨b, sz, hf _ _ h1, h2⟩
  | loop l =>
    obtain ⟨b, sz, r, h1, h2, h3⟩ := h
    obtain ⟨bs, sz', hd⟩ := h3.dfr
    exact ⟨b, sz, r, hf _ _ h1, h2, ⟨h3.st, h3.pend, h3.nt, fun t => by have := h3.tm t; simp only [Tm.get_ren] at this; exact DV.nre hf _ this, h3.ps, h3.psl, h3.asg, h3.body, ⟨bs, sz', hf _ _ hd⟩⟩⟩
  | dfr => obtain ⟨b, sz, h1, h2⟩ := h; exact ⟨b, sz, hf _ _ h1, h2⟩
end

theorem SObj.ren_live (f : Nat → Nat) (o : SObj) : (o.ren f).live = o.live := by cases o <;> rfl

/-- a few names among many; further names behind all -/
def rnm : List Nat → Nat → Nat → Nat
  | [], base, n => base + n
  | m :: r, base, n => match n with
    | 0 => m
    | n + 1 => rnm r base n

def renL (f : Nat → Nat) : List SV → List SV
  | [] => []
  | x :: r => x.ren f :: renL f r

def renH (f : Nat → Nat) : List SObj → List SObj
  | [] => []
  | x :: r => x.ren f :: renH f r

def happ : List SObj → List SObj → List SObj
  | [], l => l
  | x :: r, l => x :: happ r l

/-- the few names' objects put back -/
def mrg (f : Nat → Nat) : List Nat → List SObj → List SObj → List SObj
  | [], H', H => happ H (renH f H')
  | m :: r, H', H => match H' with
    | [] => H
    | o :: H' => mrg f r H' (hset H m (o.ren f))

def picks (H : List SObj) : List Nat → List SObj
  | [] => []
  | m :: r => hget H m :: picks H r

def allLive : List SObj → Bool
  | [] => true
  | o :: r => match o.live with
    | true => allLive r
    | false => false

def nodup : List Nat → Bool
  | [] => true
  | m :: r => match nin m r with
    | true => nodup r
    | false => false
  where nin (m : Nat) : List Nat → Bool
  | [] => true
  | k :: r => match Nat.beq m k with
    | true => false
    | false => nin m r

theorem renL_toSC (f : Nat → Nat) : ∀ l : List SV, toSC (renL f l) = (toSC l).ren f
  | [] => rfl
  | x :: r => by simp [renL, toSC, SC.ren, renL_toSC f r]

theorem renH_map (f : Nat → Nat) (l : List SObj) : renH f l = l.map (SObj.ren f) := by
  induction l with
  | nil => rfl
  | cons x r ih => simp [renH, ih]

theorem happ_eq (l m : List SObj) : happ l m = l ++ m := by
  induction l with
  | nil => rfl
  | cons x r ih => simp [happ, ih]

theorem picks_map (H : List SObj) (l : List Nat) : picks H l = l.map (hget H) := by
  induction l with
  | nil => rfl
  | cons x r ih => simp [picks, ih]

theorem rnm_lt : ∀ {ρ : List Nat} {base n : Nat} (h : n < ρ.length), rnm ρ base n = ρ[n]
  | m :: r, base, 0, h => rfl
  | m :: r, base, n + 1, h => by simp only [rnm]; rw [rnm_lt (by simpa using h)]; rfl

theorem rnm_ge : ∀ {ρ : List Nat} {base n : Nat} (h : ρ.length ≤ n), rnm ρ base n = base + (n - ρ.length)
  | [], base, n, h => by simp [rnm]
  | m :: r, base, n + 1, h => by simp only [rnm]; rw [rnm_ge (by simpa using h)]; simp

theorem nodup_ok {l : List Nat} (h : nodup l = true) : l.Nodup := by
  induction l with
  | nil => simp
  | cons m r ih =>
    have nin : ∀ r : List Nat, nodup.nin m r = true → m ∉ r := by
      intro r
      induction r with
      | nil => simp
      | cons k r ih =>
        intro h
        simp only [nodup.nin] at h
        cases hb : Nat.beq m k with
        | true => rw [hb] at h; cases h
        | false =>
          rw [hb] at h
          have : m ≠ k := fun e => by subst e; rw [beqT] at hb; cases hb
          simp [this, ih h]
    simp only [nodup] at h
    cases hn : nodup.nin m r with
    | false => rw [hn] at h; cases h
    | true => rw [hn] at h; exact List.nodup_cons.2 ⟨nin r hn, ih h⟩

theorem allLive_ok {l : List SObj} (h : allLive l = true) : ∀ o ∈ l, o.live = true := by
  induction l with
  | nil => simp
  | cons x r ih =>
    simp only [allLive] at h
    cases hx : x.live with
    | false => rw [hx] at h; cases h
    | true =>
      rw [hx] at h
      intro o ho
      rcases List.mem_cons.1 ho with rfl | ho
      · exact hx
      · exact ih h o ho

theorem mrg_len (f : Nat → Nat) : ∀ {ρ : List Nat} {H' H : List SObj}, ρ.length ≤ H'.length → (mrg f ρ H' H).length = H.length + (H'.length - ρ.length)
  | [], H', H, _ => by simp [mrg, happ_eq, renH_map]
  | m :: r, [], H, h => by simp at h
  | m :: r, o :: H', H, h => by
    simp only [mrg]
    rw [mrg_len f (by simpa using h), hset_eq]
    simp

theorem mrg_other (f : Nat → Nat) : ∀ {ρ : List Nat} {H' H : List SObj} {n : Nat}, ρ.length ≤ H'.length → n < H.length → n ∉ ρ → (mrg f ρ H' H)[n]? = H[n]?
  | [], H', H, n, _, hn, _ => by simp only [mrg, happ_eq]; rw [List.getElem?_append_left hn]
  | m :: r, [], H, n, h, _, _ => by simp at h
  | m :: r, o :: H', H, n, h, hn, hm => by
    simp only [mrg]
    rw [mrg_other f (by simpa using h) (by rw [hset_eq]; simpa using hn) (fun e => hm (by simp [e])), hset_eq]
    rw [List.getElem?_set_ne (fun e => hm (by simp [e]))]

theorem mrg_new (f : Nat → Nat) : ∀ {ρ : List Nat} {H' H : List SObj} {j : Nat}, ρ.length ≤ H'.length → (mrg f ρ H' H)[H.length + j]? = (H'[ρ.length + j]?).map (SObj.ren f)
  | [], H', H, j, _ => by simp only [mrg, happ_eq]; rw [List.getElem?_append_right (by omega), renH_map]; simp
  | m :: r, [], H, j, h => by simp at h
  | m :: r, o :: H', H, j, h => by
    simp only [mrg]
    have := mrg_new f (ρ := r) (H' := H') (H := hset H m (o.ren f)) (j := j) (by simpa using h)
    have hl : (hset H m (o.ren f)).length = H.length := by rw [hset_eq]; simp
    rw [hl] at this
    rw [this]
    have : (m :: r).length + j = (r.length + j) + 1 := by simp; omega
    rw [this]; simp

theorem mrg_old (f : Nat → Nat) : ∀ {ρ : List Nat} {H' H : List SObj} {i : Nat} (hi : i < ρ.length), ρ.length ≤ H'.length → ρ.Nodup → (∀ m ∈ ρ, m < H.length) → (mrg f ρ H' H)[ρ[i]]? = (H'[i]?).map (SObj.ren f)
  | m :: r, [], H, i, _, h, _, _ => by simp at h
  | m :: r, o :: H', H, 0, _, h, hd, hl => by
    simp only [mrg, List.getElem_cons_zero]
    have hm : m < H.length := hl m (by simp)
    rw [mrg_other f (by simpa using h) (by rw [hset_eq]; simpa using hm) (List.nodup_cons.1 hd).1, hset_eq, List.getElem?_set_self hm]
    simp
  | m :: r, o :: H', H, i + 1, hi, h, hd, hl => by
    simp only [mrg, List.getElem_cons_succ]
    rw [mrg_old f (by simpa using hi) (by simpa using h) (List.nodup_cons.1 hd).2 (fun x hx => by rw [hset_eq]; simpa using hl x (by simp [hx]))]
    simp

end Go.SX

/- The symbolic machine: the frame of a call. -/
namespace Go.SX
open Go

variable {P : Program} {T : List Blk} {cx : Cx} {F : Fence} {s : St} {a : Act} {w w' : World} {R : RO} {H : List SObj}

theorem frame {f : FuncId} {args : List SV} (ρ : List Nat) (Hs : List SObj) (xs : List SV) {Ks K : SV → RO → List SObj → Prop} (h : CallW P f xs R Hs Ks)
    (hl : allLive Hs = true) (hn : nodup ρ = true) (hh : picks H ρ = renH (rnm ρ (hlen H)) Hs) (ha : args = renL (rnm ρ (hlen H)) xs)
    (hk : ∀ sv R' H', Ks sv R' H' → K (sv.ren (rnm ρ (hlen H))) R' (mrg (rnm ρ (hlen H)) ρ H' H)) : CallW P f args R H K := by
  intro cx w T vs hr hd hv
  subst ha
  have hl := allLive_ok hl
  have hn := nodup_ok hn
  have hfb : hlen H = T.length := by rw [hlen_eq, hd.len]
  rw [picks_map, renH_map] at hh
  have hlen : ρ.length = Hs.length := by have := congrArg List.length hh; simpa using this
  -- the few names
  have hobj : ∀ i (hi : i < ρ.length), ∃ o, Hs[i]? = some o ∧ H[ρ[i]]? = some (o.ren (rnm ρ (SX.hlen H))) ∧ o.live = true := by
    intro i hi
    have h1 : (ρ.map (hget H))[i]? = (Hs.map (SObj.ren (rnm ρ (SX.hlen H))))[i]? := by rw [hh]
    have hi2 : i < Hs.length := by omega
    simp only [List.getElem?_map, List.getElem?_eq_getElem hi, List.getElem?_eq_getElem hi2, Option.map_some, Option.some.injEq] at h1
    have hlv := hl Hs[i] (List.getElem_mem hi2)
    exact ⟨Hs[i], by simp [hi2], hget_some h1 (by rw [SObj.ren_live]; exact hlv), hlv⟩
  have hlt : ∀ m ∈ ρ, m < H.length := by
    intro m hm
    obtain ⟨i, hi, rfl⟩ := List.getElem_of_mem hm
    obtain ⟨o, _, h2, _⟩ := hobj i hi
    exact (List.getElem?_eq_some_iff.1 h2).1
  let T' : List Blk := ρ.map fun m => T.getD m .absent
  have hT'l : T'.length = ρ.length := by simp [T']
  have hT' : ∀ i (hi : i < ρ.length), T'[i]? = T[ρ[i]]? := by
    intro i hi
    have hm : ρ[i] < T.length := by rw [hd.len]; exact hlt _ (List.getElem_mem hi)
    simp [T', hi, hm]
  have hout : ∀ n, ρ.length ≤ n → T'[n]? = none ∧ T[rnm ρ (SX.hlen H) n]? = none := by
    intro n hn'
    refine ⟨List.getElem?_eq_none (by omega), ?_⟩
    rw [rnm_ge hn', hfb]
    exact List.getElem?_eq_none (by omega)
  have hrev : ∀ n b, T[rnm ρ (SX.hlen H) n]? = some b → T'[n]? = some b := by
    intro n b hb
    by_cases hi : n < ρ.length
    · rw [hT' n hi]; rw [rnm_lt hi] at hb; exact hb
    · rw [(hout n (by omega)).2] at hb; cases hb
  have hown : ∀ k, OwnB T' k → OwnB T k := by
    rintro k ⟨n, bs, sz, hb⟩
    have hi : n < ρ.length := by have := (List.getElem?_eq_some_iff.1 hb).1; omega
    rw [hT' n hi] at hb
    exact ⟨_, bs, sz, hb⟩
  have hlive : ∀ i (hi : i < ρ.length), Live H ρ[i] := by
    intro i hi
    obtain ⟨o, _, h2, h3⟩ := hobj i hi
    exact ⟨_, h2, by rw [SObj.ren_live]; exact h3⟩
  have hds : DH P w R T' Hs := by
    have idx : ∀ n b, T'[n]? = some b → n < ρ.length := fun n b hb => by have := (List.getElem?_eq_some_iff.1 hb).1; omega
    refine ⟨by rw [hT'l, hlen], ?_, ?_, ?_, hd.ro, ?_⟩
    · intro n o ho
      have hi : n < ρ.length := by have := (List.getElem?_eq_some_iff.1 ho).1; omega
      obtain ⟨o', h1, h2, _⟩ := hobj n hi
      rw [ho] at h1; cases h1
      have := hd.obj _ _ h2
      rw [← rnm_lt (base := SX.hlen H) hi] at this
      exact DO.nre hrev o this
    · intro n m b bs sz bs' sz' h1 h2 _ _
      have hi := idx _ _ h1
      have hj := idx _ _ h2
      rw [hT' n hi] at h1; rw [hT' m hj] at h2
      have := hd.dis _ _ b bs sz bs' sz' h1 h2 (hlive n hi) (hlive m hj)
      exact (List.getElem_inj hn).1 this
    · intro n b bs sz h1
      have hi := idx _ _ h1
      rw [hT' n hi] at h1
      exact hd.lt _ b bs sz h1
    · intro k o n bs sz hk h1 _
      have hi := idx _ _ h1
      rw [hT' n hi] at h1
      exact hd.rod k o _ bs sz hk h1 (hlive n hi)
  have hvs : DL T' (toSC xs) vs := by rw [renL_toSC] at hv; exact DL.nre hrev _ hv
  have hcall := h ⟨w, T', R⟩ w T' vs ⟨rfl, rfl, rfl, Nat.le_refl _, fun _ _ _ => rfl, ⟨[], by simp⟩, fun k hk => .inl hk⟩ hds hvs
  refine hcall.mono ?_
  rintro e w' ⟨v, sv, R', H', L, rfl, g1, g2, g3, g4, g5⟩
  have hH' : H'.length = ρ.length + L.length := by rw [← g2.len]; simp [hT'l]
  have hfw : ∀ n b, (T' ++ L)[n]? = some b → (T ++ L)[rnm ρ (SX.hlen H) n]? = some b := by
    intro n b hb
    by_cases hi : n < ρ.length
    · rw [List.getElem?_append_left (by omega), hT' n hi] at hb
      rw [rnm_lt hi]; exact ext_get hb
    · rw [List.getElem?_append_right (by omega), hT'l] at hb
      rw [rnm_ge (by omega), hfb, List.getElem?_append_right (by omega)]
      have : T.length + (n - ρ.length) - T.length = n - ρ.length := by omega
      rw [this]; exact hb
  -- which name is whose
  have hTn : ∀ n, n < T.length + L.length → (∃ i, ∃ hi : i < ρ.length, n = ρ[i]) ∨ (n < T.length ∧ n ∉ ρ) ∨ (∃ j, j < L.length ∧ n = T.length + j) := by
    intro n hlt'
    by_cases h1 : n < T.length
    · by_cases h2 : n ∈ ρ
      · obtain ⟨i, hi, e⟩ := List.getElem_of_mem h2
        exact .inl ⟨i, hi, e.symm⟩
      · exact .inr (.inl ⟨h1, h2⟩)
    · exact .inr (.inr ⟨n - T.length, by omega, by omega⟩)
  have hle : ρ.length ≤ H'.length := by omega
  -- small index of a name, where it has one
  have hM1 : ∀ i (hi : i < ρ.length), (mrg (rnm ρ (SX.hlen H)) ρ H' H)[ρ[i]]? = (H'[i]?).map (SObj.ren (rnm ρ (SX.hlen H))) := fun i hi => mrg_old _ hi hle hn hlt
  have hM2 : ∀ n, n < T.length → n ∉ ρ → (mrg (rnm ρ (SX.hlen H)) ρ H' H)[n]? = H[n]? := fun n h1 h2 => mrg_other _ hle (by rw [← hd.len]; exact h1) h2
  have hM3 : ∀ j, (mrg (rnm ρ (SX.hlen H)) ρ H' H)[T.length + j]? = (H'[ρ.length + j]?).map (SObj.ren (rnm ρ (SX.hlen H))) := fun j => by rw [hd.len]; exact mrg_new _ hle
  have hTo : ∀ i (hi : i < ρ.length), (T ++ L)[ρ[i]]? = (T' ++ L)[i]? := by
    intro i hi
    have hm : ρ[i] < T.length := by rw [hd.len]; exact hlt _ (List.getElem_mem hi)
    rw [List.getElem?_append_left hm, List.getElem?_append_left (by omega), hT' i hi]
  have hTj : ∀ j, (T ++ L)[T.length + j]? = (T' ++ L)[ρ.length + j]? := by
    intro j
    rw [List.getElem?_append_right (by omega), List.getElem?_append_right (by omega)]
    congr 1; omega
  have small : ∀ n, n < T.length + L.length → ¬ (n < T.length ∧ n ∉ ρ) → ∃ i, n = rnm ρ (SX.hlen H) i ∧ (T ++ L)[n]? = (T' ++ L)[i]? ∧ (mrg (rnm ρ (SX.hlen H)) ρ H' H)[n]? = (H'[i]?).map (SObj.ren (rnm ρ (SX.hlen H))) := by
    intro n h1 h2
    rcases hTn n h1 with ⟨i, hi, rfl⟩ | h3 | ⟨j, hj, rfl⟩
    · exact ⟨i, (rnm_lt hi).symm, hTo i hi, hM1 i hi⟩
    · exact absurd h3 h2
    · exact ⟨ρ.length + j, by rw [rnm_ge (by omega), hfb]; omega, hTj j, hM3 j⟩
  have liveS : ∀ n i, (mrg (rnm ρ (SX.hlen H)) ρ H' H)[n]? = (H'[i]?).map (SObj.ren (rnm ρ (SX.hlen H))) → Live (mrg (rnm ρ (SX.hlen H)) ρ H' H) n → Live H' i := by
    rintro n i e ⟨o, h1, h2⟩
    rw [e] at h1
    cases hi : H'[i]? with
    | none => rw [hi] at h1; cases h1
    | some o' => rw [hi] at h1; cases h1; exact ⟨o', hi, by rw [SObj.ren_live] at h2; exact h2⟩
  -- a name that the call had not
  have apart : ∀ (n b bs sz : Nat), n < T.length → n ∉ ρ → (T ++ L)[n]? = some (Blk.at b bs sz) → Live (mrg (rnm ρ (SX.hlen H)) ρ H' H) n →
      T[n]? = some (Blk.at b bs sz) ∧ Live H n ∧ b < w.heap.size ∧ ¬ OwnB T' b := by
    intro n b bs sz h1 h2 h3 h4
    rw [List.getElem?_append_left h1] at h3
    have hlv : Live H n := by obtain ⟨o, e1, e2⟩ := h4; rw [hM2 n h1 h2] at e1; exact ⟨o, e1, e2⟩
    refine ⟨h3, hlv, hd.lt _ _ _ _ h3, ?_⟩
    rintro ⟨i, bs', sz', hb⟩
    have hi : i < ρ.length := by have := (List.getElem?_eq_some_iff.1 hb).1; omega
    rw [hT' i hi] at hb
    have := hd.dis _ _ _ _ _ _ _ h3 hb hlv (hlive i hi)
    exact h2 (by rw [this]; exact List.getElem_mem hi)
  have ownL : ∀ (n i b bs sz : Nat), (T ++ L)[n]? = (T' ++ L)[i]? → (T ++ L)[n]? = some (Blk.at b bs sz) → OwnB T' b ∨ w.heap.size ≤ b := by
    intro n i b bs sz e h1
    rw [e] at h1
    exact g3.own b ⟨i, bs, sz, h1⟩
  have inT : ∀ n b, (T ++ L)[n]? = some b → n < T.length + L.length := fun n b hb => by have := (List.getElem?_eq_some_iff.1 hb).1; simpa using this
  refine ⟨v, _, R', _, L, rfl, g1.ren hfw, ?_, ?_, ⟨g4.sub, fun k o hk => ?_⟩, hk _ _ _ g5⟩
  · refine ⟨?_, ?_, ?_, ?_, g2.ro, ?_⟩
    · rw [mrg_len _ hle, ← hd.len, hH']; simp
    · intro n o ho
      have hlt' : n < T.length + L.length := by
        have := (List.getElem?_eq_some_iff.1 ho).1
        rw [mrg_len _ hle, ← hd.len, hH'] at this; omega
      by_cases hc : n < T.length ∧ n ∉ ρ
      · rw [hM2 n hc.1 hc.2] at ho
        by_cases hlv : o.live = true
        · refine ((hd.obj n o ho).congr (w' := w') fun b bs sz hb => ?_).ext L
          obtain ⟨_, _, e3, e4⟩ := apart n b bs sz hc.1 hc.2 (ext_get hb) ⟨o, by rw [hM2 n hc.1 hc.2]; exact ho, hlv⟩
          exact g3.block b e3 e4
        · cases o with
          | dead => trivial
          | _ => exact absurd rfl hlv
      · obtain ⟨i, rfl, _, e2⟩ := small n hlt' hc
        rw [e2] at ho
        cases hi : H'[i]? with
        | none => rw [hi] at ho; cases ho
        | some o' => rw [hi] at ho; cases ho; exact (g2.obj i o' hi).ren hfw
    · intro n m b bs sz bs' sz' h1 h2 l1 l2
      have hn' := inT _ _ h1
      have hm' := inT _ _ h2
      by_cases hc : n < T.length ∧ n ∉ ρ
      · obtain ⟨e1, e2, e3, e4⟩ := apart n b bs sz hc.1 hc.2 h1 l1
        by_cases hc' : m < T.length ∧ m ∉ ρ
        · obtain ⟨e1', e2', _, _⟩ := apart m b bs' sz' hc'.1 hc'.2 h2 l2
          exact hd.dis _ _ _ _ _ _ _ e1 e1' e2 e2'
        · obtain ⟨j, rfl, q1, q2⟩ := small m hm' hc'
          rcases ownL _ _ _ _ _ q1 h2 with o1 | o1
          · exact absurd o1 e4
          · omega
      · obtain ⟨i, rfl, p1, p2⟩ := small n hn' hc
        by_cases hc' : m < T.length ∧ m ∉ ρ
        · obtain ⟨e1, e2, e3, e4⟩ := apart m b bs' sz' hc'.1 hc'.2 h2 l2
          rcases ownL _ _ _ _ _ p1 h1 with o1 | o1
          · exact absurd o1 e4
          · omega
        · obtain ⟨j, rfl, q1, q2⟩ := small m hm' hc'
          rw [p1] at h1; rw [q1] at h2
          rw [g2.dis i j b bs sz bs' sz' h1 h2 (liveS _ _ p2 l1) (liveS _ _ q2 l2)]
    · intro n b bs sz h1
      by_cases hc : n < T.length ∧ n ∉ ρ
      · rw [List.getElem?_append_left hc.1] at h1
        exact Nat.lt_of_lt_of_le (hd.lt _ _ _ _ h1) g3.size
      · obtain ⟨i, rfl, p1, p2⟩ := small n (inT _ _ h1) hc
        rw [p1] at h1
        exact g2.lt _ _ _ _ h1
    · intro k o n bs sz hk h1 l1
      by_cases hc : n < T.length ∧ n ∉ ρ
      · obtain ⟨e1, e2, e3, e4⟩ := apart n k bs sz hc.1 hc.2 h1 l1
        rcases g4.new k o hk with q | q | q
        · exact hd.rod k o n bs sz q e1 e2
        · exact e4 q
        · omega
      · obtain ⟨i, rfl, p1, p2⟩ := small n (inT _ _ h1) hc
        rw [p1] at h1
        exact g2.rod k o i bs sz hk h1 (liveS _ _ p2 l1)
  · refine ⟨g3.os, g3.tape, g3.output, g3.size, fun k hk hno => g3.block k hk (fun ho => hno (hown k ho)), ?_⟩
    rintro k ⟨n, bs, sz, hb⟩
    by_cases hlt' : n < T.length
    · rw [List.getElem?_append_left hlt'] at hb; exact .inl ⟨n, bs, sz, hb⟩
    · have : OwnB (T' ++ L) k := by
        rw [List.getElem?_append_right (by omega)] at hb
        exact ⟨T'.length + (n - T.length), bs, sz, by rw [List.getElem?_append_right (by omega)]; simpa using hb⟩
      rcases g3.own k this with q | q
      · exact .inl (hown k q)
      · exact .inr q
  · rcases g4.new k o hk with q | q | q
    · exact .inl q
    · exact .inr (.inl (hown k q))
    · exact .inr (.inr q)

/-- a contract, met where it is called -/
theorem CallAt.use {f : FuncId} {args : List SV} (ρ : List Nat) (Hs : List SObj) (xs : List SV) {Ks K : SV → RO → List SObj → Prop} (he : Ent P f) (h : CallW P f xs R Hs Ks)
    (hl : allLive Hs = true) (hn : nodup ρ = true) (hh : picks H ρ = renH (rnm ρ (hlen H)) Hs) (ha : args = renL (rnm ρ (hlen H)) xs)
    (hk : ∀ sv R' H', Ks sv R' H' → K (sv.ren (rnm ρ (hlen H))) R' (mrg (rnm ρ (hlen H)) ρ H' H)) : CallAt P f args R H K := .mk he (frame ρ Hs xs h hl hn hh ha hk)

end Go.SX
