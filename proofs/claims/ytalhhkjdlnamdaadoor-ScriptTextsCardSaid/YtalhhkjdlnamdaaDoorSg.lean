/-
  Rounds of a range over a function.
-/
import Derived.Test.YtalhhkjdlnamdaaDoorSf
import Derived.OrdersHeld
/- The symbolic machine: range over a function. -/
namespace Go.SX
open Go

variable {P : Program} {T : List Blk} {cx : Cx} {F : Fence} {s : St} {a : Act} {w w' : World} {R : RO} {H : List SObj}

def rngArgs (a c : SC) (l : Nat) : List SV := lapp (scl a) (.yl l :: scl c)

/-- the objects of a loop that is entered -/
def rngIn (s : St) (ps : List Nat) (asg body : IC) : Option (List SObj × List Nat × Nat) :=
  match s.rnd with
  | none => some (hpush (hpush s.heap .dfr) (.loop ⟨.ready, none, s.nt, s.tm, ps, asg, body, hlen s.heap⟩), hlen s.heap :: s.dfr, hlen s.heap + 1)
  | some n => match hget s.heap n with
    | .loop r => some (hpush s.heap (.loop ⟨.ready, none, s.nt, s.tm, ps, asg, body, r.dfr⟩), s.dfr, hlen s.heap)
    | _ => none

def vcRng (P : Program) (s : St) (f : Operand) (ps : List Nat) (asg body : IC) (N : St → Prop) (E : Nat → St → Prop) (Rt : St → Prop) : Prop :=
  match rngIn s ps asg body with
  | none => False
  | some (H1, ds, l) => match ev s.tm f with
    | .fn (.func g) a c => EntAt P g (rngArgs a c l) s.ro H1 fun _ R' H' => match hget H' l with
      | .loop r => match r.st with
        | .busy => False
        | _ => match r.pend with
          | none => N { s with ro := R', heap := hset H' l .dead, dfr := ds }
          | some x => match x with
            | .normal => False
            | .exit id => E id { s with ro := R', heap := hset H' l .dead, dfr := ds }
            | .ret => Rt { s with ro := R', heap := hset H' l .dead, dfr := ds }
      | _ => False
    | _ => False

def putArgs : Tm → List Nat → List SV → Tm
  | tm, p :: ps, x :: xs => putArgs (tm.put p x) ps xs
  | tm, _, _ => tm

def nlen : List Nat → Nat
  | [] => 0
  | _ :: r => nlen r + 1

def endRd (n : Nat) (s : St) (x : Option Xit) (K : SV → RO → List SObj → Prop) : Prop :=
  match s.dfr with
  | [] => match hget s.heap n with
    | .loop r => match x with
      | none => K (.raw (.bool true)) s.ro (hset s.heap n (.loop { r with st := .ready, pend := none }))
      | some x => K (.raw (.bool false)) s.ro (hset s.heap n (.loop { r with st := .done, pend := some x }))
    | _ => False
  | _ => False

/-- a round of the loop n -/
def vcRound (P : Program) (n : Nat) (args : List SV) (R : RO) (H : List SObj) (K : SV → RO → List SObj → Prop) : Prop :=
  match hget H n with
  | .loop r => match Nat.beq (alen args) (nlen r.ps) with
    | true => vcC P r.asg ⟨R, H, putArgs r.tm r.ps args, r.nt, [], some n, hlen H⟩
      (fun s1 => match hget s1.heap n with
        | .loop r1 => match r1.st with
          | .ready => vcC P r.body { s1 with heap := hset s1.heap n (.loop { r1 with st := .busy }) }
            (fun s2 => endRd n s2 none K) (fun id s2 => endRd n s2 (some (.exit id)) K) (fun s2 => endRd n s2 (some .ret) K)
          | _ => False
        | _ => False)
      (fun _ _ => False) (fun _ => False)
    | false => False
  | _ => False

/-! ### soundness -/
theorem loop_upd (hd : DH P w R T H) {n : Nat} {r : SLoop} (hr : hget H n = .loop r) (st : LoopState) (pend : Option Xit) (hp : pend.bind Xit.code = pend.bind Xit.code) :
    ∃ b sz rec, T[n]? = some (.at b 0 sz) ∧ w.heap[b]? = some (.loop rec) ∧ rec.state = r.st ∧ rec.pending = r.pend.bind Xit.code ∧ DLoop P T r rec ∧
      DH P (w.putObj b (.loop { rec with state := st, pending := pend.bind Xit.code })) R T (hset H n (.loop { r with st := st, pend := pend })) ∧
      WS w (w.putObj b (.loop { rec with state := st, pending := pend.bind Xit.code })) T [] := by
  have hr := hget_some hr rfl
  obtain ⟨b, sz, rec, h1, h2, h3⟩ := hd.obj n _ hr
  have hlt : b < w.heap.size := (Array.getElem?_eq_some_iff.1 h2).1
  have hne : ∀ k, k ≠ b → (w.putObj b (.loop { rec with state := st, pending := pend.bind Xit.code })).heap[k]? = w.heap[k]? := fun k hk => World.putObj_heap_other hk
  refine ⟨b, sz, rec, h1, h2, h3.st, h3.pend, h3, hd.upd h1 ⟨_, hr, rfl⟩ (by simp) hne ⟨b, sz, _, h1, World.putObj_heap_same hlt, ⟨rfl, rfl, h3.nt, h3.tm, h3.ps, h3.psl, h3.asg, h3.body, h3.dfr⟩⟩, .upd ⟨n, _, _, h1⟩ rfl rfl rfl (by simp) hne⟩

theorem putArgs_ok : ∀ (ps : List Nat) (xs : List SV) (vs : List Value) {tm : Tm} {tmps : Array Value}, DT T tm tmps → DL T (toSC xs) vs → (∀ p ∈ ps, p < tmps.size) →
    DT T (putArgs tm ps xs) ((ps.zip vs).foldl (fun tmps (t, a) => tmps.setIfInBounds t a) tmps) ∧ ((ps.zip vs).foldl (fun tmps (t, a) => tmps.setIfInBounds t a) tmps).size = tmps.size
  | [], xs, vs, tm, tmps, h, _, _ => by simp [putArgs]; exact h
  | p :: ps, [], vs, tm, tmps, h, hv, _ => by cases hv; simp [putArgs]; exact h
  | p :: ps, x :: xs, _, tm, tmps, h, hv, hl => by
    cases hv with
    | cons a b =>
      rename_i v vs
      have h1 := h.put (hl p (by simp)) a
      have := putArgs_ok ps xs vs h1 b (fun q hq => by simpa using hl q (by simp [hq]))
      simpa [putArgs] using this

theorem nlen_eq (l : List Nat) : nlen l = l.length := by induction l with | nil => rfl | cons x r ih => simp [nlen, ih]

theorem endRd_ok {n b sz : Nat} {s2 : St} {a2 : Act} {w2 : World} {T2 : List Blk} {x : Option Xit} {K : SV → RO → List SObj → Prop} (hd : Den P ⟨w, T, R⟩ F s2 a2 w2 T2) (hx : endRd n s2 x K) (hj : x.isNone = (x.bind Xit.code).isNone)
    (hT : T2[n]? = some (.at b 0 sz)) : ∃ v w', (Instr.endRound b (x.bind Xit.code)).run P w2 = .ok v w' ∧ ∃ sv R' H' L, DV (T ++ L) sv v ∧ DH P w' R' (T ++ L) H' ∧ WS w w' T L ∧ RG R R' w T ∧ K sv R' H' := by
  obtain ⟨L, hL⟩ := hd.rel.pre
  simp only at hL
  simp only [endRd] at hx
  have go : ∀ (r2 : SLoop) (st : LoopState) (bb : Bool), hget s2.heap n = .loop r2 → st = (if (x.bind Xit.code).isNone then .ready else .done) → bb = (x.bind Xit.code).isNone → K (.raw (.bool bb)) s2.ro (hset s2.heap n (.loop { r2 with st := st, pend := x })) →
      ∃ v w', (Instr.endRound b (x.bind Xit.code)).run P w2 = .ok v w' ∧ ∃ sv R' H' L, DV (T ++ L) sv v ∧ DH P w' R' (T ++ L) H' ∧ WS w w' T L ∧ RG R R' w T ∧ K sv R' H' := by
    intro r2 st bb hl2 hst hbb hK
    obtain ⟨b2, sz2, rec2, q1, q2, q3, q4, q5, q6, q7⟩ := loop_upd hd.dh hl2 st x rfl
    rw [q1] at hT
    simp only [Option.some.injEq, Blk.at.injEq, true_and] at hT
    obtain ⟨rfl, rfl⟩ := hT
    subst hst
    have hrel := hd.rel.step q7
    rw [List.append_nil] at hrel
    refine ⟨_, _, run_endRound _ q2, .raw (.bool bb), s2.ro, _, L, by subst hbb; exact .raw _, by rw [← hL]; exact q6, ⟨hrel.os, hrel.tape, hrel.output, hrel.size, hrel.block, fun k hk => hrel.own k (by rw [hL]; exact hk)⟩, hd.rg, hK⟩
  split at hx
  · split at hx
    · rename_i r2 hl2
      split at hx
      · exact go r2 .ready true hl2 rfl rfl hx
      · rename_i y
        have : (y.code).isNone = false := by simpa using hj.symm
        exact go r2 .done false hl2 (by simp [this]) (by simp [this]) hx
    · exact hx.elim
  · exact hx.elim

theorem round_rule {n : Nat} {args : List SV} {K : SV → RO → List SObj → Prop} (h : vcRound P n args R H K) : RoundAt P n args R H K := by
  refine ⟨fun cx w T vs b bs sz hr hd hv hn => ?_⟩
  simp only [vcRound] at h
  split at h
  · rename_i r hl
    have hl' := hget_some hl rfl
    obtain ⟨b', sz', rec, g1, g2, g3⟩ := hd.obj n _ hl'
    rw [hn] at g1
    simp only [Option.some.injEq, Blk.at.injEq] at g1
    obtain ⟨rfl, rfl, rfl⟩ := g1
    split at h
    · rename_i hlenA
      have hlenA := Nat.eq_of_beq_eq_true hlenA
      rw [nlen_eq] at hlenA
      have hvl := toSC_len args vs hv
      refine ⟨rec.fn, _, rec.assign, rec.body, run_yield g2 (by rw [← Array.length_toList (xs := rec.params), g3.ps]; simp; omega), ?_⟩
      refine roundIn_of_wpIn trivial ?_
      have hfold : (Array.zip rec.params vs.toArray).foldl (fun tmps (t, a) => tmps.setIfInBounds t a) rec.tmps = (r.ps.zip vs).foldl (fun tmps (t, a) => tmps.setIfInBounds t a) rec.tmps := by
        rw [← Array.foldl_toList, Array.toList_zip, g3.ps]
      have hpa := putArgs_ok r.ps args vs g3.tm hv (fun p hp => by rw [g3.nt]; exact g3.psl p hp)
      obtain ⟨ma, hma⟩ := g3.asg
      obtain ⟨mb, hmb⟩ := g3.body
      have hden : Den P ⟨w, T, R⟩ (Fence.wide.inRound b) ⟨R, H, putArgs r.tm r.ps args, r.nt, [], some n, hlen H⟩ { tmps := (Array.zip rec.params vs.toArray).foldl (fun tmps (t, a) => tmps.setIfInBounds t a) rec.tmps, defers := [] } w T := by
        refine ⟨⟨rfl, rfl, rfl, Nat.le_refl _, fun _ _ _ => rfl, ⟨[], by simp⟩, fun k hk => .inl hk⟩, hd, .refl _ _ _, ?_, ?_, .nil, ⟨b, _, _, hn, rfl⟩, by rw [hlen_eq]; exact Nat.le_of_eq hd.len⟩
        · simp only [hfold]; exact hpa.1
        · simp only [hfold]; rw [hpa.2, g3.nt]
      refine wpIn_mono (vcC_ok rec.assign r.asg ma _ _ _ _ hma h _ _ _ _ _ hden) ?_
      rintro e a1 w1 ⟨x, s1, T1, rfl, h1, h2, h3⟩
      cases x with
      | exit id => exact h3.elim
      | ret => exact h3.elim
      | normal =>
        simp only [jn] at h3
        split at h3
        · rename_i r1 hl1
          split at h3
          · rename_i hst
            obtain ⟨b1, sz1, rec1, q1, q2, q3, q4, q5, q6, q7⟩ := loop_upd h1.dh hl1 .busy r1.pend rfl
            have hT1 : ∀ {s' : St} {a' : Act} {w' : World} {T' : List Blk}, Den P ⟨w, T, R⟩ (Fence.wide.inRound b) s' a' w' T' → T'[n]? = some (.at b 0 sz) := by
              intro s' a' w' T' hd'
              obtain ⟨L, hL⟩ := hd'.rel.pre
              simp only at hL
              rw [hL]; exact ext_get hn
            have hTn := hT1 h1
            rw [q1] at hTn
            simp only [Option.some.injEq, Blk.at.injEq, true_and] at hTn
            obtain ⟨rfl, rfl⟩ := hTn
            have hpe : ({ rec1 with state := .busy, pending := r1.pend.bind Xit.code } : Loop) = { rec1 with state := .busy } := by rw [← q4]
            rw [hpe] at q6 q7
            refine ⟨_, run_beginRound q2 (by rw [q3]; exact hst), ?_⟩
            have hden2 : Den P ⟨w, T, R⟩ (Fence.wide.inRound b1) { s1 with heap := hset s1.heap n (.loop { r1 with st := .busy }) } a1 (w1.putObj b1 (.loop { rec1 with state := .busy })) T1 := by
              have := h1.rel.step q7
              rw [List.append_nil] at this
              exact ⟨this, q6, h1.rg, h1.tm, h1.nt, h1.dfr, h1.fw, h1.bs⟩
            refine wpIn_mono (vcC_ok rec.body r.body mb _ _ _ _ (by rw [show ({ s1 with heap := hset s1.heap n (.loop { r1 with st := .busy }) } : St).nt = s1.nt from rfl, h2]; exact hmb) h3 _ _ _ _ _ hden2) ?_
            rintro e a2 w2 ⟨x2, s2, T2, rfl, k1, k2, k3⟩
            have hT2 := hT1 k1
            cases x2 with
            | normal =>
              obtain ⟨v, w', m1, sv, R', H', L, m2⟩ := endRd_ok (x := none) k1 k3 rfl hT2
              exact ⟨v, w', m1, v, sv, R', H', L, rfl, m2⟩
            | exit id =>
              obtain ⟨v, w', m1, sv, R', H', L, m2⟩ := endRd_ok (x := some (.exit id)) k1 k3 rfl hT2
              exact ⟨v, w', m1, v, sv, R', H', L, rfl, m2⟩
            | ret =>
              obtain ⟨v, w', m1, sv, R', H', L, m2⟩ := endRd_ok (x := some .ret) k1 k3 rfl hT2
              exact ⟨v, w', m1, v, sv, R', H', L, rfl, m2⟩
          · exact h3.elim
        · exact h3.elim
    · exact h.elim
  · exact h.elim


theorem trC_rng {nt m : Nat} {c : Code} {f : Operand} {ps : List Nat} {asg body : IC} (hc : trC P nt m c = some (.rng f ps asg body)) :
    ∃ (pa : Array Tmp) (x y : Code) (m' : Nat), c = .rangeFunc f pa x y ∧ pa.toList = ps ∧ (∀ p ∈ ps, p < nt) ∧ trC P nt m' x = some asg ∧ trC P nt m' y = some body := by
  cases c with
  | rangeFunc g pa x y =>
    simp only [trC] at hc
    cases hx : trC P nt (useC x ||| useC y ||| m) x with
    | none => rw [hx] at hc; cases hc
    | some ix =>
      cases hy : trC P nt (useC x ||| useC y ||| m) y with
      | none => rw [hx, hy] at hc; cases hc
      | some iy =>
        rw [hx, hy] at hc
        simp only [Option.bind_eq_bind, Option.bind_some] at hc
        split at hc
        · rename_i hall
          cases hc
          refine ⟨pa, x, y, _, rfl, rfl, ?_, hx, hy⟩
          intro p hp
          simp only [Array.all_eq_true, decide_eq_true_eq] at hall
          obtain ⟨i, hi, rfl⟩ := List.getElem_of_mem hp
          simpa using hall i (by simpa using hi)
        · cases hc
  | skip => simp [trC] at hc
  | region id ops d => simp only [trC] at hc; split at hc <;> first | (cases hc; done) | (cases hl : ops.toList.mapM (trO P nt ops) <;> rw [hl] at hc <;> cases d <;> simp at hc)
  | seq x y => simp only [trC] at hc; cases hx : trC P nt (useC y ||| m) x <;> cases hy : trC P nt m y <;> rw [hx, hy] at hc <;> cases hc
  | cond c x y => simp only [trC] at hc; cases hx : trC P nt m x <;> cases hy : trC P nt m y <;> rw [hx, hy] at hc <;> cases hc
  | block id x => simp only [trC] at hc; cases hx : trC P nt m x <;> rw [hx] at hc <;> cases hc
  | loop x => simp only [trC] at hc; cases hx : trC P nt (useC x ||| m) x <;> rw [hx] at hc <;> cases hc
  | exit id => simp [trC] at hc
  | ret => simp [trC] at hc
  | label _ => simp [trC] at hc
  | goto _ => simp [trC] at hc
  | scope _ => simp [trC] at hc
  | refuse _ => simp [trC] at hc

theorem run_enterLoop_in {l : Nat} {r : Loop} (h : w.heap[l]? = some (.loop r)) (fn : FuncId) (tmps : Array Value) (ps : Array Tmp) (assign body : Code) :
    (Instr.enterLoop fn tmps ps assign body (some l)).run P w =
      .ok (w.heap.size, []) (w.alloc (.loop { state := .ready, pending := none, fn, tmps, params := ps, assign, body, defers := r.defers })) := by
  unfold Instr.enterLoop
  simp only [Sem.run_bind, run_getLoop h, Result.andThen, Sem.run_pure, run_newObj_alloc]

/-- the loop's record laid -/
theorem enter_ok {ps : Array Tmp} {x y : Code} {m' : Nat} {asg body : IC} {H1 : List SObj} {ds : List Nat} {l : Nat} (hd : Den P cx F s a w T) (hps : ∀ p ∈ ps.toList, p < s.nt) (hx : trC P s.nt m' x = some asg) (hy : trC P s.nt m' y = some body)
    (h : rngIn s ps.toList asg body = some (H1, ds, l)) (fn : FuncId) :
    ∃ b mark w1 L, (Instr.enterLoop fn a.tmps ps x y F.round).run P w = .ok (b, mark) w1 ∧ (T ++ L)[l]? = some (.at b 0 0) ∧ DH P w1 s.ro (T ++ L) H1 ∧ WS w w1 T L ∧ DD (T ++ L) ds (mark ++ a.defers) := by
  simp only [rngIn] at h
  have dl : ∀ (Tx : List Blk) (rec : Loop) (d : Nat) (sz' bs' : Nat), (∃ L, Tx = T ++ L) → rec.state = .ready → rec.pending = none → rec.tmps = a.tmps → rec.params = ps → rec.assign = x → rec.body = y → Tx[d]? = some (.at rec.defers bs' sz') →
      DLoop P Tx ⟨.ready, none, s.nt, s.tm, ps.toList, asg, body, d⟩ rec := by
    rintro Tx rec d sz' bs' ⟨L, rfl⟩ h1 h2 h3 h4 h5 h6 h7
    exact ⟨h1, h2, by rw [h3]; exact hd.nt, by rw [h3]; exact hd.tm.ext L, by rw [h4], hps, ⟨m', by rw [h5]; exact hx⟩, ⟨m', by rw [h6]; exact hy⟩, ⟨_, _, h7⟩⟩
  split at h
  · rename_i hrnd
    cases h
    have hF : F = Fence.wide := by have := hd.fw; rw [hrnd] at this; exact this
    subst hF
    obtain ⟨p1, p2, p3⟩ := alloc_ws w (.deferred (some []))
    have e1 : (T ++ [Blk.at w.heap.size 0 0])[s.heap.length]? = some (.at w.heap.size 0 0) := by rw [← hd.dh.len, List.getElem?_append_right (Nat.le_refl _)]; simp
    have d1 := hd.dh.push (x := .dfr) (sz := 0) p1 p2 ⟨w.heap.size, 0, e1, p3⟩
    have hsz : (w.alloc (.deferred (some []))).heap.size = w.heap.size + 1 := by simp
    generalize hW : w.alloc (.deferred (some [])) = W at p1 p2 p3 d1 hsz
    obtain ⟨q1, q2, q3⟩ := alloc_ws W (.loop { state := .ready, pending := none, fn, tmps := a.tmps, params := ps, assign := x, body := y, defers := w.heap.size })
    have hl1 : (hpush s.heap .dfr).length = s.heap.length + 1 := by rw [hpush_eq]; simp
    have hTl : (T ++ [Blk.at w.heap.size 0 0]).length = s.heap.length + 1 := by simp [hd.dh.len]
    have e2 : (T ++ [Blk.at w.heap.size 0 0] ++ [Blk.at W.heap.size 0 0])[s.heap.length + 1]? = some (.at W.heap.size 0 0) := by rw [← hTl, List.getElem?_append_right (Nat.le_refl _)]; simp
    have e3 : (T ++ [Blk.at w.heap.size 0 0] ++ [Blk.at W.heap.size 0 0])[s.heap.length]? = some (.at w.heap.size 0 0) := ext_get e1
    have d2 := d1.push (x := .loop ⟨.ready, none, s.nt, s.tm, ps.toList, asg, body, hlen s.heap⟩) (sz := 0) q1 q2 ⟨W.heap.size, 0, _, by rw [hl1]; exact e2, q3, dl _ _ _ 0 0 ⟨[Blk.at w.heap.size 0 0, Blk.at W.heap.size 0 0], by simp⟩ rfl rfl rfl rfl rfl rfl (by rw [hlen_eq]; exact e3)⟩
    have ws1 : WS w W T [.at w.heap.size 0 0] := .push (by rw [← hW]; rfl) (by rw [← hW]; rfl) (by rw [← hW]; rfl) (Nat.le_of_lt p1) p2
    have ws2 := ws1.trans (WS.push (T := T ++ [Blk.at w.heap.size 0 0]) (w' := W.alloc _) (sz := 0) rfl rfl rfl (Nat.le_of_lt q1) q2)
    refine ⟨w.heap.size + 1, [{ target := .collected w.heap.size, args := #[] }], _, [.at w.heap.size 0 0, .at W.heap.size 0 0], run_enterLoop_outer fn a.tmps ps x y, ?_, ?_, ?_, ?_⟩
    · rw [hlen_eq, ← hsz]; simpa using e2
    · rw [hW]; simpa using d2
    · rw [hW]; exact ws2
    · refine .cons (by rw [hlen_eq]; simpa using e3) ?_
      exact DD.ext _ hd.dfr
  · rename_i n hrnd
    split at h
    · rename_i r0 hl0
      cases h
      have hl0 := hget_some hl0 rfl
      obtain ⟨b0, sz0, rec0, g1, g2, g3⟩ := hd.dh.obj n _ hl0
      have hF := hd.fw
      rw [hrnd] at hF
      obtain ⟨b, bs, sz, g4, hF⟩ := hF
      rw [g1] at g4
      simp only [Option.some.injEq, Blk.at.injEq] at g4
      obtain ⟨rfl, rfl, rfl⟩ := g4
      subst hF
      obtain ⟨q1, q2, q3⟩ := alloc_ws w (.loop { state := .ready, pending := none, fn, tmps := a.tmps, params := ps, assign := x, body := y, defers := rec0.defers })
      obtain ⟨bd, szd, hdf⟩ := g3.dfr
      have e2 : (T ++ [Blk.at w.heap.size 0 0])[s.heap.length]? = some (.at w.heap.size 0 0) := by rw [← hd.dh.len, List.getElem?_append_right (Nat.le_refl _)]; simp
      have d2 := hd.dh.push (x := .loop ⟨.ready, none, s.nt, s.tm, ps.toList, asg, body, r0.dfr⟩) (sz := 0) q1 q2 ⟨w.heap.size, 0, _, e2, q3, dl _ _ _ szd bd ⟨_, rfl⟩ rfl rfl rfl rfl rfl rfl (ext_get hdf)⟩
      exact ⟨_, [], _, [.at w.heap.size 0 0], run_enterLoop_in g2 fn a.tmps ps x y, by rw [hlen_eq]; exact e2, d2, .push rfl rfl rfl (Nat.le_of_lt q1) q2, DD.ext _ hd.dfr⟩
    · cases h

theorem callsIn_any {rnd : Option Nat} (hf : FW F T rnd) {g : FuncId} {args : Array Value} {Rr : Ending → World → Prop} (h : CallsIn Fence.wide 0 P g args w Rr) : CallsIn F 0 P g args w Rr := by
  cases rnd with
  | none => have e : F = Fence.wide := hf
            subst e; exact h
  | some n => obtain ⟨b', _, _, _, e⟩ := hf; subst e; exact CallsIn.inRound b' h

theorem RG.step2 {R0 R R' : RO} {c : Cx} {w1 : World} {L : List Blk} (h : RG R0 R c.w0 c.T0) (hr : Rel c w T) (hw : WS w w1 T L) (g : RG R R' w1 (T ++ L)) : RG R0 R' c.w0 c.T0 :=
  h.step (hr.step hw) g

theorem rng_rule {f : Operand} {ps : List Nat} {asg body : IC} {N : St → Prop} {E : Nat → St → Prop} {Rt : St → Prop} (h : vcRng P s f ps asg body N E Rt) : Stuck P (.rng f ps asg body) s (jn N E Rt) := by
  refine ⟨fun c m hc cx F a w T hd => ?_⟩
  obtain ⟨pa, x, y, m', rfl, rfl, hps, hx, hy⟩ := trC_rng hc
  simp only [vcRng] at h
  split at h
  · exact h.elim
  · rename_i H1 ds l hin
    split at h
    · rename_i g p q hf
      cases h with
      | mk he hcall =>
      have hfv := ev_ok hd.tm f
      rw [hf] at hfv
      obtain ⟨fa, fc, hv, hfa, hfc⟩ := fn_inv hfv
      refine wpIn_rangeFunc fun fn hfn => ?_
      obtain ⟨b, mark, w1, L1, k1, k2, k3, k4, k5⟩ := enter_ok hd hps hx hy hin fn
      have hargs : DL (T ++ L1) (toSC (rngArgs p q l)) (fa.toList ++ (.func (.yield b) #[] #[] :: fc.toList)) :=
        toSC_scl_app p (hfa.ext L1) (.cons (.yl k2) (toSC_scl q (hfc.ext L1)))
      have hrel1 := hd.rel.step k4
      have hcall := hcall cx w1 (T ++ L1) _ hrel1 k3 hargs
      refine ⟨b, mark, w1, { target := .fn (.func g) fc, args := fa ++ #[.func (.yield b) #[] #[]] }, w1, g, _, w1, k1, ?_, fun f' _ => hd.fw.fn f', ?_, fun e => (by rw [hd.fw.depth] at e; cases e), (callsIn_any hd.fw hcall).mono ?_⟩
      · simp [resolve, hv, Deferred.ofValue]
        rfl
      · simp only [invoke]
        have := he (fa.toList ++ (.func (.yield b) #[] #[] :: fc.toList)).toArray w1
        rw [← this]
        congr 2
        apply Array.ext'; simp
      · rintro e w3 ⟨v, sv, R', H', L, rfl, g1, g2, g3, g4, g5⟩
        split at g5
        · rename_i r hl
          have hne : r.st ≠ .busy := fun e => by rw [e] at g5; exact g5
          have g5 : (match r.pend with
            | none => N { s with ro := R', heap := hset H' l .dead, dfr := ds }
            | some x => match x with
              | .normal => False
              | .exit id => E id { s with ro := R', heap := hset H' l .dead, dfr := ds }
              | .ret => Rt { s with ro := R', heap := hset H' l .dead, dfr := ds }) := by
            split at g5
            · exact g5.elim
            · exact g5
          obtain ⟨b2, sz2, rec, q1, q2, q3, q4, q5, q6, q7⟩ := loop_upd g2 hl .exhausted r.pend rfl
          have hTl := ext_get (L := L) k2
          rw [q1] at hTl
          simp only [Option.some.injEq, Blk.at.injEq, true_and] at hTl
          obtain ⟨rfl, rfl⟩ := hTl
          have hend := run_endLoop (P := P) q2 (by rw [q3]; exact hne)
          have hpe : ({ rec with state := .exhausted, pending := r.pend.bind Xit.code } : Loop) = { rec with state := .exhausted } := by rw [← q4]
          rw [hpe] at q6 q7
          have hk := q6.kill l
          have hss : hset (hset H' l (.loop { r with st := .exhausted, pend := r.pend })) l .dead = hset H' l .dead := by simp [hset_eq]
          rw [hss] at hk
          have hrel3 := (hrel1.step g3).step q7
          rw [List.append_nil] at hrel3
          have hfin : Den P cx F { s with ro := R', heap := hset H' l .dead, dfr := ds } { a with defers := mark ++ a.defers } (w3.putObj b2 (.loop { rec with state := .exhausted })) (T ++ L1 ++ L) :=
            ⟨hrel3, hk, hd.rg.step2 hd.rel k4 g4, (hd.tm.ext L1).ext L, hd.nt, k5.ext L, (hd.fw.ext L1).ext L, hd.bs⟩
          refine ⟨r.pend.bind Xit.code, w3.putObj b2 (.loop { rec with state := .exhausted }), by rw [← q4]; exact hend, ?_⟩
          cases hp : r.pend with
          | none =>
            rw [hp] at g5
            exact ⟨.normal, { s with ro := R', heap := hset H' l .dead, dfr := ds }, _, rfl, hfin, rfl, g5⟩
          | some x =>
            rw [hp] at g5
            cases x with
            | normal => exact g5.elim
            | exit id => exact wpIn_exit ⟨.exit id, { s with ro := R', heap := hset H' l .dead, dfr := ds }, _, rfl, hfin, rfl, g5⟩
            | ret => exact wpIn_ret ⟨.ret, { s with ro := R', heap := hset H' l .dead, dfr := ds }, _, rfl, hfin, rfl, g5⟩
        · exact g5.elim
    · exact h.elim

end Go.SX

/- The symbolic machine: regions that draw their order: a load taken first, held while others come up. -/
namespace Go.SX
open Go

section
variable {F : Fence} {P : Program} {ops : Array Oper} {Q : Exit → Act → World → Prop} {S : World → Prop}

theorem YieldsIf.wpOpIn (hF : ∀ f, F.fn f) {i : Nat} {o : Oper} {v : Value} {a : Act} (hi : ops[i]? = some o) (hnd : ∀ c, o.op ≠ .defer c) (hy : YieldsIf P ops S o v a)
    {K : Act → World → Prop} {w : World} (hS : S w) (h : K (a.put o.dst v) w) : wpOpIn F 0 P ops Q i K a w := by
  unfold Go.wpOpIn
  simp only [hi]
  have hab : ∀ f, o.about P w a.eval = some f → F.fn f := fun f _ => hF f
  rcases hy with ⟨hw, hv⟩ | ⟨hw, rfl⟩
  · simp only [hw, if_true, Oper.wpIn]
    rw [Oper.semAt_eq _ _ _ hnd, hv w hS]
    exact ⟨hab, h⟩
  · simp only [hw, Bool.false_eq_true, if_false]; exact ⟨hab, h⟩

theorem wpOpIn_putIf (hF : ∀ f, F.fn f) {j : Nat} {oi oj : Oper} {v : Value} (hj : ops[j]? = some oj) (hap : oi.apart ops oj = true) (hnd : ∀ c, oj.op ≠ .defer c)
    (hsi : ∀ cs b, oi.op ≠ .select cs b) (hsj : ∀ cs b, oj.op ≠ .select cs b)
    (hQ : ∀ c a w, Q (.panic c) (a.put oi.dst v) w → Q (.panic c) a w) {K : Act → World → Prop} {a : Act} {w : World}
    (hy : YieldsIf P ops S oi v a) (h : wpOpIn F 0 P ops Q j K (a.put oi.dst v) w) :
    wpOpIn F 0 P ops Q j (fun a' w' => YieldsIf P ops S oi v a' ∧ K (a'.put oi.dst v) w') a w := by
  obtain ⟨h1, h2, h3⟩ := Oper.apart_spec hap
  have keep : ∀ (a : Act), YieldsIf P ops S oi v a → ∀ u, YieldsIf P ops S oi v (a.put oj.dst u) := fun a hy u =>
    hy.of_same (execOp_put oi hsi a oj.dst u h3) (wanted_put oi a oj.dst u h3)
  have keepD : ∀ d, YieldsIf P ops S oi v { a with defers := d :: a.defers } := fun d => hy.of_same rfl rfl
  unfold Go.wpOpIn at *
  simp only [hj] at *
  rw [wanted_put oj a oi.dst v h1] at h
  split
  · rename_i hw
    simp only [hw, if_true] at h
    unfold Oper.wpIn at *
    refine ⟨fun f _ => hF f, ?_⟩
    have h := h.2
    rw [Oper.semAt_eq _ _ _ hnd, execOp_put oj hsj a oi.dst v h1] at h
    rw [Oper.semAt_eq _ _ _ hnd]
    generalize (execOp a.eval oj).run P w = r at *
    cases r with
    | ok x w' =>
      cases x <;> simp only [Oper.uponIn] at h ⊢
      case value u => exact ⟨keep a hy u, by rw [← Act.put_comm a v u h2]; exact h⟩
      case skip => exact ⟨keep a hy _, by rw [← Act.put_comm a v undef h2]; exact h⟩
      case defer d =>
        refine ⟨keep _ (keepD d) _, ?_⟩
        rw [← Act.put_comm _ v undef h2, ← Act.put_defers]
        exact h
      case enter f args =>
        refine ⟨h.1, CallsIn.mono h.2 fun e w'' he => ?_⟩
        cases e with
        | returned u => exact ⟨keep a hy u, by rw [← Act.put_comm a v u h2]; exact he⟩
        | panicked c => exact hQ _ _ _ he
        | outgrown => exact he
      case row row args => exact ⟨h.1, RowsIn.mono h.2 fun u w'' he => ⟨keep a hy u, by rw [← Act.put_comm a v u h2]; exact he⟩⟩
      case round l f tmps assign body =>
        refine ⟨h.1, RoundIn.mono h.2 fun e w'' he => ?_⟩
        cases e with
        | returned u => exact ⟨keep a hy u, by rw [← Act.put_comm a v u h2]; exact he⟩
        | panicked c => exact hQ _ _ _ he
        | outgrown => exact he
    | halt x w' =>
      cases x <;> simp only [Oper.uponIn] at h ⊢
      case panic u => exact hQ _ _ _ h
  · rename_i hw
    simp only [hw] at h
    exact ⟨fun f _ => hF f, keep a hy _, by rw [← Act.put_comm a v undef h2]; exact h.2⟩

/-- every order, and what is held is held behind every operation that may come ahead of the load -/
def AnyH (F : Fence) (P : Program) (ops : Array Oper) (Q : Exit → Act → World → Prop) (dep : Nat → Nat → Bool) : Nat → Array Bool → List (Nat × (World → Prop)) → Act → World → Prop
  | 0, listed, _, a, w => Region.ready .any ops listed = [] ∧ Q .normal a w
  | fuel + 1, listed, hs, a, w =>
    (Region.ready .any ops listed = [] → Q .normal a w) ∧
    ∀ i ∈ Region.ready .any ops listed, wpOpIn F 0 P ops Q i (fun a' w' => (∀ h ∈ hs, dep i h.1 = false → h.2 w') ∧
      AnyH F P ops Q dep fuel (listed.setIfInBounds i true) (hs.filter fun h => !dep i h.1) a' w') a w

theorem AnyH.any {dep : Nat → Nat → Bool} : ∀ {fuel : Nat} {listed : Array Bool} {hs : List (Nat × (World → Prop))} {a : Act} {w : World}, AnyH F P ops Q dep fuel listed hs a w → wpAnyIn F 0 P .any ops Q fuel listed a w
  | 0, _, _, _, _, h => h
  | fuel + 1, _, _, _, _, h => ⟨h.1, fun i hi => wpOpIn_mono (fun a' w' h' => h'.2.any) (h.2 i hi)⟩

/-- whoever is listed, those that it waits for are listed -/
def Cl (ops : Array Oper) (listed : Array Bool) : Prop :=
  ∀ (j : Nat) (o : Oper), listed.getD j false = true → ops[j]? = some o → ∀ e ∈ o.after, Region.binds .any e = true → listed.getD e.on false = true

theorem getD_setF {listed : Array Bool} {i j : Nat} (h : i ≠ j) : (listed.setIfInBounds i true).getD j false = listed.getD j false := by
  simp [Array.getD_eq_getD_getElem?, Array.getElem?_setIfInBounds_ne h]

theorem Cl.set {listed : Array Bool} (h : Cl ops listed) {i : Nat} (hi : i ∈ Region.ready .any ops listed) : Cl ops (listed.setIfInBounds i true) := by
  intro j o hj ho e he hb
  obtain ⟨hun, oi, hoi, hall⟩ := mem_ready.1 hi
  have mono : ∀ k, listed.getD k false = true → (listed.setIfInBounds i true).getD k false = true := by
    intro k hk
    by_cases hik : i = k
    · subst hik
      by_cases hlt : i < listed.size
      · simp [Array.getD, hlt]
      · simp [Array.getD, hlt] at hk
    · rw [getD_setF hik]; exact hk
  by_cases hij : i = j
  · subst hij
    rw [hoi] at ho; cases ho
    exact mono _ (hall e he hb)
  · rw [getD_setF hij] at hj
    exact mono _ (h j o hj ho e he hb)

theorem AnyH.take (hF : ∀ f, F.fn f) {dep : Nat → Nat → Bool} {i : Nat} {oi : Oper} {v : Value} (hi : ops[i]? = some oi) (hsel : ∀ (j : Nat) (o : Oper) cs b, ops[j]? = some o → o.op ≠ .select cs b)
    (hdf : ∀ (j : Nat) (o : Oper) c, ops[j]? = some o → o.op ≠ .defer c) (hQ : ∀ c a w, Q (.panic c) (a.put oi.dst v) w → Q (.panic c) a w)
    (hdep : ∀ (listed : Array Bool) (j : Nat), Cl ops listed → j ∈ Region.ready .any ops listed → listed.getD i true = false → dep j i = false) :
    ∀ (fuel : Nat) (listed : Array Bool) (hs : List (Nat × (World → Prop))) (a : Act) (w : World), Cl ops listed →
      (∀ j oj, ops[j]? = some oj → j ≠ i → listed.getD j true = false → (∀ e ∈ oj.after, Region.binds .any e = true → e.on ≠ i) → oi.apart ops oj = true) →
      i ∈ Region.ready .any ops listed → YieldsIf P ops S oi v a → S w → (∀ h ∈ hs, h.2 w) →
      AnyH F P ops Q dep fuel (listed.setIfInBounds i true) ((i, S) :: hs) (a.put oi.dst v) w → AnyH F P ops Q dep (fuel + 1) listed hs a w := by
  -- fewer are held
  have fewer : ∀ (fuel : Nat) (listed : Array Bool) (hs hs' : List (Nat × (World → Prop))) (a : Act) (w : World), (∀ h ∈ hs', h ∈ hs) → AnyH F P ops Q dep fuel listed hs a w → AnyH F P ops Q dep fuel listed hs' a w := by
    intro fuel
    induction fuel with
    | zero => intro _ _ _ _ _ _ h; exact h
    | succ fuel ih =>
      intro listed hs hs' a w hsub h
      refine ⟨h.1, fun j hj => wpOpIn_mono (fun a' w' h' => ⟨fun x hx hd => h'.1 x (hsub x hx) hd, ih _ _ _ _ _ (fun x hx => ?_) h'.2⟩) (h.2 j hj)⟩
      simp only [List.mem_filter] at hx ⊢
      exact ⟨hsub x hx.1, hx.2⟩
  intro fuel
  induction fuel with
  | zero =>
    intro listed hs a w hcl _ hr hy hS hh H
    refine ⟨fun h => (by rw [h] at hr; cases hr), fun j hj => ?_⟩
    by_cases hji : j = i
    · subst hji; exact SX.YieldsIf.wpOpIn hF hi (fun c => hdf j oi c hi) hy hS ⟨fun x hx _ => hh x hx, fewer _ _ _ _ _ _ (fun x hx => by simp at hx; exact List.mem_cons_of_mem _ hx.1) H⟩
    · have := ready_mono hj hji
      rw [H.1] at this
      cases this
  | succ fuel ih =>
    intro listed hs a w hcl hfree hr hy hS hh H
    refine ⟨fun h => (by rw [h] at hr; cases hr), fun j hj => ?_⟩
    by_cases hji : j = i
    · subst hji; exact SX.YieldsIf.wpOpIn hF hi (fun c => hdf j oi c hi) hy hS ⟨fun x hx _ => hh x hx, fewer _ _ _ _ _ _ (fun x hx => by simp at hx; exact List.mem_cons_of_mem _ hx.1) H⟩
    · have h1 := H.2 j (ready_mono hj hji)
      obtain ⟨hjun, oj, hoj, hall⟩ := mem_ready.1 hj
      have hiun := (mem_ready.1 hr).1
      have hdji : dep j i = false := hdep listed j hcl hj hiun
      have hnot : ∀ e ∈ oj.after, Region.binds .any e = true → e.on ≠ i := fun e he hb heq => by
        have h1 := hall e he hb
        have h0 := hiun
        rw [heq] at h1
        rcases Nat.lt_or_ge i listed.size with h' | h'
        · simp [h'] at h0 h1; rw [h0] at h1; cases h1
        · simp [Array.getElem?_eq_none h'] at h1
      have h2 := wpOpIn_putIf hF hoj (hfree j oj hoj hji hjun hnot) (fun c => hdf j oj c hoj) (fun cs b => hsel i oi cs b hi) (fun cs b => hsel j oj cs b hoj) hQ hy h1
      have hfree' : ∀ k ok, ops[k]? = some ok → k ≠ i → (listed.setIfInBounds j true).getD k true = false →
          (∀ e ∈ ok.after, Region.binds .any e = true → e.on ≠ i) → oi.apart ops ok = true := fun k ok hk hki hun hno => by
        refine hfree k ok hk hki ?_ hno
        by_cases hjk : j = k
        · subst hjk; exact hjun
        · rw [getD_set_ne true hjk] at hun; exact hun
      refine wpOpIn_mono (fun a' w' h3 => ?_) h2
      obtain ⟨hy', hob, hany⟩ := h3
      refine ⟨fun x hx hd => hob x (List.mem_cons_of_mem _ hx) hd, ih (listed.setIfInBounds j true) _ a' w' (hcl.set hj) hfree' (ready_mono hr (Ne.symm hji)) hy' (hob (i, S) (by simp) hdji) (fun x hx => ?_) ?_⟩
      · simp only [List.mem_filter, Bool.not_eq_true', decide_eq_true_eq] at hx
        exact hob x (List.mem_cons_of_mem _ hx.1) (by simpa using hx.2)
      · rw [Array.setIfInBounds_comm _ _ hji]
        have e : List.filter (fun h => !dep j h.1) ((i, S) :: hs) = (i, S) :: List.filter (fun h => !dep j h.1) hs := by simp [hdji]
        rw [e] at hany
        exact hany

end
end Go.SX

/- The symbolic machine: a region that draws its order, walked in one order. -/
namespace Go.SX
open Go

variable {P : Program} {T : List Blk} {cx : Cx} {F : Fence} {s : St} {a : Act} {w w' : World} {R : RO} {H : List SObj}

structure HS where
  i : Nat
  k : AK
  a : SV
  v : SV

inductive Sm : SV → SV → Prop
  | mk (v) : Sm v v

def lgetT : List Bool → Nat → Bool
  | [], _ => true
  | b :: _, 0 => b
  | _ :: r, n + 1 => lgetT r n
def lgetF : List Bool → Nat → Bool
  | [], _ => false
  | b :: _, 0 => b
  | _ :: r, n + 1 => lgetF r n
def lset : List Bool → Nat → List Bool
  | [], _ => []
  | _ :: r, 0 => true :: r
  | b :: r, n + 1 => b :: lset r n

def allIn (L : List Bool) : List Nat → Bool
  | [] => true
  | p :: r => match lgetF L p with
    | true => allIn L r
    | false => false

def rdyFrom (L : List Bool) : Nat → List IO_ → List (List Nat) → List (Nat × IO_ × List Nat)
  | _, [], _ => []
  | _, _ :: _, [] => []
  | i, o :: r, ps :: q => match lgetT L i with
    | true => rdyFrom L (i + 1) r q
    | false => match allIn L ps with
      | true => (i, o, ps) :: rdyFrom L (i + 1) r q
      | false => rdyFrom L (i + 1) r q

/-- it reads no memory and writes none, or is a load -/
def OpK.quiet : OpK → Bool
  | .ld .. | .cvt (.int _) _ | .cvt .same _ | .blt .lenS _ | .blt .lenSl _ | .blt (.lenA _) _ | .blt .capS _ | .blt .min _ | .blt .max _ => true
  | o => o.pure

def firstQ : List (Nat × IO_ × List Nat) → Option (Nat × IO_)
  | [] => none
  | (i, o, _) :: r => match o.op.quiet with
    | true => some (i, o)
    | false => firstQ r

def isin : List Nat → Nat → Bool
  | [], _ => false
  | p :: r, i => match Nat.beq p i with
    | true => true
    | false => isin r i

/-- a value that stands for one real value alone -/
def detK (v : SV) (K : Prop) : Prop :=
  match v with
  | .raw _ => K
  | .ptr .. => K
  | .ep .. => K
  | .sl _ _ _ _ _ cap => Rq (fun _ => cap ≠ 0) fun _ => K
  | .mp _ => K
  | _ => False

/-- what was loaded ahead of its turn is still there -/
def holdOk (ps : List Nat) (R : RO) (H : List SObj) : List HS → Prop → Prop
  | [], K => K
  | h :: r, K => match isin ps h.i with
    | true => holdOk ps R H r K
    | false => detK h.v (vcLd h.k R H h.a (fun v => Sm v h.v) ∧ holdOk ps R H r K)

def vcStep (P : Program) (o : IO_) (s : St) (C : St → Prop) : Prop :=
  match gd s.tm o.g with
  | some true => vcOp P o.op s fun v R H => C (s.set o.dst v R H)
  | some false => C (s.set o.dst (.raw undef) s.ro s.heap)
  | none => False

/-- a load, held -/
def vcLdH (i : Nat) (k : AK) (x : Operand) (d : Option Nat) (s : St) (hs : List HS) (C : St → List HS → Prop) : Prop :=
  vcLd k s.ro s.heap (ev s.tm x) fun v => C (s.set d v s.ro s.heap) (⟨i, k, ev s.tm x, v⟩ :: hs)

def vcQ (P : Program) (i : Nat) (o : IO_) (s : St) (hs : List HS) (C : St → List HS → Prop) : Prop :=
  match o.op with
  | .ld k x => match gd s.tm o.g with
    | some true => vcLdH i k x o.dst s hs C
    | some false => C (s.set o.dst (.raw undef) s.ro s.heap) hs
    | none => False
  | _ => vcStep P o s fun s' => C s' hs

def vcDraw (P : Program) (il : List IO_) (aft : List (List Nat)) : Nat → List Bool → List HS → St → (St → Prop) → Prop
  | 0, L, _, s, K => match rdyFrom L 0 il aft with
    | [] => K s
    | _ :: _ => False
  | n + 1, L, hs, s, K => match rdyFrom L 0 il aft with
    | [] => K s
    | x :: r => match firstQ (x :: r) with
      | some (i, o) => vcQ P i o s hs fun s' hs' => vcDraw P il aft n (lset L i) hs' s' K
      | none => match x, r with
        | (j, o, ps), [] => vcStep P o s fun s' => holdOk ps s'.ro s'.heap hs (vcDraw P il aft n (lset L j) hs s' K)
        | _, _ => False

def falses : List IO_ → List Bool
  | [] => []
  | _ :: r => false :: falses r
def ilen : List IO_ → Nat
  | [] => 0
  | _ :: r => ilen r + 1

/-! ### soundness -/
theorem lgetT_eq (L : List Bool) (i : Nat) : lgetT L i = L.toArray.getD i true := by
  induction L generalizing i with
  | nil => simp [lgetT]
  | cons b r ih =>
    cases i with
    | zero => simp [lgetT]
    | succ i => rw [lgetT, ih]; simp [Array.getD_eq_getD_getElem?]
theorem lgetF_eq (L : List Bool) (i : Nat) : lgetF L i = L.toArray.getD i false := by
  induction L generalizing i with
  | nil => simp [lgetF]
  | cons b r ih =>
    cases i with
    | zero => simp [lgetF]
    | succ i => rw [lgetF, ih]; simp [Array.getD_eq_getD_getElem?]
theorem lset_eq (L : List Bool) (i : Nat) : (lset L i).toArray = L.toArray.setIfInBounds i true := by
  have : lset L i = L.set i true := by
    induction L generalizing i with
    | nil => rfl
    | cons b r ih => cases i <;> simp [lset, ih]
  rw [this]; simp

theorem allIn_ok {L : List Bool} {ps : List Nat} : allIn L ps = true ↔ ∀ p ∈ ps, lgetF L p = true := by
  induction ps with
  | nil => simp [allIn]
  | cons p r ih =>
    simp only [allIn]
    cases h : lgetF L p with
    | true => simp [ih, h]
    | false => simp [h]

theorem rdy_ok {L : List Bool} : ∀ {il : List IO_} {aft : List (List Nat)} {n i : Nat} {o : IO_} {ps : List Nat}, (i, o, ps) ∈ rdyFrom L n il aft ↔
    n ≤ i ∧ il[i - n]? = some o ∧ aft[i - n]? = some ps ∧ lgetT L i = false ∧ allIn L ps = true
  | [], aft, n, i, o, ps => by simp [rdyFrom]
  | x :: il, [], n, i, o, ps => by simp [rdyFrom]
  | x :: il, q :: aft, n, i, o, ps => by
    have ih := @rdy_ok L il aft (n + 1) i o ps
    have shift : n + 1 ≤ i → i - n = (i - (n + 1)) + 1 := fun h => by omega
    have key : (i, o, ps) ∈ rdyFrom L (n + 1) il aft ↔ n + 1 ≤ i ∧ (x :: il)[i - n]? = some o ∧ (q :: aft)[i - n]? = some ps ∧ lgetT L i = false ∧ allIn L ps = true := by
      rw [ih]
      constructor
      · rintro ⟨h1, h2⟩; refine ⟨h1, ?_⟩; rw [shift h1]; simpa using h2
      · rintro ⟨h1, h2⟩; refine ⟨h1, ?_⟩; rw [shift h1] at h2; simpa using h2
    have zero : ∀ (p : Prop), (n ≤ i ∧ p) ↔ (i = n ∧ p) ∨ (n + 1 ≤ i ∧ p) := fun p => by
      constructor
      · rintro ⟨h1, h2⟩
        rcases Nat.eq_or_lt_of_le h1 with e | e
        · exact .inl ⟨e.symm, h2⟩
        · exact .inr ⟨e, h2⟩
      · rintro (⟨h1, h2⟩ | ⟨h1, h2⟩)
        · exact ⟨by omega, h2⟩
        · exact ⟨by omega, h2⟩
    simp only [rdyFrom]
    cases hb : lgetT L n with
    | true =>
      simp only
      rw [key, zero]
      constructor
      · exact .inr
      · rintro (⟨rfl, h⟩ | h)
        · rw [hb] at h; simp at h
        · exact h
    | false =>
      simp only
      cases ha : allIn L q with
      | true =>
        simp only [List.mem_cons]
        rw [key, zero]
        constructor
        · rintro (h | h)
          · cases h; exact .inl ⟨rfl, by simp, by simp, hb, ha⟩
          · exact .inr h
        · rintro (⟨rfl, h⟩ | h)
          · simp at h; obtain ⟨rfl, rfl, _⟩ := h; exact .inl rfl
          · exact .inr h
      | false =>
        simp only
        rw [key, zero]
        constructor
        · exact .inr
        · rintro (⟨rfl, h⟩ | h)
          · simp at h; obtain ⟨rfl, rfl, _, h⟩ := h; rw [ha] at h; cases h
          · exact h

/-- both say who may come up -/
theorem ready_iff {nt : Nat} {ops : Array Oper} {il : List IO_} (hl : ops.toList.mapM (trO P nt ops) = some il) (L : List Bool) (i : Nat) :
    i ∈ Region.ready .any ops L.toArray ↔ ∃ o ps, (i, o, ps) ∈ rdyFrom L 0 il (trAft ops) := by
  rw [mem_ready]
  have hget : ∀ (i : Nat) (o : Oper), ops[i]? = some o → ∃ x, il[i]? = some x := by
    intro i o ho
    have hlen : il.length = ops.size := by
      have : ∀ {l : List Oper} {m : List IO_}, Prs (fun x y => trO P nt ops x = some y) l m → m.length = l.length := by
        intro l m h; induction h with | nil => rfl | cons _ _ ih => simp [ih]
      simpa using this (mapM_prs hl)
    have hi := (Array.getElem?_eq_some_iff.1 ho).1
    exact ⟨il[i], by simp [hlen, hi]⟩
  constructor
  · rintro ⟨h1, o, h2, h3⟩
    obtain ⟨x, hx⟩ := hget i o h2
    refine ⟨x, (o.after.toList.filter (Region.binds .any)).map (·.on), rdy_ok.2 ⟨Nat.zero_le _, by simpa using hx, by simp [trAft, h2], by rw [lgetT_eq]; exact h1, allIn_ok.2 fun p hp => ?_⟩⟩
    obtain ⟨e, he, rfl⟩ := List.mem_map.1 hp
    simp only [List.mem_filter, Array.mem_toList_iff] at he
    rw [lgetF_eq]; exact h3 e he.1 he.2
  · rintro ⟨x, ps, h⟩
    obtain ⟨_, h1, h2, h3, h4⟩ := rdy_ok.1 h
    simp only [Nat.sub_zero, trAft, List.getElem?_map] at h1 h2
    cases ho : ops[i]? with
    | none => simp [ho] at h2
    | some o =>
      simp [ho] at h2
      subst h2
      refine ⟨by rw [← lgetT_eq]; exact h3, o, rfl, fun e he hb => ?_⟩
      rw [← lgetF_eq]
      exact allIn_ok.1 h4 e.on (List.mem_map.2 ⟨e, by simp [he, hb], rfl⟩)

theorem il_get {nt : Nat} {ops : Array Oper} {il : List IO_} (hl : ops.toList.mapM (trO P nt ops) = some il) {i : Nat} {x : IO_} (hx : il[i]? = some x) : ∃ o, ops[i]? = some o ∧ trO P nt ops o = some x := by
  have : ∀ {l : List Oper} {m : List IO_}, Prs (fun x y => trO P nt ops x = some y) l m → ∀ (i : Nat) (x : IO_), m[i]? = some x → ∃ o, l[i]? = some o ∧ trO P nt ops o = some x := by
    intro l m h
    induction h with
    | nil => simp
    | cons h1 _ ih =>
      intro i x hx
      cases i with
      | zero => simp at hx ⊢; subst hx; exact h1
      | succ i => simpa using ih i x (by simpa using hx)
  obtain ⟨o, h1, h2⟩ := this (mapM_prs hl) i x hx
  exact ⟨o, by simpa using h1, h2⟩

theorem detK_ok {v : SV} {K : Prop} (h : detK v K) : K ∧ ∀ {T : List Blk} {x y : Value}, DV T v x → DV T v y → x = y := by
  cases v with
  | raw v => exact ⟨h, fun p q => by cases p; cases q; rfl⟩
  | ptr n off => exact ⟨h, fun p q => by
      cases p with
      | ptr p => cases q with
        | ptr q => rw [p] at q; cases q; rfl⟩
  | ep n off i w fo => exact ⟨h, fun p q => by
      cases p with
      | ep p => cases q with
        | ep q => rw [p] at q; cases q; rfl⟩
  | sl n off i w len cap =>
    cases h with
    | mk hc h =>
      have hc : cap ≠ 0 := hc
      exact ⟨h, fun p q => by
        cases p with
        | sl p => cases q with
          | sl q => rw [p] at q; cases q; rfl
          | sl0 => exact absurd rfl hc
          | slnil => exact absurd rfl hc
        | sl0 => exact absurd rfl hc
        | slnil => exact absurd rfl hc⟩
  | mp n => exact ⟨h, fun p q => by
      cases p with
      | mp p => cases q with
        | mp q => rw [p] at q; cases q; rfl⟩
  | _ => exact h.elim

theorem trK_ld {o : Op} {k : AK} {x : Operand} (h : trK P o = .ld k x) : ∃ t, o = .load t x ∧ trAK P t = some k := by
  cases o with
  | load t y =>
    simp only [trK] at h
    split at h
    · rename_i k' hk; cases h; exact ⟨t, rfl, hk⟩
    · cases h
  | makeMap t r => cases r <;> (simp only [trK] at h; cases h)
  | _ =>
    simp only [trK] at h
    repeat' split at h
    all_goals cases h

end Go.SX
