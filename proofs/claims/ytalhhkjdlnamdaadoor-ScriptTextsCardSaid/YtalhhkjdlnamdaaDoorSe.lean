/-
  The symbolic machine's regions, loops, calls and code, sound.
-/
import Derived.Test.YtalhhkjdlnamdaaDoorSd
import Derived.RangeFuncCalls
/- The symbolic machine: regions and code. -/
namespace Go.SX
open Go

/-- a call: met by a contract, or entered in place -/
def CallW (P : Program) (f : FuncId) (args : List SV) (R : RO) (H : List SObj) (K : SV → RO → List SObj → Prop) : Prop :=
  ∀ (c : Cx) (w : World) (T : List Blk) (vs : List Value), Rel c w T → DH P w R T H → DL T (toSC args) vs →
    CallsIn Fence.wide 0 P f vs.toArray w fun e w' => ∃ v sv R' H' L, e = .returned v ∧ DV (T ++ L) sv v ∧ DH P w' R' (T ++ L) H' ∧ WS w w' T L ∧ RG R R' w T ∧ K sv R' H'

/-- a function with a Go body -/
def Ent (P : Program) (f : FuncId) : Prop := ∀ args w, (callFunc f args).run P w = .ok (.enter f args) w

/-- a function without a body: a value at once -/
def ValW (P : Program) (f : FuncId) (args : List SV) (R : RO) (H : List SObj) (K : SV → RO → List SObj → Prop) : Prop :=
  ∀ (c : Cx) (w : World) (T : List Blk) (vs : List Value), Rel c w T → DH P w R T H → DL T (toSC args) vs →
    ∃ v w' sv R' H' L, (callFunc f vs.toArray).run P w = .ok (.value v) w' ∧ DV (T ++ L) sv v ∧ DH P w' R' (T ++ L) H' ∧ WS w w' T L ∧ RG R R' w T ∧ K sv R' H'

inductive CallAt (P : Program) (f : FuncId) (args : List SV) (R : RO) (H : List SObj) (K : SV → RO → List SObj → Prop) : Prop
  | mk (e : Ent P f) (h : CallW P f args R H K) : CallAt P f args R H K
  | val (h : ValW P f args R H K) : CallAt P f args R H K

/-- a call of a function with a body -/
inductive EntAt (P : Program) (f : FuncId) (args : List SV) (R : RO) (H : List SObj) (K : SV → RO → List SObj → Prop) : Prop
  | mk (e : Ent P f) (h : CallW P f args R H K) : EntAt P f args R H K

/-- a call of yield: the round -/
def RoundW (P : Program) (n : Nat) (args : List SV) (R : RO) (H : List SObj) (K : SV → RO → List SObj → Prop) : Prop :=
  ∀ (c : Cx) (w : World) (T : List Blk) (vs : List Value) (b bs sz : Nat), Rel c w T → DH P w R T H → DL T (toSC args) vs → T[n]? = some (.at b bs sz) →
    ∃ f tmps assign body, (Instr.yield b vs.toArray).run P w = .ok (.round b f tmps assign body) w ∧
      RoundIn Fence.wide 0 P b f tmps assign body w fun e w' => ∃ v sv R' H' L, e = .returned v ∧ DV (T ++ L) sv v ∧ DH P w' R' (T ++ L) H' ∧ WS w w' T L ∧ RG R R' w T ∧ K sv R' H'

inductive RoundAt (P : Program) (n : Nat) (args : List SV) (R : RO) (H : List SObj) (K : SV → RO → List SObj → Prop) : Prop
  | mk (h : RoundW P n args R H K) : RoundAt P n args R H K

def scl : SC → List SV
  | .nil => []
  | .cons _ v r => v :: scl r

def lapp : List SV → List SV → List SV
  | [], l => l
  | x :: r, l => x :: lapp r l

def vcCal (P : Program) (f : SV) (args : List SV) (R : RO) (H : List SObj) (K : SV → RO → List SObj → Prop) : Prop :=
  match f with
  | .fn (.func g) a c => CallAt P g (lapp (scl a) (lapp args (scl c))) R H K
  | .yl n => RoundAt P n args R H K
  | _ => False

def vcOp (P : Program) (o : OpK) (s : St) (K : SV → RO → List SObj → Prop) : Prop :=
  match o with
  | .ld k a => vcLd k s.ro s.heap (ev s.tm a) fun v => K v s.ro s.heap
  | .cal f xs => vcCal P (ev s.tm f) (evs s.tm xs) s.ro s.heap K
  | .alc z e => vcEff (.alc z e) s.tm s.ro s.heap K
  | .box k e x => vcEff (.box k e x) s.tm s.ro s.heap K
  | .st k a x => vcEff (.st k a x) s.tm s.ro s.heap K
  | .bsl e k n z ps => vcEff (.bsl e k n z ps) s.tm s.ro s.heap K
  | .bld z ps => vcBld s.tm ps z fun cs => K (.agg cs) s.ro s.heap
  | .cvt k x => match k with
    | .s2b e => vcCv (.s2b e) (ev s.tm x) s.ro s.heap K
    | .b2s => vcCv .b2s (ev s.tm x) s.ro s.heap K
    | k => vcPure (.cvt k x) s.tm fun v => K v s.ro s.heap
  | .blt b xs => match b with
    | .app w e by_ => match evs s.tm xs with
      | [x, y] => vcSrc y w s.ro s.heap fun news => vcApp x w e by_ news s.ro s.heap K
      | _ => False
    | .appS w e by_ => match evs s.tm xs, w with
      | [x, .raw (.string str)], 1 => Nw (fun _ => bytesV str) fun news => vcApp x 1 e by_ news s.ro s.heap K
      | _, _ => False
    | b => vcPure (.blt b xs) s.tm fun v => K v s.ro s.heap
  | o => vcPure o s.tm fun v => K v s.ro s.heap

def St.set (s : St) (d : Option Nat) (v : SV) (R : RO) (H : List SObj) : St :=
  match d with
  | some d => { s with tm := s.tm.put d v, ro := R, heap := H }
  | none => { s with ro := R, heap := H }

/-- is an operation wanted -/
def gd (tm : Tm) : Option (Nat × Bool) → Option Bool
  | none => some true
  | some (t, want) => match tm.get t with
    | .raw (.bool b) => match b, want with
      | true, true => some true
      | false, false => some true
      | _, _ => some false
    | .raw (.tuple _) => some false
    | _ => none

def vcOps (P : Program) : List IO_ → St → (St → Prop) → Prop
  | [], s, K => K s
  | o :: r, s, K => match gd s.tm o.g with
    | some true => vcOp P o.op s fun v R H => vcOps P r (s.set o.dst v R H) K
    | some false => vcOps P r (s.set o.dst (.raw undef) s.ro s.heap) K
    | none => False

/-- the code's condition, at the real machine -/
def SX (P : Program) (c : Code) (s : St) (K : Xit → St → Prop) : Prop :=
  ∀ (cx : Cx) (F : Fence) (a : Act) (w : World) (T : List Blk), Den P cx F s a w T →
    c.wpIn F 0 P (fun e a' w' => ∃ x s' T', e = Xit.real x ∧ Den P cx F s' a' w' T' ∧ s'.nt = s.nt ∧ K x s') a w

/-- of resolved code -/
def SXi (P : Program) (ic : IC) (s : St) (K : Xit → St → Prop) : Prop :=
  ∀ (c : Code) (m : Nat), trC P s.nt m c = some ic → SX P c s K

inductive Stuck (P : Program) (ic : IC) (s : St) (K : Xit → St → Prop) : Prop
  | mk (h : SXi P ic s K) : Stuck P ic s K

inductive Br (b : Bool) (p q : Unit → Prop) : Prop
  | mk (t : b = true → p ()) (f : b = false → q ()) : Br b p q

/-- three ways out -/
def jn (N : St → Prop) (E : Nat → St → Prop) (Rt : St → Prop) : Xit → St → Prop
  | .normal, s => N s
  | .exit id, s => E id s
  | .ret, s => Rt s

def vcC (P : Program) : IC → St → (St → Prop) → (Nat → St → Prop) → (St → Prop) → Prop
  | .skip, s, N, _, _ => N s
  | .seq a b, s, N, E, Rt => vcC P a s (fun s' => vcC P b s' N E Rt) E Rt
  | .reg _ ops, s, N, _, _ => vcOps P ops s N
  | .cnd c a b, s, N, E, Rt => match ev s.tm c with
    | .raw (.bool t) => match t with
      | true => vcC P a s N E Rt
      | false => vcC P b s N E Rt
    | _ => False
  | .block id c, s, N, E, Rt => vcC P c s N (fun id' s' => match Nat.beq id' id with
      | true => N s'
      | false => E id' s') Rt
  | .exit id, s, _, E, _ => E id s
  | .ret, s, _, _, Rt => Rt s
  | .keep m c, s, N, E, Rt => vcC P c { s with tm := s.tm.keep m } N E Rt
  | ic, s, N, E, Rt => Stuck P ic s (jn N E Rt)

/-! ### soundness -/
variable {P : Program} {T : List Blk} {cx : Cx} {F : Fence} {s : St} {a : Act} {w w' : World}

theorem DV.step {L : List Blk} {sv : SV} {v : Value} (h : DV T sv v) : DV (T ++ L) sv v := h.ext L

theorem DD.ext (L : List Blk) : ∀ {ns : List Nat} {ds : List Deferred}, DD T ns ds → DD (T ++ L) ns ds
  | _, _, .nil => .nil
  | _, _, .cons h r => .cons (ext_get h) (DD.ext L r)

theorem FW.ext (L : List Blk) {rnd : Option Nat} (h : FW F T rnd) : FW F (T ++ L) rnd := by
  cases rnd with
  | none => exact h
  | some n => obtain ⟨b, bs, sz, h1, h2⟩ := h; exact ⟨b, bs, sz, ext_get h1, h2⟩

theorem FW.fn {rnd : Option Nat} (h : FW F T rnd) (f : FuncId) : F.fn f := by
  cases rnd with
  | none => have : F = Fence.wide := h
            subst this; trivial
  | some n => obtain ⟨b, bs, sz, _, h2⟩ := h; subst h2; trivial

theorem FW.depth {rnd : Option Nat} (h : FW F T rnd) : F.depth = none := by
  cases rnd with
  | none => have : F = Fence.wide := h
            subst this; rfl
  | some n => obtain ⟨b, bs, sz, _, h2⟩ := h; subst h2; rfl

theorem DT.put {tm : Tm} {tmps : Array Value} (h : DT T tm tmps) {d : Nat} {sv : SV} {v : Value} (hd : d < tmps.size) (hv : DV T sv v) : DT T (tm.put d sv) (tmps.setIfInBounds d v) := by
  intro t
  rw [Tm.get_put]
  by_cases e : d = t
  · subst e
    simp only [if_true]
    have : (tmps.setIfInBounds d v).getD d undef = v := by simp [Array.getD, hd]
    rw [this]; exact hv
  · rw [if_neg e]
    have : (tmps.setIfInBounds d v).getD t undef = tmps.getD t undef := by
      simp [Array.getD_eq_getD_getElem?, Array.getElem?_setIfInBounds_ne e]
    rw [this]; exact h t

theorem DT.ext {tm : Tm} {tmps : Array Value} (h : DT T tm tmps) (L : List Blk) : DT (T ++ L) tm tmps := fun t => (h t).ext L

theorem DT.keep {tm : Tm} {tmps : Array Value} (h : DT T tm tmps) (m : Nat) : DT T (tm.keep m) tmps := by
  intro t
  rcases Tm.get_keep m tm t with e | e
  · rw [e]; exact h t
  · rw [e]; exact .any _

theorem RG.step {R0 R R' : RO} {c : Cx} (h : RG R0 R c.w0 c.T0) (hr : Rel c w T) (g : RG R R' w T) : RG R0 R' c.w0 c.T0 :=
  ⟨fun k o hk => g.sub k o (h.sub k o hk), fun k o hk => by
    rcases g.new k o hk with h1 | h1 | h1
    · exact h.new k o h1
    · rcases hr.own k h1 with h2 | h2
      · exact .inr (.inl h2)
      · exact .inr (.inr h2)
    · have := hr.size; exact .inr (.inr (by omega))⟩

/-- a step, taken into a state -/
theorem Den.step (h : Den P cx F s a w T) {L : List Blk} {d : Option Nat} {sv : SV} {v : Value} {R : RO} {H : List SObj} (hd : ∀ k, d = some k → k < s.nt)
    (hv : DV (T ++ L) sv v) (hdh : DH P w' R (T ++ L) H) (hws : WS w w' T L) (hrg : RG s.ro R w T) : Den P cx F (s.set d sv R H) (a.put d v) w' (T ++ L) := by
  have rg := h.rg.step h.rel hrg
  cases d with
  | none => exact ⟨h.rel.step hws, hdh, rg, h.tm.ext L, h.nt, h.dfr.ext L, h.fw.ext L, h.bs⟩
  | some k =>
    have hk : k < a.tmps.size := by rw [h.nt]; exact hd k rfl
    exact ⟨h.rel.step hws, hdh, rg, (h.tm.ext L).put hk hv, by simp [Act.put, h.nt, St.set], h.dfr.ext L, h.fw.ext L, h.bs⟩

theorem Den.keep (h : Den P cx F s a w T) (m : Nat) : Den P cx F { s with tm := s.tm.keep m } a w T :=
  ⟨h.rel, h.dh, h.rg, h.tm.keep m, h.nt, h.dfr, h.fw, h.bs⟩


theorem CallW.any {f : FuncId} {args : List SV} {R : RO} {H : List SObj} {K : SV → RO → List SObj → Prop} (h : CallW P f args R H K) {rnd : Option Nat} (hf : FW F T rnd)
    (hr : Rel cx w T) (hdh : DH P w R T H) {vs : List Value} (hv : DL T (toSC args) vs) :
    CallsIn F 0 P f vs.toArray w fun e w' => ∃ v sv R' H' L, e = .returned v ∧ DV (T ++ L) sv v ∧ DH P w' R' (T ++ L) H' ∧ WS w w' T L ∧ RG R R' w T ∧ K sv R' H' := by
  have := h cx w T vs hr hdh hv
  cases rnd with
  | none => have e : F = Fence.wide := hf
            subst e; exact this
  | some n => obtain ⟨b, bs, sz, _, h2⟩ := hf; subst h2; exact CallsIn.inRound b this

theorem toSC_scl_app : ∀ (s : SC) {l : List Value} {m : List SV} {vs : List Value}, DL T s l → DL T (toSC m) vs → DL T (toSC (lapp (scl s) m)) (l ++ vs)
  | _, _, _, _, .nil, h => by simpa [scl, lapp] using h
  | _, _, _, _, .cons p q, h => .cons p (toSC_scl_app _ q h)

theorem toSC_app : ∀ (l : List SV) {m : List SV} {us vs : List Value}, DL T (toSC l) us → DL T (toSC m) vs → DL T (toSC (lapp l m)) (us ++ vs)
  | [], m, us, vs, h, g => by cases h; simpa [lapp] using g
  | x :: l, m, us, vs, h, g => by
    cases h with
    | cons p q => exact .cons p (toSC_app l q g)

theorem toSC_scl : ∀ (s : SC) {l : List Value}, DL T s l → DL T (toSC (scl s)) l
  | _, _, .nil => .nil
  | _, _, .cons p q => .cons p (toSC_scl _ q)

theorem semAt_call {o : Oper} {c : Call} (ho : o.op = .call c) (ro : Option Nat) (ρ : Operand → Value) : o.semAt ro ρ = execOp ρ o :=
  Oper.semAt_eq ro ρ o (fun d h => by rw [ho] at h; cases h)

/-- no word about memory, calls -/
def OpK.pure : OpK → Bool
  | .ld .. | .cal .. | .alc .. | .box .. | .st .. | .bsl .. | .bld .. | .cvt .. | .blt .. => false
  | _ => true

theorem vcOp_pure {k : OpK} (h : k.pure = true) (K : SV → RO → List SObj → Prop) : vcOp P k s K = vcPure k s.tm fun v => K v s.ro s.heap := by
  cases k <;> first | rfl | cases h

theorem RoundIn.any {rnd : Option Nat} (hf : FW F T rnd) {b : Nat} {g : FuncId} {tmps : Array Value} {asg body : Code} {Rr : Ending → World → Prop} (h : RoundIn Fence.wide 0 P b g tmps asg body w Rr) : RoundIn F 0 P b g tmps asg body w Rr := by
  cases rnd with
  | none => have e : F = Fence.wide := hf
            subst e; exact h
  | some n => obtain ⟨b', _, _, _, e⟩ := hf; subst e; exact h

theorem yl_inv {n : Nat} {v : Value} (h : DV T (.yl n) v) : ∃ b bs sz, T[n]? = some (Blk.at b bs sz) ∧ v = .func (.yield b) #[] #[] := by
  cases h with
  | yl h => exact ⟨_, _, _, h, rfl⟩

/-- one operation -/
theorem vcOp_ok {o : Oper} {K : SV → RO → List SObj → Prop} {next : Act → World → Prop} {Q : Exit → Act → World → Prop} (h : vcOp P (trK P o.op) s K) (hd : Den P cx F s a w T)
    (hn : ∀ v sv R' H' L w', DV (T ++ L) sv v → DH P w' R' (T ++ L) H' → WS w w' T L → RG s.ro R' w T → K sv R' H' → next (a.put o.dst v) w') : o.wpIn F 0 P a w next Q := by
  refine ⟨fun f _ => hd.fw.fn f, ?_⟩
  have hT : T ++ [] = T := List.append_nil T
  have pure : vcPure (trK P o.op) s.tm (fun v => K v s.ro s.heap) → (∀ d, o.op ≠ .defer d) → o.uponIn F 0 P a next Q ((o.semAt F.round a.eval).run P w) := by
    intro h hdf
    obtain ⟨v, sv, h1, h2, h3⟩ := vcPure_ok (P := P) hd.tm h
    rw [Oper.semAt_eq _ _ _ hdf, h1 w]
    exact hn v sv _ _ [] w (by rw [hT]; exact h2) (by rw [hT]; exact hd.dh) (.refl _ _) (.refl _ _ _) h3
  have eff : EffOk P T a o w s.ro K → (∀ d, o.op ≠ .defer d) → o.uponIn F 0 P a next Q ((o.semAt F.round a.eval).run P w) := by
    intro h hdf
    obtain ⟨r, w', v, sv, R', H', L, h1, h2, h3, h4, h5, h7, h6⟩ := h
    rw [Oper.semAt_eq _ _ _ hdf, h1]
    rcases h2 with rfl | ⟨rfl, rfl⟩
    · exact hn v sv _ _ L w' h3 h4 h5 h7 h6
    · exact hn undef sv _ _ L w' h3 h4 h5 h7 h6
  cases ho : o.op with
  | load t x =>
    rw [ho] at h
    simp only [trK] at h
    split at h
    · rename_i k hk
      obtain ⟨v, sv, h1, h2, h3⟩ := vcLd_ok hd.dh hk (ev_ok hd.tm x) h
      rw [Oper.semAt_eq _ _ _ (fun d e => by rw [ho] at e; cases e)]
      simp only [execOp, ho, Sem.run_bind, h1, Result.andThen_ok]
      exact hn v sv _ _ [] w (by rw [hT]; exact h2) (by rw [hT]; exact hd.dh) (.refl _ _) (.refl _ _ _) h3
    · exact (by simp [vcOp, vcPure] at h : False).elim
  | store t x y =>
    rw [ho] at h
    simp only [trK] at h
    split at h
    · rename_i k hk
      exact eff (e_st t x y k hk ho hd.tm hd.dh h) (fun d e => by rw [ho] at e; cases e)
    · exact (by simp [vcOp, vcPure] at h : False).elim
  | alloc e =>
    rw [ho] at h
    simp only [trK] at h
    split at h
    · rename_i z hz
      exact eff (e_alc (tm := s.tm) e z hz ho hd.dh h) (fun d e => by rw [ho] at e; cases e)
    · exact (by simp [vcOp, vcPure] at h : False).elim
  | box e x =>
    rw [ho] at h
    simp only [trK] at h
    split at h
    · rename_i k hk
      exact eff (e_box e x k hk ho hd.tm hd.dh h) (fun d e => by rw [ho] at e; cases e)
    · exact (by simp [vcOp, vcPure] at h : False).elim
  | call c =>
    have h0 := h
    rw [ho] at h
    simp only [trK] at h
    split at h
    · rename_i f hc
      rw [semAt_call ho]
      simp only [vcOp, vcCal] at h
      have hf := ev_ok hd.tm f
      have hargs := evs_ok hd.tm c.args.toList
      have fin : ∀ (g : FuncId) (sargs : List SV) (vs : List Value), DL T (toSC sargs) vs → CallAt P g sargs s.ro s.heap K → (execOp a.eval o).run P w = (callFunc g vs.toArray).run P w →
          o.uponIn F 0 P a next Q ((execOp a.eval o).run P w) := by
        intro g sargs vs hvs hcall hrun
        cases hcall with
        | mk he hcall =>
          rw [hrun, he vs.toArray w]
          refine ⟨fun e => (by rw [hd.fw.depth] at e; cases e), (hcall.any hd.fw hd.rel hd.dh hvs).mono ?_⟩
          rintro e w' ⟨v, sv, R', H', L, rfl, h1, h2, h3, h5, h4⟩
          exact hn v sv R' H' L w' h1 h2 h3 h5 h4
        | val hcall =>
          obtain ⟨v, w', sv, R', H', L, h0, h1, h2, h3, h5, h4⟩ := hcall cx w T vs hd.rel hd.dh hvs
          rw [hrun, h0]
          exact hn v sv R' H' L w' h1 h2 h3 h5 h4
      split at h
      · rename_i g p q he
        rw [he] at hf
        obtain ⟨x, y, hv, h1, h2⟩ := fn_inv hf
        refine fin g _ _ (toSC_scl_app p h1 (toSC_app _ hargs (toSC_scl q h2))) h ?_
        simp [execOp, ho, resolve, hc, hv, Deferred.ofValue, invoke]
        congr 2
        apply Array.ext'; simp
      · rename_i n he
        rw [he] at hf
        obtain ⟨b, bs, sz, hn', hv⟩ := yl_inv hf
        cases h with
        | mk hround =>
        obtain ⟨g, tmps, asg, body, h1, h2⟩ := hround cx w T _ b bs sz hd.rel hd.dh hargs hn'
        have hrun : (execOp a.eval o).run P w = (Instr.yield b (c.args.toList.map a.eval).toArray).run P w := by
          simp [execOp, ho, resolve, hc, hv, Deferred.ofValue, invoke]
          congr 2
          apply Array.ext'; simp
        rw [hrun, h1]
        refine ⟨fun e => (by rw [hd.fw.depth] at e; cases e), (SX.RoundIn.any hd.fw h2).mono ?_⟩
        rintro e w' ⟨v, sv, R', H', L, rfl, h1, h2, h3, h5, h4⟩
        exact hn v sv R' H' L w' h1 h2 h3 h5 h4
      · exact h.elim
    · rename_i b hc
      have hbi := trBI_len (P := P) b c.argTypes
      simp only [vcOp] at h
      split at h
      · rename_i wd e by_ hb
        rw [hb] at hbi
        obtain ⟨rfl, t, i, h1, h2, h3, rfl, rfl, h4, ⟨z, h5, h6⟩, t', e', h7, h8⟩ := hbi
        have hts : c.argTypes = #[t, t'] := by
          apply Array.ext
          · simp [h4]
          · intro j hj1 hj2
            simp at hj2
            rcases j with _ | _ | j
            · have := (Array.getElem?_eq_some_iff.1 h1).2; simpa using this
            · have := (Array.getElem?_eq_some_iff.1 h7).2; simpa using this
            · omega
        split at h
        · rename_i x y hxy
          obtain ⟨xv, yv, g1, g2, g3⟩ := evs2 hd.tm hxy
          obtain ⟨news, q1, q2⟩ := vcSrc_ok hd.dh g3 h
          exact eff (e_app hc ho hts h2 h3 h5 h6 h8 (.inl ⟨_, rfl⟩) g1 g2 hd.dh q1 q2) (fun d e => by rw [ho] at e; cases e)
        · exact h.elim
      · rename_i wd e by_ hb
        rw [hb] at hbi
        obtain ⟨rfl, t, i, h1, h2, h3, hw, rfl, h4, ⟨z, h5, h6⟩, t', h7, h8⟩ := hbi
        have hts : c.argTypes = #[t, t'] := by
          apply Array.ext
          · simp [h4]
          · intro j hj1 hj2
            simp at hj2
            rcases j with _ | _ | j
            · have := (Array.getElem?_eq_some_iff.1 h1).2; simpa using this
            · have := (Array.getElem?_eq_some_iff.1 h7).2; simpa using this
            · omega
        split at h
        · rename_i x str hxy
          obtain ⟨xv, yv, g1, g2, g3⟩ := evs2 hd.tm hxy
          have g3 := raw_inv g3
          subst g3
          have h := h.go
          have hsrc : SrcE P w i.size (.string str) (bytesV str) := by
            rw [hw]
            exact ⟨by rw [bytesV_flat, bytesV_len]; exact src_str str, bytesV_eok str⟩
          rw [← hw] at h
          exact eff (e_app hc ho hts h2 h3 h5 h6 h8 (.inr rfl) g1 g2 hd.dh hsrc h) (fun d e => by rw [ho] at e; cases e)
        · exact h.elim
      · refine pure (by rw [ho]; simp only [trK, hc]; exact h) (fun d e => by rw [ho] at e; cases e)
    · exact (by simp [vcOp, vcPure] at h : False).elim
  | defer c => exact (by rw [ho] at h; simp [trK, vcOp, vcPure] at h : False).elim
  | build t ps =>
    rw [ho] at h
    generalize hk : trK P (.build t ps) = k at h
    have hk' := hk
    simp only [trK] at hk'
    have hcase : (∃ z l, k = .bld z l) ∨ k = .oth := by
      split at hk'
      · split at hk' <;> first | exact .inl ⟨_, _, hk'.symm⟩ | exact .inr hk'.symm
      · split at hk' <;> first | exact .inl ⟨_, _, hk'.symm⟩ | exact .inr hk'.symm
      · exact .inr hk'.symm
    rcases hcase with ⟨z, l, rfl⟩ | rfl
    · exact eff (e_bld t ps z l ho hk hd.tm hd.dh h) (fun d e => by rw [ho] at e; cases e)
    · exact (by simp [vcOp, vcPure] at h : False).elim
  | buildSlice t n ps =>
    rw [ho] at h
    generalize hk : trK P (.buildSlice t n ps) = k at h
    have hk' := hk
    simp only [trK] at hk'
    have hcase : (∃ e kk z, k = .bsl e kk n z ps.toList) ∨ k = .oth := by
      split at hk'
      · split at hk'
        · split at hk'
          · split at hk' <;> first | exact .inl ⟨_, _, _, hk'.symm⟩ | exact .inr hk'.symm
          · exact .inr hk'.symm
        · exact .inr hk'.symm
      · exact .inr hk'.symm
    rcases hcase with ⟨e, kk, z, rfl⟩ | rfl
    · exact eff (e_bsl t n ps e kk z ho hk hd.tm hd.dh h) (fun d e => by rw [ho] at e; cases e)
    · exact (by simp [vcOp, vcPure] at h : False).elim
  | convert sT dT x =>
    rw [ho] at h
    generalize hk : trK P (.convert sT dT x) = k at h
    have hk' := hk
    simp only [trK] at hk'
    split at hk'
    · subst hk'; exact pure (by rw [ho, hk]; exact h) (fun d e => by rw [ho] at e; cases e)
    · rename_i e hu1 hu2
      split at hk'
      · rename_i hu3; subst hk'; exact eff (e_s2b sT dT e x hu1 hu2 hu3 ho hd.tm hd.dh h) (fun d e => by rw [ho] at e; cases e)
      · subst hk'; exact (by simp [vcOp, vcPure] at h : False).elim
    · rename_i e hu1 hu2
      split at hk'
      · rename_i hu3; subst hk'; exact eff (e_b2s sT dT e x hu1 hu2 hu3 ho hd.tm hd.dh h) (fun d e => by rw [ho] at e; cases e)
      · subst hk'; exact (by simp [vcOp, vcPure] at h : False).elim
    · subst hk'; exact pure (by rw [ho, hk]; exact h) (fun d e => by rw [ho] at e; cases e)
    · subst hk'; exact (by simp [vcOp, vcPure] at h : False).elim
  | makeMap t r =>
    rw [ho] at h
    cases r with
    | none => exact pure (by rw [ho]; simp only [trK] at h ⊢; exact h) (fun d e => by rw [ho] at e; cases e)
    | some r => exact pure (by rw [ho]; simp only [trK] at h ⊢; exact h) (fun d e => by rw [ho] at e; cases e)
  | _ =>
    refine pure ?_ (fun d e => by rw [ho] at e; cases e)
    rw [ho] at h ⊢
    rw [vcOp_pure ?_] at h
    · exact h
    · simp only [trK]
      repeat' split
      all_goals rfl

end Go.SX

/- The symbolic machine: code. -/
namespace Go.SX
open Go

variable {P : Program} {T : List Blk} {cx : Cx} {F : Fence} {s : St} {a : Act} {w w' : World}

theorem trO_dst {nt : Nat} {ops : Array Oper} {o : Oper} {i : IO_} (h : trO P nt ops o = some i) : i.op = trK P o.op ∧ i.dst = o.dst ∧ (∀ d, o.dst = some d → d < nt) ∧
    ((o.guard = none ∧ i.g = none) ∨ ∃ j want t, o.guard = some (j, want) ∧ i.g = some (t, want) ∧ (ops[j]?).bind (·.dst) = some t) := by
  unfold trO at h
  split at h
  · rename_i d hd
    split at h
    · rename_i hlt
      split at h
      · rename_i hg
        cases h
        exact ⟨rfl, hd.symm, fun d' h' => by rw [hd] at h'; cases h'; exact hlt, .inl ⟨hg, rfl⟩⟩
      · rename_i j want hg
        cases hb : (ops[j]?).bind (·.dst) with
        | none => rw [hb] at h; cases h
        | some t =>
          rw [hb] at h
          cases h
          exact ⟨rfl, hd.symm, fun d' h' => by rw [hd] at h'; cases h'; exact hlt, .inr ⟨j, want, t, hg, rfl, hb⟩⟩
    · cases h
  · rename_i hd
    split at h
    · rename_i hg
      cases h
      exact ⟨rfl, hd.symm, fun d' h' => by (rw [hd] at h'; cases h'), .inl ⟨hg, rfl⟩⟩
    · rename_i j want hg
      cases hb : (ops[j]?).bind (·.dst) with
      | none => rw [hb] at h; cases h
      | some t =>
        rw [hb] at h
        cases h
        exact ⟨rfl, hd.symm, fun d' h' => by (rw [hd] at h'; cases h'), .inr ⟨j, want, t, hg, rfl, hb⟩⟩

theorem St.set_nt (s : St) (d : Option Nat) (v : SV) (R : RO) (H : List SObj) : (s.set d v R H).nt = s.nt := by cases d <;> rfl

theorem gd_ok {nt : Nat} {ops : Array Oper} {o : Oper} {i : IO_} {tm : Tm} (ho : trO P nt ops o = some i) (hd : DT T tm a.tmps) {b : Bool} (h : gd tm i.g = some b) : Region.wanted o (yielded ops a.tmps) = b := by
  obtain ⟨_, _, _, h4⟩ := trO_dst ho
  rcases h4 with ⟨hg, hi⟩ | ⟨j, want, t, hg, hi, ht⟩
  · rw [hi] at h
    simp only [gd, Option.some.injEq] at h
    subst h
    simp [Region.wanted, hg]
  · rw [hi] at h
    simp only [gd] at h
    have hdt := hd t
    rw [Array.getD_eq_getD_getElem?] at hdt
    split at h
    · rename_i c hc
      rw [hc] at hdt
      have hdt := raw_inv hdt
      have hy : yielded ops a.tmps j = some c := by
        have : a.tmps[t]? = some (.bool c) := by
          cases he : a.tmps[t]? with
          | none => rw [he] at hdt; cases hdt
          | some x => rw [he] at hdt; simp at hdt; rw [hdt]
        simp [yielded, ht, this]
      cases c <;> cases want <;> simp at h <;> subst h <;> simp [Region.wanted, hg, hy]
    · rename_i vs hc
      rw [hc] at hdt
      have hdt := raw_inv hdt
      cases h
      have hy : yielded ops a.tmps j = none := by
        cases he : a.tmps[t]? with
        | none => simp [yielded, ht, he]
        | some x => rw [he] at hdt; simp at hdt; simp [yielded, ht, he, hdt]
      simp [Region.wanted, hg, hy]
    · cases h

/-- one operation of a region, wanted or not -/
theorem vcStep_ok {ops : Array Oper} {o : Oper} {i : IO_} (ho : trO P s.nt ops o = some i) {C : St → Prop} {K : Act → World → Prop} {Q : Exit → Act → World → Prop}
    (h : match gd s.tm i.g with
      | some true => vcOp P i.op s fun v R H => C (s.set i.dst v R H)
      | some false => C (s.set i.dst (.raw undef) s.ro s.heap)
      | none => False)
    (hd : Den P cx F s a w T) (hn : ∀ s' a' w' T', Den P cx F s' a' w' T' → s'.nt = s.nt → (∃ L, T' = T ++ L) → C s' → K a' w') :
    if Region.wanted o (yielded ops a.tmps) then o.wpIn F 0 P a w K Q else (∀ f, o.about P w a.eval = some f → F.fn f) ∧ K (a.put o.dst undef) w := by
  obtain ⟨h1, h2, h3, _⟩ := trO_dst ho
  split at h
  · rename_i hg
    rw [if_pos (gd_ok ho hd.tm hg)]
    rw [h1] at h
    refine vcOp_ok h hd fun v sv R' H' L w' g1 g2 g3 g5 g4 => ?_
    rw [h2] at g4
    exact hn _ _ _ _ (hd.step h3 g1 g2 g3 g5) (St.set_nt ..) ⟨_, rfl⟩ g4
  · rename_i hg
    rw [if_neg (by rw [gd_ok ho hd.tm hg]; simp)]
    refine ⟨fun f _ => hd.fw.fn f, ?_⟩
    rw [h2] at h
    have hT : T ++ [] = T := List.append_nil T
    exact hn _ _ _ _ (hd.step (L := []) (sv := .raw undef) h3 (.raw _) (by rw [hT]; exact hd.dh) (.refl _ _) (.refl _ _ _)) (St.set_nt ..) ⟨[], rfl⟩ h
  · exact h.elim

theorem vcOps_ok {ops : Array Oper} {K : St → Prop} {Q : Exit → Act → World → Prop} : ∀ (l : List Oper) (il : List IO_) (s : St) (a : Act) (w : World) (T : List Blk), l.mapM (trO P s.nt ops) = some il →
    Den P cx F s a w T → vcOps P il s K → (∀ s' a' w' T', Den P cx F s' a' w' T' → s'.nt = s.nt → K s' → Q .normal a' w') → wpListIn F 0 P ops Q l a w
  | [], il, s, a, w, T, hl, hd, h, hq => by
    simp at hl; subst hl
    exact hq s a w T hd rfl h
  | o :: l, il, s, a, w, T, hl, hd, h, hq => by
    rw [List.mapM_cons] at hl
    cases ho : trO P s.nt ops o with
    | none => rw [ho] at hl; cases hl
    | some i =>
      cases hr : l.mapM (trO P s.nt ops) with
      | none => rw [ho, hr] at hl; cases hl
      | some r =>
        rw [ho, hr] at hl
        cases hl
        refine wpListIn_step fun K' hK' => ?_
        refine vcStep_ok ho (C := fun s' => vcOps P r s' K) ?_ hd fun s' a' w' T' hd' hnt _ hc => hK' _ _ (vcOps_ok l r s' a' w' T' (by rw [hnt]; exact hr) hd' hc fun s'' a'' w'' T'' q1 q2 q3 => hq _ _ _ _ q1 (q2.trans hnt) q3)
        simp only [vcOps] at h
        exact h

end Go.SX

/- The symbolic machine: code's soundness. -/
namespace Go.SX
open Go

variable {P : Program} {T : List Blk} {cx : Cx} {F : Fence} {s : St} {a : Act} {w w' : World}

theorem Stuck.sx {ic : IC} {K : Xit → St → Prop} (h : Stuck P ic s K) {c : Code} {m : Nat} (hc : trC P s.nt m c = some ic) : SX P c s K := by
  cases h with
  | mk h => exact h c m hc

theorem vcC_ok : ∀ (c : Code) (ic : IC) (m : Nat) (s : St) (N : St → Prop) (E : Nat → St → Prop) (Rt : St → Prop), trC P s.nt m c = some ic → vcC P ic s N E Rt → SX P c s (jn N E Rt)
  | .skip, ic, m, s, N, E, Rt, hc, h => by
    simp only [trC] at hc; cases hc
    intro cx F a w T hd
    exact wpIn_skip ⟨.normal, s, T, rfl, hd, rfl, h⟩
  | .region id ops d, ic, m, s, N, E, Rt, hc, h => by
    have hc0 := hc
    simp only [trC] at hc
    split at hc
    · cases hc
    cases hl : ops.toList.mapM (trO P s.nt ops) with
    | none => rw [hl] at hc; cases hc
    | some l =>
      rw [hl] at hc
      cases d with
      | true =>
        have hic : ic = .draw id l (trAft ops) := by simpa using hc.symm
        subst hic
        exact Stuck.sx (m := m) h hc0
      | false =>
        have hic : ic = .reg id l := by simpa using hc.symm
        subst hic
        intro cx F a w T hd
        exact wpIn_region_list (vcOps_ok _ _ _ _ _ _ hl hd h fun s' a' w' T' h1 h2 h3 => ⟨.normal, s', T', rfl, h1, h2, h3⟩)
  | .seq x y, ic, m, s, N, E, Rt, hc, h => by
    simp only [trC] at hc
    cases hx : trC P s.nt (useC y ||| m) x with
    | none => rw [hx] at hc; cases hc
    | some ix =>
      cases hy : trC P s.nt m y with
      | none => rw [hx, hy] at hc; cases hc
      | some iy =>
        rw [hx, hy] at hc
        cases hc
        intro cx F a w T hd
        refine wpIn_seq ?_
        refine wpIn_mono (vcC_ok x ix _ s _ _ _ hx h cx F a w T hd) ?_
        rintro e a' w' ⟨xx, s', T', rfl, h1, h2, h3⟩
        cases xx with
        | normal =>
          have := vcC_ok y iy m { s' with tm := s'.tm.keep (useC y ||| m) } N E Rt (by rw [← h2] at hy; exact hy) h3 cx F a' w' T' (h1.keep _)
          refine wpIn_mono this ?_
          rintro e a'' w'' ⟨x2, s2, T2, g1, g2, g3, g4⟩
          exact ⟨x2, s2, T2, g1, g2, g3.trans h2, g4⟩
        | exit id => exact ⟨.exit id, s', T', rfl, h1, h2, h3⟩
        | ret => exact ⟨.ret, s', T', rfl, h1, h2, h3⟩
  | .cond c x y, ic, m, s, N, E, Rt, hc, h => by
    simp only [trC] at hc
    cases hx : trC P s.nt m x with
    | none => rw [hx] at hc; cases hc
    | some ix =>
      cases hy : trC P s.nt m y with
      | none => rw [hx, hy] at hc; cases hc
      | some iy =>
        rw [hx, hy] at hc
        cases hc
        intro cx F a w T hd
        simp only [vcC] at h
        have he := ev_ok hd.tm c
        split at h
        · rename_i t ht
          rw [ht] at he
          have he := raw_inv he
          cases t with
          | true => exact wpIn_cond_true he (vcC_ok x ix m s _ _ _ hx h cx F a w T hd)
          | false => exact wpIn_cond_false he (vcC_ok y iy m s _ _ _ hy h cx F a w T hd)
        · exact h.elim
  | .block id x, ic, m, s, N, E, Rt, hc, h => by
    simp only [trC] at hc
    cases hx : trC P s.nt m x with
    | none => rw [hx] at hc; cases hc
    | some ix =>
      rw [hx] at hc
      cases hc
      intro cx F a w T hd
      refine wpIn_block ?_
      refine wpIn_mono (vcC_ok x ix m s _ _ _ hx h cx F a w T hd) ?_
      rintro e a' w' ⟨xx, s', T', rfl, h1, h2, h3⟩
      cases xx with
      | normal => exact ⟨.normal, s', T', rfl, h1, h2, h3⟩
      | exit id' =>
        simp only [Xit.real, Exit.inBlock]
        simp only [jn] at h3
        by_cases hid : id' = id
        · subst hid
          rw [beqT] at h3
          simp only [if_true]
          exact ⟨.normal, s', T', rfl, h1, h2, h3⟩
        · rw [beqF hid] at h3
          rw [if_neg hid]
          exact ⟨.exit id', s', T', rfl, h1, h2, h3⟩
      | ret => exact ⟨.ret, s', T', rfl, h1, h2, h3⟩
  | .loop x, ic, m, s, N, E, Rt, hc, h => by
    have hc0 := hc
    simp only [trC] at hc
    cases hx : trC P s.nt (useC x ||| m) x with
    | none => rw [hx] at hc; cases hc
    | some ix =>
      rw [hx] at hc
      cases hc
      exact Stuck.sx (m := m) h hc0
  | .rangeFunc f ps x y, ic, m, s, N, E, Rt, hc, h => by
    have hc0 := hc
    simp only [trC] at hc
    cases hx : trC P s.nt (useC x ||| useC y ||| m) x with
    | none => rw [hx] at hc; cases hc
    | some ix =>
      cases hy : trC P s.nt (useC x ||| useC y ||| m) y with
      | none => rw [hx, hy] at hc; cases hc
      | some iy =>
        rw [hx, hy] at hc
        simp only [Option.bind_eq_bind, Option.bind_some] at hc
        split at hc
        · cases hc
          exact Stuck.sx (m := m) h hc0
        · cases hc
  | .exit id, ic, m, s, N, E, Rt, hc, h => by
    simp only [trC] at hc; cases hc
    intro cx F a w T hd
    exact wpIn_exit ⟨.exit id, s, T, rfl, hd, rfl, h⟩
  | .ret, ic, m, s, N, E, Rt, hc, h => by
    simp only [trC] at hc; cases hc
    intro cx F a w T hd
    exact wpIn_ret ⟨.ret, s, T, rfl, hd, rfl, h⟩
  | .label _, _, _, _, _, _, _, hc, _ => by simp [trC] at hc
  | .goto _, _, _, _, _, _, _, hc, _ => by simp [trC] at hc
  | .scope _, _, _, _, _, _, _, hc, _ => by simp [trC] at hc

theorem vcC_sxi {ic : IC} {N : St → Prop} {E : Nat → St → Prop} {Rt : St → Prop} (h : vcC P ic s N E Rt) : SXi P ic s (jn N E Rt) := fun c m hc => vcC_ok c ic m s N E Rt hc h

end Go.SX

/- The symbolic machine: names dropped; a function's entry and end. -/
namespace Go.SX
open Go

variable {P : Program} {T : List Blk} {cx : Cx} {F : Fence} {s : St} {a : Act} {w w' : World} {R : RO} {H : List SObj}

mutual
def SV.blw (n : Nat) : SV → Bool
  | .any | .raw _ | .rep .. | .ze => true
  | .ptr m _ | .ep m .. | .sl m .. | .yl m | .mp m => Nat.blt m n
  | .agg cs | .tup cs => cs.blw n
  | .ifc _ v => v.blw n
  | .fn _ a b => match a.blw n with
    | true => b.blw n
    | false => false
def SC.blw (n : Nat) : SC → Bool
  | .nil => true
  | .cons _ v r => match v.blw n with
    | true => r.blw n
    | false => false
end

def Tm.blw (n : Nat) : Tm → Bool
  | .nil => true
  | .cons _ v r => match v.blw n with
    | true => r.blw n
    | false => false

def SObj.blw (n : Nat) : SObj → Bool
  | .dead | .buf .. | .mapo .. | .dfr => true
  | .cells cs _ => cs.blw n
  | .loop l => match Nat.blt l.dfr n with
    | true => l.tm.blw n
    | false => false

/-- the first n objects, when none speaks of a later name -/
def trimH (n : Nat) : Nat → List SObj → Option (List SObj)
  | 0, _ => some []
  | _ + 1, [] => some []
  | k + 1, o :: r => match o.blw n with
    | true => match trimH n k r with
      | some r => some (o :: r)
      | none => none
    | false => none

/-- temporaries that speak of a later name are forgotten -/
def trimT (n : Nat) : Tm → Tm
  | .nil => .nil
  | .cons t v r => match v.blw n with
    | true => .cons t v (trimT n r)
    | false => .cons t .any (trimT n r)

theorem take_get {T : List Blk} {m n : Nat} {b : Blk} (hb : Nat.blt m n = true) (h : T[m]? = some b) : (T.take n)[m]? = some b := by
  rw [List.getElem?_take, if_pos (bltL hb)]; exact h

mutual
theorem DV.trim (n : Nat) : ∀ {s : SV} {v : Value}, s.blw n = true → DV T s v → DV (T.take n) s v
  | _, _, _, .any v => .any v
  | _, _, _, .raw v => .raw v
  | _, _, hb, .ptr h => .ptr (take_get hb h)
  | _, _, hb, .ep h => .ep (take_get hb h)
  | _, _, hb, .sl h a b => .sl (take_get hb h) a b
  | _, _, hb, .sl0 h => .sl0 (take_get hb h)
  | _, _, hb, .slnil h => .slnil (take_get hb h)
  | _, _, _, .ze => .ze
  | _, _, _, .rep h => .rep h
  | _, _, hb, .agg h => .agg (DC.trim n hb h)
  | _, _, hb, .tup h => .tup (DL.trim n hb h)
  | _, _, hb, .ifc h => .ifc (DV.trim n hb h)
  | .fn f a b, _, hb, .fn p q => by
    simp only [SV.blw] at hb
    cases ha : a.blw n with
    | true => rw [ha] at hb; exact .fn (DL.trim n ha p) (DL.trim n hb q)
    | false => rw [ha] at hb; cases hb
  | _, _, hb, .yl h => .yl (take_get hb h)
  | _, _, hb, .mp h => .mp (take_get hb h)
theorem DC.trim (n : Nat) : ∀ {s : SC} {l : List Value}, s.blw n = true → DC T s l → DC (T.take n) s l
  | _, _, _, .nil => .nil
  | .cons _ v r, _, hb, .one a b c => by
    simp only [SC.blw] at hb
    cases ha : v.blw n with
    | true => rw [ha] at hb; exact .one (DV.trim n ha a) b (DC.trim n hb c)
    | false => rw [ha] at hb; cases hb
  | .cons _ v r, _, hb, .many a b c d e => by
    simp only [SC.blw] at hb
    cases ha : v.blw n with
    | true => rw [ha] at hb; exact .many a (DV.trim n ha b) c d (DC.trim n hb e)
    | false => rw [ha] at hb; cases hb
theorem DL.trim (n : Nat) : ∀ {s : SC} {l : List Value}, s.blw n = true → DL T s l → DL (T.take n) s l
  | _, _, _, .nil => .nil
  | .cons _ v r, _, hb, .cons a b => by
    simp only [SC.blw] at hb
    cases ha : v.blw n with
    | true => rw [ha] at hb; exact .cons (DV.trim n ha a) (DL.trim n hb b)
    | false => rw [ha] at hb; cases hb
end

theorem Tm.blw_get {n : Nat} : ∀ {tm : Tm}, tm.blw n = true → ∀ t, (tm.get t).blw n = true
  | .nil, _, t => rfl
  | .cons k v r, h, t => by
    simp only [Tm.blw] at h
    cases hv : v.blw n with
    | false => rw [hv] at h; cases h
    | true =>
      rw [hv] at h
      simp only [Tm.get]
      cases Nat.beq k t with
      | true => exact hv
      | false => exact Tm.blw_get h t

theorem DT.trim (n : Nat) : ∀ {tm : Tm} {tmps : Array Value}, DT T tm tmps → DT (T.take n) (trimT n tm) tmps := by
  intro tm tmps h t
  have key : ∀ tm : Tm, (trimT n tm).get t = .any ∨ ((trimT n tm).get t = tm.get t ∧ (tm.get t).blw n = true) := by
    intro tm
    induction tm with
    | nil => exact .inl rfl
    | cons k v r ih =>
      simp only [trimT]
      cases hv : v.blw n with
      | true =>
        simp only [Tm.get]
        cases hb : Nat.beq k t with
        | true => exact .inr ⟨rfl, hv⟩
        | false => exact ih
      | false =>
        simp only [Tm.get]
        cases hb : Nat.beq k t with
        | true => exact .inl rfl
        | false => exact ih
  rcases key tm with e | ⟨e, hb⟩
  · rw [e]; exact .any _
  · rw [e]; exact DV.trim n hb (h t)

theorem trimH_ok {n : Nat} : ∀ {k : Nat} {H H' : List SObj}, trimH n k H = some H' → H' = H.take k ∧ ∀ o ∈ H', o.blw n = true
  | 0, H, H', h => by simp [trimH] at h; subst h; simp
  | k + 1, [], H', h => by simp [trimH] at h; subst h; simp
  | k + 1, o :: r, H', h => by
    simp only [trimH] at h
    cases ho : o.blw n with
    | false => rw [ho] at h; cases h
    | true =>
      rw [ho] at h
      cases hr : trimH n k r with
      | none => rw [hr] at h; cases h
      | some r' =>
        rw [hr] at h
        cases h
        obtain ⟨h1, h2⟩ := trimH_ok hr
        refine ⟨by rw [h1]; rfl, fun x hx => ?_⟩
        rcases List.mem_cons.1 hx with rfl | hx
        · exact ho
        · exact h2 x hx

theorem DO.trim {n m : Nat} {o : SObj} (hm : m < n) (hb : o.blw n = true) (h : DO P w T m o) : DO P w (T.take n) m o := by
  have hm := bltT hm
  cases o with
  | dead => trivial
  | cells cs e => obtain ⟨b, arr, h1, h2, h3⟩ := h; exact ⟨b, arr, take_get hm h1, h2, DC.trim n hb h3⟩
  | buf es wd e =>
    rcases h with ⟨h1, h2⟩ | ⟨b, base, arr, post, pre, h1, h2⟩
    · exact .inl ⟨take_get hm h1, h2⟩
    · exact .inr ⟨b, base, arr, post, pre, take_get hm h1, h2⟩
  | mapo es clk => obtain ⟨b, sz, h1, h2⟩ := h; exact ⟨b, sz, take_get hm h1, h2⟩
  | loop l =>
    obtain ⟨b, sz, r, h1, h2, h3⟩ := h
    obtain ⟨bs, sz', hd⟩ := h3.dfr
    simp only [SObj.blw] at hb
    cases hl : Nat.blt l.dfr n with
    | false => rw [hl] at hb; cases hb
    | true =>
      rw [hl] at hb
      exact ⟨b, sz, r, take_get hm h1, h2, ⟨h3.st, h3.pend, h3.nt, fun t => DV.trim n (Tm.blw_get hb t) (h3.tm t), h3.ps, h3.psl, h3.asg, h3.body, ⟨bs, sz', take_get hl hd⟩⟩⟩
  | dfr => obtain ⟨b, sz, h1, h2⟩ := h; exact ⟨b, sz, take_get hm h1, h2⟩

theorem take_some {α : Type _} {T : List α} {n m : Nat} {b : α} (h : (T.take n)[m]? = some b) : T[m]? = some b ∧ m < n := by
  rw [List.getElem?_take] at h
  split at h
  · exact ⟨h, by assumption⟩
  · cases h

theorem DH.trim {n : Nat} {H' : List SObj} (h : DH P w R T H) (ht : trimH n n H = some H') : DH P w R (T.take n) H' := by
  obtain ⟨rfl, hb⟩ := trimH_ok ht
  have live : ∀ m, Live (H.take n) m → Live H m := fun m ⟨o, h1, h2⟩ => ⟨o, (take_some h1).1, h2⟩
  refine ⟨by rw [List.length_take, List.length_take, h.len], ?_, ?_, ?_, h.ro, ?_⟩
  · intro m o ho
    exact (h.obj m o (take_some ho).1).trim (take_some ho).2 (hb o (List.mem_of_getElem? ho))
  · intro i j b bs sz bs' sz' h1 h2 l1 l2
    exact h.dis i j b bs sz bs' sz' (take_some h1).1 (take_some h2).1 (live _ l1) (live _ l2)
  · intro i b bs sz h1; exact h.lt i b bs sz (take_some h1).1
  · intro k o i bs sz hk h1 l1; exact h.rod k o i bs sz hk (take_some h1).1 (live _ l1)

theorem OwnB.take {n k : Nat} (h : OwnB (T.take n) k) : OwnB T k := by
  obtain ⟨m, bs, sz, h⟩ := h; exact ⟨m, bs, sz, (take_some h).1⟩

/-! ### a function -/
def argTm : Nat → List SV → Tm
  | _, [] => .nil
  | i, x :: r => .cons i x (argTm (i + 1) r)

def alen : List SV → Nat
  | [] => 0
  | _ :: r => alen r + 1

def vcRs (R : RO) (H : List SObj) (tm : Tm) : List RV → (List SV → Prop) → Prop
  | [], K => K []
  | x :: r, K => match x with
    | .t t => vcRs R H tm r fun vs => K (tm.get t :: vs)
    | .c a k => vcLd k R H (tm.get a) fun v => vcRs R H tm r fun vs => K (v :: vs)

def retSV : List SV → SV
  | [] => .tup .nil
  | x :: r => match r with
    | [] => x
    | _ => .tup (toSC (x :: r))

def dropD : List Nat → List SObj → Option (List SObj)
  | [], H => some H
  | n :: r, H => match hget H n with
    | .dfr => dropD r (hset H n .dead)
    | _ => none

/-- the end of a call: names that came up within it are dropped, where nothing that stays speaks of them -/
def vcOut (base : Nat) (s : St) (res : List RV) (K : SV → RO → List SObj → Prop) : Prop :=
  match dropD s.dfr s.heap with
  | none => False
  | some H => vcRs s.ro H s.tm res fun vs => match (retSV vs).blw base, trimH base base H with
    | true, some H' => K (retSV vs) s.ro H'
    | _, _ => K (retSV vs) s.ro H

def vcF (P : Program) (f : IF_) (args : List SV) (R : RO) (H : List SObj) (K : SV → RO → List SObj → Prop) : Prop :=
  match f with
  | ⟨nt, body, res⟩ => match Nat.ble (alen args) nt with
    | true => vcC P body ⟨R, H, argTm 0 args, nt, [], none, hlen H⟩ (fun s => vcOut (hlen H) s res K) (fun _ _ => False) (fun s => vcOut (hlen H) s res K)
    | false => False

theorem argTm_ok : ∀ (l : List SV) (i : Nat) (vs : List Value) (pre : List Value) (k : Nat), DL T (toSC l) vs → pre.length = i → DT T (argTm i l) (pre ++ vs ++ List.replicate k undef).toArray
  | [], i, vs, pre, k, h, hp => by
    intro t; exact .any _
  | x :: r, i, vs, pre, k, h, hp => by
    cases h with
    | cons p q =>
      rename_i v vs
      intro t
      simp only [argTm, Tm.get]
      cases hb : Nat.beq i t with
      | true =>
        have : i = t := Nat.eq_of_beq_eq_true hb
        subst this; subst hp
        simp [Array.getD_eq_getD_getElem?]
        exact p
      | false =>
        have := argTm_ok r (i + 1) vs (pre ++ [v]) k q (by simp [hp]) t
        simpa using this

theorem toSC_len : ∀ (l : List SV) (vs : List Value), DL T (toSC l) vs → vs.length = alen l
  | [], _, h => by cases h; rfl
  | x :: r, _, h => by
    cases h with
    | cons p q => simp [alen, toSC_len r _ q]

def rv1 (P : Program) (r : ResultVar) : Option RV := match r with | .tmp t => some (RV.t t) | .cell a t => (trAK P t).map (RV.c a)
def rs1 (tmps : Array Value) (r : ResultVar) : Sem Value := match r with | .tmp t => pure (tmps.getD t undef) | .cell a t => do loadVar t (← asAddr (tmps.getD a undef))

theorem vcRs_ok {tm : Tm} {tmps : Array Value} (hd : DH P w R T H) (ht : DT T tm tmps) : ∀ (rs : List ResultVar) (is : List RV) (K : List SV → Prop),
    rs.mapM (rv1 P) = some is → vcRs R H tm is K →
    ∃ vs svs, (rs.mapM (rs1 tmps)).run P w = .ok vs w ∧ DL T (toSC svs) vs ∧ K svs
  | [], is, K, h, hk => by
    simp at h; subst h
    exact ⟨[], [], by simp, .nil, hk⟩
  | r :: rs, is, K, h, hk => by
    rw [List.mapM_cons] at h
    cases h1 : rv1 P r with
    | none => rw [h1] at h; cases h
    | some i =>
      cases h2 : rs.mapM (rv1 P) with
      | none => rw [h1, h2] at h; cases h
      | some is' =>
        rw [h1, h2] at h
        cases h
        cases r with
        | tmp t =>
          have : i = .t t := by simpa [rv1] using h1.symm
          subst this
          simp only [vcRs] at hk
          obtain ⟨vs, svs, g1, g2, g3⟩ := vcRs_ok hd ht rs is' _ h2 hk
          refine ⟨_ :: vs, _ :: svs, ?_, .cons (ht t) g2, g3⟩
          rw [List.mapM_cons]
          simp [rs1, Sem.run_bind, g1]
        | cell a t =>
          simp only [rv1] at h1
          cases hk' : trAK P t with
          | none => rw [hk'] at h1; cases h1
          | some k =>
            rw [hk'] at h1
            cases h1
            simp only [vcRs] at hk
            obtain ⟨v, sv, e1, e2, e3⟩ := vcLd_ok hd hk' (ht a) hk
            obtain ⟨vs, svs, g1, g2, g3⟩ := vcRs_ok hd ht rs is' _ h2 e3
            refine ⟨v :: vs, sv :: svs, ?_, .cons e2 g2, g3⟩
            rw [List.mapM_cons]
            have hx : (rs1 tmps (.cell a t)).run P w = .ok v w := by
              simp only [rs1]
              cases hv : tmps.getD a undef with
              | pointer p =>
                rw [hv] at e1
                cases p with
                | none => simp [Instr.loadAt, Instr.sureAddr] at e1
                | some ad => simpa [Instr.loadAt, Instr.sureAddr, asAddr] using e1
              | _ => rw [hv] at e1; simp [Instr.loadAt, Instr.sureAddr] at e1
            simp [Sem.run_bind, hx, g1]

theorem trF_inv {fn : Func} {f : IF_} (h : trF P fn = some f) : ∃ c m, fn.body = some c ∧ trC P fn.ntmps m c = some f.body ∧ f.nt = fn.ntmps ∧ fn.results.toList.mapM (rv1 P) = some f.res := by
  unfold trF at h
  cases hb : fn.body with
  | none => rw [hb] at h; cases h
  | some c =>
    rw [hb] at h
    simp only [Option.bind_eq_bind, Option.bind_some] at h
    obtain ⟨b, h1, h⟩ := Option.bind_eq_some_iff.1 h
    obtain ⟨rs, h2, h⟩ := Option.bind_eq_some_iff.1 h
    cases h
    exact ⟨c, _, rfl, h1, rfl, h2⟩

end Go.SX
