/-
  Contracts of the library taken in; buffers frozen; slices of memory that only is read.
-/
import Derived.Test.YtalhhkjdlnamdaaDoorSg
/- The symbolic machine: regions that draw their order, their soundness. -/
namespace Go.SX
open Go

variable {P : Program} {T : List Blk} {cx : Cx} {F : Fence} {s : St} {a : Act} {w w' : World} {R : RO} {H : List SObj}

def HsOk (P : Program) (rhs : List (Nat × (World → Prop))) (shs : List HS) (T : List Blk) : Prop :=
  ∀ r ∈ rhs, (∀ w, r.2 w) ∨ ∃ h ∈ shs, h.i = r.1 ∧ ∃ t va v, trAK P t = some h.k ∧ DV T h.a va ∧ DV T h.v v ∧ r.2 = (fun w => (Instr.loadAt t va).run P w = .ok v w)

theorem holdOk_ok {ps : List Nat} {K : Prop} (hd : DH P w R T H) : ∀ {shs : List HS}, holdOk ps R H shs K → K ∧ ∀ h ∈ shs, isin ps h.i = false → ∀ t va v, trAK P t = some h.k → DV T h.a va → DV T h.v v → (Instr.loadAt t va).run P w = .ok v w
  | [], h => ⟨h, by simp⟩
  | x :: r, h => by
    simp only [holdOk] at h
    cases hb : isin ps x.i with
    | true =>
      rw [hb] at h
      obtain ⟨h1, h2⟩ := holdOk_ok hd h
      refine ⟨h1, fun y hy hf => ?_⟩
      rcases List.mem_cons.1 hy with rfl | hy
      · rw [hb] at hf; cases hf
      · exact h2 y hy hf
    | false =>
      rw [hb] at h
      obtain ⟨⟨g1, g2⟩, g3⟩ := detK_ok h
      obtain ⟨h1, h2⟩ := holdOk_ok hd g2
      refine ⟨h1, fun y hy hf => ?_⟩
      rcases List.mem_cons.1 hy with rfl | hy
      · intro t va v hk ha hv
        obtain ⟨v', sv, e1, e2, e3⟩ := vcLd_ok hd hk ha g1
        cases e3
        rw [g3 hv e2]; exact e1
      · exact h2 y hy hf

theorem vcQ_other {i : Nat} {o : IO_} {hs : List HS} {C : St → List HS → Prop} (h : ∀ k x, o.op ≠ .ld k x) : vcQ P i o s hs C = vcStep P o s fun s' => C s' hs := by
  unfold vcQ
  split
  · rename_i k x hx; exact absurd hx (h k x)
  · rfl

theorem vcOp_quiet {k : OpK} (hq : k.quiet = true) (h : ∀ k' x, k ≠ .ld k' x) (K : SV → RO → List SObj → Prop) : vcOp P k s K = vcPure k s.tm fun v => K v s.ro s.heap := by
  cases k with
  | ld k' x => exact absurd rfl (h k' x)
  | cvt k x => cases k <;> first | rfl | cases hq
  | blt b xs => cases b <;> first | rfl | cases hq
  | cal f xs => cases hq
  | alc z e => cases hq
  | box k e x => cases hq
  | st k x y => cases hq
  | bsl e k n z ps => cases hq
  | bld z ps => cases hq
  | _ => rfl

theorem vcQ_ok {ops : Array Oper} {o : Oper} {i : Nat} {x : IO_} (ho : trO P s.nt ops o = some x) (hq : x.op.quiet = true) {C : St → List HS → Prop} {hs : List HS} {rhs : List (Nat × (World → Prop))} (h : vcQ P i x s hs C)
    (hd : Den P cx F s a w T) (hh : HsOk P rhs hs T) :
    ∃ (S : World → Prop) (v : Value) (s' : St) (hs' : List HS), YieldsIf P ops S o v a ∧ S w ∧ Den P cx F s' (a.put o.dst v) w T ∧ s'.nt = s.nt ∧ C s' hs' ∧ HsOk P ((i, S) :: rhs) hs' T := by
  obtain ⟨h1, h2, h3, h4⟩ := trO_dst ho
  have hT : T ++ [] = T := List.append_nil T
  have fin : ∀ (S : World → Prop) (v : Value) (sv : SV) (hs' : List HS), YieldsIf P ops S o v a → S w → DV T sv v → C (s.set o.dst sv s.ro s.heap) hs' → HsOk P ((i, S) :: rhs) hs' T →
      ∃ (S : World → Prop) (v : Value) (s' : St) (hs' : List HS), YieldsIf P ops S o v a ∧ S w ∧ Den P cx F s' (a.put o.dst v) w T ∧ s'.nt = s.nt ∧ C s' hs' ∧ HsOk P ((i, S) :: rhs) hs' T := by
    intro S v sv hs' g1 g2 g3 g4 g5
    have := hd.step (L := []) (w' := w) h3 (by rw [hT]; exact g3) (by rw [hT]; exact hd.dh) (.refl _ _) (.refl _ _ _)
    rw [hT] at this
    exact ⟨S, v, _, hs', g1, g2, this, St.set_nt .., g4, g5⟩
  have triv : HsOk P ((i, fun _ => True) :: rhs) hs T := by
    intro r hr
    rcases List.mem_cons.1 hr with rfl | hr
    · exact .inl fun _ => trivial
    · exact hh r hr
  have skip : Region.wanted o (yielded ops a.tmps) = false → C (s.set x.dst (.raw undef) s.ro s.heap) hs → _ := fun hw hc =>
    fin (fun _ => True) undef (.raw undef) hs (.inr ⟨hw, rfl⟩) trivial (.raw _) (by rw [← h2]; exact hc) triv
  by_cases hld : ∃ k y, x.op = .ld k y
  · obtain ⟨k, y, hop⟩ := hld
    rw [h1] at hop
    obtain ⟨t, hot, hk⟩ := trK_ld hop
    have hv : vcQ P i x s hs C = (match gd s.tm x.g with
      | some true => vcLdH i k y x.dst s hs C
      | some false => C (s.set x.dst (.raw undef) s.ro s.heap) hs
      | none => False) := by
      unfold vcQ; rw [h1, hop]; rfl
    rw [hv] at h
    split at h
    · rename_i hg
      have hw := gd_ok ho hd.tm hg
      simp only [vcLdH] at h
      obtain ⟨v, sv, e1, e2, e3⟩ := vcLd_ok hd.dh hk (ev_ok hd.tm y) h
      rw [h2] at e3
      refine fin (fun w => (Instr.loadAt t (a.eval y)).run P w = .ok v w) v sv _ (.inl ⟨hw, fun w hS => ?_⟩) e1 e2 e3 ?_
      · have hS : (Instr.loadAt t (a.eval y)).run P w = .ok v w := hS
        simp [execOp, hot, Sem.run_bind, hS]
      · intro r hr
        rcases List.mem_cons.1 hr with rfl | hr
        · exact .inr ⟨⟨i, k, ev s.tm y, sv⟩, by simp, rfl, t, _, v, hk, ev_ok hd.tm y, e2, rfl⟩
        · rcases hh r hr with q | ⟨h', hm, q⟩
          · exact .inl q
          · exact .inr ⟨h', List.mem_cons_of_mem _ hm, q⟩
    · rename_i hg
      exact skip (gd_ok ho hd.tm hg) h
    · exact h.elim
  · have hld : ∀ k y, x.op ≠ .ld k y := fun k y e => hld ⟨k, y, e⟩
    rw [vcQ_other hld] at h
    simp only [vcStep] at h
    split at h
    · rename_i hg
      rw [vcOp_quiet hq hld, h1] at h
      obtain ⟨v, sv, e1, e2, e3⟩ := vcPure_ok (P := P) hd.tm h
      rw [h2] at e3
      exact fin (fun _ => True) v sv hs (.inl ⟨gd_ok ho hd.tm hg, fun w _ => e1 w⟩) trivial e2 e3 triv
    · rename_i hg
      exact skip (gd_ok ho hd.tm hg) h
    · exact h.elim

theorem drStatic_ok {ops : Array Oper} (h : drStatic ops = true) : (∀ (j : Nat) (o : Oper) cs b, ops[j]? = some o → o.op ≠ .select cs b) ∧ (∀ (j : Nat) (o : Oper) c, ops[j]? = some o → o.op ≠ .defer c) ∧
    (∀ (i j : Nat) (oi oj : Oper), ops[i]? = some oi → ops[j]? = some oj → j ≠ i → (∀ e ∈ oj.after, Region.binds .any e = true → e.on ≠ i) → (∀ e ∈ oi.after, Region.binds .any e = true → e.on ≠ j) → oi.apart ops oj = true) := by
  unfold drStatic at h
  rw [Bool.and_eq_true] at h
  obtain ⟨h1, h2⟩ := h
  rw [List.all_eq_true] at h1 h2
  refine ⟨fun j o cs b ho e => ?_, fun j o c ho e => ?_, fun i j oi oj hi hj hne hno hno2 => ?_⟩
  · have := h1 o (by simpa using Array.mem_of_getElem? ho); rw [e] at this; cases this
  · have := h1 o (by simpa using Array.mem_of_getElem? ho); rw [e] at this; cases this
  · have h3 := h2 i (by simpa using (Array.getElem?_eq_some_iff.1 hi).1)
    rw [List.all_eq_true] at h3
    have h4 := h3 j (by simpa using (Array.getElem?_eq_some_iff.1 hj).1)
    rw [hi, hj] at h4
    simp only [Bool.or_eq_true, beq_iff_eq] at h4
    rcases h4 with e | (h4 | h4) | h4
    · exact absurd e.symm hne
    · simp only [Array.any_eq_true, Bool.and_eq_true, beq_iff_eq] at h4
      obtain ⟨k, hk, e1, e2⟩ := h4
      exact absurd e2 (hno _ (by simp) e1)
    · simp only [Array.any_eq_true, Bool.and_eq_true, beq_iff_eq] at h4
      obtain ⟨k, hk, e1, e2⟩ := h4
      exact absurd e2 (hno2 _ (by simp) e1)
    · exact h4

theorem isin_ok {ps : List Nat} {i : Nat} : isin ps i = true ↔ i ∈ ps := by
  induction ps with
  | nil => simp [isin]
  | cons p r ih =>
    simp only [isin]
    cases hb : Nat.beq p i with
    | true => have := Nat.eq_of_beq_eq_true hb; simp [this]
    | false =>
      have : i ≠ p := fun e => by subst e; rw [beqT] at hb; cases hb
      simp [ih, this]

def depD (ops : Array Oper) (j i : Nat) : Bool := match (trAft ops)[j]? with | some ps => isin ps i | none => false

theorem firstQ_ok : ∀ {l : List (Nat × IO_ × List Nat)} {i : Nat} {o : IO_}, firstQ l = some (i, o) → o.op.quiet = true ∧ ∃ ps, (i, o, ps) ∈ l
  | [], i, o, h => by simp [firstQ] at h
  | (j, x, ps) :: r, i, o, h => by
    simp only [firstQ] at h
    cases hq : x.op.quiet with
    | true => rw [hq] at h; cases h; exact ⟨hq, ps, by simp⟩
    | false =>
      rw [hq] at h
      obtain ⟨h1, ps', h2⟩ := firstQ_ok h
      exact ⟨h1, ps', List.mem_cons_of_mem _ h2⟩

theorem vcDraw_ok {ops : Array Oper} {il : List IO_} {nt : Nat} (hl : ops.toList.mapM (trO P nt ops) = some il) (hst : drStatic ops = true) {K : St → Prop} {Q : Exit → Act → World → Prop}
    (hQn : ∀ s' a' w' T', Den P cx F s' a' w' T' → s'.nt = nt → K s' → Q .normal a' w') (hQp : ∀ c a w, ¬ Q (.panic c) a w) : ∀ (n : Nat) (L : List Bool) (shs : List HS) (s : St) (a : Act) (w : World) (T : List Blk) (rhs : List (Nat × (World → Prop))),
    Den P cx F s a w T → s.nt = nt → Cl ops L.toArray → HsOk P rhs shs T → (∀ r ∈ rhs, r.2 w) → vcDraw P il (trAft ops) n L shs s K → AnyH F P ops Q (depD ops) n L.toArray rhs a w := by
  obtain ⟨hsel, hdf, hfree⟩ := drStatic_ok hst
  have hdep : ∀ (listed : Array Bool) (i j : Nat), Cl ops listed → j ∈ Region.ready .any ops listed → listed.getD i true = false → depD ops j i = false := by
    intro listed i j _ hj hi
    cases hb : depD ops j i with
    | false => rfl
    | true =>
      obtain ⟨_, oj, hoj, hall⟩ := mem_ready.1 hj
      simp only [depD, trAft, List.getElem?_map, Array.getElem?_toList, hoj, Option.map_some] at hb
      obtain ⟨e, he, rfl⟩ := List.mem_map.1 (isin_ok.1 hb)
      simp only [List.mem_filter, Array.mem_toList_iff] at he
      have := hall e he.1 he.2
      rcases Nat.lt_or_ge e.on listed.size with h' | h'
      · simp [h'] at hi this; rw [hi] at this; cases this
      · simp [Array.getElem?_eq_none h'] at this
  intro n
  induction n with
  | zero =>
    intro L shs s a w T rhs hd hnt hcl hh hc h
    simp only [vcDraw] at h
    split at h
    · rename_i hr
      have hrd : Region.ready .any ops L.toArray = [] := by
        rw [List.eq_nil_iff_forall_not_mem]; intro i hi
        obtain ⟨o, ps, hm⟩ := (ready_iff hl L i).1 hi
        rw [hr] at hm; cases hm
      exact ⟨hrd, hQn _ _ _ _ hd hnt h⟩
    · exact h.elim
  | succ n ih =>
    intro L shs s a w T rhs hd hnt hcl hh hc h
    simp only [vcDraw] at h
    split at h
    · rename_i hr
      have hrd : Region.ready .any ops L.toArray = [] := by
        rw [List.eq_nil_iff_forall_not_mem]; intro i hi
        obtain ⟨o, ps, hm⟩ := (ready_iff hl L i).1 hi
        rw [hr] at hm; cases hm
      exact ⟨fun _ => hQn _ _ _ _ hd hnt h, by rw [hrd]; simp⟩
    · rename_i x r hr
      split at h
      · rename_i i o hfq
        obtain ⟨hq, ps, hm⟩ := firstQ_ok hfq
        rw [← hr] at hm
        have hrd := (ready_iff hl L i).2 ⟨o, ps, hm⟩
        obtain ⟨_, hil, _⟩ := rdy_ok.1 hm
        obtain ⟨oi, hoi, htr⟩ := il_get hl hil
        simp only [Nat.sub_zero] at hoi
        obtain ⟨S, v, s', hs', g1, g2, g3, g4, g5, g6⟩ := vcQ_ok (by rw [hnt]; exact htr) hq h hd hh
        have hcur : ∀ r ∈ (i, S) :: rhs, r.2 w := by
          intro r hr
          rcases List.mem_cons.1 hr with rfl | hr
          · exact g2
          · exact hc r hr
        refine AnyH.take (S := S) (fun f => hd.fw.fn f) hoi hsel hdf (fun c a w hq => absurd hq (hQp c _ w)) (fun listed j hcl' hj hi => hdep listed i j hcl' hj hi) n L.toArray rhs a w hcl
          (fun j oj hj hne hun hno => hfree i j oi oj hoi hj hne hno fun e he hb heq => by
            obtain ⟨_, oi', hoi', hall⟩ := mem_ready.1 hrd
            rw [hoi] at hoi'; cases hoi'
            have h1 := hall e he hb
            rw [heq] at h1
            rcases Nat.lt_or_ge j L.toArray.size with h' | h'
            · have h'' : j < L.length := by simpa using h'
              simp [Array.getD, h''] at hun h1; rw [hun] at h1; cases h1
            · have h'' : ¬ j < L.length := by simpa using h'
              simp [Array.getD, h''] at h1) hrd g1 g2 hc ?_
        rw [← lset_eq]
        exact ih (lset L i) hs' s' _ w T _ g3 (g4.trans hnt) (by rw [lset_eq]; exact hcl.set hrd) g6 hcur g5
      · split at h
        · rename_i j o ps hfq
          have hm : (j, o, ps) ∈ rdyFrom L 0 il (trAft ops) := by rw [hr]; simp
          have hrd := (ready_iff hl L j).2 ⟨o, ps, hm⟩
          obtain ⟨_, hil, hps, _⟩ := rdy_ok.1 hm
          obtain ⟨oj, hoj, htr⟩ := il_get hl hil
          simp only [Nat.sub_zero] at hoj hps
          refine ⟨fun h0 => (by rw [h0] at hrd; cases hrd), fun i hi => ?_⟩
          have hij : i = j := by
            obtain ⟨o', ps', hm'⟩ := (ready_iff hl L i).1 hi
            rw [hr] at hm'
            simp at hm'
            exact hm'.1
          subst hij
          unfold Go.wpOpIn
          simp only [hoj]
          refine vcStep_ok (by rw [hnt]; exact htr) (C := fun s' => holdOk ps s'.ro s'.heap shs (vcDraw P il (trAft ops) n (lset L i) shs s' K)) h hd fun s' a' w' T' hd' hnt' hTL hC => ?_
          obtain ⟨M, rfl⟩ := hTL
          obtain ⟨q1, q2⟩ := holdOk_ok hd'.dh hC
          have hdj : ∀ k, depD ops i k = isin ps k := fun k => by simp only [depD, hps]
          have held : ∀ r ∈ rhs, depD ops i r.1 = false → r.2 w' := by
            intro r hr' hdp
            rcases hh r hr' with q | ⟨hx, hm', e1, t, va, v, e2, e3, e4, e5⟩
            · exact q w'
            · rw [e5]
              exact q2 hx hm' (by rw [e1, ← hdj]; exact hdp) t va v e2 (e3.ext M) (e4.ext M)
          refine ⟨held, ?_⟩
          rw [← lset_eq]
          refine ih (lset L i) shs s' a' w' (T ++ M) _ hd' (hnt'.trans hnt) (by rw [lset_eq]; exact hcl.set hrd) (fun r hr' => ?_) (fun r hr' => ?_) q1
          · have hr' := (List.mem_filter.1 hr').1
            rcases hh r hr' with q | ⟨hx, hm', e1, t, va, v, e2, e3, e4, e5⟩
            · exact .inl q
            · exact .inr ⟨hx, hm', e1, t, va, v, e2, e3.ext M, e4.ext M, e5⟩
          · obtain ⟨e1, e2⟩ := List.mem_filter.1 hr'
            exact held r e1 (by simpa using e2)
        · exact h.elim

theorem falses_eq (l : List IO_) : falses l = List.replicate l.length false := by
  induction l with
  | nil => rfl
  | cons x r ih => simp [falses, ih, List.replicate_succ]
theorem ilen_eq (l : List IO_) : ilen l = l.length := by induction l with | nil => rfl | cons x r ih => simp [ilen, ih]

theorem draw_rule {id : Nat} {il : List IO_} {aft : List (List Nat)} {N : St → Prop} {E : Nat → St → Prop} {Rt : St → Prop} (hm : P.follows .mixedOrders = true) (h : vcDraw P il aft (ilen il) (falses il) [] s N) : Stuck P (.draw id il aft) s (jn N E Rt) := by
  refine ⟨fun c m hc cx F a w T hd => ?_⟩
  have : ∃ ops, c = .region id ops true ∧ drStatic ops = true ∧ ops.toList.mapM (trO P s.nt ops) = some il ∧ aft = trAft ops := by
    cases c with
    | region id' ops d =>
      simp only [trC] at hc
      split at hc
      · cases hc
      · rename_i hds
        cases hl : ops.toList.mapM (trO P s.nt ops) with
        | none => rw [hl] at hc; cases hc
        | some l =>
          rw [hl] at hc
          cases d with
          | false => simp at hc
          | true =>
            simp at hc
            obtain ⟨rfl, rfl, rfl⟩ := hc
            exact ⟨ops, rfl, by simpa using hds, hl, rfl⟩
    | seq x y => simp only [trC] at hc; cases hx : trC P s.nt (useC y ||| m) x <;> cases hy : trC P s.nt m y <;> rw [hx, hy] at hc <;> cases hc
    | cond c x y => simp only [trC] at hc; cases hx : trC P s.nt m x <;> cases hy : trC P s.nt m y <;> rw [hx, hy] at hc <;> cases hc
    | block id x => simp only [trC] at hc; cases hx : trC P s.nt m x <;> rw [hx] at hc <;> cases hc
    | loop x => simp only [trC] at hc; cases hx : trC P s.nt (useC x ||| m) x <;> rw [hx] at hc <;> cases hc
    | rangeFunc f ps x y => simp only [trC] at hc; cases hx : trC P s.nt (useC x ||| useC y ||| m) x <;> cases hy : trC P s.nt (useC x ||| useC y ||| m) y <;> rw [hx, hy] at hc <;> simp at hc
    | skip => simp [trC] at hc
    | exit id => simp [trC] at hc
    | ret => simp [trC] at hc
    | label _ => simp [trC] at hc
    | goto _ => simp [trC] at hc
    | scope _ => simp [trC] at hc
    | refuse _ => simp [trC] at hc
  obtain ⟨ops, rfl, hst, hl, rfl⟩ := this
  have hlen : il.length = ops.size := by
    have : ∀ {l : List Oper} {m : List IO_}, Prs (fun x y => trO P s.nt ops x = some y) l m → m.length = l.length := by
      intro l m h; induction h with | nil => rfl | cons _ _ ih => simp [ih]
    simpa using this (mapM_prs hl)
  refine wpIn_region_any hm ?_
  have hd' : Den P cx F s a { w with drawn := w.drawn + 1 } T :=
    ⟨⟨hd.rel.os, hd.rel.tape, hd.rel.output, hd.rel.size, hd.rel.block, hd.rel.pre, hd.rel.own⟩, hd.dh.same (w' := { w with drawn := w.drawn + 1 }) (Nat.le_refl _) (fun _ _ => rfl), hd.rg, hd.tm, hd.nt, hd.dfr, hd.fw, hd.bs⟩
  have := vcDraw_ok (Q := fun e a' w' => ∃ x s' T', e = Xit.real x ∧ Den P cx F s' a' w' T' ∧ s'.nt = s.nt ∧ jn N E Rt x s') hl hst (K := N) (fun s' a' w' T' h1 h2 h3 => ⟨.normal, s', T', rfl, h1, h2, h3⟩)
    (fun c a w ⟨x, _, _, e, _⟩ => by cases x <;> cases e) (ilen il) (falses il) [] s a _ T [] hd' rfl (fun j o hj => by
      rw [falses_eq] at hj
      rcases Nat.lt_or_ge j il.length with hlt | hge
      · simp [Array.getD_eq_getD_getElem?, hlt] at hj
      · simp [Array.getD_eq_getD_getElem?, Array.getElem?_eq_none (show (Array.replicate il.length false).size ≤ j by simpa using hge)] at hj) (by intro r hr; cases hr) (by simp) h
  rw [falses_eq, ilen_eq, hlen] at this
  simpa using this.any

end Go.SX

/- The symbolic machine: the kit's contracts taken in; what only is read forgotten. -/
namespace Go.SX
open Go

variable {P : Program} {T : List Blk} {cx : Cx} {F : Fence} {s : St} {a : Act} {w w' : World} {R : RO} {H : List SObj}

theorem DH.shrink {R' : RO} (h : DH P w R' T H) (hs : ∀ k o, R k = some o → R' k = some o) : DH P w R T H :=
  ⟨h.len, h.obj, h.dis, h.lt, fun k o hk => h.ro k o (hs k o hk), fun k o n bs sz hk => h.rod k o n bs sz (hs k o hk)⟩

/-- new memory that only is read is forgotten -/
theorem CallW.shrink {f : FuncId} {args : List SV} {K : SV → RO → List SObj → Prop} (h : CallW P f args R H fun sv _ H' => K sv R H') : CallW P f args R H K := by
  intro cx w T vs hr hd hv
  refine (h cx w T vs hr hd hv).mono ?_
  rintro e w' ⟨v, sv, R', H', L, rfl, h1, h2, h3, h4, h5⟩
  exact ⟨v, sv, R, H', L, rfl, h1, h2.shrink h4.sub, h3, .refl _ _ _, h5⟩

theorem CallW.mono {f : FuncId} {args : List SV} {K K' : SV → RO → List SObj → Prop} (h : CallW P f args R H K) (hk : ∀ sv R' H', K sv R' H' → K' sv R' H') : CallW P f args R H K' := by
  intro cx w T vs hr hd hv
  refine (h cx w T vs hr hd hv).mono ?_
  rintro e w' ⟨v, sv, R', H', L, rfl, h1, h2, h3, h4, h5⟩
  exact ⟨v, sv, R', H', L, rfl, h1, h2, h3, h4, hk _ _ _ h5⟩

def raws : List Value → List SV
  | [] => []
  | v :: r => .raw v :: raws r

theorem raws_inv : ∀ {vs l : List Value}, DL T (toSC (raws vs)) l → l = vs
  | [], _, h => by cases h; rfl
  | v :: r, _, h => by
    cases h with
    | cons p q => rw [raw_inv p, raws_inv q]

/-- a contract of the kit: known arguments, a known result, the old blocks as they were -/
theorem CallW.kit {f : FuncId} {vs : List Value} {v : Value} (h : ∀ w : World, (∀ k o, R k = some o → w.heap[k]? = some o) → Calls P f vs.toArray w fun e w' => e = .returned v ∧ RowKit.Below w.heap.size w w') :
    CallW P f (raws vs) R H fun sv R' H' => sv = .raw v ∧ R' = R ∧ H' = H := by
  intro cx w T l hr hd hv
  have := raws_inv hv
  subst this
  refine (callsIn_wide.2 (h w hd.ro)).mono ?_
  rintro e w' ⟨rfl, hb⟩
  exact ⟨v, .raw v, R, H, [], rfl, .raw _, by rw [List.append_nil]; exact hd.same hb.size hb.block, ⟨hb.os, hb.tape, hb.output, hb.size, fun k hk _ => hb.block k hk, fun k hk => .inl (by simpa using hk)⟩, .refl _ _ _, rfl, rfl, rfl⟩

/-- a contract of the kit that lays one more row, which only will be read -/
theorem CallW.kitAlloc {f : FuncId} {vs : List Value} {o : Obj} {g : Nat → Value} (h : ∀ w : World, (∀ k o, R k = some o → w.heap[k]? = some o) → Calls P f vs.toArray w fun e w' => e = .returned (g w.heap.size) ∧ w' = w.alloc o) :
    CallW P f (raws vs) R H fun sv R' H' => ∃ k, R' k = some o ∧ SubRO R R' ∧ sv = .raw (g k) ∧ H' = H := by
  intro cx w T l hr hd hv
  have := raws_inv hv
  subst this
  refine (callsIn_wide.2 (h w hd.ro)).mono ?_
  rintro e w' ⟨rfl, rfl⟩
  obtain ⟨p1, p2, p3⟩ := alloc_ws w o
  obtain ⟨h1, h2, h3⟩ := ro_push hd p1 p2 p3
  exact ⟨_, .raw _, _, H, [], rfl, .raw _, by rw [List.append_nil]; exact h1, ⟨rfl, rfl, rfl, Nat.le_of_lt p1, fun k hk _ => p2 k hk, fun k hk => .inl (by simpa using hk)⟩, h2, w.heap.size, by simp [ROadd], h3, rfl, rfl⟩

end Go.SX

/- The symbolic machine: a buffer that from here on only is read. -/
namespace Go.SX
open Go

variable {P : Program} {T : List Blk} {cx : Cx} {F : Fence} {s : St} {a : Act} {w w' : World} {R : RO} {H : List SObj}

theorem DH.freeze (hd : DH P w R T H) {n wd e : Nat} {es : List Value} (hob : hget H n = .buf es wd e) :
    ∃ R', DH P w R' T (hset H n .dead) ∧ RG R R' w T ∧ ∀ {i len cap : Nat} {v : Value} {news : List Value}, DV T (.sl n 0 i wd len cap) v → (es.drop i).take len = news → news.length = len →
      ROSl R' v news wd ∧ ∃ q, v = .slice q len cap := by
  have hg := hget_some hob rfl
  have hlv : Live H n := ⟨_, hg, rfl⟩
  rcases hd.obj n _ hg with ⟨h1, h2⟩ | ⟨b, base, arr, post, pre, h1, h2, h3, h4, h5⟩
  · refine ⟨R, hd.kill n, .refl _ _ _, fun hv hn hl => ?_⟩
    rcases sl_inv hv with ⟨b, base, sz, g1, _⟩ | ⟨g1, rfl, rfl, x, rfl⟩ | ⟨b, base, sz, o', g1, _⟩
    · rw [h1] at g1; cases g1
    · have := List.length_eq_zero_iff.1 hl
      exact ⟨.inr ⟨this, _, rfl⟩, _, rfl⟩
    · rw [h1] at g1; cases g1
  · have hk := hd.kill n
    have hsub : ∀ k o, R k = some o → ROadd R b (.cells arr e (0, 0)) k = some o := fun k o hk' => by
      simp only [ROadd]
      rw [if_neg (fun e => by subst e; exact hd.rod _ _ _ _ _ hk' h1 hlv)]
      exact hk'
    refine ⟨ROadd R b (.cells arr e (0, 0)), ⟨hk.len, hk.obj, hk.dis, hk.lt, fun k o hk' => ?_, fun k o m bs sz hk' hm hl => ?_⟩, ⟨hsub, fun k o hk' => ?_⟩, fun hv hn hl => ?_⟩
    · simp only [ROadd] at hk'
      split at hk'
      · cases hk'; subst_vars; exact h2
      · exact hd.ro k o hk'
    · simp only [ROadd] at hk'
      have hl' : Live H m ∧ m ≠ n := by
        obtain ⟨y, q1, q2⟩ := hl
        rw [hset_eq] at q1
        by_cases e' : n = m
        · subst e'
          have hlt : n < H.length := (List.getElem?_eq_some_iff.1 hg).1
          rw [List.getElem?_set_self hlt] at q1; cases q1; cases q2
        · rw [List.getElem?_set_ne e'] at q1; exact ⟨⟨y, q1, q2⟩, fun q => e' q.symm⟩
      split at hk'
      · subst_vars
        exact hl'.2 (hd.dis _ _ _ _ _ _ _ hm h1 hl'.1 hlv)
      · exact hd.rod k o m _ _ hk' hm hl'.1
    · simp only [ROadd] at hk'
      split at hk'
      · subst_vars; exact .inr (.inl ⟨n, _, _, h1⟩)
      · exact .inl hk'
    · rename_i i len cap v news
      rcases sl_inv hv with ⟨b', base', sz, g1, g2, g3, rfl⟩ | ⟨g1, rfl, rfl, x, rfl⟩ | ⟨b', base', sz, o', g1, rfl, rfl, rfl⟩
      · rw [h1] at g1
        simp only [Option.some.injEq, Blk.at.injEq] at g1
        obtain ⟨rfl, rfl, rfl⟩ := g1
        refine ⟨.inl ?_, _, rfl⟩
        subst hl
        have hnok : ∀ v ∈ news, EOk wd v := fun v hv => by rw [← hn] at hv; exact h5 v (List.mem_of_mem_drop (List.mem_of_mem_take hv))
        obtain ⟨l, r, e1, e2⟩ := flat_sub h5 hn
        rcases e2 with rfl | e2
        · refine ⟨b, _, cap, arr, e, (0, 0), arr.toList.take (base + 0 + i * wd), arr.toList.drop (base + 0 + i * wd), rfl, g2, by simp [ROadd], by simp, ?_, by simp⟩
          rw [List.length_take, Array.length_toList]; omega
        · exact ⟨b, _, cap, arr, e, (0, 0), pre ++ l, r ++ post, rfl, g2, by simp [ROadd], by rw [h3, e1]; simp, by simp [h4, e2], hnok⟩
      · rw [h1] at g1; cases g1
      · have := List.length_eq_zero_iff.1 hl
        exact ⟨.inr ⟨this, _, rfl⟩, _, rfl⟩

/-- a slice that is handed back: from here on it only is read -/
theorem CallW.freeze {f : FuncId} {args : List SV} {K : SV → RO → List SObj → Prop}
    (h : CallW P f args R H fun sv R' H' => ∃ (n i wd len cap e : Nat) (es news : List Value), sv = .sl n 0 i wd len cap ∧ hget H' n = .buf es wd e ∧ (es.drop i).take len = news ∧ news.length = len ∧
      ∀ R'' q, SubRO R' R'' → ROSl R'' (.slice q len cap) news wd → K (.raw (.slice q len cap)) R'' (hset H' n .dead)) : CallW P f args R H K := by
  intro cx w T vs hr hd hv
  refine (h cx w T vs hr hd hv).mono ?_
  rintro e w' ⟨v, sv, R', H', L, rfl, h1, h2, h3, h4, n, i, wd, len, cap, et, es, news, rfl, k1, k2, k3, k4⟩
  obtain ⟨R'', g1, g2, g3⟩ := h2.freeze k1
  obtain ⟨g4, q, rfl⟩ := g3 h1 k2 k3
  refine ⟨_, .raw _, R'', _, L, rfl, .raw _, g1, h3, ⟨fun k o hk => g2.sub k o (h4.sub k o hk), fun k o hk => ?_⟩, k4 R'' q g2.sub g4⟩
  rcases g2.new k o hk with p | p | p
  · exact h4.new k o p
  · rcases h3.own k p with p | p
    · exact .inr (.inl p)
    · exact .inr (.inr p)
  · have := h3.size; exact .inr (.inr (by omega))

/-- the same, of a slice that is the first of several results -/
theorem CallW.freezeT {f : FuncId} {args : List SV} {K : SV → RO → List SObj → Prop}
    (h : CallW P f args R H fun sv R' H' => ∃ (n i wd len cap e k : Nat) (r : SC) (es news : List Value), sv = .tup (.cons k (.sl n 0 i wd len cap) r) ∧ hget H' n = .buf es wd e ∧ (es.drop i).take len = news ∧ news.length = len ∧
      ∀ R'' q, SubRO R' R'' → ROSl R'' (.slice q len cap) news wd → K (.tup (.cons k (.raw (.slice q len cap)) r)) R'' (hset H' n .dead)) : CallW P f args R H K := by
  intro cx w T vs hr hd hv
  refine (h cx w T vs hr hd hv).mono ?_
  rintro e w' ⟨v, sv, R', H', L, rfl, h1, h2, h3, h4, n, i, wd, len, cap, et, k, r, es, news, rfl, k1, k2, k3, k4⟩
  obtain ⟨R'', g1, g2, g3⟩ := h2.freeze k1
  cases h1 with
  | tup h1 =>
  rename_i arr
  obtain ⟨l⟩ := arr
  simp only at h1
  cases h1 with
  | cons p t =>
  rename_i x l
  obtain ⟨g4, q, rfl⟩ := g3 p k2 k3
  refine ⟨_, .tup (.cons k (.raw _) r), R'', _, L, rfl, .tup (.cons (.raw _) t), g1, h3, ⟨fun k o hk => g2.sub k o (h4.sub k o hk), fun k o hk => ?_⟩, k4 R'' q g2.sub g4⟩
  rcases g2.new k o hk with p | p | p
  · exact h4.new k o p
  · rcases h3.own k p with p | p
    · exact .inr (.inl p)
    · exact .inr (.inr p)
  · have := h3.size; exact .inr (.inr (by omega))

/-- names that came up within a call are dropped -/
theorem CallW.trim {f : FuncId} {args : List SV} {K : SV → RO → List SObj → Prop}
    (h : CallW P f args R H fun sv R' H' => ∃ H'', sv.blw (hlen H) = true ∧ trimH (hlen H) (hlen H) H' = some H'' ∧ K sv R' H'') : CallW P f args R H K := by
  intro cx w T vs hr hd hv
  refine (h cx w T vs hr hd hv).mono ?_
  rintro e w' ⟨v, sv, R', H', L, rfl, h1, h2, h3, h4, H'', k1, k2, k3⟩
  have hbase : (T ++ L).take (hlen H) = T := by rw [hlen_eq, ← hd.len]; simp
  have g1 := DV.trim (hlen H) k1 h1
  have g2 := h2.trim k2
  rw [hbase] at g1 g2
  exact ⟨v, sv, R', H'', [], rfl, by rw [List.append_nil]; exact g1, by rw [List.append_nil]; exact g2, ⟨h3.os, h3.tape, h3.output, h3.size, h3.block, fun k hk => .inl (by simpa using hk)⟩, h4, k3⟩

end Go.SX

/- The symbolic machine: parts of slices that only are read. -/
namespace Go.SX
open Go

theorem ROSl.sub {R : RO} {a : Option Addr} {len len' cap c wd lo hi : Nat} {es : List Value} {v : Value} (h : ROSl R (.slice a len cap) es wd) (hc : c ≤ cap) (hh : hi ≤ es.length)
    (hs : SubS (.slice a len' c) wd lo hi v) : ROSl R v ((es.drop lo).take (hi - lo)) wd := by
  cases hs with
  | mk e h1 h2 =>
    rename_i a' len'' c'
    cases e
    by_cases hcl : c = lo
    · have : hi = lo := by omega
      subst this
      rw [if_pos hcl]
      right
      exact ⟨by simp, a, by rw [hcl]; simp⟩
    · rw [if_neg hcl]
      rcases h with ⟨k, o, cap', arr, e, fr, pre, post, e1, e2, e3, e4, e5, e6⟩ | ⟨rfl, q, e1⟩
      · cases e1
        have hes : es = es.take lo ++ ((es.drop lo).take (hi - lo) ++ es.drop hi) := by
          have h3 : es.drop hi = (es.drop lo).drop (hi - lo) := by rw [List.drop_drop]; congr 1; omega
          rw [h3, List.take_append_drop, List.take_append_drop]
        left
        have hlen : ((es.drop lo).take (hi - lo)).length = hi - lo := by simp; omega
        refine ⟨k, o + lo * wd, c - lo, arr, e, fr, pre ++ (es.take lo).flatMap vcells, (es.drop hi).flatMap vcells ++ post, ?_, by omega, e3, ?_, ?_, ?_⟩
        · rw [hlen, Option.map_some, Addr.add_mid]
        · rw [e4]
          conv => lhs; rw [hes]
          simp
        · rw [List.length_append, flat_len (w := wd) (fun v hv => e6 v (List.mem_of_mem_take hv)), e5, List.length_take, Nat.min_eq_left (by omega)]
        · exact fun v hv => e6 v (List.mem_of_mem_drop (List.mem_of_mem_take hv))
      · cases e1
        simp at hh
        omega

theorem ROSl.len {R : RO} {a : Option Addr} {len cap wd : Nat} {es : List Value} (h : ROSl R (.slice a len cap) es wd) : len = es.length ∧ len ≤ cap := by
  rcases h with ⟨k, o, cap', arr, e, fr, pre, post, e1, e2, _⟩ | ⟨rfl, q, e1⟩
  · cases e1; exact ⟨rfl, e2⟩
  · cases e1; exact ⟨rfl, Nat.le_refl _⟩

theorem ROSl.shape {R : RO} {v : Value} {wd : Nat} {es : List Value} (h : ROSl R v es wd) : ∃ a cap, v = .slice a es.length cap ∧ es.length ≤ cap := by
  rcases h with ⟨k, o, cap', arr, e, fr, pre, post, e1, e2, _⟩ | ⟨rfl, q, e1⟩
  · exact ⟨_, _, e1, e2⟩
  · exact ⟨_, _, e1, Nat.le_refl _⟩

theorem ROSl.nil {R : RO} (wd : Nat) (q : Option Addr) : ROSl R (.slice q 0 0) [] wd := .inr ⟨rfl, _, rfl⟩

theorem ROSl.shapeN {R : RO} {v : Value} {wd : Nat} {es : List Value} (h : ROSl R v es wd) (hn : es ≠ []) : ∃ k o cap, v = .slice (some ⟨k, o, none⟩) es.length cap ∧ es.length ≤ cap := by
  rcases h with ⟨k, o, cap', arr, e, fr, pre, post, e1, e2, _⟩ | ⟨e, _⟩
  · exact ⟨_, _, _, e1, e2⟩
  · exact absurd e hn

end Go.SX
