/-
  Parse: what it computes.
-/
import Derived.Test.YtalhhkjdlnamdaaDoorWb
namespace Go.Proofs
open Go Go.SX
set_option maxRecDepth 100000
def opA (k i n : Int) (vs vk vd : Value) : Value := .agg #[.int .i64 k, .int .i64 i, .int .i64 n, vs, vk, vd]
/-- an op's value -/
def OpV (R : RO) (o : Sc.Op) (v : Value) : Prop := ∃ k i n vs vk vd, v = opA k i n vs vk vd ∧ OpR R o k i n vs vk vd
inductive OpsV (R : RO) : List Sc.Op → List Value → Prop
  | nil : OpsV R [] []
  | cons {o v r l} : OpV R o v → OpsV R r l → OpsV R (o :: r) (v :: l)
theorem OpV.mono {R R' : RO} {o : Sc.Op} {v : Value} (h : OpV R o v) (g : SubRO R R') : OpV R' o v := by
  obtain ⟨k, i, n, vs, vk, vd, h1, h2⟩ := h
  exact ⟨k, i, n, vs, vk, vd, h1, h2.mono g⟩
theorem OpsV.mono {R R' : RO} {l : List Sc.Op} {vs : List Value} (h : OpsV R l vs) (g : SubRO R R') : OpsV R' l vs := by
  induction h with
  | nil => exact .nil
  | cons a _ ih => exact .cons (a.mono g) ih
theorem OpsV.snoc {R : RO} {l : List Sc.Op} {vs : List Value} {o : Sc.Op} {v : Value} (h : OpsV R l vs) (g : OpV R o v) : OpsV R (l ++ [o]) (vs ++ [v]) := by
  induction h with
  | nil => exact .cons g .nil
  | cons a _ ih => exact .cons a ih
theorem OpsV.len {R : RO} {l : List Sc.Op} {vs : List Value} (h : OpsV R l vs) : vs.length = l.length := by
  induction h with
  | nil => rfl
  | cons _ _ ih => simp [ih]
theorem isS_t {α : Type} {x : Option α} (h : true = x.isSome) : ∃ y, x = some y := by
  cases x with
  | none => cases h
  | some y => exact ⟨y, rfl⟩
theorem isS_f {α : Type} {x : Option α} (h : false = x.isSome) : x = none := by
  cases x with
  | none => rfl
  | some y => cases h
/-- what a variable of one cell holds -/
def glV (R : RO) (g : Nat) : Value := match R g with
  | some (.cells arr _ _) => arr.getD 0 undef
  | _ => undef
/-- Parse's end -/
def ParseRes (R : RO) (l : Sc.Bs) : SV → RO → List SObj → Prop := fun sv R' H' =>
  ∃ v e es, sv = .tup (.cons 1 (.raw v) (.cons 1 (.raw e) .nil)) ∧ H' = [] ∧ SubRO R R' ∧ ROSl R' v es 6 ∧
    ((65535 < l.length ∧ es = [] ∧ e = glV R 0) ∨ (l.length ≤ 65535 ∧ Sc.parseL l = none ∧ es = [] ∧ e = glV R 1) ∨ (l.length ≤ 65535 ∧ ∃ ops, Sc.parseL l = some ops ∧ e = .nilIface ∧ OpsV R' ops es))

set_option maxHeartbeats 4000000 in
theorem f8 (kit : Kit Tryd.prog) (t : ByteArray) (R : RO) (hgl : Gl R) : CallW Tryd.prog 8 [.raw (.string t)] R [] (ParseRes R t.data.toList) := by
  have e15' := e15
  have e16' := kit.e16
  have e17' := e17
  have e27' := e27
  have e28' := kit.e28
  have h16 := kit.h16
  have h28 := kit.h28
  have h17 := f17 kit
  have v15 := fun (args : List SV) (R : RO) (H : List SObj) K h => @vcF_ok Tryd.prog R H 15 _ _ Tryd.func15 c15 args K h
  have v27 := fun (args : List SV) (R : RO) (H : List SObj) K h => @vcF_ok Tryd.prog R H 27 _ _ Tryd.func27 c27 args K h
  have hm : Tryd.prog.follows .mixedOrders = true := by kernel_rfl
  refine CallW.then (vcF_ok Tryd.func8 c8 ?_)
  generalize hK : ParseRes R t.data.toList = K
  revert e15' e16' e17' e27' e28' h16 h28 h17 v15 v27 hm
  clear kit
  generalize Tryd.prog = P
  intro e15' e16' e17' e27' e28' h16 h28 h17 v15 v27 hm
  obtain ⟨arr0, et0, f0, arr1, et1, f1, t0, p0, t1, p1, hg0, hv0, hg1, hv1⟩ := id hgl.err
  have hgv0 : glV R 0 = .iface t0 p0 := by simp only [glV, hg0, Array.getD_eq_getD_getElem?, hv0]; rfl
  have hgv1 : glV R 1 = .iface t1 p1 := by simp only [glV, hg1, Array.getD_eq_getD_getElem?, hv1]; rfl
  cbv
  refine ⟨fun c1 hc1 => ?_⟩
  have hc1' : c1 = t.data.toList.length := by rw [hc1, bsize]; rfl
  cbv
  refine ⟨fun b1 h1 => ?_⟩
  cases b1
  · have hle : ¬ 65535 < c1 := fun h => by cases h1.2 h
    cbv
    refine .mk e15' (v15 _ _ _ _ ?_)
    cbv
    refine rng_rule ?_
    cbv
    refine .mk e27' (v27 _ _ _ _ ?_)
    cbv
    refine loop_at (fun s (x : ByteArray × RO × List Value × Nat × Nat) => { s with ro := x.2.1, heap := hpush (hset (hset s.heap 3 (.cells (.cons 1 (.raw (.string x.1)) .nil) 9)) 2 (.cells (.cons 1 (.sl 6 0 0 6 x.2.2.2.1 x.2.2.2.2) .nil) 23)) (.buf x.2.2.1 6 32) })
      (fun x => SubRO R x.2.1 ∧ x.2.2.2.1 = x.2.2.1.length ∧ ∃ acc, OpsV x.2.1 acc x.2.2.1 ∧ Sc.parseL t.data.toList = (Sc.parseL x.1.data.toList).map (acc ++ ·) ∧ acc.length + x.1.data.toList.length ≤ t.data.toList.length)
      (fun x => x.1.data.toList.length) (t, R, [], 0, 0) [some 0, some 1, some 2, some 3, some 4, some 5, none] (by cbv; repeat (first | exact trivial | refine ⟨.mk _, ?_⟩)) ⟨.refl _, rfl, [], .nil, by simp, by simp⟩ ?_
    rintro ⟨r, R1, es, n, m⟩ ⟨hs1, hn, acc, hops, hpar, hlen⟩ K' hK'
    simp only at hs1 hn hops hpar hlen hK' ⊢
    have hgl1 := hgl.mono hs1
    have hrz := bsize r
    cbv
    refine ⟨fun c2 hc2 => ?_⟩
    have hc2' : c2 = r.data.toList.length := by rw [hc2, bsize]; rfl
    cbv
    refine ⟨fun b2 h2 => ?_⟩
    cases b2
    · have hz : ¬ 0 < c2 := fun h => by cases h2.2 h
      have hr0 : r.data.toList = [] := List.length_eq_zero_iff.1 (by ((try simp only [nc] at *); omega))
      cbv
      refine Then.frzT es rfl rfl (by simp [hn]) hn.symm fun R3 q hs hr => ?_
      refine Then.trim rfl rfl (.ret ?_)
      rw [← hK]
      refine ⟨_, _, es, rfl, rfl, hs1.trans hs, hr, .inr (.inr ⟨by ((try simp only [nc] at *); omega), acc, ?_, rfl, hops.mono hs⟩)⟩
      rw [hpar, hr0, Sc.parse_nil]; simp
    · have hz : 0 < c2 := h2.1 rfl
      cbv
      refine CallAt.use [] [] [.raw (.string r), .raw (.int .u8 10)] e28' (h28 r 10 10 R1 rfl) rfl rfl rfl rfl ?_
      rintro sv R2 H2 ⟨rfl, rfl, rfl⟩
      obtain ⟨ix, hix⟩ : ∃ ix, Lib.indexByte r.data.toList 10 = ix := ⟨_, rfl⟩
      simp only [hix]
      cbv
      refine ⟨fun b3 h3 => ?_⟩
      cases b3
      · have hneg : ¬ 0 ≤ ix := fun h => by cases h3.2 h
        cbv
        have hnn : 10 ∉ r.data.toList := by
          rcases Sc.idx_cut r.data.toList 10 with ⟨_, g⟩ | ⟨g, _⟩
          · exact g
          · omega
        have hbad : Sc.parseL t.data.toList = none := by
          rw [hpar, Sc.parse_bad hnn (fun e => by rw [e] at hc2'; simp at hc2'; omega)]; rfl
        refine round_rule ?_
        cbv
        refine CallAt.use [] [] [.raw (.string r), .raw (.string ⟨#[10]⟩)] e16' (h16 r R2 (by rw [bsize]; ((try simp only [nc] at *); omega))) rfl rfl rfl rfl ?_
        rintro sv R3 H3 ⟨rfl, rfl, rfl⟩
        obtain ⟨sh, hsh⟩ : ∃ sh : ByteArray, sh = ⟨(Lib.trimSuffix (r).data.toList [10]).toArray⟩ := ⟨_, rfl⟩
        obtain ⟨eb, heb⟩ : ∃ eb, eb = Lib.hasSuffix (r).data.toList [10] := ⟨_, rfl⟩
        rw [← hsh, ← heb]
        have heb' : eb = false := by rw [heb, Sc.hasSuf0 hnn]
        subst heb'
        have hshz : sh.size ≤ 2 ^ 30 := by
          rw [bsize, hsh]
          have : (Lib.trimSuffix r.data.toList [10]).length ≤ r.data.toList.length := by unfold Lib.trimSuffix; split <;> simp
          simp only
          ((try simp only [nc] at *); omega)
        cbv
        refine CallAt.use [] [] [.raw (.string sh)] e17' (h17 sh R3 hshz hgl1) rfl rfl rfl rfl ?_
        intro sv R4 H4 hres
        unfold OpRes at hres
        obtain ⟨b4, k, i, nn, vs, vk, vd, hsv, hH4, hs4, hb4, ho4⟩ := hres
        subst hsv
        subst hH4
        have hg14 := hs4 _ _ (hs1 _ _ hg1)
        cbv
        refine draw_rule hm ?_
        cbv
        refine .sc rfl rfl hg14 hv1 ?_
        cbv
        refine ⟨.sc rfl rfl hg14 hv1 (.mk _), ?_⟩
        cbv
        refine .ret ?_
        rw [← hK]
        exact ⟨_, _, [], rfl, rfl, hs1.trans hs4, .nil 6 none, .inr (.inl ⟨by ((try simp only [nc] at *); omega), hbad, rfl, hgv1.symm⟩)⟩
      · have hpos : 0 ≤ ix := h3.1 rfl
        obtain ⟨j1, j2, j3, j4⟩ : 0 ≤ ix ∧ ix.toNat < r.data.toList.length ∧ 10 ∉ r.data.toList.take ix.toNat ∧ r.data.toList = r.data.toList.take ix.toNat ++ 10 :: r.data.toList.drop (ix.toNat + 1) := by
          rcases Sc.idx_cut r.data.toList 10 with ⟨g1, _⟩ | g
          · omega
          · rw [hix] at g; exact g
        have hpc := Sc.parse_cut (r := r.data.toList.drop (ix.toNat + 1)) j3
        rw [← j4] at hpc
        cbv
        refine draw_rule hm ?_
        cbv
        refine ⟨fun c3 hc3 => ?_⟩
        rw [wrap_id (n := ix + 1) (by ((try simp only [nc] at *); omega)) (by ((try simp only [nc] at *); omega))] at hc3
        cbv
        refine ⟨fun n1 hn1 => ?_⟩
        cbv
        refine ⟨⟨by ((try simp only [nc] at *); omega), by ((try simp only [nc] at *); omega)⟩, ⟨fun c4 hc4 => ?_⟩⟩
        cbv
        refine ⟨fun pc hpc1 => ?_⟩
        cbv
        refine ⟨fun c5 hc5 => ?_⟩
        rw [wrap_id (n := ix + 1) (by ((try simp only [nc] at *); omega)) (by ((try simp only [nc] at *); omega))] at hc5
        cbv
        refine ⟨fun n2 hn2 => ?_⟩
        cbv
        refine ⟨⟨by ((try simp only [nc] at *); omega), by ((try simp only [nc] at *); omega)⟩, ⟨fun c6 hc6 => ?_⟩⟩
        cbv
        refine ⟨fun rs hrs => ?_⟩
        have hpcl : pc.data.toList = r.data.toList.take ix.toNat ++ [10] := by
          rw [hpc1, ext_list, hc4, List.drop_zero, Nat.sub_zero, show c3.toNat = ix.toNat + 1 by omega]
          conv => lhs; rw [j4]
          rw [List.take_append]
          simp only [List.length_take, Nat.min_eq_left (Nat.le_of_lt j2)]
          rw [List.take_of_length_le (by simp; omega), show ix.toNat + 1 - ix.toNat = 1 by omega]
          simp
        have hrsl : rs.data.toList = r.data.toList.drop (ix.toNat + 1) := by
          rw [hrs, ext_list, hc6, hn2, bsize, show c5.toNat = ix.toNat + 1 by omega]
          exact List.take_of_length_le (by simp)
        have hpclen : pc.data.toList.length = ix.toNat + 1 := by rw [hpcl, List.length_append, List.length_take]; simp; omega
        have hrslen : rs.data.toList.length = r.data.toList.length - (ix.toNat + 1) := by rw [hrsl, List.length_drop]
        cbv
        refine round_rule ?_
        cbv
        refine CallAt.use [] [] [.raw (.string pc), .raw (.string ⟨#[10]⟩)] e16' (h16 pc R2 (by rw [bsize]; ((try simp only [nc] at *); omega))) rfl rfl rfl rfl ?_
        rintro sv R3 H3 ⟨rfl, rfl, rfl⟩
        obtain ⟨sh, hsh⟩ : ∃ sh : ByteArray, sh = ⟨(Lib.trimSuffix (pc).data.toList [10]).toArray⟩ := ⟨_, rfl⟩
        obtain ⟨eb, heb⟩ : ∃ eb, eb = Lib.hasSuffix (pc).data.toList [10] := ⟨_, rfl⟩
        rw [← hsh, ← heb]
        have heb' : eb = true := by rw [heb, hpcl, Sc.hasSuf1]
        subst heb'
        have hshl : sh.data.toList = r.data.toList.take ix.toNat := by rw [hsh, hpcl, Sc.trimSuf1]
        have hshz : sh.size ≤ 2 ^ 30 := by
          rw [bsize, hshl, List.length_take]
          ((try simp only [nc] at *); omega)
        rw [← hshl] at hpc
        rw [← hrsl] at hpc
        cbv
        refine CallAt.use [] [] [.raw (.string sh)] e17' (h17 sh R3 hshz hgl1) rfl rfl rfl rfl ?_
        intro sv R4 H4 hres
        unfold OpRes at hres
        obtain ⟨b4, k, i, nn, vs, vk, vd, hsv, hH4, hs4, hb4, ho4⟩ := hres
        subst hsv
        subst hH4
        have hg14 := hs4 _ _ (hs1 _ _ hg1)
        cases b4
        · have hbad : Sc.parseL t.data.toList = none := by
            rw [hpar, hpc]
            rw [isS_f hb4]; rfl
          cbv
          refine draw_rule hm ?_
          cbv
          refine .sc rfl rfl hg14 hv1 ?_
          cbv
          refine ⟨.sc rfl rfl hg14 hv1 (.mk _), ?_⟩
          cbv
          refine .ret ?_
          rw [← hK]
          exact ⟨_, _, [], rfl, rfl, hs1.trans hs4, .nil 6 none, .inr (.inl ⟨by ((try simp only [nc] at *); omega), hbad, rfl, hgv1.symm⟩)⟩
        · have hel : es.length = acc.length := hops.len
          cbv
          obtain ⟨o, ho⟩ : ∃ o, Sc.opL sh.data.toList = some o := isS_t hb4
          refine ⟨_, rfl, rfl, ?_⟩
          cbv
          refine ⟨hn, ?_⟩
          refine ⟨by simp; ((try simp only [nc] at *); omega), fun es2 n3 m3 he hn3 hm3 => ?_⟩
          cbv
          refine hK' _ (rs, R4, es2, n3, m3) [some 0, some 1, some 2, some 3, some 4, some 5, some 9] (by cbv; repeat (first | exact trivial | refine ⟨.mk _, ?_⟩)) ⟨hs1.trans hs4, hn3, acc ++ [o], ?_, ?_, ?_⟩ (by ((try simp only [nc] at *); omega))
          · rw [he]
            exact (hops.mono hs4).snoc ⟨k, i, nn, vs, vk, vd, rfl, ho4 o ho⟩
          · rw [hpar, hpc, ho]
            simp only [Option.bind_some, Option.map_map]
            congr 1
            funext z
            simp
          · simp only [List.length_append, List.length_cons, List.length_nil]; ((try simp only [nc] at *); omega)
  · have hle : 65535 < c1 := h1.1 rfl
    cbv
    refine draw_rule hm ?_
    cbv
    refine .sc rfl rfl hg0 hv0 ?_
    cbv
    refine ⟨.sc rfl rfl hg0 hv0 (.mk _), ?_⟩
    cbv
    refine .ret ?_
    rw [← hK]
    exact ⟨_, _, [], rfl, rfl, .refl _, .nil 6 none, .inl ⟨by ((try simp only [nc] at *); omega), rfl, hgv0.symm⟩⟩
end Go.Proofs
