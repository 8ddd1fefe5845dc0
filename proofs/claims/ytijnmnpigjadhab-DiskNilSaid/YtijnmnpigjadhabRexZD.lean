import Derived.Test.YtijnmnpigjadhabRexZC
/- Rex, part ZD: calls with objects of their own; the whole executor. -/
set_option linter.unusedVariables false
set_option linter.unusedSimpArgs false
namespace Go.Rex
open Go.RowKit Go.Lib

section
variable {g gt : Gh} {w : World}

theorem tell_cs {h : Hp} (q : Hq g w h) {R : List Nat} (hS : Seen g gt h R) {L : List D} (hR : flatL L = false → ∀ i ∈ reach h (fzDepth + 1) L, i ∈ R) {d d' : D} (hd : d ∈ L) {cs : List Value} (hc : Cs g w d cs) (ht : tell h d = some d') : Cs gt w d' cs := by
  by_cases ha : isAggD d = true
  · cases d <;> simp [isAggD] at ha
    rename_i szs fs
    obtain ⟨k1, _⟩ := tell_sound q hS hR hd (v := .agg cs.toArray) ⟨cs, rfl, hc⟩ ht
    have : isAggD d' = true := by
      unfold tell at ht
      split at ht
      · injection ht with ht; subst ht; rfl
      · split at ht <;> (try contradiction)
        unfold fzDepth at ht
        simp only [fz, D.mapIds] at ht
        split at ht <;> (try contradiction)
        injection ht with ht; subst ht; rfl
    cases d' <;> simp [isAggD] at this
    obtain ⟨c, e, hc'⟩ := k1
    injection e with e
    have : cs = c := by have := congrArg Array.toList e; simpa using this
    rw [this]; exact hc'
  · have hnt : ∀ l, d ≠ .tup l := fun l e => by subst e; exact hc
    have hone : cs.length = 1 := by
      rw [Cs.size _ _ hc]
      cases d <;> first | rfl | (simp [isAggD] at ha)
    obtain ⟨v, rfl⟩ := List.length_eq_one_iff.1 hone
    have hv : V g w d v := by
      cases d with
      | agg => simp [isAggD] at ha
      | tup l => exact absurd rfl (hnt l)
      | _ => exact hc
    obtain ⟨k1, k2⟩ := tell_sound q hS hR hd hv ht
    have hna : isAggD d' = false := by
      unfold tell at ht
      split at ht
      · injection ht with ht; subst ht; simpa using ha
      · split at ht <;> (try contradiction)
        unfold fzDepth at ht
        simp only [fz] at ht
        cases d <;> simp only [D.mapIds] at ht <;> (repeat' (first | contradiction | split at ht)) <;> first | contradiction | (injection ht with ht; subst ht; rfl) | skip
        all_goals (simp [isAggD] at ha)
    cases d' with
    | agg => simp [isAggD] at hna
    | tup l =>
      have : d.isTup = true := by rw [k2]; rfl
      cases d <;> simp [D.isTup] at this
      exact absurd rfl (hnt _)
    | _ => exact k1

theorem tellL_V2 {h : Hp} (q : Hq g w h) {R : List Nat} (hS : Seen g gt h R) {L : List D} (hR : flatL L = false → ∀ i ∈ reach h (fzDepth + 1) L, i ∈ R) : ∀ (ds ds' : List D) (vs : List Value), (∀ d ∈ ds, d ∈ L) → VL2 g w ds vs → optL (tell h) ds = some ds' → VL2 gt w ds' vs
  | [], ds', [], _, _, h => by simp only [optL, Option.some.injEq] at h; subst h; trivial
  | d :: ds, ds', v :: vs, hm, ⟨h1, h2⟩, h => by
    simp only [optL] at h
    split at h <;> (try contradiction)
    rename_i b r hb hr
    injection h with h; subst h
    exact ⟨(tell_sound q hS hR (hm d (by simp)) h1 hb).1, tellL_V2 q hS hR ds r vs (fun x hx => hm x (by simp [hx])) h2 hr⟩
  | [], _, _ :: _, _, h, _ => h.elim
  | _ :: _, _, [], _, h, _ => h.elim
theorem VL.vl2 : ∀ {ds : List D} {vs : List Value}, VL g w ds vs → VL2 g w ds vs
  | [], vs, h => by have h : vs = [] := h; subst h; trivial
  | d :: ds, vs, ⟨v, r, h1, h2, h3⟩ => by subst h1; exact ⟨V.of1 h2, VL.vl2 h3⟩
theorem VL.nt : ∀ {ds : List D} {vs : List Value}, VL g w ds vs → ∀ d ∈ ds, d.isTup = false
  | [], _, _, d, hd => by cases hd
  | e :: ds, vs, ⟨v, r, h1, h2, h3⟩, d, hd => by
    rcases List.mem_cons.1 hd with rfl | hd
    · cases d <;> first | rfl | exact h2.elim
    · exact VL.nt h3 d hd
theorem tellL_nt {h : Hp} : ∀ {ds ds' : List D}, optL (tell h) ds = some ds' → (∀ d ∈ ds, d.isTup = false) → ∀ d ∈ ds', d.isTup = false
  | [], ds', h, _, d, hd => by simp only [optL, Option.some.injEq] at h; subst h; cases hd
  | e :: ds, ds', h, hn, d, hd => by
    simp only [optL] at h
    split at h <;> (try contradiction)
    rename_i b r hb hr
    injection h with h; subst h
    rcases List.mem_cons.1 hd with rfl | hd
    · unfold tell at hb
      split at hb
      · injection hb with hb; subst hb; exact hn _ (by simp)
      · split at hb <;> (try contradiction)
        unfold fzDepth at hb
        simp only [fz] at hb
        have := hn e (by simp)
        cases e <;> simp only [D.mapIds] at hb <;> (repeat' (first | contradiction | split at hb)) <;> first | contradiction | (injection hb with hb; subst hb; rfl) | skip
        all_goals (simp [D.isTup] at this)
    · exact tellL_nt hr (fun x hx => hn x (by simp [hx])) d hd
/-- Results, told. -/
theorem tup_tell {h : Hp} (q : Hq g w h) {R : List Nat} (hS : Seen g gt h R) {l l' : List D} (hR : flatL l = false → ∀ i ∈ reach h (fzDepth + 1) l, i ∈ R) {v : Value} (hv : V g w (tupOf l) v) (ht : optL (tell h) l = some l') : V gt w (tupOf l') v := by
  have hlen := optL_len ht
  match l, l', hlen, ht with
  | [d], [d'], _, ht =>
    simp only [optL] at ht
    split at ht <;> (try contradiction)
    rename_i b r hb hr
    injection ht with ht; injection ht with h1 h2; subst h1
    have hv' : V g w d v := hv
    exact (tell_sound q hS hR (List.mem_singleton.2 rfl) hv' hb).1
  | [], [], _, ht => obtain ⟨vs, h1, h2⟩ := hv; exact ⟨vs, h1, h2⟩
  | d :: e :: ds, d' :: e' :: ds', _, ht =>
    obtain ⟨vs, rfl, h2⟩ := hv
    exact ⟨vs, rfl, VL_of (tellL_V2 q hS hR _ _ _ (fun _ h => h) h2.vl2 ht) (tellL_nt ht h2.nt)⟩

-- Numbers, bools, texts lead nowhere.
mutual
theorem isLit_cs {w' : World} : ∀ (d : D) (cs : List Value), isLit d = true → Cs g w d cs → Cs gt w' d cs
  | .lit _, _, _, x => x
  | .agg szs fs, cs, hf, x => isLit_agg szs fs cs (by simpa [isLit] using hf) x
  | .tup _, _, _, x => x
  | .sl .., cs, hf, _ => by simp [isLit] at hf
  | .pv _, cs, hf, _ => by simp [isLit] at hf
  | .mo .., cs, hf, _ => by simp [isLit] at hf
  | .ptr .., cs, hf, _ => by simp [isLit] at hf
  | .fn .., cs, hf, _ => by simp [isLit] at hf
theorem isLit_agg {w' : World} : ∀ (szs : List Nat) (ds : List D) (cs : List Value), isLitL ds = true → AggCs g w szs ds cs → AggCs gt w' szs ds cs
  | [], [], _, _, x => x
  | n :: szs, d :: ds, cs, hf, ⟨c1, c2, h1, h2, h3, h4⟩ => by
    simp only [isLitL, Bool.and_eq_true] at hf
    exact ⟨c1, c2, h1, isLit_cs d c1 hf.1 h2, h3, isLit_agg szs ds c2 hf.2 h4⟩
  | [], _ :: _, _, _, x => x
  | _ :: _, [], _, _, x => x
end
theorem isLit_V1 {w' : World} {d : D} {v : Value} (hf : isLit d = true) (x : V1 g w d v) : V1 gt w' d v := by
  cases d <;> simp only [V1] at x ⊢ <;> first | exact isLit_cs _ _ hf x | (obtain ⟨c, rfl, hc⟩ := x; exact ⟨c, rfl, isLit_cs _ _ hf hc⟩)
theorem isLit_VL {w' : World} : ∀ {ds : List D} {vs : List Value}, isLitL ds = true → VL g w ds vs → VL gt w' ds vs
  | [], _, _, x => x
  | _ :: _, _, hf, ⟨v, r, h1, h2, h3⟩ => by
    simp only [isLitL, Bool.and_eq_true] at hf
    exact ⟨v, r, h1, isLit_V1 hf.1 h2, isLit_VL hf.2 h3⟩
theorem isLit_tup {w' : World} {l : List D} {v : Value} (hf : isLitL l = true) (hv : V g w (tupOf l) v) : V gt w' (tupOf l) v := by
  match l, hv with
  | [d], hv =>
    simp only [isLitL, Bool.and_eq_true] at hf
    have hnt : ∀ l, d ≠ .tup l := fun l e => by subst e; simp [isLit] at hf
    exact V.of1 (isLit_V1 hf.1 (V.v1 hv hnt))
  | [], hv => obtain ⟨vs, h1, h2⟩ := hv; exact ⟨vs, h1, h2⟩
  | d :: e :: ds, hv =>
    obtain ⟨vs, rfl, h2⟩ := hv
    exact ⟨vs, rfl, isLit_VL hf h2⟩
end

section
variable {P : Program} {A : Ann} {g : Gh} {w : World} {h : Hp}

/-- What the callee knows: nothing but what it is told. -/
def calleeGh (g : Gh) (w : World) (h : Hp) (R : List Nat) : Gh := ⟨fun _ _ => none, fun b o => g.imm b o ∨ Told g h R b o, w.heap.size⟩
theorem callee_hq (q : Hq g w h) (R : List Nat) : Hq (calleeGh g w h R) w [] := by
  refine ⟨(fun id ob i h1 => by simp at h1), (fun id ob ver h1 => by simp at h1), (fun id ob ver i h1 => by simp at h1), (fun _ _ _ => rfl), (fun _ _ _ _ _ _ _ h1 => by cases h1), (fun _ _ _ h1 => by cases h1), ?_, Nat.le_refl _⟩
  rintro b o (x | ⟨_, _, _, _, k, _, _, _, k4, k5, _⟩)
  · exact q.imm b o x
  · rw [k5]; exact q.old _ _ _ k4
theorem callee_seen (R : List Nat) : Seen g (calleeGh g w h R) h R :=
  ⟨fun _ _ x => .inl x, fun id hid ob ver k h1 h2 h3 h4 o ho => .inr ⟨id, hid, ob, ver, k, h1, h2, h3, h4, rfl, ho⟩⟩

/-- What comes back of a call that had objects of its own. -/
theorem back_sound {gF : Gh} {h0 h' h2 : Hp} {w' : World} {g1 : Gh} {l : List D} {d : D} {v : Value} {own : Bool} (hF : Hq gF w h0) (q1 : Hq g1 w' h') (hlo : g1.lo = w.heap.size) (hb : Below w.heap.size w w')
    (him : ∀ b o, g1.imm b o → gF.imm b o ∨ w.heap.size ≤ b) (hv : V g1 w' (tupOf l) v) (hr : handBack own h0 h' l = some (d, h2)) : ∃ g2, V g2 w' d v ∧ Hq g2 w' h2 ∧ Ext gF w h0 g2 w' h2 := by
  have lows : ∀ id ob ver k, h'[id]? = some ob → ob.minv ≤ ver → ver ≤ ob.ver → g1.inc id ver = some k → w.heap.size ≤ k.blk ∧ k.blk < w'.heap.size := by
    intro id ob ver k h1 h2 h3 h4
    obtain ⟨i, hi⟩ := q1.cur id ob ver k h1 h4
    exact ⟨by rw [← hlo]; exact (q1.obs id ob i h1 hi).los ver k h2 h3 h4, q1.old _ _ _ h4⟩
  have plain : ∀ l', optL (tell h') l = some l' → ∃ g2, V g2 w' (tupOf l') v ∧ Hq g2 w' h0 ∧ Ext gF w h0 g2 w' h0 := by
    intro l' hl'
    obtain ⟨q2, e2⟩ := hF.grow hb (fun b _ => w.heap.size ≤ b ∧ b < w'.heap.size) (fun b o x => x)
    refine ⟨_, ?_, q2, e2⟩
    have hS : Seen g1 (gF.addImm fun b _ => w.heap.size ≤ b ∧ b < w'.heap.size) h' (reach h' (fzDepth + 1) l) := by
      refine ⟨fun b o x => ?_, fun id hid ob ver k h1 h2 h3 h4 o ho => .inr (lows id ob ver k h1 h2 h3 h4)⟩
      exact (him b o x).elim .inl (fun y => .inr ⟨y, q1.imm b o x⟩)
    exact tup_tell q1 hS (fun _ i hi => hi) hv hl'
  unfold handBack at hr
  split at hr
  · rename_i es id ver len tg r
    split at hr <;> (try contradiction)
    rename_i ob hob
    split at hr <;> (try contradiction)
    rename_i hc
    obtain ⟨rfl, hes, hlen, hlit, hself⟩ := hc
    split at hr <;> (try contradiction)
    rename_i xs hxs
    simp only [Option.some.injEq, Prod.mk.injEq] at hr
    obtain ⟨rfl, rfl⟩ := hr
    -- the object
    have mo : ∃ i cap v0, g1.inc id ob.ver = some i ∧ v0 = .slice (some ⟨i.blk, 0, none⟩) len cap ∧ len ≤ cap ∧ cap = (if tg then len else i.cap) ∧
        (∀ (g2 : Gh) (d0 : D), V1 g2 w' d0 v0 → d0.isTup = false → V g2 w' (tupOf (d0 :: r)) v) := by
      match r, hv, hlit with
      | [], hv, _ =>
        simp only [tupOf, V, V1, Cs] at hv
        obtain ⟨i, cap, h1, h2, h3, h4, h5, h6⟩ := hv
        injection h3 with h3
        exact ⟨i, cap, v, h1, by rw [h3, Nat.zero_mul], h5, by simpa using h6, fun g2 d0 k _ => V.of1 k⟩
      | e :: r, hv, hlit =>
        obtain ⟨vs, rfl, v0, rv, rfl, h1, h2⟩ := hv
        simp only [V1, Cs] at h1
        obtain ⟨i, cap, k1, k2, k3, k4, k5, k6⟩ := h1
        injection k3 with k3
        refine ⟨i, cap, v0, k1, by rw [k3, Nat.zero_mul], k5, by simpa using k6, fun g2 d0 k _ => ?_⟩
        exact ⟨v0 :: rv, rfl, v0, rv, rfl, k, isLit_VL hlit h2⟩
    obtain ⟨i, cap, v0, hi, hv0, hcap1, hcap2, hres⟩ := mo
    have ok := q1.obs id ob i hob hi
    have hbl := lows id ob ob.ver i hob ok.mv (Nat.le_refl _) hi
    obtain ⟨q2, e2⟩ := hF.grow hb (fun b o => (w.heap.size ≤ b ∧ b < w'.heap.size) ∧ ¬ (b = i.blk ∧ o < i.cap * ob.es ∧ (ob.frz = false ∨ i.n * ob.es ≤ o))) (fun b o x => x.1)
    generalize hgt : gF.addImm (fun b o => (w.heap.size ≤ b ∧ b < w'.heap.size) ∧ ¬ (b = i.blk ∧ o < i.cap * ob.es ∧ (ob.frz = false ∨ i.n * ob.es ≤ o))) = gt at q2 e2
    have gtimm : ∀ b o, gt.imm b o ↔ gF.imm b o ∨ ((w.heap.size ≤ b ∧ b < w'.heap.size) ∧ ¬ (b = i.blk ∧ o < i.cap * ob.es ∧ (ob.frz = false ∨ i.n * ob.es ≤ o))) := by
      intro b o; rw [← hgt]; exact Iff.rfl
    have gtinc : ∀ a v, gt.inc a v = gF.inc a v := by intro a v; rw [← hgt]; rfl
    have hS : Seen g1 gt h' (if flatL ob.xs then [] else reach h' (fzDepth + 1) ob.xs) := by
      refine ⟨fun b o x => ?_, fun id2 hid2 ob2 ver2 k h1 h2 h3 h4 o ho => ?_⟩
      · rw [gtimm]
        rcases him b o x with y | y
        · exact .inl y
        · refine .inr ⟨⟨y, q1.imm b o x⟩, ?_⟩
          rintro ⟨rfl, h1, h2 | h2⟩
          · exact ok.free h2 o h1 x
          · exact ok.tail o h2 h1 x
      · rw [gtimm]
        refine .inr ⟨lows id2 ob2 ver2 k h1 h2 h3 h4, ?_⟩
        rintro ⟨hbk, h5, h6⟩
        have hidd : id2 = id := by
          by_cases e : id2 = id
          · exact e
          · exact absurd hbk (q1.apart id2 id _ _ _ _ e h4 hi)
        subst hidd
        rw [hob] at h1; injection h1 with h1; subst h1
        rcases h6 with h6 | h6
        · split at hid2
          · cases hid2
          · rename_i hfl
            rw [h6] at hself
            simp only [Bool.or_false, Bool.or_eq_true, Bool.not_eq_true'] at hself
            rcases hself with hself | hself
            · exact hfl hself
            · rw [List.contains_iff_mem.2 hid2] at hself; cases hself
        · obtain ⟨k', hk', e1, e3, _⟩ := ok.incs ver2 h2 h3
          rw [h4] at hk'; injection hk' with hk'; subst hk'
          rw [e1] at ho
          have : k.n * ob.es ≤ i.n * ob.es := Nat.mul_le_mul_right _ e3
          omega
    -- its row
    obtain ⟨k', hk', _, _, hrow⟩ := ok.incs ob.ver ok.mv (Nat.le_refl _)
    rw [hi] at hk'; injection hk' with hk'; subst hk'
    rw [List.take_of_length_le (by rw [ok.n]; exact Nat.le_refl _)] at hrow
    have hR : flatL ob.xs = false → ∀ j ∈ reach h' (fzDepth + 1) ob.xs, j ∈ (if flatL ob.xs then [] else reach h' (fzDepth + 1) ob.xs) := by
      intro hf j hj; rw [hf]; simpa using hj
    have rows : ∀ (ds ds' : List D) (o : Nat), (∀ d ∈ ds, d ∈ ob.xs) → RowM g1 w' i.blk ob.es o ds → optL (tell h') ds = some ds' → RowM gt w' i.blk ob.es o ds' := by
      intro ds
      induction ds with
      | nil => intro ds' o _ _ hd; simp only [optL, Option.some.injEq] at hd; subst hd; trivial
      | cons d ds ih =>
        intro ds' o hm ⟨⟨c, c1, c2, c3⟩, hrr⟩ hd
        simp only [optL] at hd
        split at hd <;> (try contradiction)
        rename_i b r' hb' hr'
        injection hd with hd; subst hd
        exact ⟨⟨c, tell_cs q1 hS hR (hm d (by simp)) c1 hb', c2, c3⟩, ih r' _ (fun x hx => hm x (by simp [hx])) hrr hr'⟩
    have hrow2 := rows ob.xs xs 0 (fun _ h => h) hrow hxs
    have hxl := optL_len hxs
    have himB : ∀ o, gF.imm i.blk o → False := fun o x => by have := hF.imm _ _ x; omega
    rw [hes] at hrow2
    obtain ⟨q3, e3⟩ := q2.take i.blk es i.cap xs (by rw [← hes]; exact ok.pos) ob.frz hbl.2 (by rw [e2.lo]; exact Nat.le_trans hF.lo hbl.1) (fun a v k hk => by
        rw [gtinc] at hk
        have := hF.old _ _ _ hk
        omega) (by rw [← hes]; exact ok.blk) (by rw [hxl, ← ok.n]; exact ok.cap) (fun o h1 h2 h3 => by
        rw [gtimm] at h3
        rcases h3 with h3 | ⟨_, h3⟩
        · exact himB o h3
        · rw [← hes, hxl, ← ok.n] at h1
          rw [← hes] at h2
          exact h3 ⟨rfl, h2, .inr h1⟩) (fun hf o h1 h3 => by
        rw [gtimm] at h3
        rcases h3 with h3 | ⟨_, h3⟩
        · exact himB o h3
        · rw [← hes] at h1
          exact h3 ⟨rfl, h1, .inl hf⟩) hrow2
    refine ⟨_, hres _ _ ?_ rfl, q3, e2.trans e3⟩
    simp only [V1, Cs]
    refine ⟨_, cap, addInc_here _ _ _ _, rfl, by rw [hv0, Nat.zero_mul], by simp only [Nat.zero_add]; rw [hxl, ← hlen]; exact Nat.le_refl _, hcap1, by simpa using hcap2⟩
  · split at hr <;> (try contradiction)
    rename_i l' hl'
    simp only [Option.some.injEq, Prod.mk.injEq] at hr
    obtain ⟨rfl, rfl⟩ := hr
    exact plain l' hl'

theorem CallRuns.mono {f : FuncId} {vs : Array Value} {w : World} {R R' : Value → World → Prop} (h : CallRuns P f vs w R) (hr : ∀ v w', R v w' → R' v w') : CallRuns P f vs w R' := by
  rcases h with ⟨v, w', h1, h2⟩ | ⟨h1, h2⟩
  · exact .inl ⟨v, w', h1, hr _ _ h2⟩
  · refine .inr ⟨h1, Calls.mono h2 (fun e w' he => ?_)⟩
    cases e with
    | returned v => exact hr _ _ he
    | panicked _ => exact he
    | outgrown => exact he

theorem digFn_mode {f : FuncId} {fn : Func} {rf : RFn} (h : digFn P A f fn = some rf) : rf.mode = A.mode f := by
  unfold digFn at h
  repeat' (first | contradiction | split at h)
  all_goals (try contradiction)
  all_goals (injection h with h; subst h; rfl)

/-- What the executor gives is what the machine gives. -/
theorem axFn_ok (hm : P.follows .mixedOrders = true) {F : FuncId → Option RFn} {R : Prim} (hF : ∀ f rf, F f = some rf → ∃ fn, P.funcs[f]? = some fn ∧ digFn P A f fn = some rf) (hR : CallOk P R) (hRs : ScalOk A R) :
    ∀ n, CallOk P (axFn F R n) ∧ ScalOk A (axFn F R n)
  | 0 => ⟨fun f args h d h' hr => by simp [axFn] at hr, fun f args h d h' _ hr => by simp [axFn] at hr⟩
  | n + 1 => by
    obtain ⟨ih, ihs⟩ := axFn_ok hm hF hR hRs n
    constructor
    · intro f args h d h' hr g w vs q hv
      simp only [axFn] at hr
      cases hf : F f with
      | none => simp only [hf] at hr; exact hR f args h d h' hr g w vs q hv
      | some rf =>
        simp only [hf] at hr
        obtain ⟨fn, hfn, hdig⟩ := hF f rf hf
        cases hmode : rf.mode with
        | eff =>
          simp only [hmode] at hr
          split at hr <;> (try contradiction)
          rename_i l h1 hb
          simp only [Option.some.injEq, Prod.mk.injEq] at hr
          obtain ⟨rfl, rfl⟩ := hr
          exact body_sound hm ih ihs hfn hdig hb q hv
        | pure scal own =>
          simp only [hmode] at hr
          split at hr <;> (try contradiction)
          rename_i args' hargs
          split at hr <;> (try contradiction)
          rename_i l h1 hb
          have hall : ∀ i ∈ idsL args, ∃ ver k, g.inc i ver = some k := by
            clear hr hargs hb
            induction args generalizing vs with
            | nil => intro i hi; simp [idsL] at hi
            | cons d args iha =>
              cases vs with
              | nil => exact hv.elim
              | cons v vs =>
                intro i hi
                simp only [idsL, List.mem_append] at hi
                exact hi.elim (ids_inc_V hv.1 i) (iha vs hv.2 i)
          generalize hRR : (if flatL args then [] else reach h (fzDepth + 1) args) = RR
          have hcond : flatL args = false → ∀ i ∈ reach h (fzDepth + 1) args, i ∈ RR := by
            intro hfl i hi; rw [← hRR, hfl]; simpa using hi
          have hinc : ∀ i ∈ RR, ∃ ver k, g.inc i ver = some k := by
            intro i hi
            rw [← hRR] at hi
            split at hi
            · cases hi
            · exact reach_inc q _ _ hall i hi
          have hv' := tellL_V2 q (callee_seen (g := g) (w := w) (h := h) RR) hcond args args' vs (fun _ h => h) hv hargs
          refine (body_sound hm ih ihs hfn hdig hb (callee_hq q RR) hv').mono ?_
          rintro v w' ⟨g1, hv1, q1, e1⟩
          have hb' : Below w.heap.size w w' := e1.below
          by_cases hs : scal = true
          · simp only [hs, Bool.true_or, if_true] at hr
            split at hr <;> (try contradiction)
            rename_i hlit
            simp only [Option.some.injEq, Prod.mk.injEq] at hr
            obtain ⟨rfl, rfl⟩ := hr
            obtain ⟨q2, e2⟩ := q.below hb'
            exact ⟨g, isLit_tup hlit hv1, q2, e2⟩
          · have hs : scal = false := by simpa using hs
            simp only [hs, Bool.false_or, Bool.false_eq_true, if_false] at hr
            by_cases hfl : flatL args = true
            · rw [if_pos hfl] at hr
              have hnil : RR = [] := by rw [← hRR, hfl]; simp
              subst hnil
              refine back_sound q q1 e1.lo hb' (fun b o x => ?_) hv1 hr
              rcases e1.imm b o x with (y | ⟨_, hid, _⟩) | y
              · exact .inl y
              · cases hid
              · exact .inr y
            · have hfl : flatL args = false := by simpa using hfl
              rw [if_neg (by simp [hfl])] at hr
              have hRR' : RR = reach h (fzDepth + 1) args := by rw [← hRR, hfl]; simp
              rw [← hRR'] at hr
              obtain ⟨q2, e2⟩ := q.freeze hinc
              obtain ⟨g2, k1, k2, k3⟩ := back_sound q2 q1 e1.lo hb' (fun b o x => by
                rcases e1.imm b o x with y | y
                · exact .inl y
                · exact .inr y) hv1 hr
              exact ⟨g2, k1, k2, e2.trans k3⟩
    · intro f args h d h' hmd hr
      simp only [axFn] at hr
      cases hf : F f with
      | none => simp only [hf] at hr; exact hRs f args h d h' hmd hr
      | some rf =>
        simp only [hf] at hr
        obtain ⟨fn, hfn, hdig⟩ := hF f rf hf
        rw [← digFn_mode hdig] at hmd
        cases hmode : rf.mode with
        | eff => rw [hmode] at hmd; cases hmd
        | pure scal own =>
          rw [hmode] at hmd
          simp only at hmd
          subst hmd
          simp only [hmode, Bool.true_or, if_true] at hr
          repeat' (first | contradiction | split at hr)
          all_goals (try contradiction)
          all_goals (simp only [Option.some.injEq, Prod.mk.injEq] at hr; exact hr.2.symm)
end
end Go.Rex
