/- Helpers of a proof. -/
import Derived.Test.YtnbgonichmcfaaaW15
set_option linter.unusedVariables false
set_option linter.unusedSimpArgs false
section
namespace Go.Dw
open Go.RowKit
variable {P : Program} {σ σ2 : St}
def SameK (σ σ2 : St) (k : Nat) : Prop := get k σ2.bx = get k σ.bx ∧ ∀ n es, get k σ.bx = some (.row n es) → ∀ j, es.any (D.mens j) = true → get j σ2.bx = get j σ.bx
def Same (σ σ2 : St) (d : D) : Prop := ∀ k, d.men k = true → SameK σ σ2 k
def PinS (σ σ2 : St) : Prop := (∀ l, pget l σ2.bx = pget l σ.bx) ∧ ∀ l, mget l σ2.bx = mget l σ.bx
theorem pkey_ins {f : Blk → Bool} {k : Nat} {x : Blk} (hx : f x = false) : ∀ {bx : List (Nat × Blk)}, get k bx = none → pkey f (ins k x bx) = pkey f bx
  | [], _ => by simp [ins, pkey, hx]
  | p :: r, h => by
    simp only [get] at h
    split at h
    · cases h
    · rename_i hne
      simp only [ins]
      split
      · simp [pkey, hx]
      · simp only [pkey, pkey_ins hx h]
theorem pkey_get {f : Blk → Bool} {j : Nat} : ∀ {bx : List (Nat × Blk)}, pkey f bx = some j → ∃ y, get j bx = some y
  | [], h => by cases h
  | p :: r, h => by
    simp only [pkey] at h
    split at h
    · cases h; exact ⟨p.2, by simp [get]⟩
    · obtain ⟨y, hy⟩ := pkey_get h
      simp only [get]
      split
      · exact ⟨_, rfl⟩
      · exact ⟨y, hy⟩
theorem pget_ins [Lays] {l k : Nat} {x : Blk} (hx : x.unpin = true) {bx : List (Nat × Blk)} (hf : get k bx = none) : pget l (ins k x bx) = pget l bx := by
  have h1 : Blk.pinB l x = false := by cases x <;> simp_all [Blk.pinB, Blk.unpin]
  unfold pget
  rw [pkey_ins h1 hf]
  cases hk : pkey (Blk.pinB l) bx with
  | none => rfl
  | some j =>
    obtain ⟨y, hy⟩ := pkey_get hk
    have : j ≠ k := fun e => by rw [e, hf] at hy; cases hy
    dsimp only
    rw [get_ins, if_neg this]
theorem mget_ins [Lays] {l k : Nat} {x : Blk} (hx : x.unpin = true) {bx : List (Nat × Blk)} (hf : get k bx = none) : mget l (ins k x bx) = mget l bx := by
  have h1 : Blk.pinM l x = false := by cases x <;> simp_all [Blk.pinM, Blk.unpin]
  unfold mget
  rw [pkey_ins h1 hf]
  cases hk : pkey (Blk.pinM l) bx with
  | none => rfl
  | some j =>
    obtain ⟨y, hy⟩ := pkey_get hk
    have : j ≠ k := fun e => by rw [e, hf] at hy; cases hy
    dsimp only
    rw [get_ins, if_neg this]
theorem loadAt_congr (ti : TI) {d : D} (hp : PinS σ σ2) (h : Same σ σ2 d) : σ2.loadAt ti d = σ.loadAt ti d := by
  cases d with
  | box k off => simp only [St.loadAt]; rw [(h k (by simp [D.men])).1]
  | elo k n i off => simp only [St.loadAt]; rw [(h k (by simp [D.men])).1]
  | c x =>
    cases x with
    | v y =>
      cases y with
      | pointer q =>
        cases q with
        | none => rfl
        | some ad =>
          obtain ⟨l, off, sp⟩ := ad
          cases sp with
          | none => simp only [St.loadAt]; rw [hp.1]
          | some s => rfl
      | _ => rfl
    | _ => rfl
  | _ => rfl
theorem look_congr (t : TypeId) {x : D} (i : D) (ok : Bool) (hp : PinS σ σ2) (h : Same σ σ2 x) : lookD P σ2.bx t x i ok = lookD P σ.bx t x i ok := by
  have : mapAt σ2.bx x = mapAt σ.bx x := by
    unfold mapAt
    split
    · rw [hp.2]
    · rename_i k; rw [(h k (by simp [D.men])).1]
    · rfl
  unfold lookD
  rw [this]
theorem idx_congr (t : TypeId) {x : D} (i : D) (h : Same σ σ2 x) : idxD P σ2 t x i = idxD P σ t x i := by
  unfold idxD
  split
  · split
    · split
      · cases x with
        | own k => show (match get k σ2.bx with | some (.row m es) => _ | _ => none) = _; rw [(h k (by simp [D.men])).1]; rfl
        | win k m lo hi => show (match get k σ2.bx with | some (.row m es) => _ | _ => none) = _; rw [(h k (by simp [D.men])).1]; rfl
        | c x => cases x with
          | v y => cases y with
            | slice a _ _ => cases a with
              | none => rfl
              | some a => obtain ⟨_, _, s⟩ := a; cases s <;> rfl
            | _ => rfl
          | _ => rfl
        | _ => rfl
      · rfl
    · rfl
  · rfl
theorem len_congr {x : D} (h : Same σ σ2 x) : lenD σ2 x = lenD σ x := by
  unfold lenD
  cases x with
  | own k => show (match get k σ2.bx with | some (.row _ es) => _ | _ => none) = _; rw [(h k (by simp [D.men])).1]; rfl
  | c x => cases x with
    | v y => cases y <;> rfl
    | _ => rfl
  | _ => rfl
theorem slice_congr [Lays] (t : TypeId) {x : D} (lo hi : Option D) (h : Same σ σ2 x) : sliceD P σ2 t x lo hi = sliceD P σ t x lo hi := by
  unfold sliceD
  rw [len_congr h]
  have key : ∀ n l hh, sliceC σ2 n l hh x = sliceC σ n l hh x := by
    intro n l hh
    unfold sliceC
    cases x with
    | own k => dsimp only; rw [(h k (by simp [D.men])).1]
    | c x => cases x with
      | v y => cases y with
        | slice a l c => cases a <;> cases l <;> cases c <;> rfl
        | _ => rfl
      | _ => rfl
    | _ => rfl
  have key2 : ∀ n len l hh, sliceB σ2 n x len l hh = sliceB σ n x len l hh := by
    intro n len l hh
    unfold sliceB
    cases l <;> cases hh <;> simp only [key]
  simp only [key2]
theorem mem_operands_call (c : Call) {x : Operand} (h : x ∈ c.args.toList) : x ∈ (Op.call c).operands.toList := by
  simp only [Op.operands, Call.operands, Array.toList_append, List.mem_append]
  exact .inr h
theorem evB_congr [Lays] {b : Builtin} {args : List Operand} {tys : List TypeId} (ho : ∀ x ∈ args, σ2.op x = σ.op x) (hb : ∀ x ∈ args, Same σ σ2 (σ.op x)) : evB P σ2 b args tys = evB P σ b args tys := by
  unfold evB
  split
  · rename_i x l
    rw [ho x (by simp)]
    split
    · rw [len_congr (hb x (by simp))]
    · rfl
  · rename_i x l
    rw [ho x (by simp), List.map_congr_left (fun y hy => ho y (by simp [hy]))]
  · rename_i x l
    rw [ho x (by simp), List.map_congr_left (fun y hy => ho y (by simp [hy]))]
  · rfl
theorem evP_congr [Lays] {op : Op} (hp : PinS σ σ2) (ho : ∀ x ∈ op.operands.toList, σ2.op x = σ.op x) (hb : ∀ x ∈ op.operands.toList, Same σ σ2 (σ.op x)) : evP P σ2 op = evP P σ op := by
  cases op <;> simp only [evP, Op.operands, List.mem_cons, List.not_mem_nil, or_false, forall_eq_or_imp, forall_eq] at ho hb ⊢
  case nilCheck x => rw [ho]
  case move x => rw [ho]
  case assign x => rw [ho]
  case pick c a b => rw [ho.1, ho.2.1, ho.2.2]
  case load t x => rw [ho]; split; rw [loadAt_congr _ hp hb]; rfl
  case lookup t x i ok => rw [ho.1, ho.2, look_congr t _ ok hp hb.1]
  case fieldAddr t x f => rw [ho]
  case field t x f => rw [ho]
  case indexAddr t x i => rw [ho.1, ho.2, idx_congr t _ hb.1]
  case index t x i => rw [ho.1, ho.2]
  case extract t i => rw [ho]
  case slice t x lo hi mx =>
    cases mx with
    | some m =>
      dsimp only
      have h1 : lo.map σ2.op = lo.map σ.op := by cases lo with | none => rfl | some l => simp only [Option.map_some]; rw [ho l (by simp)]
      have h2 : hi.map σ2.op = hi.map σ.op := by cases hi with | none => rfl | some l => simp only [Option.map_some]; rw [ho l (by simp)]
      rw [h1, h2, ho x (by simp), ho m (by simp)]
    | none =>
      dsimp only
      have h1 : lo.map σ2.op = lo.map σ.op := by cases lo with | none => rfl | some l => simp only [Option.map_some]; rw [ho l (by simp)]
      have h2 : hi.map σ2.op = hi.map σ.op := by cases hi with | none => rfl | some l => simp only [Option.map_some]; rw [ho l (by simp)]
      rw [h1, h2, ho x (by simp), slice_congr t _ _ (hb x (by simp))]
  case makeFunc fn first caps =>
    simp only [Array.toList_append, List.mem_append] at ho
    rw [List.map_congr_left (fun x hx => ho x (.inl hx)), List.map_congr_left (fun x hx => ho x (.inr hx))]
  case binOp op t x y yt => rw [ho.1, ho.2]
  case unOp op t x => rw [ho]
  case convert s t x => rw [ho]
  case build t ps =>
    have : (ps.toList.map fun p => (p.1, σ2.op p.2)) = ps.toList.map fun p => (p.1, σ.op p.2) := List.map_congr_left (fun p hp => by rw [ho p.2 (by simp only [List.mem_map]; exact ⟨p, hp, rfl⟩)])
    rw [this]
  case call c =>
    have ho' : ∀ x ∈ c.args.toList, σ2.op x = σ.op x := fun x hx => ho x (mem_operands_call c hx)
    have hb' : ∀ x ∈ c.args.toList, Same σ σ2 (σ.op x) := fun x hx => hb x (mem_operands_call c hx)
    split
    · exact evB_congr ho' hb'
    · rfl
theorem evA_congr [Lays] {op : Op} (k : Nat) (ho : ∀ x ∈ op.operands.toList, σ2.op x = σ.op x) : evA P σ2 k op = evA P σ k op := by
  cases op <;> simp only [evA, Op.operands, List.mem_cons, List.not_mem_nil, or_false, forall_eq] at ho ⊢
  case box t x => rw [ho]
  case makeSlice t l c => rw [ho l (.inl rfl), ho c (.inr rfl)]
  case makeMap t r => cases r <;> rfl
  case buildSlice t len ps =>
    have : (ps.toList.map fun p => (p.1, σ2.op p.2)) = ps.toList.map fun p => (p.1, σ.op p.2) := List.map_congr_left (fun p hp => by rw [ho p.2 (by simp only [List.mem_map]; exact ⟨p, hp, rfl⟩)])
    rw [this]
mutual
theorem closeD_congr : ∀ (d : D), Same σ σ2 d → closeD σ2 none d = closeD σ none d
  | .top, _ => rfl
  | .c _, _ => rfl
  | .agg cs, h => by simp only [closeD]; rw [closeDs_congr cs (fun k hk => h k (by simpa [D.men] using hk))]
  | .tup _, _ => rfl
  | .box k off, h => by simp only [closeD]; rw [(h k (by simp [D.men])).1]
  | .own k, h => by simp only [closeD]; rw [(h k (by simp [D.men])).1]
  | .elo _ _ _ _, _ => rfl
  | .hd _, _ => rfl
  | .win k _ _ _, h => by
    simp only [closeD]
    rw [(h k (by simp [D.men])).1]
  | .fn f fs caps, h => by
    simp only [closeD]
    rw [closeDs_congr fs (fun k hk => h k (by simp [D.men, hk])), closeDs_congr caps (fun k hk => h k (by simp [D.men, hk]))]
theorem closeDs_congr : ∀ (ds : List D), (∀ k, D.mens k ds = true → SameK σ σ2 k) → closeDs σ2 none ds = closeDs σ none ds
  | [], _ => rfl
  | d :: ds, h => by
    simp only [closeDs]
    rw [closeD_congr d (fun k hk => h k (by simp [D.mens, hk])), closeDs_congr ds (fun k hk => h k (by simp [D.mens, hk]))]
end
theorem closeC1_congr {d : D} (h : ∀ k, d.men k = true → get k σ2.bx = get k σ.bx) : closeC1 σ2 d = closeC1 σ d := by
  cases d <;> simp only [closeC1]
  rename_i j
  rw [h j (by simp [D.men])]
theorem closeCs1_congr [Lays] : ∀ {ds : List D}, (∀ k, D.mens k ds = true → get k σ2.bx = get k σ.bx) → closeCs1 σ2 ds = closeCs1 σ ds
  | [], _ => rfl
  | d :: ds, h => by
    simp only [closeCs1]
    rw [closeC1_congr (fun k hk => h k (by simp [D.mens, hk])), closeCs1_congr (fun k hk => h k (by simp [D.mens, hk]))]
theorem closeE1_congr [Lays] : ∀ {es : List (List D)}, (∀ k, es.any (D.mens k) = true → get k σ2.bx = get k σ.bx) → closeE1 σ2 es = closeE1 σ es
  | [], _ => rfl
  | e :: es, h => by
    simp only [closeE1]
    rw [closeCs1_congr (fun k hk => h k (by simp [hk])), closeE1_congr (fun k hk => h k (by rw [List.any_cons, hk, Bool.or_true]))]
theorem closeN_congr [Lays] {d : D} (h : Same σ σ2 d) : closeN σ2 d = closeN σ d := by
  cases d <;> simp only [closeN]
  · exact closeD_congr _ h
  · exact closeD_congr _ h
  · rename_i k
    have h1 := h k (by simp [D.men])
    rw [h1.1]
    split
    · rename_i n es hg
      rw [closeE1_congr (fun j hj => h1.2 n es hg j hj)]
    · rfl
  · exact closeD_congr _ h
theorem closeNs_congr [Lays] : ∀ {ds : List D}, (∀ k, D.mens k ds = true → SameK σ σ2 k) → closeNs σ2 ds = closeNs σ ds
  | [], _ => rfl
  | d :: ds, h => by
    simp only [closeNs]
    rw [closeN_congr (fun k hk => h k (by simp [D.mens, hk])), closeNs_congr (fun k hk => h k (by simp [D.mens, hk]))]
theorem closeP_congr [Lays] {d : D} (hp : PinS σ σ2) (h : Same σ σ2 d) : closeP σ2 d = closeP σ d := by
  have hg := closeD_congr d h
  unfold closeP
  split
  · rename_i l off
    rw [hp.1]
  · exact hg
theorem closePs_congr [Lays] (hp : PinS σ σ2) : ∀ {ds : List D}, (∀ k, D.mens k ds = true → SameK σ σ2 k) → closePs σ2 ds = closePs σ ds
  | [], _ => rfl
  | d :: ds, h => by
    simp only [closePs]
    rw [closeP_congr hp (fun k hk => h k (by simp [D.mens, hk])), closePs_congr hp (fun k hk => h k (by simp [D.mens, hk]))]
theorem Clo_congr [Lays] {ds as : List D} (hp : PinS σ σ2) (h : ∀ k, D.mens k ds = true → SameK σ σ2 k) (hc : Clo σ none ds as) : Clo σ2 none ds as := by
  rcases hc with h1 | ⟨h0, h1⟩ | ⟨h0, h1⟩
  · exact .inl (by rw [closeDs_congr ds h]; exact h1)
  · exact .inr (.inl ⟨h0, by rw [closeNs_congr h]; exact h1⟩)
  · exact .inr (.inr ⟨h0, by rw [closePs_congr hp h]; exact h1⟩)
theorem mens_append (k : Nat) : ∀ a b : List D, D.mens k (a ++ b) = (D.mens k a || D.mens k b)
  | [], b => by simp [D.mens]
  | d :: a, b => by simp [D.mens, mens_append k a b, Bool.or_assoc]
theorem mens_take {k : Nat} : ∀ {l : List D} (n : Nat), D.mens k l = false → D.mens k (l.take n) = false
  | [], n, _ => by simp [D.mens]
  | d :: l, 0, _ => rfl
  | d :: l, n + 1, h => by
    simp only [D.mens, Bool.or_eq_false_iff, List.take_succ_cons] at h ⊢
    exact ⟨h.1, mens_take n h.2⟩
theorem mens_drop {k : Nat} : ∀ {l : List D} (n : Nat), D.mens k l = false → D.mens k (l.drop n) = false
  | [], n, _ => by simp [D.mens]
  | d :: l, 0, h => h
  | d :: l, n + 1, h => by
    simp only [D.mens, Bool.or_eq_false_iff] at h
    exact mens_drop n h.2
theorem mens_get {k : Nat} : ∀ {l : List D} {i : Nat} {d : D}, D.mens k l = false → l[i]? = some d → d.men k = false
  | [], i, d, _, h => by simp at h
  | e :: l, 0, d, hm, h => by
    simp only [D.mens, Bool.or_eq_false_iff] at hm
    simp at h; subst h; exact hm.1
  | e :: l, i + 1, d, hm, h => by
    simp only [D.mens, Bool.or_eq_false_iff] at hm
    exact mens_get hm.2 (by simpa using h)
theorem mens_mapc (k : Nat) : ∀ cs : List C, D.mens k (cs.map D.c) = false
  | [] => rfl
  | c :: cs => by simp [D.mens, D.men, mens_mapc k cs]
theorem mens_map_op [Lays] {k : Nat} {σ : St} (h : ∀ x, (σ.op x).men k = false) : ∀ l : List Operand, D.mens k (l.map σ.op) = false
  | [] => rfl
  | x :: l => by simp [D.mens, h x, mens_map_op h l]
theorem loadD_men [Lays] {k : Nat} {ti : TI} {cs : List D} {off : Nat} {d : D} (hm : D.mens k cs = false) (h : loadD ti cs off = some d) : d.men k = false := by
  unfold loadD at h
  split at h
  · split at h
    · cases h; simpa [D.men] using mens_take _ (mens_drop off hm)
    · cases h
  · exact mens_get hm h
theorem op_men [Lays] {k : Nat} (h : σ.men k = false) (x : Operand) : (σ.op x).men k = false := by
  cases x with
  | tmp t =>
    simp only [St.op]
    cases hg : get t σ.tm with
    | none => rfl
    | some d => exact men_tm h hg
  | const v => simp only [St.op]; split <;> rfl
  | global g =>
    simp only [St.op]
    cases get g Lays.l <;> rfl
  | func f => rfl
theorem loadAt_men [Lays] {k : Nat} {ti : TI} {x d : D} (h : σ.men k = false) (he : σ.loadAt ti x = some d) : d.men k = false := by
  unfold St.loadAt at he
  split at he
  · split at he
    · rename_i cs hk
      have := men_bx h hk
      exact loadD_men (by simpa [Blk.men] using this) he
    · cases he
  · split at he
    · rename_i n' es hk
      have := men_bx h hk
      simp only [Blk.men, List.any_eq_false] at this
      split at he
      · split at he
        · rename_i e hi
          split at he
          · exact loadD_men (by simpa using this e (List.mem_of_getElem? hi)) he
          · cases he
        · cases he
      · cases he
    · cases he
  · exact loadD_men (mens_mapc k _) he
  · split at he
    · rename_i hk
      have := men_bx h (pget_spec hk)
      exact loadD_men (by simpa [Blk.men] using this) he
    · cases he
  · cases he
theorem mapAt_men [Lays] {k : Nat} {x : D} {ks : List Value} {ds : List D} (h : σ.men k = false) (he : mapAt σ.bx x = some (ks, ds)) : D.mens k ds = false := by
  unfold mapAt at he
  split at he
  · split at he
    · rename_i hk
      cases he
      exact men_bx h (mget_spec hk)
    · cases he
  · split at he
    · rename_i hk
      cases he
      exact men_bx h hk
    · cases he
  · cases he
theorem zeroI_men [Lays] {t : TypeId} {z : D} (h : zeroI P t = some z) (k : Nat) : z.men k = false := by
  unfold zeroI at h
  split at h
  · split at h
    · cases h
      simp only [D.men]
      rename_i cs _ _
      have := mens_mapc k (cs.toList.map C.v)
      rw [List.map_map] at this
      exact this
    · cases h
  · split at h
    · cases h; rfl
    · cases h
  · cases h
theorem look_men [Lays] {k : Nat} {t : TypeId} {x i d : D} {ok : Bool} (h : σ.men k = false) (he : lookD P σ.bx t x i ok = some d) : d.men k = false := by
  have hc : ∀ (d : D) (ok has : Bool), d.men k = false → (commaD ok has d).men k = false := by
    intro d ok has hd
    cases ok <;> simp [commaD, D.men, D.mens, hd]
  unfold lookD at he
  split at he
  · rename_i z kk x' ht _
    obtain ⟨kt, et, _, _, hz⟩ := mapI_spec ht
    split at he
    · rename_i ks ds hma
      split at he
      · unfold lookIn at he
        split at he
        · split at he
          · rename_i hd; cases he; exact hc _ _ _ (mens_get (mapAt_men h hma) hd)
          · cases he
        · cases he; exact hc _ _ _ (zeroI_men hz k)
      · cases he
    · cases he
  · cases he
theorem addOff_men {k n : Nat} {x d : D} (hx : x.men k = false) (h : addOff n x = some d) : d.men k = false := by
  unfold addOff at h
  split at h <;> first | (cases h; done) | (cases h; exact hx)
theorem cellsD_men {k : Nat} {d : D} {cs : List D} (hd : d.men k = false) (h : cellsD d = some cs) : D.mens k cs = false := by
  unfold cellsD at h
  split at h
  · cases h; simpa [D.men] using hd
  · split at h
    · cases h; simp [D.mens, hd]
    · cases h
theorem fillD_men [Lays] {k : Nat} {place : Nat → Option (Nat × Nat)} : ∀ {ps : List (Nat × D)} {cells r : List D}, (∀ p ∈ ps, p.2.men k = false) → D.mens k cells = false → fillD place cells ps = some r → D.mens k r = false
  | [], cells, r, _, hc, h => by cases h; exact hc
  | (i, d) :: ps, cells, r, hp, hc, h => by
    simp only [fillD] at h
    split at h
    · rename_i off size cs _ hcs
      split at h
      · refine fillD_men (fun p hp' => hp p (by simp [hp'])) ?_ h
        unfold setAt
        rw [mens_append, mens_append, mens_take _ hc, cellsD_men (hp (i, d) (by simp)) hcs, mens_drop _ hc]
        rfl
      · cases h
    · cases h
theorem zeroD_men (k : Nat) (ti : TI) : D.mens k (zeroD ti) = false := by
  unfold zeroD
  induction ti.zero with
  | nil => rfl
  | cons v l ih => simp only [List.map_cons, D.mens, D.men, Bool.false_or]; exact ih
theorem foldO_men {k : Nat} {f : D → D → Option D} (hf : ∀ x y z, f x y = some z → z.men k = false) : ∀ (l : List D) (x z : D), x.men k = false → foldO f x l = some z → z.men k = false
  | [], x, z, hx, h => by cases h; exact hx
  | y :: l, x, z, hx, h => by
    simp only [foldO] at h
    split at h
    · rename_i u hu; exact foldO_men hf l u z (hf _ _ _ hu) h
    · cases h
theorem binD_men {k : Nat} {op : BinOp} {t : TypeId} {x y d : D} (h : binD P op t x y = some d) : d.men k = false := by
  unfold binD at h
  split at h
  · split at h
    · obtain ⟨v, _, rfl⟩ := Option.map_eq_some_iff.1 h; rfl
    · split at h
      · obtain ⟨v, _, rfl⟩ := Option.map_eq_some_iff.1 h; rfl
      · cases h
  · split at h
    · cases op <;> simp only [reduceCtorEq, Option.some.injEq] at h <;> subst h <;> rfl
    · cases h
  · split at h
    · cases op <;> simp only [reduceCtorEq, Option.map_eq_some_iff] at h <;> obtain ⟨v, _, rfl⟩ := h <;> rfl
    · cases h
  · split at h
    · cases op <;> simp only [reduceCtorEq, Option.some.injEq] at h <;> subst h <;> rfl
    · cases h
  · split at h
    · cases op <;> simp only [reduceCtorEq, Option.some.injEq] at h <;> subst h <;> rfl
    · cases h
  · cases h
theorem evP_men [Lays] {k : Nat} {op : Op} {d : D} (h : σ.men k = false) (he : evP P σ op = some d) : d.men k = false := by
  have ho := op_men h
  cases op <;> simp only [evP, reduceCtorEq] at he
  case nilCheck x => rw [nilD_same he]; exact ho x
  case move x => cases he; exact ho x
  case assign x => cases he; exact ho x
  case pick c a b =>
    split at he
    · rename_i t _
      cases he
      cases t
      · exact ho b
      · exact ho a
    · cases he
  case load t x =>
    split at he
    · exact loadAt_men h he
    · cases he
  case fieldAddr t x f =>
    split at he
    · exact addOff_men (ho x) he
    · cases he
  case field t x f =>
    split at he
    · rename_i cs _ hx
      have := ho x
      rw [hx] at this
      exact loadD_men (by simpa [D.men] using this) he
    · cases he
  case lookup t x i ok => exact look_men h he
  case indexAddr t x i =>
    unfold idxD at he
    split at he
    · split at he
      · split at he
        · split at he
          · split at he
            · split at he
              · cases he; rfl
              · cases he
            · cases he
          · rename_i k' hx
            have hxm := ho x
            rw [hx] at hxm
            split at he
            · split at he
              · cases he; simpa [D.men] using hxm
              · cases he
            · cases he
          · rename_i k' _ _ _ hx
            have hxm := ho x
            rw [hx] at hxm
            split at he
            · split at he
              · cases he; simpa [D.men] using hxm
              · cases he
            · cases he
          · split at he
            · cases he; rfl
            · cases he
          · cases he
        · cases he
      · split at he
        · split at he
          · split at he
            · exact addOff_men (ho x) he
            · cases he
          · cases he
        · cases he
    · cases he
  case slice t x lo hi mx =>
    cases mx with
    | some m =>
      dsimp only at he
      unfold slice3D at he
      (repeat' split at he) <;> first | (cases he; rfl) | cases he
    | none =>
      dsimp only at he
      unfold sliceD at he
      split at he
      · split at he
        · split at he
          · unfold sliceB at he
            split at he
            · split at he
              · unfold sliceC at he
                have hxm := ho x
                split at he
                · split at he
                  · cases he; rfl
                  · cases he
                · rename_i k' hx
                  rw [hx] at hxm
                  split at he
                  · split at he
                    · cases he; simpa [D.men] using hxm
                    · cases he
                  · cases he
                · cases he; rfl
                · cases he
              · cases he
            · cases he
          · cases he
        · cases he
      · cases he
  case index t x i =>
    split at he
    · rename_i cs _ _ _ hx _
      have := ho x
      rw [hx] at this
      split at he
      · split at he
        · exact loadD_men (by simpa [D.men] using this) he
        · cases he
      · cases he
    · cases he
  case extract t i =>
    split at he
    · rename_i ds hx
      have := ho t
      rw [hx] at this
      exact mens_get (by simpa [D.men] using this) he
    · cases he
  case makeFunc fn first caps =>
    cases he
    simp only [D.men, mens_map_op ho, Bool.or_self]
  case binOp op t x y yt => exact binD_men he
  case unOp op t x =>
    split at he <;> first | (cases he; rfl) | cases he
  case convert s t x =>
    split at he
    · cases he; rfl
    · cases he
  case build t ps =>
    split at he
    · obtain ⟨cs, hcs, rfl⟩ := Option.map_eq_some_iff.1 he
      simp only [D.men]
      refine fillD_men (fun p hp => ?_) (zeroD_men k _) hcs
      simp only [List.mem_map] at hp
      obtain ⟨q, _, rfl⟩ := hp
      exact ho q.2
    · cases he
  case call c =>
    split at he
    · unfold evB at he
      split at he
      · split at he
        · split at he
          · obtain ⟨v, _, rfl⟩ := Option.map_eq_some_iff.1 he; rfl
          · split at he
            · cases he; rfl
            · cases he
        · cases he
      · refine foldO_men (fun x y z hz => ?_) _ _ _ (ho _) he
        unfold max2D at hz
        split at hz
        · cases hz; rfl
        · cases hz
      · refine foldO_men (fun x y z hz => ?_) _ _ _ (ho _) he
        unfold min2D at hz
        split at hz
        · cases hz; rfl
        · cases hz
      · cases he
    · cases he
theorem chunk_men [Lays] {k n : Nat} : ∀ (m : Nat) (l : List D), D.mens k l = false → ∀ e ∈ chunk n m l, D.mens k e = false
  | 0, l, _, e, he => by cases he
  | m + 1, l, h, e, he => by
    simp only [chunk, List.mem_cons] at he
    rcases he with rfl | he
    · exact mens_take n h
    · exact chunk_men m _ (mens_drop n h) e he
theorem evA_men [Lays] {k j : Nat} {op : Op} {d : D} {x : Blk} (h : σ.men k = false) (hj : j ≠ k) (he : evA P σ j op = some (d, x)) : d.men k = false ∧ x.men k = false := by
  have ho := op_men h
  have hjk : (j == k) = false := by simpa using hj
  cases op <;> simp only [evA, reduceCtorEq] at he
  case alloc t =>
    split at he
    · cases he; exact ⟨by simp [D.men, hj], zeroD_men k _⟩
    · cases he
  case box t y =>
    split at he
    · rename_i cs hcs
      cases he; exact ⟨by simp [D.men, hj], cellsD_men (ho y) hcs⟩
    · cases he
  case makeMap t r =>
    cases r with
    | some r => cases he
    | none =>
      dsimp only at he
      split at he
      · cases he; exact ⟨by simp [D.men, hj], rfl⟩
      · cases he
  case makeSlice t l c =>
    split at he
    · split at he
      · split at he
        · split at he
          · cases he
            refine ⟨by simp [D.men, hj], ?_⟩
            simp only [Blk.men, List.any_eq_false, List.mem_map]
            rintro _ ⟨e, _, rfl⟩
            have : ∀ l : List C, D.mens k (l.map D.c) = false := by
              intro l
              induction l with
              | nil => rfl
              | cons v l ih => simp only [List.map_cons, D.mens, D.men, Bool.false_or]; exact ih
            rw [this]; simp
          · cases he
        · cases he
      · cases he
    · cases he
  case buildSlice t len ps =>
    split at he
    · split at he
      · split at he
        · split at he
          · rename_i cs hcs
            split at he
            · cases he
              refine ⟨by simp [D.men, hj], ?_⟩
              simp only [Blk.men, List.any_eq_false]
              intro e hem
              have hz : ∀ (len : Nat) (z : List D), D.mens k z = false → D.mens k (List.replicate len z).flatten = false := by
                intro len z hz
                induction len with
                | zero => rfl
                | succ n ih => rw [List.replicate_succ, List.flatten_cons, mens_append, hz, ih]; rfl
              have := fillD_men (k := k) (fun p hp => by
                simp only [List.mem_map] at hp
                obtain ⟨q, _, rfl⟩ := hp
                exact ho q.2) (hz len _ (zeroD_men k _)) hcs
              simp [chunk_men _ _ this e hem]
            · cases he
          · cases he
        · cases he
      · cases he
    · cases he
end Go.Dw
end
