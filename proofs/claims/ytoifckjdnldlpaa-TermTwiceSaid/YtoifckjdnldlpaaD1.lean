/- Drawn regions: an operation by its operands. -/
import Derived.Test.YtoifckjdnldlpaaC3
set_option linter.unusedVariables false
set_option linter.unusedSimpArgs false
namespace Am
open Go
noncomputable section
/-- What an operation asks, its operands told; k: what it puts, the variables, the own heap. -/
def sem (P : Program) (cf : Cfg) (fz : Fz) (o : Oper) (e : Operand → TV) (loc : Loc) (h : Heap) (k : TV → Loc → Heap → Prop) : Prop := match o.op with
  | .move x | .assign x => k (e x) loc h
  | .pick c a b => match e c with
    | .bl true => k (e a) loc h
    | .bl false => k (e b) loc h
    | .av c => brA c (k (e a) loc h) (k (e b) loc h)
    | _ => FF
  | .box t x => cellsK (cf.ty t) (e x) fun cs => match nmem cf.esc (o.dst.getD 0) with
    | true => newA (cf.ty t).sz cs h fun p h => k (.av p) loc h
    | false => FF
  | .alloc t => match nmem cf.esc (o.dst.getD 0) with
    | true => newA (cf.ty t).sz (cf.ty t).zero h fun p h => k (.av p) loc h
    | false => FF
  | .load t x => match e x with
    | .loc v off => match lkp loc v with
      | some cs => match (cf.ty t).agg with
        | true => takeK (cs.drop off) (cf.ty t).sz fun cs => k (.ag cs) loc h
        | false => takeK (cs.drop off) 1 fun cs => k (.av (g cs 0)) loc h
      | none => FF
    | .av p => drK fz cf.own o.dst p (match (cf.ty t).agg with
      | true => loadG (cf.ty t).sz p h fun cs => k (.ag (gets cs 0 (cf.ty t).sz)) loc h
      | false => loadV p h fun v => k (.av v) loc h)
    | _ => FF
  | .store t x v => cellsK (cf.ty t) (e v) fun cs => match e x with
    | .loc u off => match nmem fz.l u with
      | true => FF
      | false => match lkp loc u with
        | some ds => takeK (ds.drop off) (cf.ty t).sz fun _ => spliceK ds off cs fun ds => lsetK loc u ds fun loc => k .dead loc h
        | none => FF
    | .av p => storeG p cs h fun h => k .dead loc h
    | _ => FF
  | .nilCheck x => match e x with
    | .loc t off => k (.loc t off) loc h
    | .av v => nilA v (k (.av v) loc h)
    | _ => FF
  | .fieldAddr t x f => match e x with
    | .loc u off => k (.loc u (off + ((cf.ty t).flds.getD f (0, 0)).1)) loc h
    | .av p => fldA ((cf.ty t).flds.getD f (0, 0)).1 p fun p => k (.av p) loc h
    | _ => FF
  | .indexAddr t x i => asAV (e x) fun x => asAV (e i) fun i => drK fz cf.own o.dst x (idxA (cf.ty (cf.ty t).elem).sz x i h fun p => k (.av p) loc h)
  | .index _ x i => asAV (e x) fun x => asAV (e i) fun i => strA x i fun v => k (.av v) loc h
  | .binOp op t x y _ => asAV (e x) fun x => asAV (e y) fun y => match (cf.ty t).agg, op with
    | true, .eql => eqA (cf.ty t).eq false x y fun v => k (.av v) loc h
    | true, .neq => eqA (cf.ty t).eq true x y fun v => k (.av v) loc h
    | true, _ => FF
    | false, op => match (cf.ty t).kd, op with
      | .bool, .eql => eqbA false x y fun v => k (.av v) loc h
      | .bool, .neq => eqbA true x y fun v => k (.av v) loc h
      | .bool, _ => FF
      | _, op => binA op x y fun v => k (.av v) loc h
  | .unOp .not _ x => asAV (e x) fun x => notA x fun v => k (.av v) loc h
  | .extract x i => asAV (e x) fun x => tupA x i fun v => k (.av v) loc h
  | .build t parts => buildK cf e (cf.ty t) parts.toList (cf.ty t).zero fun cs => takeK cs (cf.ty t).sz fun cs => k (.ag cs) loc h
  | .buildSlice t n parts => match Nat.beq n parts.size with
    | true => match n with
      | 0 => k (.av .e0) loc h
      | _ => cellsKs (cf.ty (cf.ty t).elem) (parts.toList.map fun p => e p.2) fun els => k (.av (.rs (cf.ty (cf.ty t).elem).sz els)) loc h
    | false => FF
  | .makeSlice t n c => asAV (e n) fun n => asAV (e c) fun c => mkA (cf.ty (cf.ty t).elem).sz (cf.ty (cf.ty t).elem).bytes (cf.ty (cf.ty t).elem).zero n c h fun v h => k (.av v) loc h
  | .slice t x lo hi mx => match mx with
    | none => asAV (e x) fun x => optK e lo fun lo => optK e hi fun hi => sliceA (cf.ty (cf.ty t).elem).sz x lo hi fun v => k (.av v) loc h
    | some mx => match lo, hi with
      | none, some hi => asAV (e x) fun x => asAV (e hi) fun hi => asAV (e mx) fun mx => sl3A (cf.ty (cf.ty t).elem).sz x hi mx fun v => k (.av v) loc h
      | _, _ => FF
  | .convert _ t x => match (cf.ty t).kd with
    | .int kd => asAV (e x) fun x => convA kd x fun v => k (.av v) loc h
    | _ => FF
  | .makeMap _ r => match r with
    | none => newM h fun v h => k (.av v) loc h
    | some _ => FF
  | .lookup t m x ok => match (cf.ty t).kd with
    | .map kt et => asAV (e m) fun m => cellsK (cf.ty kt) (e x) fun cs => lookA (ksOf (cf.ty kt)) ok (unc (cf.ty et).agg (cf.ty et).zero) m (unc (cf.ty kt).agg cs) h fun v => k (.av v) loc h
    | _ => FF
  | .mapUpdate t m x v => match (cf.ty t).kd with
    | .map kt et => asAV (e m) fun m => cellsK (cf.ty kt) (e x) fun cs => cellsK (cf.ty et) (e v) fun vs => updA (ksOf (cf.ty kt)) m (unc (cf.ty kt).agg cs) (unc (cf.ty et).agg vs) h fun h => k .dead loc h
    | _ => FF
  | .mapEntry t m x => match (cf.ty t).kd with
    | .map kt et => asAV (e m) fun m => cellsK (cf.ty kt) (e x) fun cs => entA (ksOf (cf.ty kt)) (unc (cf.ty et).agg (cf.ty et).zero) m (unc (cf.ty kt).agg cs) h fun v h => k (.av v) loc h
    | _ => FF
  | .entryStore t m i v => match (cf.ty t).kd with
    | .map kt et => asAV (e m) fun m => asAV (e i) fun i => cellsK (cf.ty et) (e v) fun vs => entS m i (unc (cf.ty et).agg vs) h fun h => k .dead loc h
    | _ => FF
  | .range t m => match (cf.ty t).kd with
    | .map _ _ => asAV (e m) fun m => rangeA m h fun v h => k (.av v) loc h
    | _ => FF
  | .next it str => match str with
    | false => asAV (e it) fun it => nextA it h fun v h => k (.av v) loc h
    | true => FF
  | .entry it => asAV (e it) fun it => entryA it h fun v => k (.av v) loc h
  | .makeFunc (.func f) first caps => match first.size with
    | 0 => asAVs (caps.toList.map e) fun caps => k (.av (.fn f caps)) loc h
    | _ => FF
  | .call { callee := .builtin .len, args, argTypes } => match args.toList, argTypes.toList with
    | [x], [t] => match (cf.ty t).kd with
      | .str => asAV (e x) fun x => lenS x fun v => k (.av v) loc h
      | .map _ _ => asAV (e x) fun x => lenM x h fun v => k (.av v) loc h
      | .other => asAV (e x) fun x => lenA x fun v => k (.av v) loc h
      | _ => FF
    | _, _ => FF
  | .call { callee := .builtin .append, args, argTypes } => match args.toList, argTypes.toList with
    | [x, y], [t, u] => match Nat.beq t u with
      | true => asAV (e x) fun x => asAV (e y) fun y => appA (cf.ty (cf.ty t).elem).sz (cf.ty (cf.ty t).elem).bytes x y h fun v h => k (.av v) loc h
      | false => FF
    | _, _ => FF
  | .call { callee := .builtin .max, args, .. } => match args.toList with
    | [x, y] => asAV (e x) fun x => asAV (e y) fun y => maxA x y fun v => k (.av v) loc h
    | _ => FF
  | .call { callee := .builtin .min, args, .. } => match args.toList with
    | [x, y] => asAV (e x) fun x => asAV (e y) fun y => minA x y fun v => k (.av v) loc h
    | _ => FF
  | .call { callee := .value (.func f), args, .. } => asAVs (args.toList.map e) fun args => callS P f args h fun r h => k (.av r) loc h
  | .call { callee := .value (.tmp t), args, .. } => asAV (e (.tmp t)) fun f => asAVs (args.toList.map e) fun args => callV P f args h fun r h => k (.av r) loc h
  | _ => FF

/-- A variable of this call is laid. -/
def isL (cf : Cfg) (o : Oper) : Bool := match o.op with
  | .box _ _ | .alloc _ => !nmem cf.esc (o.dst.getD 0)
  | _ => false
end
section
variable {P : Program} {cf : Cfg} {fz : Fz} {env : Env} {loc : Loc} {h : Heap} {k : K} {o : Oper}
theorem aop_sem (hl : isL cf o = false) : aop P cf fz o env loc h k = sem P cf fz o (ev env) loc h fun y loc h => putK fz env o.dst y fun env => k env loc h := by
  unfold aop sem
  cases hop : o.op with
  | box t x =>
    have : nmem cf.esc (o.dst.getD 0) = true := by simpa [isL, hop] using hl
    simp only [this]
  | alloc t =>
    have : nmem cf.esc (o.dst.getD 0) = true := by simpa [isL, hop] using hl
    simp only [this]
  | unOp op t x => cases op <;> rfl
  | makeFunc f first caps => cases f <;> rfl
  | call c =>
    obtain ⟨callee, args, ts⟩ := c
    cases callee with
    | value x => cases x <;> rfl
    | builtin bi => cases bi <;> rfl
    | invoke r n => rfl
  | _ => rfl
end
end Am
