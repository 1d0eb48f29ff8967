/-
  AN ABSTRACT WALK, nineteenth text: the laws by which a walk is computed. A printer of texts names them all in one list.
-/
import Derived.Test.YtaakjjhifhjbfaaDoorAbs18
namespace Go.Abs

/-- Here a computation stops: nothing is rewritten behind it. -/
def Tag (_ : Prop) : Type := Unit
def tg (A : Prop) : Tag A := ()
structure hold (A : Prop) (u : Tag A) : Prop where
  get : A
theorem hold_eq (A : Prop) (u : Tag A) : hold A u = A := propext ⟨fun h => h.get, fun h => ⟨h⟩⟩
theorem maxLen_lit : maxLen = 9223372036854775807 := rfl
theorem hold_intro {A : Prop} {u : Tag A} (h : A) : hold A u := ⟨h⟩

section
variable {G : Glob} {P : Program} {S : St} {k : D → St → Prop} {K : Ex → St → Prop} {kS : St → Prop} {kD : D → Prop} {kL : List D → Prop} {A B : Prop} {n nx : Nat} {env : List (Nat × D)} {own : List (Nat × List D)}

/-! code -/
theorem z_skip : codeW G P .skip S K = K .nrm S := _root_.id rfl
theorem z_region (id : Nat) (l : List Oper) : codeW G P (.region id l.toArray false) S K = opsW G P l l S (K .nrm) := by simp [codeW, rgnW]
theorem z_region_d (id : Nat) (l : List Oper) : codeW G P (.region id l.toArray true) S K = (P.follows .mixedOrders = true ∧ hold (rgnT G P l S (K .nrm)) (tg _)) := by simp [codeW, rgnW, hold_eq]
theorem z_seq (x y : Code) : codeW G P (.seq x y) S K = codeW G P x S (seqK (fun S => codeW G P y S K) K) := _root_.id rfl
theorem z_cond (c : Operand) (x y : Code) : codeW G P (.cond c x y) S K = evW G S c fun d => cndW d (codeW G P x S K) (codeW G P y S K) := _root_.id rfl
theorem z_block (id : Nat) (c : Code) : codeW G P (.block id c) S K = codeW G P c S (blkK id K) := _root_.id rfl
theorem z_exit (id : Nat) : codeW G P (.exit id) S K = K (.ext id) S := _root_.id rfl
theorem z_ret : codeW G P .ret S K = K .rt S := _root_.id rfl
theorem z_loop (c : Code) : codeW G P (.loop c) S K = hold (loopW S (fun S K => codeW G P c S K) K) (tg _) := (hold_eq _ _).symm

/-! where a piece of code ends -/
theorem z_seq_nrm (f : St → Prop) : seqK f K .nrm S = f S := _root_.id rfl
theorem z_seq_ext (f : St → Prop) (i : Nat) : seqK f K (.ext i) S = K (.ext i) S := _root_.id rfl
theorem z_seq_rt (f : St → Prop) : seqK f K .rt S = K .rt S := _root_.id rfl
theorem z_blk_nrm (id : Nat) : blkK id K .nrm S = K .nrm S := _root_.id rfl
theorem z_blk_ext (id i : Nat) : blkK id K (.ext i) S = if i = id then K .nrm S else K (.ext i) S := by
  simp only [blkK]; split <;> simp_all
theorem z_blk_rt (id : Nat) : blkK id K .rt S = K .rt S := _root_.id rfl
theorem z_end_rt : endK kS .rt S = kS S := _root_.id rfl
theorem z_lp_ext {α : Type} (R : α → Prop) (m : α → Nat) (I : α → St) (x : α) (i : Nat) : lpK R m I x K (.ext i) S = K (.ext i) S := _root_.id rfl
theorem z_lp_rt {α : Type} (R : α → Prop) (m : α → Nat) (I : α → St) (x : α) : lpK R m I x K .rt S = K .rt S := _root_.id rfl
theorem z_lp_nrm {α : Type} (R : α → Prop) (m : α → Nat) (I : α → St) (x : α) : lpK R m I x K .nrm S = ∃ y, R y ∧ m y < m x ∧ wkW S (I y) := _root_.id rfl

/-! conditions -/
def grdB (c want : Bool) (A B : Prop) : Prop := (c = want → A) ∧ (¬ c = want → B)
theorem z_cnd (t : Bool) : cndW (.bool t) A B = grdB t true A B := by
  unfold cndW grdB; cases t <;> simp
theorem z_gtt : grdB true true A B = A := by simp [grdB]
theorem z_gtf : grdB true false A B = B := by simp [grdB]
theorem z_gft : grdB false true A B = B := by simp [grdB]
theorem z_gff : grdB false false A B = A := by simp [grdB]
theorem z_gdt (p : Prop) [Decidable p] : grdB (decide p) true A B = if p then A else B := by by_cases h : p <;> simp [grdB, h]
theorem z_gdf (p : Prop) [Decidable p] : grdB (decide p) false A B = if p then B else A := by by_cases h : p <;> simp [grdB, h]
theorem z_ite (p : Prop) [Decidable p] : (if p then A else B) = ((p → A) ∧ (¬ p → B)) := by by_cases h : p <;> simp [h]
theorem z_gvar (b : Bool) : grdB b true A B = ((b = true → A) ∧ (b = false → B)) := by cases b <;> simp [grdB]
theorem z_gvarf (b : Bool) : grdB b false A B = ((b = false → A) ∧ (b = true → B)) := by cases b <;> simp [grdB]
theorem z_geqt (a b : List D) : grdB (eqB a b) true A B = ((a = b → A) ∧ (¬ a = b → B)) := by simp [grdB, eqB_iff]
theorem z_geqf (a b : List D) : grdB (eqB a b) false A B = ((¬ a = b → A) ∧ (a = b → B)) := by unfold grdB; rw [← eqB_iff]; cases eqB a b <;> simp
theorem z_gnt (b : Bool) : grdB (!b) true A B = grdB b false A B := by cases b <;> simp [grdB]
theorem z_gnf (b : Bool) : grdB (!b) false A B = grdB b true A B := by cases b <;> simp [grdB]

/-! a region -/
theorem z_ops_nil (ops : List Oper) : opsW G P ops [] S kS = kS S := _root_.id rfl
theorem z_ops_plain (ops rest : List Oper) (dst : Option Tmp) (op : Op) (t : TypeId) (pos : String) (after : Array Edge) :
    opsW G P ops (⟨dst, op, t, pos, after, none⟩ :: rest) S kS = opW G P op S fun d S => putW dst d S fun S => opsW G P ops rest S kS := _root_.id rfl
theorem z_ops_guard (ops rest : List Oper) (dst : Option Tmp) (op : Op) (t : TypeId) (pos : String) (after : Array Edge) (j : Nat) (want : Bool) :
    opsW G P ops (⟨dst, op, t, pos, after, some (j, want)⟩ :: rest) S kS = grdW ops (some (j, want)) S (fun S => opW G P op S fun d S => putW dst d S fun S => opsW G P ops rest S kS) fun S => putW dst (.tup []) S fun S => opsW G P ops rest S kS := _root_.id rfl
def grdD (d : D) (s : Nat) (want : Bool) (S : St) (A B : St → Prop) : Prop :=
  match d with
  | .bool c => grdB c want (A ⟨S.n, S.nx, (s, .bool want) :: S.env, S.own⟩) (B ⟨S.n, S.nx, (s, .bool !want) :: S.env, S.own⟩)
  | .tup [] => B S
  | _ => False
theorem z_grd (ops : List Oper) (j : Nat) (want : Bool) (A B : St → Prop) : grdW ops (some (j, want)) ⟨n, nx, env, own⟩ A B = dstW ops j fun s => lkW s env fun d => grdD d s want ⟨n, nx, env, own⟩ A B := _root_.id rfl
theorem z_grdD_b (c : Bool) (s : Nat) (want : Bool) (A B : St → Prop) : grdD (.bool c) s want ⟨n, nx, env, own⟩ A B = grdB c want (A ⟨n, nx, (s, .bool want) :: env, own⟩) (B ⟨n, nx, (s, .bool !want) :: env, own⟩) := _root_.id rfl
theorem z_grdD_u (s : Nat) (want : Bool) (A B : St → Prop) : grdD (.tup []) s want S A B = B S := _root_.id rfl
theorem z_dst_0 (s : Nat) (op : Op) (t : TypeId) (pos : String) (after : Array Edge) (g : Option (Nat × Bool)) (r : List Oper) (f : Nat → Prop) : dstW (⟨some s, op, t, pos, after, g⟩ :: r) 0 f = f s := _root_.id rfl
theorem z_dst_s (o : Oper) (r : List Oper) (j : Nat) (f : Nat → Prop) : dstW (o :: r) (j + 1) f = dstW r j f := _root_.id rfl
theorem z_put_none (d : D) : putW none d S kS = kS S := _root_.id rfl
theorem z_put (s : Nat) (d : D) : putW (some s) d ⟨n, nx, env, own⟩ kS = (s < n ∧ kS ⟨n, nx, (s, d) :: env, own⟩) := _root_.id rfl

/-! operations -/
/-- 'm' times the cells 'z', written out. -/
def repL (m : Nat) (z : List D) (f : List D → Prop) : Prop := repW m z f
theorem z_move (x : Operand) : opW G P (.move x) S k = evW G S x fun d => k d S := _root_.id rfl
theorem z_assign (x : Operand) : opW G P (.assign x) S k = evW G S x fun d => k d S := _root_.id rfl
def pickW (d : D) (A B : Prop) : Prop := match d with | .bool t => if t = true then A else B | _ => False
theorem z_pick (c a b : Operand) : opW G P (.pick c a b) S k = evW G S c fun dc => pickW dc (evW G S a fun d => k d S) (evW G S b fun d => k d S) := _root_.id rfl
theorem z_pick_b (t : Bool) : pickW (.bool t) A B = grdB t true A B := by cases t <;> simp [pickW, grdB]
theorem z_binOp (op : BinOp) (t yt : TypeId) (x y : Operand) : opW G P (.binOp op t x y yt) S k = evW G S x fun a => evW G S y fun b => bnW P op t a b fun d => k d S := _root_.id rfl
theorem z_unOp (op : UnOp) (t : TypeId) (x : Operand) : opW G P (.unOp op t x) S k = evW G S x fun a => unW op a fun d => k d S := _root_.id rfl
theorem z_convert (s d : TypeId) (x : Operand) : opW G P (.convert s d x) S k = evW G S x fun a => tyW P s fun ts => tyW P d fun td => opW.cvtW P ts td (cvW S ts td a k) := _root_.id rfl
theorem z_extract (x : Operand) (i : Nat) : opW G P (.extract x i) S k = evW G S x fun a => exW a i fun d => k d S := _root_.id rfl
theorem z_alloc (t : TypeId) : opW G P (.alloc t) S k = zeroW P t fun cs => newW S cs fun S' => k (.ptr S.nx 0) S' := _root_.id rfl
theorem z_box (t : TypeId) (x : Operand) : opW G P (.box t x) S k = evW G S x fun d => clW d fun cs => nmC S.nx cs ∧ newW S cs fun S' => k (.ptr S.nx 0) S' := _root_.id rfl
theorem z_load (t : TypeId) (p : Operand) : opW G P (.load t p) S k = evW G S p fun d => tyW P t fun ty => szW P t fun sz => opW.agTyW ty fun ag => loadW S d ag sz fun d => k d S := _root_.id rfl
def stW (S : St) (p : D) (sz : Nat) (ds : List D) (k : St → Prop) : Prop :=
  match p with
  | .ptr id off => lkoW id S.own fun c => off + sz ≤ c.length ∧ spsW c off sz ds fun c' => soW id c' S.own fun own' => k ⟨S.n, S.nx, S.env, own'⟩
  | _ => False
theorem stW_eq (S : St) (p : D) (ds : List D) (k : St → Prop) : stW S p ds.length ds k = storeW S p ds k := by cases p <;> rfl
theorem z_store (t : TypeId) (p x : Operand) : opW G P (.store t p x) S k = evW G S p fun dp => evW G S x fun d => szW P t fun sz => clW d fun ds => ds.length = sz ∧ stW S dp sz ds fun S' => k .any S' := by
  have e : ∀ (dp : D) (sz : Nat) (ds : List D), (ds.length = sz ∧ stW S dp sz ds fun S' => k .any S') = (ds.length = sz ∧ storeW S dp ds fun S' => k .any S') := by
    intro dp sz ds
    apply propext
    constructor
    · rintro ⟨rfl, h⟩; exact ⟨rfl, by rwa [stW_eq] at h⟩
    · rintro ⟨rfl, h⟩; exact ⟨rfl, by rwa [stW_eq]⟩
  simp only [e]; rfl
theorem z_indexAddr (t : TypeId) (x i : Operand) : opW G P (.indexAddr t x i) S k = evW G S x fun dx => evW G S i fun di => tyW P t fun ty => opW.elTyW ty fun e => szW P e fun sz => ixW ty sz dx di fun d => k d S := _root_.id rfl
theorem z_fieldAddr (t : TypeId) (x : Operand) (f : Nat) : opW G P (.fieldAddr t x f) S k = evW G S x fun dx => fldW P t f fun o ft => szW P ft fun n => n ≠ 0 ∧ faW dx o fun d => k d S := _root_.id rfl
theorem z_index (t : TypeId) (x i : Operand) : opW G P (.index t x i) S k = evW G S x fun dx => evW G S i fun di => tyW P t fun ty => opW.inW P ty dx di fun d => k d S := _root_.id rfl
theorem z_build (t : TypeId) (l : List (Nat × Operand)) : opW G P (.build t l.toArray) S k = tyW P t fun ty => opW.blTyW P ty (fun e => zeroW P t fun z => szW P e fun sz => bldW G S (fun i k => k (i * sz) sz) l z fun c => k (.oag c) S)
      (zeroW P t fun z => bldW G S (fun i k => fldW P t i fun o ft => szW P ft fun n => k o n) l z fun c => k (.oag c) S) := _root_.id rfl
theorem z_buildSlice (t : TypeId) (m : Nat) (l : List (Nat × Operand)) : opW G P (.buildSlice t m l.toArray) S k = tyW P t fun ty => slTyW ty fun e => szW P e fun sz => m * sz ≤ 16777216 ∧ m ≤ maxLen ∧ zeroW P e fun z => z.length = sz ∧ repL m z fun c0 => bldW G S (fun i k => k (i * sz) sz) l c0 fun c => allP c ∧ k (.slx sz m c) S := _root_.id rfl
theorem z_slice (t : TypeId) (x : Operand) (lo hi mx : Option Operand) : opW G P (.slice t x lo hi mx) S k = evW G S x fun dx => evOW G S lo fun l => boD l fun l => evOW G S hi fun h => boD h fun h => evOW G S mx fun m => boD m fun m => tyW P t fun ty => opW.seTyW P ty fun sz => slcW (S := S) ty sz dx l h m fun d => k d S := _root_.id rfl
theorem z_s2a (t : TypeId) (x : Operand) : opW G P (.sliceToArrayPointer t x) S k = evW G S x fun d => tyW P t fun ty => arTyW ty fun n _ => s2aW n d fun d => k d S := _root_.id rfl
theorem z_makeFunc (f : FuncId) (l : List Operand) : opW G P (.makeFunc (.func f) [].toArray l.toArray) S k = evLW G S l fun ds => k (.ofn f ds) S := by
  show (_ ∧ _) = _
  simp [evAW]
theorem z_callv (f : Operand) (l : List Operand) (ts : Array TypeId) : opW G P (.call ⟨.value f, l.toArray, ts⟩) S k = evW G S f fun df => evLW G S l fun ds => funW G P df ds S k := _root_.id rfl
theorem z_callb (b : Builtin) (l : List Operand) (ts : List TypeId) : opW G P (.call ⟨.builtin b, l.toArray, ts.toArray⟩) S k = evLW G S l fun ds => builtinW P b ts ds S k := _root_.id rfl

/-! regions that draw their order -/
def withE (S : St) (f : Nat → Nat → List (Nat × D) → List (Nat × List D) → Prop) : Prop := f S.n S.nx S.env S.own
theorem z_withE (f : Nat → Nat → List (Nat × D) → List (Nat × List D) → Prop) : withE ⟨n, nx, env, own⟩ f = f n nx env own := _root_.id rfl
/-- What the slots among these operands hold. -/
def RDW : List Operand → List (Nat × D) → (List (Nat × D) → Prop) → Prop
  | [], _, f => f []
  | .tmp t :: r, E, f => lkW t E fun d => RDW r E fun e => f ((t, d) :: e)
  | _ :: r, E, f => RDW r E f
theorem RDW_eq (E : List (Nat × D)) : ∀ (xs : List Operand) (f : List (Nat × D) → Prop), rsW (xs.filterMap rdO) E f = RDW xs E f
  | [], f => rfl
  | x :: r, f => by
    have ih := RDW_eq E r
    cases x <;> simp only [List.filterMap_cons, rdO, RDW, rsW, ih]
theorem z_rd_nil (f : List (Nat × D) → Prop) : RDW [] env f = f [] := _root_.id rfl
theorem z_rd_tmp (t : Nat) (r : List Operand) (f : List (Nat × D) → Prop) : RDW (.tmp t :: r) env f = lkW t env fun d => RDW r env fun e => f ((t, d) :: e) := _root_.id rfl
theorem z_rd_const (c : Value) (r : List Operand) (f : List (Nat × D) → Prop) : RDW (.const c :: r) env f = RDW r env f := _root_.id rfl
theorem z_rd_func (c : FuncId) (r : List Operand) (f : List (Nat × D) → Prop) : RDW (.func c :: r) env f = RDW r env f := _root_.id rfl
theorem z_rd_global (c : Nat) (r : List Operand) (f : List (Nat × D) → Prop) : RDW (.global c :: r) env f = RDW r env f := _root_.id rfl
def oL : Option Operand → List Operand | none => [] | some x => [x]
theorem z_oL (x : Operand) : oL (some x) = [x] := _root_.id rfl
theorem z_oLn : oL none = [] := _root_.id rfl
def apW (r E : List (Nat × D)) (f : List (Nat × D) → Prop) : Prop := f (r ++ E)
theorem z_ap_nil (E : List (Nat × D)) (f : List (Nat × D) → Prop) : apW [] E f = f E := _root_.id rfl
theorem z_ap_app (r r' E : List (Nat × D)) (f : List (Nat × D) → Prop) : apW (r ++ r') E f = apW r' E fun e => apW r e f := by simp [apW]
theorem z_ap_cons (s : Nat) (d : D) (r E : List (Nat × D)) (f : List (Nat × D) → Prop) : apW ((s, d) :: r) E f = apW r E fun e => f ((s, d) :: e) := _root_.id rfl
def drwK (G : Glob) (P : Program) (ops : List Oper) (n nx : Nat) (own : List (Nat × List D)) (rest : List Oper) (k : St → Prop) (S : St) : Prop := withE S fun _ _ E _ => drwW G P ops n nx own rest E k
theorem z_or_move (x : Operand) : opR G P (.move x) S k = opW G P (.move x) S k := _root_.id rfl
theorem z_or_assign (x : Operand) : opR G P (.assign x) S k = opW G P (.assign x) S k := _root_.id rfl
theorem z_or_pick (c a b : Operand) : opR G P (.pick c a b) S k = opW G P (.pick c a b) S k := _root_.id rfl
theorem z_or_binOp (o : BinOp) (t : TypeId) (x y : Operand) (yt : TypeId) : opR G P (.binOp o t x y yt) S k = opW G P (.binOp o t x y yt) S k := _root_.id rfl
theorem z_or_unOp (o : UnOp) (t : TypeId) (x : Operand) : opR G P (.unOp o t x) S k = opW G P (.unOp o t x) S k := _root_.id rfl
theorem z_or_extract (x : Operand) (i : Nat) : opR G P (.extract x i) S k = opW G P (.extract x i) S k := _root_.id rfl
theorem z_or_load (t : TypeId) (x : Operand) : opR G P (.load t x) S k = opW G P (.load t x) S k := _root_.id rfl
theorem z_or_indexAddr (t : TypeId) (x i : Operand) : opR G P (.indexAddr t x i) S k = opW G P (.indexAddr t x i) S k := _root_.id rfl
theorem z_or_fieldAddr (t : TypeId) (x : Operand) (i : Nat) : opR G P (.fieldAddr t x i) S k = opW G P (.fieldAddr t x i) S k := _root_.id rfl
theorem z_or_buildSlice (t : TypeId) (m : Nat) (r : Array (Nat × Operand)) : opR G P (.buildSlice t m r) S k = opW G P (.buildSlice t m r) S k := _root_.id rfl
theorem z_or_slice (t : TypeId) (x : Operand) (a b c : Option Operand) : opR G P (.slice t x a b c) S k = opW G P (.slice t x a b c) S k := _root_.id rfl
theorem z_or_sliceToArrayPointer (t : TypeId) (x : Operand) : opR G P (.sliceToArrayPointer t x) S k = opW G P (.sliceToArrayPointer t x) S k := _root_.id rfl
theorem z_or_callv (c : Call) : opR G P (.call c) S k = opW G P (.call c) S k := _root_.id rfl
theorem z_or_convert (s d : TypeId) (x : Operand) : opR G P (.convert s d x) S k = tyW P s fun ts => tyW P d fun td => cvRW ts td (fun e => tyW P e fun te => ubW te (evW G S x fun a => sdW a fun b => b.length ≤ maxLen ∧ k (.sl 1 b.length (b.map bD)) S)) (opW G P (.convert s d x) S k) := _root_.id rfl
theorem z_cvR_int (kk : IntKind) (td : TY) (A : TypeId → Prop) (B : Prop) : cvRW (.int kk) td A B = B := _root_.id rfl
theorem z_cvR_sl (e : TypeId) (td : TY) (A : TypeId → Prop) (B : Prop) : cvRW (.slice e) td A B = B := _root_.id rfl
theorem z_drwK (ops rest : List Oper) (n' nx' : Nat) (own' : List (Nat × List D)) : drwK G P ops n nx own rest kS ⟨n', nx', env, own'⟩ = drwW G P ops n nx own rest env kS := _root_.id rfl
theorem z_grd_none (ops : List Oper) (A B : St → Prop) : grdW ops none S A B = A S := _root_.id rfl
theorem z_drw_nil (ops : List Oper) : drwW G P ops n nx own [] env kS = kS ⟨n, nx, env, own⟩ := _root_.id rfl
def drwS (G : Glob) (P : Program) (ops : List Oper) (n nx : Nat) (own : List (Nat × List D)) (dst : Option Tmp) (op : Op) (g : Option (Nat × Bool)) (xs : List Operand) (rest : List Oper) (E : List (Nat × D)) (k : St → Prop) : Prop :=
  grdW ops g ⟨n, nx, E, own⟩ (fun S => withE S fun _ _ E' _ => RDW xs E' fun r => exD (fun d => ∀ E'' : List (Nat × D), apW r E'' fun e => opR G P op ⟨n, nx, e, own⟩ fun x T => x = d ∧ T = ⟨n, nx, e, own⟩) (fun d => putW dst d S (drwK G P ops n nx own rest k)) (tgd _)) fun S => putW dst (.tup []) S (drwK G P ops n nx own rest k)
theorem drw_st {op : Op} (h : stb op = true) (ops rest : List Oper) (dst : Option Tmp) (t : TypeId) (pos : String) (after : Array Edge) (g : Option (Nat × Bool)) (xs : List Operand) (hx : op.operands.toList = xs) :
    drwW G P ops n nx own (⟨dst, op, t, pos, after, g⟩ :: rest) env kS = drwS G P ops n nx own dst op g xs rest env kS := by
  subst hx
  simp only [drwW, h, drwS, withE, rdsO, RDW_eq]
  rfl
theorem drw_un {op : Op} (h : stb op = false) (ops rest : List Oper) (dst : Option Tmp) (t : TypeId) (pos : String) (after : Array Edge) (g : Option (Nat × Bool)) :
    drwW G P ops n nx own (⟨dst, op, t, pos, after, g⟩ :: rest) env kS = opsW G P ops (⟨dst, op, t, pos, after, g⟩ :: rest) ⟨n, nx, env, own⟩ kS := by
  simp only [drwW, h]
theorem z_drwS (ops rest : List Oper) (dst : Option Tmp) (op : Op) (g : Option (Nat × Bool)) (xs : List Operand) : drwS G P ops n nx own dst op g xs rest env kS =
    grdW ops g ⟨n, nx, env, own⟩ (fun S => withE S fun _ _ E' _ => RDW xs E' fun r => exD (fun d => ∀ E'' : List (Nat × D), apW r E'' fun e => opR G P op ⟨n, nx, e, own⟩ fun x T => x = d ∧ T = ⟨n, nx, e, own⟩) (fun d => putW dst d S (drwK G P ops n nx own rest kS)) (tgd _)) fun S => putW dst (.tup []) S (drwK G P ops n nx own rest kS) := _root_.id rfl
theorem z_drw_move (ops rest : List Oper) (dst : Option Tmp) (t : TypeId) (pos : String) (after : Array Edge) (g : Option (Nat × Bool)) (x : Operand) : drwW G P ops n nx own (⟨dst, .move x, t, pos, after, g⟩ :: rest) env kS = drwS G P ops n nx own dst (.move x) g ([x]) rest env kS := drw_st rfl ops rest dst t pos after g _ (rfl)
theorem z_drw_assign (ops rest : List Oper) (dst : Option Tmp) (t : TypeId) (pos : String) (after : Array Edge) (g : Option (Nat × Bool)) (x : Operand) : drwW G P ops n nx own (⟨dst, .assign x, t, pos, after, g⟩ :: rest) env kS = drwS G P ops n nx own dst (.assign x) g ([x]) rest env kS := drw_st rfl ops rest dst t pos after g _ (rfl)
theorem z_drw_pick (ops rest : List Oper) (dst : Option Tmp) (t : TypeId) (pos : String) (after : Array Edge) (g : Option (Nat × Bool)) (c a b : Operand) : drwW G P ops n nx own (⟨dst, .pick c a b, t, pos, after, g⟩ :: rest) env kS = drwS G P ops n nx own dst (.pick c a b) g ([c, a, b]) rest env kS := drw_st rfl ops rest dst t pos after g _ (rfl)
theorem z_drw_binOp (ops rest : List Oper) (dst : Option Tmp) (t : TypeId) (pos : String) (after : Array Edge) (g : Option (Nat × Bool)) (o : BinOp) (ty yt : TypeId) (x y : Operand) : drwW G P ops n nx own (⟨dst, .binOp o ty x y yt, t, pos, after, g⟩ :: rest) env kS = drwS G P ops n nx own dst (.binOp o ty x y yt) g ([x, y]) rest env kS := drw_st rfl ops rest dst t pos after g _ (rfl)
theorem z_drw_unOp (ops rest : List Oper) (dst : Option Tmp) (t : TypeId) (pos : String) (after : Array Edge) (g : Option (Nat × Bool)) (o : UnOp) (ty : TypeId) (x : Operand) : drwW G P ops n nx own (⟨dst, .unOp o ty x, t, pos, after, g⟩ :: rest) env kS = drwS G P ops n nx own dst (.unOp o ty x) g ([x]) rest env kS := drw_st rfl ops rest dst t pos after g _ (rfl)
theorem z_drw_convert (ops rest : List Oper) (dst : Option Tmp) (t : TypeId) (pos : String) (after : Array Edge) (g : Option (Nat × Bool)) (s d : TypeId) (x : Operand) : drwW G P ops n nx own (⟨dst, .convert s d x, t, pos, after, g⟩ :: rest) env kS = drwS G P ops n nx own dst (.convert s d x) g ([x]) rest env kS := drw_st rfl ops rest dst t pos after g _ (rfl)
theorem z_drw_extract (ops rest : List Oper) (dst : Option Tmp) (t : TypeId) (pos : String) (after : Array Edge) (g : Option (Nat × Bool)) (x : Operand) (i : Nat) : drwW G P ops n nx own (⟨dst, .extract x i, t, pos, after, g⟩ :: rest) env kS = drwS G P ops n nx own dst (.extract x i) g ([x]) rest env kS := drw_st rfl ops rest dst t pos after g _ (rfl)
theorem z_drw_load (ops rest : List Oper) (dst : Option Tmp) (t : TypeId) (pos : String) (after : Array Edge) (g : Option (Nat × Bool)) (ty : TypeId) (x : Operand) : drwW G P ops n nx own (⟨dst, .load ty x, t, pos, after, g⟩ :: rest) env kS = drwS G P ops n nx own dst (.load ty x) g ([x]) rest env kS := drw_st rfl ops rest dst t pos after g _ (rfl)
theorem z_drw_indexAddr (ops rest : List Oper) (dst : Option Tmp) (t : TypeId) (pos : String) (after : Array Edge) (g : Option (Nat × Bool)) (ty : TypeId) (x i : Operand) : drwW G P ops n nx own (⟨dst, .indexAddr ty x i, t, pos, after, g⟩ :: rest) env kS = drwS G P ops n nx own dst (.indexAddr ty x i) g ([x, i]) rest env kS := drw_st rfl ops rest dst t pos after g _ (rfl)
theorem z_drw_fieldAddr (ops rest : List Oper) (dst : Option Tmp) (t : TypeId) (pos : String) (after : Array Edge) (g : Option (Nat × Bool)) (ty : TypeId) (x : Operand) (f : Nat) : drwW G P ops n nx own (⟨dst, .fieldAddr ty x f, t, pos, after, g⟩ :: rest) env kS = drwS G P ops n nx own dst (.fieldAddr ty x f) g ([x]) rest env kS := drw_st rfl ops rest dst t pos after g _ (rfl)
theorem z_drw_slice (ops rest : List Oper) (dst : Option Tmp) (t : TypeId) (pos : String) (after : Array Edge) (g : Option (Nat × Bool)) (ty : TypeId) (x : Operand) (lo hi mx : Option Operand) : drwW G P ops n nx own (⟨dst, .slice ty x lo hi mx, t, pos, after, g⟩ :: rest) env kS = drwS G P ops n nx own dst (.slice ty x lo hi mx) g (x :: (oL lo ++ oL hi ++ oL mx)) rest env kS := drw_st rfl ops rest dst t pos after g _ (by cases lo <;> cases hi <;> cases mx <;> rfl)
theorem z_drw_callb_max (ops rest : List Oper) (dst : Option Tmp) (t : TypeId) (pos : String) (after : Array Edge) (g : Option (Nat × Bool)) (l : List Operand) (ts : Array TypeId) : drwW G P ops n nx own (⟨dst, .call ⟨.builtin .max, l.toArray, ts⟩, t, pos, after, g⟩ :: rest) env kS = drwS G P ops n nx own dst (.call ⟨.builtin .max, l.toArray, ts⟩) g (l) rest env kS := drw_st rfl ops rest dst t pos after g _ (by simp [Op.operands, Call.operands])
theorem z_drw_store (ops rest : List Oper) (dst : Option Tmp) (t : TypeId) (pos : String) (after : Array Edge) (g : Option (Nat × Bool)) (ty : TypeId) (p x : Operand) : drwW G P ops n nx own (⟨dst, .store ty p x, t, pos, after, g⟩ :: rest) env kS = opsW G P ops (⟨dst, .store ty p x, t, pos, after, g⟩ :: rest) ⟨n, nx, env, own⟩ kS := drw_un rfl ops rest dst t pos after g
def mpO : List (Nat × Operand) → List Operand
  | [] => []
  | (_, x) :: r => x :: mpO r
theorem mpO_eq : ∀ l : List (Nat × Operand), l.map (·.2) = mpO l
  | [] => rfl
  | (_, x) :: r => by simp only [List.map_cons, mpO, mpO_eq r]
theorem z_mpO_nil (f : List (Nat × D) → Prop) : RDW (mpO []) env f = f [] := _root_.id rfl
theorem z_mpO_cons (i : Nat) (x : Operand) (r : List (Nat × Operand)) (f : List (Nat × D) → Prop) : RDW (mpO ((i, x) :: r)) env f = RDW [x] env fun e => RDW (mpO r) env fun e' => f (e ++ e') := by
  cases x <;> rfl
/-- A call: the walk stops, for its result is to be named (ex_mk). -/
theorem z_drw_callv (ops rest : List Oper) (dst : Option Tmp) (t : TypeId) (pos : String) (after : Array Edge) (g : Option (Nat × Bool)) (f : Operand) (l : List Operand) (ts : Array TypeId) : drwW G P ops n nx own (⟨dst, .call ⟨.value f, l.toArray, ts⟩, t, pos, after, g⟩ :: rest) env kS =
    grdW ops g ⟨n, nx, env, own⟩ (fun S => withE S fun _ _ E' _ => RDW (f :: l) E' fun r => hold (exD (fun d => ∀ E'' : List (Nat × D), apW r E'' fun e => opW G P (.call ⟨.value f, l.toArray, ts⟩) ⟨n, nx, e, own⟩ fun x T => x = d ∧ T = ⟨n, nx, e, own⟩) (fun d => putW dst d S (drwK G P ops n nx own rest kS)) (tgd _)) (tg _)) fun S => putW dst (.tup []) S (drwK G P ops n nx own rest kS) := by
  rw [drw_st (h := rfl) (xs := f :: l) (hx := by simp [Op.operands, Call.operands])]
  simp only [drwS, hold_eq, z_or_callv]
theorem z_exD_eq (d0 : D) (K : D → Prop) (u : TagD K) : exD (fun d => d0 = d) K u = K d0 :=
  propext ⟨fun ⟨d, h1, h2⟩ => by rw [h1]; exact h2, fun h => ⟨d0, rfl, h⟩⟩
theorem z_exD_and (A : Prop) (B K : D → Prop) (u : TagD K) : exD (fun d => A ∧ B d) K u = (A ∧ exD B K u) :=
  propext ⟨fun ⟨d, h1, h2⟩ => ⟨h1.1, d, h1.2, h2⟩, fun ⟨h, d, h1, h2⟩ => ⟨d, ⟨h, h1⟩, h2⟩⟩
theorem z_exD_ex (A : Prop) (B : A → D → Prop) (K : D → Prop) (u : TagD K) : exD (fun d => ∃ h : A, B h d) K u = ∃ h : A, exD (fun d => B h d) K u :=
  propext ⟨fun ⟨d, ⟨h, h1⟩, h2⟩ => ⟨h, d, h1, h2⟩, fun ⟨h, d, h1, h2⟩ => ⟨d, ⟨h, h1⟩, h2⟩⟩
theorem z_exD_all (B K : D → Prop) (u : TagD K) : exD (fun d => ∀ _ : List (Nat × D), B d) K u = exD B K u :=
  propext ⟨fun ⟨d, h1, h2⟩ => ⟨d, h1 [], h2⟩, fun ⟨d, h1, h2⟩ => ⟨d, fun _ => h1, h2⟩⟩

/-! operands -/
theorem z_evL_nil : evLW G S [] kL = kL [] := _root_.id rfl
theorem z_evL_cons (x : Operand) (r : List Operand) : evLW G S (x :: r) kL = evW G S x fun d => evLW G S r fun ds => kL (d :: ds) := _root_.id rfl
theorem z_evO_none (f : Option D → Prop) : evOW G S none f = f none := _root_.id rfl
theorem z_evO_some (x : Operand) (f : Option D → Prop) : evOW G S (some x) f = evW G S x fun d => f (some d) := _root_.id rfl
theorem z_bo_none (f : Option Int → Prop) : boD none f = f none := _root_.id rfl
theorem z_bo_some (kk : IntKind) (m : Int) (f : Option Int → Prop) : boD (some (.int kk m)) f = f (some m) := _root_.id rfl

/-- A stretch of cells. -/
def subW (cs : List D) (a b : Nat) (f : List D → Prop) : Prop := f ((cs.drop a).take b)
theorem z_sub_map {α : Type} (g : α → D) (xs : List α) (a b : Nat) : subW (xs.map g) a b kL = kL (((xs.drop a).take b).map g) := by unfold subW; rw [← List.map_drop, ← List.map_take]
theorem z_sub_c (d : D) (r : List D) (b : Nat) : subW (d :: r) 0 (b + 1) kL = subW r 0 b fun c => kL (d :: c) := _root_.id rfl
theorem z_sub_c0 (d : D) (r : List D) : subW (d :: r) 0 0 kL = kL [] := _root_.id rfl
theorem z_sub_cs (d : D) (r : List D) (a b : Nat) : subW (d :: r) (a + 1) b kL = subW r a b kL := _root_.id rfl
theorem z_sub_nil (a b : Nat) : subW [] a b kL = kL [] := by simp [subW]
theorem z_sub (cs : List D) (a b : Nat) : subW cs a b kL = kL ((cs.drop a).take b) := _root_.id rfl

/-! freezing -/
/-! calls -/
theorem z_fun (f : FuncId) (c : D) (caps ds : List D) : funW G P (.fn f (c :: caps)) ds S k = coeLW S ds fun ds' b => hold (callW G P f (ds' ++ c :: caps) b S k) (tg _) := by simp only [hold_eq]; rfl
theorem z_fun0 (f : FuncId) (ds : List D) : funW G P (.fn f []) ds S k = coeLW S ds fun ds' b => hold (callW G P f ds' b S k) (tg _) := by simp [funW, hold_eq]
theorem z_coeL_nil (f : List D → Bool → Prop) : coeLW S [] f = f [] false := _root_.id rfl
theorem z_coeL_cons (d : D) (r : List D) (f : List D → Bool → Prop) : coeLW S (d :: r) f = coeW S d fun d' b => coeLW S r fun r' b' => f (d' :: r') (b || b') := _root_.id rfl
section
variable {f : D → Bool → Prop} {g : List D → Bool → Prop}
theorem z_coe_int (kk : IntKind) (m : Int) : coeW S (.int kk m) f = f (.int kk m) false := _root_.id rfl
theorem z_coe_bool (b : Bool) : coeW S (.bool b) f = f (.bool b) false := _root_.id rfl
theorem z_coe_str (s : List UInt8) : coeW S (.str s) f = f (.str s) false := _root_.id rfl
theorem z_coe_agg (cs : List D) : coeW S (.agg cs) f = f (.agg cs) false := _root_.id rfl
theorem z_coe_sl (sz m : Nat) (cs : List D) : coeW S (.sl sz m cs) f = f (.sl sz m cs) false := _root_.id rfl
theorem z_coe_slx (sz m : Nat) (cs : List D) : coeW S (.slx sz m cs) f = f (.slx sz m cs) false := _root_.id rfl
theorem z_coe_fn (i : FuncId) (cs : List D) : coeW S (.fn i cs) f = f (.fn i cs) false := _root_.id rfl
theorem z_coe_osl (id sz m : Nat) : coeW ⟨n, nx, env, own⟩ (.osl id sz m) f = lkoW id own fun c => allP c ∧ c.length = m * sz ∧ f (.sl sz m c) true := _root_.id rfl
theorem z_coe_osw (id off sz m : Nat) : coeW ⟨n, nx, env, own⟩ (.osw id off sz m) f = lkoW id own fun c => allP c ∧ off + m * sz ≤ c.length ∧ subW c off (m * sz) fun c' => f (.sl sz m c') true := _root_.id rfl
theorem z_coe_oag (cs : List D) : coeW S (.oag cs) f = coeL S cs fun cs' b => f (.agg cs') b := _root_.id rfl
theorem z_coe_ofn (i : FuncId) (cs : List D) : coeW S (.ofn i cs) f = coeL S cs fun cs' b => f (.fn i cs') b := _root_.id rfl
theorem z_coeC_nil : coeL S [] g = g [] false := _root_.id rfl
theorem z_coeC_cons (d : D) (r : List D) : coeL S (d :: r) g = coeS S d fun d' b => coeL S r fun r' b' => g (d' :: r') (b || b') := _root_.id rfl
theorem z_coeS_int (kk : IntKind) (m : Int) : coeS S (.int kk m) f = f (.int kk m) false := _root_.id rfl
theorem z_coeS_bool (b : Bool) : coeS S (.bool b) f = f (.bool b) false := _root_.id rfl
theorem z_coeS_nils : coeS S .nils f = f .nils false := _root_.id rfl
theorem z_coeS_sl (sz m : Nat) (cs : List D) : coeS S (.sl sz m cs) f = f (.sl sz m cs) false := _root_.id rfl
theorem z_coeS_slx (sz m : Nat) (cs : List D) : coeS S (.slx sz m cs) f = f (.slx sz m cs) false := _root_.id rfl
theorem z_coeS_ptr (id off : Nat) : coeS ⟨n, nx, env, own⟩ (.ptr id off) f = lkoW id own fun c => allP c ∧ f (.rop c off) true := _root_.id rfl
theorem z_coeS_osl (id sz m : Nat) : coeS ⟨n, nx, env, own⟩ (.osl id sz m) f = lkoW id own fun c => allP c ∧ c.length = m * sz ∧ f (.sl sz m c) true := _root_.id rfl
theorem z_coeC_bytes (bs : List UInt8) : coeL S (bs.map bD) g = g (bs.map bD) false := by
  induction bs generalizing g with
  | nil => rfl
  | cons b r ih => simp only [List.map_cons, coeL]; show coeS S (bD b) _ = _; rw [show coeS S (bD b) (fun d' b' => coeL S (r.map bD) fun r' b'' => g (d' :: r') (b' || b'')) = coeL S (r.map bD) fun r' b'' => g (bD b :: r') (false || b'') from rfl, ih]; rfl
end

/-! builtins -/
theorem z_len (t : TypeId) (d : D) : builtinW P .len [t] [d] S k = tyW P t fun ty => lnW ty d fun d => k d S := _root_.id rfl
theorem z_append (t u : TypeId) (s x : D) : builtinW P .append [t, u] [s, x] S k = tyW P t fun ty => slTyW ty fun e => tyW P u fun tu => nintW tu (szW P e fun sz => byW P e fun by_ => zeroW P e fun z => z.length = sz ∧ srcW S sz x fun m es => appW S sz by_ s m es k) := _root_.id rfl
theorem z_copy (t u : TypeId) (d x : D) : builtinW P .copy [t, u] [d, x] S k = tyW P t fun ty => slTyW ty fun e => szW P e fun sz => srcW S sz x fun m es => cpyW S sz d m es k := _root_.id rfl
theorem z_max (ts : List TypeId) (d : D) (ds : List D) : builtinW P .max ts (d :: ds) S k = mxW true d ds fun d => k d S := _root_.id rfl
theorem z_min (ts : List TypeId) (d : D) (ds : List D) : builtinW P .min ts (d :: ds) S k = mxW false d ds fun d => k d S := _root_.id rfl
theorem z_ln_str (s : List UInt8) : lnW .str (.str s) kD = kD (.int .i64 s.length) := _root_.id rfl
theorem z_ln_sl (e : TypeId) (sz m : Nat) (cs : List D) : lnW (.slice e) (.sl sz m cs) kD = kD (.int .i64 m) := _root_.id rfl
theorem z_ln_slx (e : TypeId) (sz m : Nat) (cs : List D) : lnW (.slice e) (.slx sz m cs) kD = kD (.int .i64 m) := _root_.id rfl
theorem z_ln_osl (e : TypeId) (id sz m : Nat) : lnW (.slice e) (.osl id sz m) kD = kD (.int .i64 m) := _root_.id rfl
theorem z_mx_nil (b : Bool) (d : D) : mxW b d [] kD = kD d := by cases d <;> rfl
theorem z_mx_max (k1 k2 : IntKind) (x y : Int) (r : List D) : mxW true (.int k1 x) (.int k2 y :: r) kD = (k1 = k2 ∧ mxW true (.int k1 (max x y)) r kD) := by simp [mxW]
theorem z_mx_min (k1 k2 : IntKind) (x y : Int) (r : List D) : mxW false (.int k1 x) (.int k2 y :: r) kD = (k1 = k2 ∧ mxW false (.int k1 (min x y)) r kD) := by simp [mxW]
theorem z_nint_sl (e : TypeId) : nintW (.slice e) A = A := _root_.id rfl
theorem z_nint_str : nintW .str A = A := _root_.id rfl
theorem z_slTy (e : TypeId) (f : TypeId → Prop) : slTyW (.slice e) f = f e := _root_.id rfl
theorem z_arTy (m : Nat) (e : TypeId) (f : Nat → TypeId → Prop) : arTyW (.arr m e) f = f m e := _root_.id rfl
section
variable {sz m by_ : Nat} {es : List D} {f : Nat → List D → Prop}
theorem z_src_str (s : List UInt8) : srcW S sz (.str s) f = (sz = 1 ∧ f s.length (s.map bD)) := _root_.id rfl
theorem z_src_sl (sz' m : Nat) (cs : List D) : srcW S sz (.sl sz' m cs) f = (sz' = sz ∧ f m cs) := _root_.id rfl
theorem z_src_slx (sz' m : Nat) (cs : List D) : srcW S sz (.slx sz' m cs) f = (sz' = sz ∧ f m cs) := _root_.id rfl
theorem z_src_osl (id sz' m : Nat) : srcW ⟨n, nx, env, own⟩ sz (.osl id sz' m) f = lkoW id own fun c => sz' = sz ∧ allP c ∧ c.length = m * sz ∧ f m c := _root_.id rfl
theorem z_src_osw (id off sz' m : Nat) : srcW ⟨n, nx, env, own⟩ sz (.osw id off sz' m) f = lkoW id own fun c => sz' = sz ∧ allP c ∧ off + m * sz ≤ c.length ∧ subW c off (m * sz) fun c' => f m c' := _root_.id rfl
theorem z_app_osl (id sz' m' : Nat) : appW ⟨n, nx, env, own⟩ sz by_ (.osl id sz' m') m es k = lkoW id own fun c => sz' = sz ∧ c.length = m' * sz ∧ nmC id c ∧ id < 1000000 ∧ roomW (m' + m) by_ (pgoW id own fun own0 => pgW id env fun env' => soW id (c ++ es) own0 fun own' => k (.osl id sz (m' + m)) ⟨n, nx, env', own'⟩) := _root_.id rfl
theorem z_app_slx (sz' m' : Nat) (cs : List D) : appW S sz by_ (.slx sz' m' cs) m es k = (sz' = sz ∧ roomW (m' + m) by_ ((m' = 0 ∧ newW S es fun S' => k (.osl S.nx sz m) S') ∨ (0 < m ∧ newW S (cs ++ es) fun S' => k (.osl S.nx sz (m' + m)) S') ∨ k (.sl sz (m' + m) (cs ++ es)) S)) := _root_.id rfl
theorem z_cpy_osw (id off sz' m' : Nat) : cpyW ⟨n, nx, env, own⟩ sz (.osw id off sz' m') m es k = lkoW id own fun c => sz' = sz ∧ off + m' * sz ≤ c.length ∧ splW c off (es.take (min m m' * sz)) fun c' => soW id c' own fun own' => k (.int .i64 (min m m' : Nat)) ⟨n, nx, env, own'⟩ := _root_.id rfl
end
theorem z_room (m by_ : Nat) : roomW m by_ A = (m * by_ ≤ 140737488355328 ∧ m ≤ maxLen ∧ A) := _root_.id rfl
theorem z_new (cs : List D) : newW ⟨n, nx, env, own⟩ cs kS = nmW nx own (pgW nx env fun env' => kS ⟨n, nx + 1, env', (nx, cs) :: own⟩) := _root_.id rfl
theorem z_nm_nil (id : Nat) : nmW id [] A = (id < 1000000 ∧ A) := _root_.id rfl
theorem z_nm_cons (id i : Nat) (c : List D) (r : List (Nat × List D)) : nmW id ((i, c) :: r) A = (nmC id c ∧ nmW id r A) := _root_.id rfl
theorem z_pg_nil (id : Nat) (f : List (Nat × D) → Prop) : pgW id [] f = f [] := _root_.id rfl
def mnW (id : Nat) (d : D) (f : D → Prop) : Prop := f (if mn id d = true then .any else d)
theorem z_pg_cons (id s : Nat) (d : D) (r : List (Nat × D)) (f : List (Nat × D) → Prop) : pgW id ((s, d) :: r) f = mnW id d fun d' => pgW id r fun r' => f ((s, d') :: r') := _root_.id rfl
def pgcW (id : Nat) (c : List D) (f : List D → Prop) : Prop := f (c.map (pgD id))
theorem z_pgo_nil (id : Nat) (f : List (Nat × List D) → Prop) : pgoW id [] f = f [] := _root_.id rfl
theorem z_pgo_cons (id i : Nat) (c : List D) (r : List (Nat × List D)) (f : List (Nat × List D) → Prop) : pgoW id ((i, c) :: r) f = pgcW id c fun c' => pgoW id r fun r' => f ((i, c') :: r') := _root_.id rfl
theorem z_pgc_nm {id : Nat} {c : List D} {f : List D → Prop} (h : nmC id c) : pgcW id c f = f c := by unfold pgcW; rw [pgD_nm h]
section
variable {id i off sz m : Nat} {cs : List D} {f : D → Prop}
theorem z_mn_any : mnW id .any f = f .any := _root_.id rfl
theorem z_mn_int (kk : IntKind) (x : Int) : mnW id (.int kk x) f = f (.int kk x) := _root_.id rfl
theorem z_mn_bool (b : Bool) : mnW id (.bool b) f = f (.bool b) := _root_.id rfl
theorem z_mn_str (b : List UInt8) : mnW id (.str b) f = f (.str b) := _root_.id rfl
theorem z_mn_nils : mnW id .nils f = f .nils := _root_.id rfl
theorem z_mn_agg : mnW id (.agg cs) f = f (.agg cs) := _root_.id rfl
theorem z_mn_tup : mnW id (.tup cs) f = f (.tup cs) := _root_.id rfl
theorem z_mn_sl : mnW id (.sl sz m cs) f = f (.sl sz m cs) := _root_.id rfl
theorem z_mn_slx : mnW id (.slx sz m cs) f = f (.slx sz m cs) := _root_.id rfl
theorem z_mn_rop : mnW id (.rop cs off) f = f (.rop cs off) := _root_.id rfl
theorem z_mn_ptr : mnW id (.ptr i off) f = if i = id then f .any else f (.ptr i off) := by by_cases h : i = id <;> simp [mnW, mn, h]
theorem z_mn_osl : mnW id (.osl i sz m) f = if i = id then f .any else f (.osl i sz m) := by by_cases h : i = id <;> simp [mnW, mn, h]
theorem z_mn_osw : mnW id (.osw i off sz m) f = if i = id then f .any else f (.osw i off sz m) := by by_cases h : i = id <;> simp [mnW, mn, h]
/-- Does a part of it? -/
def mnL (id : Nat) : List D → Prop → Prop → Prop
  | [], A, _ => A
  | d :: r, A, B => if mnS id d = true then B else mnL id r A B
theorem mnL_eq (A B : Prop) : ∀ (cs : List D), mnL id cs A B = if cs.any (mnS id) = true then B else A
  | [] => by simp [mnL]
  | d :: r => by
    simp only [mnL, List.any_cons, mnL_eq A B r, Bool.or_eq_true]
    by_cases h : mnS id d = true <;> simp [h]
theorem z_mn_oag : mnW id (.oag cs) f = mnL id cs (f (.oag cs)) (f .any) := by rw [mnL_eq]; show f (if cs.any (mnS id) = true then .any else .oag cs) = _; split <;> rfl
theorem z_mnL_nil (A B : Prop) : mnL id [] A B = A := _root_.id rfl
theorem z_mnL_int (kk : IntKind) (x : Int) (A B : Prop) : mnL id (.int kk x :: cs) A B = mnL id cs A B := _root_.id rfl
theorem z_mnL_bool (b : Bool) (A B : Prop) : mnL id (.bool b :: cs) A B = mnL id cs A B := _root_.id rfl
theorem z_mnL_nils (A B : Prop) : mnL id (.nils :: cs) A B = mnL id cs A B := _root_.id rfl
theorem z_mnL_sl (es : List D) (A B : Prop) : mnL id (.sl sz m es :: cs) A B = mnL id cs A B := _root_.id rfl
theorem z_mnL_bytes (bs : List UInt8) (A B : Prop) : mnL id (bs.map bD) A B = A := by rw [mnL_eq]; simp [bD, mnS]
theorem z_nmC_nil : nmC id [] = True := by simp [nmC]
theorem z_nmC_cons (d : D) : nmC id (d :: cs) = (mn id d = false ∧ nmC id cs) := by simp [nmC]
theorem z_nmC_app (es : List D) : nmC id (cs ++ es) = (nmC id cs ∧ nmC id es) := by
  apply propext; simp only [nmC, List.mem_append]
  exact ⟨fun h => ⟨fun d hd => h d (.inl hd), fun d hd => h d (.inr hd)⟩, fun h d hd => hd.elim (h.1 d) (h.2 d)⟩
theorem z_nmC_bytes (bs : List UInt8) : nmC id (bs.map bD) = True := by simp [nmC, bD, mn]
theorem z_nmC_int (kk : IntKind) (xs : List Int) : nmC id (xs.map (D.int kk)) = True := by simp [nmC, mn]
theorem z_nmC_str (xs : List (List UInt8)) : nmC id (xs.map D.str) = True := by simp [nmC, mn]
theorem z_nmC_bool (xs : List Bool) : nmC id (xs.map D.bool) = True := eq_true fun d hd => by obtain ⟨_, _, rfl⟩ := List.mem_map.1 hd; rfl
theorem z_mn'_int (kk : IntKind) (x : Int) : (mn id (.int kk x) = false) = True := by simp [mn]
theorem z_mn'_bool (b : Bool) : (mn id (.bool b) = false) = True := by simp [mn]
theorem z_mn'_nils : (mn id .nils = false) = True := by simp [mn]
theorem z_mn'_sl : (mn id (.sl sz m cs) = false) = True := by simp [mn]
theorem z_allP_nil : allP [] = True := by simp [allP]
theorem z_allP_cons (d : D) : allP (d :: cs) = (isP d = true ∧ allP cs) := by simp [allP]
theorem z_allP_app (es : List D) : allP (cs ++ es) = (allP cs ∧ allP es) := by
  apply propext; simp only [allP, List.mem_append]
  exact ⟨fun h => ⟨fun d hd => h d (.inl hd), fun d hd => h d (.inr hd)⟩, fun h d hd => hd.elim (h.1 d) (h.2 d)⟩
theorem z_allP_bytes (bs : List UInt8) : allP (bs.map bD) = True := by simp [allP, bD, isP]
theorem z_allP_int (kk : IntKind) (xs : List Int) : allP (xs.map (D.int kk)) = True := by simp [allP, isP]
theorem z_allP_str (xs : List (List UInt8)) : allP (xs.map D.str) = True := by simp [allP, isP]
theorem z_isP_int (kk : IntKind) (x : Int) : (isP (.int kk x) = true) = True := by simp [isP]
theorem z_isP_bool (b : Bool) : (isP (.bool b) = true) = True := by simp [isP]
theorem z_isP_str (b : List UInt8) : (isP (.str b) = true) = True := by simp [isP]
theorem z_isP_sl : (isP (.sl sz m cs) = true) = True := by simp [isP]
end
theorem z_lk_env (t i : Nat) (d : D) (r : List D) : lkW t (envF i (d :: r)) kD = if t = i then kD d else lkW t (envF (i + 1) r) kD := _root_.id rfl
theorem z_pg_env (id i : Nat) (d : D) (r : List D) (f : List (Nat × D) → Prop) : pgW id (envF i (d :: r)) f = mnW id d fun d' => pgW id (envF (i + 1) r) fun r' => f ((i, d') :: r') := _root_.id rfl
theorem z_pg_env0 (id i : Nat) (f : List (Nat × D) → Prop) : pgW id (envF i []) f = f [] := _root_.id rfl
/-! loops, ends -/
theorem z_ad_nil : adoptW [] S kS = kS S := _root_.id rfl
theorem z_ad_cons (s sz : Nat) (r : List (Nat × Nat)) : adoptW ((s, sz) :: r) ⟨n, nx, env, own⟩ kS = (s < n ∧ lkW s env fun d => d = .nils ∧ nmW nx own (pgW nx env fun env' => adoptW r ⟨n, nx + 1, (s, .osl nx sz 0) :: env', (nx, []) :: own⟩ kS)) := _root_.id rfl
theorem z_wk (n' nx' : Nat) (env' : List (Nat × D)) (own' : List (Nat × List D)) : wkW ⟨n, nx, env, own⟩ ⟨n', nx', env', own'⟩ = (n' = n ∧ wkE env env' ∧ wkO own own') := _root_.id rfl
theorem z_wkE_nil : wkE env [] = True := _root_.id rfl
theorem z_wkE_cons (s : Nat) (d : D) (r : List (Nat × D)) : wkE env ((s, d) :: r) = (lkW s env (fun d' => d' = d) ∧ wkE env r) := _root_.id rfl
theorem z_wkO_nil : wkO own [] = True := _root_.id rfl
theorem z_wkO_cons (s : Nat) (d : List D) (r : List (Nat × List D)) : wkO own ((s, d) :: r) = (lkoW s own (fun d' => d' = d) ∧ wkO own r) := _root_.id rfl
theorem z_own_nils (sz : Nat) (f : Nat → Nat → List D → Prop) : own1W sz S [.nils] f = f sz 0 [] := _root_.id rfl
theorem z_own_osl (sz id sz' m : Nat) (f : Nat → Nat → List D → Prop) : own1W sz ⟨n, nx, env, own⟩ [.osl id sz' m] f = lkoW id own fun c => allP c ∧ c.length = m * sz' ∧ f sz' m c := _root_.id rfl
theorem z_pack1 (d : D) : pack [d] = d := _root_.id rfl
theorem z_pack2 (d e : D) (r : List D) : pack (d :: e :: r) = .tup (d :: e :: r) := _root_.id rfl
theorem z_repL_0 (z : List D) : repL 0 z kL = kL [] := by simp [repL, repW]
theorem z_repL_s (m : Nat) (z : List D) : repL (m + 1) z kL = repL m z fun r => catW z r kL := by simp [repL, repW, catW, List.replicate_succ]
theorem z_so_cons (id i : Nat) (cs c : List D) (r : List (Nat × List D)) (f : List (Nat × List D) → Prop) : soW id cs ((i, c) :: r) f = if id = i then f ((i, cs) :: r) else soW id cs r fun r' => f ((i, c) :: r') := by
  unfold soW; simp only [setO]; split <;> rfl

/-! arithmetic -/
section
variable {t : TypeId} {kk k1 k2 : IntKind} {x y : Int}
theorem z_bn_add : bnW P .add t (.int kk x) (.int kk y) kD = wrW kk (x + y) kD := by simp [bnW, isSh, intW]
theorem z_bn_sub : bnW P .sub t (.int kk x) (.int kk y) kD = wrW kk (x - y) kD := by simp [bnW, isSh, intW]
theorem z_bn_mul : bnW P .mul t (.int kk x) (.int kk y) kD = wrW kk (x * y) kD := by simp [bnW, isSh, intW]
theorem z_bn_quo : bnW P .quo t (.int kk x) (.int kk y) kD = intW .quo kk x y kD := by simp [bnW, isSh]
theorem z_bn_rem : bnW P .rem t (.int kk x) (.int kk y) kD = intW .rem kk x y kD := by simp [bnW, isSh]
theorem z_bn_and : bnW P .and t (.int kk x) (.int kk y) kD = kD (.int kk (bits .and kk x y)) := by simp [bnW, isSh, intW]
theorem z_bn_or : bnW P .or t (.int kk x) (.int kk y) kD = kD (.int kk (bits .or kk x y)) := by simp [bnW, isSh, intW]
theorem z_bn_xor : bnW P .xor t (.int kk x) (.int kk y) kD = kD (.int kk (bits .xor kk x y)) := by simp [bnW, isSh, intW]
theorem z_bn_shl : bnW P .shl t (.int k1 x) (.int k2 y) kD = (0 ≤ y ∧ kD (.int k1 (shlI k1 x y))) := by simp [bnW, isSh, shW]
theorem z_bn_shr : bnW P .shr t (.int k1 x) (.int k2 y) kD = (0 ≤ y ∧ kD (.int k1 (shrI k1 x y))) := by simp [bnW, isSh, shW]
theorem z_bn_eql : bnW P .eql t (.int kk x) (.int kk y) kD = kD (.bool (decide (x = y))) := by simp [bnW, isSh, intW]
theorem z_bn_neq : bnW P .neq t (.int kk x) (.int kk y) kD = kD (.bool (decide (x ≠ y))) := by simp [bnW, isSh, intW]
theorem z_bn_lss : bnW P .lss t (.int kk x) (.int kk y) kD = kD (.bool (decide (x < y))) := by simp [bnW, isSh, intW]
theorem z_bn_leq : bnW P .leq t (.int kk x) (.int kk y) kD = kD (.bool (decide (x ≤ y))) := by simp [bnW, isSh, intW]
theorem z_bn_gtr : bnW P .gtr t (.int kk x) (.int kk y) kD = kD (.bool (decide (y < x))) := by simp [bnW, isSh, intW]
theorem z_bn_geq : bnW P .geq t (.int kk x) (.int kk y) kD = kD (.bool (decide (y ≤ x))) := by simp [bnW, isSh, intW]
theorem z_bn_sadd (a b : List UInt8) : bnW P .add t (.str a) (.str b) kD = (a.length + b.length ≤ maxLen ∧ kD (.str (a ++ b))) := _root_.id rfl
theorem z_bn_sneq (a b : List UInt8) : bnW P .neq t (.str a) (.str b) kD = kD (.bool (decide (a ≠ b))) := _root_.id rfl
def boolTyW (ty : TY) (A : Prop) : Prop := ty = .bool ∧ A
theorem z_boolTy : boolTyW .bool A = A := by simp [boolTyW]
theorem z_bn_beql (a b : Bool) : bnW P .eql t (.bool a) (.bool b) kD = tyW P t fun ty => boolTyW ty (kD (.bool (decide (a = b)))) := _root_.id rfl
theorem z_bn_bneq (a b : Bool) : bnW P .neq t (.bool a) (.bool b) kD = tyW P t fun ty => boolTyW ty (kD (.bool (decide (a ≠ b)))) := _root_.id rfl
theorem z_bn_aneq (a b : List D) : bnW P .neq t (.agg a) (.agg b) kD = flkW P t fun ks => kdM a ks ∧ kdM b ks ∧ kD (.bool (!eqB a b)) := _root_.id rfl
theorem z_bn_oneq (a b : List D) : bnW P .neq t (.oag a) (.agg b) kD = (allP a ∧ flkW P t fun ks => kdM a ks ∧ kdM b ks ∧ kD (.bool (!eqB a b))) := _root_.id rfl
theorem z_bn_ooqn (a b : List D) : bnW P .neq t (.oag a) (.oag b) kD = (allP a ∧ allP b ∧ flkW P t fun ks => kdM a ks ∧ kdM b ks ∧ kD (.bool (!eqB a b))) := _root_.id rfl
theorem z_isSl (e : TypeId) : isSlW (.slice e) A = A := _root_.id rfl
theorem z_nilW (m : Nat) (f : Bool → Prop) : nilW m f = ((0 < m → f false) ∧ (m = 0 → ∀ b, f b)) := _root_.id rfl
theorem z_bn_slnil (sz m : Nat) (cs : List D) : bnW P .eql t (.sl sz m cs) .nils kD = tyW P t fun ty => isSlW ty (nilW m fun b => kD (.bool b)) := by simp [bnW, slnW, slN, tyW]
theorem z_un_neg : unW .neg (.int kk x) kD = wrW kk (0 - x) kD := _root_.id rfl
theorem z_un_not (b : Bool) : unW .not (.bool b) kD = kD (.bool !b) := _root_.id rfl
theorem z_un_xor : unW .xor (.int kk x) kD = kD (.int kk (bits .xor kk (if kk.signed = true then -1 else kk.max) x)) := _root_.id rfl
theorem z_cvt_int : opW.cvtW P (.int k1) (.int k2) A = A := _root_.id rfl
def u8W (ty : TY) (A : Prop) : Prop := match ty with | .int .u8 => A | _ => False
theorem z_u8 : u8W (.int .u8) A = A := _root_.id rfl
theorem z_cvt_sb (e : TypeId) : opW.cvtW P .str (.slice e) A = tyW P e fun te => u8W te A := _root_.id rfl
theorem z_cvt_bs (e : TypeId) : opW.cvtW P (.slice e) .str A = tyW P e fun te => u8W te A := _root_.id rfl
theorem z_cv_int (ts : TY) : cvW S ts (.int k2) (.int k1 x) k = cviW k1 k2 x fun d => k d S := _root_.id rfl
theorem z_cv_sb (ts : TY) (e : TypeId) (s : List UInt8) : cvW ⟨n, nx, env, own⟩ ts (.slice e) (.str s) k = (s.length ≤ maxLen ∧ newW ⟨n, nx, env, own⟩ (s.map bD) fun S' => k (.osl nx 1 s.length) S') := _root_.id rfl
theorem z_cvi_i64_u64 : cviW .i64 .u64 x kD = kD (.int .u64 (IntKind.u64.wrap x)) := _root_.id rfl
theorem z_cvi_i64_u8 : cviW .i64 .u8 x kD = kD (.int .u8 (IntKind.u8.wrap x)) := _root_.id rfl
theorem z_cvi_u64_i64 : cviW .u64 .i64 x kD = kD (.int .i64 (IntKind.i64.wrap x)) := _root_.id rfl
theorem z_cvi_u64_u8 : cviW .u64 .u8 x kD = kD (.int .u8 (IntKind.u8.wrap x)) := _root_.id rfl
theorem z_cvi_u8_i64 : cviW .u8 .i64 x kD = kD (.int .i64 x) := _root_.id rfl
theorem z_cvi_u8_u32 : cviW .u8 .u32 x kD = kD (.int .u32 x) := _root_.id rfl
theorem z_cvi_u32_u8 : cviW .u32 .u8 x kD = kD (.int .u8 (IntKind.u8.wrap x)) := _root_.id rfl
theorem z_cvi_u16_i64 : cviW .u16 .i64 x kD = kD (.int .i64 x) := _root_.id rfl
theorem z_quo_i64 : intW .quo .i64 x y kD = (y ≠ 0 ∧ inR .i64 (x.tdiv y) ∧ kD (.int .i64 (x.tdiv y))) := _root_.id rfl
theorem z_rem_i64 : intW .rem .i64 x y kD = (y ≠ 0 ∧ kD (.int .i64 (x.tmod y))) := _root_.id rfl
theorem z_quo_u64 : intW .quo .u64 x y kD = (y ≠ 0 ∧ kD (.int .u64 (x / y))) := _root_.id rfl
theorem z_rem_u64 : intW .rem .u64 x y kD = (y ≠ 0 ∧ kD (.int .u64 (x % y))) := _root_.id rfl
theorem z_rem_u8 : intW .rem .u8 x y kD = (y ≠ 0 ∧ kD (.int .u8 (x % y))) := _root_.id rfl
theorem z_cv_bs_sl (e : TypeId) (sz m : Nat) (cs : List D) : cvW S (.slice e) .str (.sl sz m cs) k = (sz = 1 ∧ bsW cs fun bs => k (.str bs) S) := by
  show (_ ∧ _) = _
  simp [srcW]
theorem z_cv_bs_slx (e : TypeId) (sz m : Nat) (cs : List D) : cvW S (.slice e) .str (.slx sz m cs) k = (sz = 1 ∧ bsW cs fun bs => k (.str bs) S) := by
  show (_ ∧ _) = _
  simp [srcW]
theorem z_cv_bs_osl (e : TypeId) (id sz m : Nat) : cvW ⟨n, nx, env, own⟩ (.slice e) .str (.osl id sz m) k = srcW ⟨n, nx, env, own⟩ 1 (.osl id sz m) fun _ cs => bsW cs fun bs => k (.str bs) ⟨n, nx, env, own⟩ := by
  show (_ ∧ _) = _
  simp
theorem z_cv_bs_osw (e : TypeId) (id o sz m : Nat) : cvW ⟨n, nx, env, own⟩ (.slice e) .str (.osw id o sz m) k = srcW ⟨n, nx, env, own⟩ 1 (.osw id o sz m) fun _ cs => bsW cs fun bs => k (.str bs) ⟨n, nx, env, own⟩ := by
  show (_ ∧ _) = _
  simp
end

/-! memory -/
section
variable {sz off m : Nat} {ag : Bool} {x : Int} {kk : IntKind} {e : TypeId}
theorem z_agTy_int (f : Bool → Prop) : opW.agTyW (.int kk) f = f false := _root_.id rfl
theorem z_agTy_bool (f : Bool → Prop) : opW.agTyW .bool f = f false := _root_.id rfl
theorem z_agTy_str (f : Bool → Prop) : opW.agTyW .str f = f false := _root_.id rfl
theorem z_agTy_sl (f : Bool → Prop) : opW.agTyW (.slice e) f = f false := _root_.id rfl
theorem z_agTy_arr (f : Bool → Prop) : opW.agTyW (.arr m e) f = f true := _root_.id rfl
theorem z_agTy_st (l : List (Nat × TypeId)) (f : Bool → Prop) : opW.agTyW (.struct l) f = f true := _root_.id rfl
theorem z_elTy_sl (f : TypeId → Prop) : opW.elTyW (.slice e) f = f e := _root_.id rfl
theorem z_elTy_arr (f : TypeId → Prop) : opW.elTyW (.arr m e) f = f e := _root_.id rfl
theorem z_in_arr (dx di : D) : opW.inW P (.arr m e) dx di kD = szW P e fun sz => tyW P e fun te => inxW (.arr m e) (isAg te) sz dx di kD := _root_.id rfl
theorem z_blTy_arr (f : TypeId → Prop) : opW.blTyW P (.arr m e) f A = f e := _root_.id rfl
theorem z_blTy_st (l : List (Nat × TypeId)) (f : TypeId → Prop) : opW.blTyW P (.struct l) f A = (l.all (fun p => (P.info? p.2).isSome) = true ∧ A) := _root_.id rfl
theorem z_seTy_str (f : Nat → Prop) : opW.seTyW P .str f = f 1 := _root_.id rfl
theorem z_seTy_sl (f : Nat → Prop) : opW.seTyW P (.slice e) f = szW P e f := _root_.id rfl
theorem z_seTy_arr (f : Nat → Prop) : opW.seTyW P (.arr m e) f = szW P e f := _root_.id rfl
theorem z_ix_sl (sz' : Nat) (cs : List D) : ixW (.slice e) sz (.sl sz' m cs) (.int kk x) kD = (sz' = sz ∧ 0 ≤ x ∧ x < m ∧ kD (.rop cs (x.toNat * sz))) := _root_.id rfl
theorem z_ix_osl (id sz' : Nat) : ixW (.slice e) sz (.osl id sz' m) (.int kk x) kD = (sz' = sz ∧ 0 ≤ x ∧ x < m ∧ kD (.ptr id (x.toNat * sz))) := _root_.id rfl
theorem z_ix_ptr (id l : Nat) : ixW (.arr l e) sz (.ptr id off) (.int kk x) kD = (0 ≤ x ∧ x < l ∧ kD (.ptr id (off + x.toNat * sz))) := _root_.id rfl
theorem z_ix_rop (l : Nat) (cs : List D) : ixW (.arr l e) sz (.rop cs off) (.int kk x) kD = (0 ≤ x ∧ x < l ∧ kD (.rop cs (off + x.toNat * sz))) := _root_.id rfl
theorem z_fa_ptr (id o : Nat) : faW (.ptr id off) o kD = kD (.ptr id (off + o)) := _root_.id rfl
theorem z_fa_rop (cs : List D) (o : Nat) : faW (.rop cs off) o kD = kD (.rop cs (off + o)) := _root_.id rfl
theorem z_fv_agg (cs : List D) : fvW (.agg cs) ag sz off kD = rdW ag sz cs off .agg kD := _root_.id rfl
theorem z_inx_arr (d : D) (l : Nat) : inxW (.arr l e) (some ag) sz d (.int kk x) kD = (0 ≤ x ∧ x < l ∧ fvW d ag sz (x.toNat * sz) kD) := by
  cases d <;> simp [inxW]
theorem z_isAg_int : isAg (.int kk) = some false := _root_.id rfl
theorem z_ex (ds : List D) (i : Nat) : exW (.tup ds) i kD = nthW ds i kD := _root_.id rfl
theorem z_s2a_osw (id s l : Nat) : s2aW l (.osw id off s m) kD = (0 < l ∧ l ≤ m ∧ kD (.ptr id off)) := _root_.id rfl
theorem z_cl_agg (cs : List D) : clW (.agg cs) kL = kL cs := _root_.id rfl
theorem z_cl_oag (cs : List D) : clW (.oag cs) kL = kL cs := _root_.id rfl
theorem z_cl_int : clW (.int kk x) kL = kL [.int kk x] := _root_.id rfl
theorem z_cl_bool (b : Bool) : clW (.bool b) kL = kL [.bool b] := _root_.id rfl
theorem z_cl_str (s : List UInt8) : clW (.str s) kL = kL [.str s] := _root_.id rfl
theorem z_cl_sl (cs : List D) : clW (.sl sz m cs) kL = kL [.sl sz m cs] := _root_.id rfl
theorem z_cl_slx (cs : List D) : clW (.slx sz m cs) kL = kL [.slx sz m cs] := _root_.id rfl
theorem z_cl_osl (id : Nat) : clW (.osl id sz m) kL = kL [.osl id sz m] := _root_.id rfl
theorem z_nth_bytes (bs : List UInt8) (i : Nat) : nthW (bs.map bD) i kD = ∃ h : i < bs.length, kD (.int .u8 (bs[i]'h).toNat) := nthW_map _ _ _ _
theorem z_nth_int (xs : List Int) (i : Nat) : nthW (xs.map (D.int kk)) i kD = ∃ h : i < xs.length, kD (.int kk (xs[i]'h)) := nthW_map _ _ _ _
theorem z_nth_str (xs : List (List UInt8)) (i : Nat) : nthW (xs.map D.str) i kD = ∃ h : i < xs.length, kD (.str (xs[i]'h)) := nthW_map _ _ _ _
theorem z_nth_bool (xs : List Bool) (i : Nat) : nthW (xs.map D.bool) i kD = ∃ h : i < xs.length, kD (.bool (xs[i]'h)) := nthW_map _ _ _ _
theorem z_store_ptr (id : Nat) (ds : List D) : stW ⟨n, nx, env, own⟩ (.ptr id off) sz ds kS = lkoW id own fun c => off + sz ≤ c.length ∧ spsW c off sz ds fun c' => soW id c' own fun own' => kS ⟨n, nx, env, own'⟩ := _root_.id rfl
theorem z_slc_str_ln (a : Int) (s : List UInt8) : slcW (S := ⟨n, nx, env, own⟩) .str sz (.str s) (some a) none none kD = (0 ≤ a ∧ a ≤ (s.length : Nat) ∧ kD (.str ((s.drop a.toNat).take (s.length - a.toNat)))) := by
  simp [slcW, subW]
theorem z_slc_sl_nh (b : Int) (sz' : Nat) (cs : List D) : slcW (S := ⟨n, nx, env, own⟩) (.slice e) sz (.sl sz' m cs) none (some b) none kD = (sz' = sz ∧ 0 ≤ b ∧ b ≤ (m : Nat) ∧ subW cs 0 (b.toNat * sz) fun c' => kD (.sl sz b.toNat c')) := by
  simp [slcW, subW]
theorem z_slc_sl_lh (a b : Int) (sz' : Nat) (cs : List D) : slcW (S := ⟨n, nx, env, own⟩) (.slice e) sz (.sl sz' m cs) (some a) (some b) none kD = (sz' = sz ∧ 0 ≤ a ∧ a ≤ b ∧ b ≤ (m : Nat) ∧ subW cs (a.toNat * sz) ((b.toNat - a.toNat) * sz) fun c' => kD (.sl sz (b.toNat - a.toNat) c')) := by
  simp [slcW, subW]
theorem z_slc_osl_nh (b : Int) (id sz' : Nat) : slcW (S := ⟨n, nx, env, own⟩) (.slice e) sz (.osl id sz' m) none (some b) none kD = (sz' = sz ∧ 0 ≤ b ∧ b ≤ (m : Nat) ∧ kD (.osw id 0 sz b.toNat)) := by
  simp [slcW, subW]
theorem z_slc_osl_ln (a : Int) (id sz' : Nat) : slcW (S := ⟨n, nx, env, own⟩) (.slice e) sz (.osl id sz' m) (some a) none none kD = (sz' = sz ∧ 0 ≤ a ∧ a ≤ (m : Nat) ∧ kD (.osw id (a.toNat * sz) sz (m - a.toNat))) := by
  simp [slcW, subW]
theorem z_slc_ptr_nn (id : Nat) : slcW (S := ⟨n, nx, env, own⟩) (.arr m e) sz (.ptr id off) none none none kD = (lkoW id own fun c => off + m * sz ≤ c.length ∧ m ≤ maxLen ∧ kD (.osw id off sz m)) := by
  simp [slcW, subW]
theorem z_slc_ptr_nh (b : Int) (id : Nat) : slcW (S := ⟨n, nx, env, own⟩) (.arr m e) sz (.ptr id off) none (some b) none kD = (0 ≤ b ∧ b ≤ (m : Nat) ∧ lkoW id own fun c => off + m * sz ≤ c.length ∧ m ≤ maxLen ∧ kD (.osw id off sz b.toNat)) := by
  simp [slcW, subW]
theorem z_slc_ptr_ln (a : Int) (id : Nat) : slcW (S := ⟨n, nx, env, own⟩) (.arr m e) sz (.ptr id off) (some a) none none kD = (0 ≤ a ∧ a ≤ (m : Nat) ∧ lkoW id own fun c => off + m * sz ≤ c.length ∧ m ≤ maxLen ∧ kD (.osw id (off + a.toNat * sz) sz (m - a.toNat))) := by
  simp [slcW, subW]
theorem z_rd_f (cs : List D) (mk : List D → D) : rdW false sz cs off mk kD = nthW cs off kD := _root_.id rfl
theorem z_rd_t (cs : List D) (mk : List D → D) : rdW true sz cs off mk kD = (off + sz ≤ cs.length ∧ subW cs off sz fun c => kD (mk c)) := _root_.id rfl
theorem z_spl (c ds : List D) : splW c off ds kL = spsW c off ds.length ds kL := _root_.id rfl
theorem z_sps_map {α : Type} (g : α → D) (xs ys : List α) : spsW (xs.map g) off sz (ys.map g) kL = kL ((xs.take off ++ ys ++ xs.drop (off + sz)).map g) := by simp [spsW]
theorem z_sps_byte (bs : List UInt8) (b : UInt8) : spsW (bs.map bD) off sz [.int .u8 (b.toNat : Int)] kL = kL ((bs.take off ++ [b] ++ bs.drop (off + sz)).map bD) := by simp [spsW, bD]
theorem z_cat_nil_r (ds : List D) : catW ds [] kL = kL ds := by simp [catW]
theorem z_sps_int (xs : List Int) (y : Int) : spsW (xs.map (D.int kk)) off sz [.int kk y] kL = kL ((xs.take off ++ [y] ++ xs.drop (off + sz)).map (D.int kk)) := by simp [spsW]
theorem z_sps (c ds : List D) : spsW c off sz ds kL = kL (c.take off ++ ds ++ c.drop (off + sz)) := _root_.id rfl
theorem z_bld_nil (offs : Nat → (Nat → Nat → Prop) → Prop) (c : List D) : bldW G S offs [] c kL = kL c := _root_.id rfl
theorem z_bld_cons (offs : Nat → (Nat → Nat → Prop) → Prop) (i : Nat) (x : Operand) (r : List (Nat × Operand)) (c : List D) : bldW G S offs ((i, x) :: r) c kL = offs i fun off sz => evW G S x fun d => clW d fun ds => ds.length = sz ∧ off + sz ≤ c.length ∧ spsW c off sz ds fun c' => bldW G S offs r c' kL := _root_.id rfl
end
end
theorem ex_mk (d : D) {A K : D → Prop} {u : TagD K} {v : Tag (exD A K u)} (h : A d) (hk : K d) : hold (exD A K u) v := .mk ⟨d, h, hk⟩
theorem exD_mk (d : D) {A K : D → Prop} {u : TagD K} (h : A d) (hk : K d) : exD A K u := ⟨d, h, hk⟩
theorem rgn_q {G : Glob} {P : Program} {l : List Oper} {S : St} {k : St → Prop} {u : Tag (rgnT G P l S k)} (h1 : Region.lexB .any l.toArray = true) (h2 : l.all (fun o => quiet o.op) = true) (h : opsW G P l l S k) : hold (rgnT G P l S k) u := .mk (.inl ⟨h1, h2, h⟩)
theorem rgn_d {G : Glob} {P : Program} {l : List Oper} {n nx : Nat} {env : List (Nat × D)} {own : List (Nat × List D)} {k : St → Prop} {u : Tag (rgnT G P l ⟨n, nx, env, own⟩ k)} (h1 : drwB l (preN l) = true) (h : drwW G P l n nx own l env k) : hold (rgnT G P l ⟨n, nx, env, own⟩ k) u := .mk (.inr (.inl ⟨h1, h⟩))
theorem call_fn {G : Glob} {P : Program} {f : FuncId} {ds : List D} {S : St} {k : D → St → Prop} {d : D} {u : Tag (callW G P f ds false S k)} (h : Fn G P f ds d) (hk : wf3 d → k d S) : hold (callW G P f ds false S k) u :=
  .mk <| .inl <| .inl ⟨d, h, (show lentW false (flD d) from fun e => by cases e), hk⟩
theorem call_fnL {G : Glob} {P : Program} {f : FuncId} {ds : List D} {S : St} {k : D → St → Prop} {d : D} {b : Bool} {u : Tag (callW G P f ds b S k)} (h : Fn G P f ds d) (hf : flD d) (hk : wf3 d → k d S) : hold (callW G P f ds b S k) u :=
  .mk <| .inl <| .inl ⟨d, h, fun _ => hf, hk⟩
theorem call_own {G : Glob} {P : Program} {f : FuncId} {ds : List D} {S : St} {k : D → St → Prop} {sz n : Nat} {cs : List D} {u : Tag (callW G P f ds false S k)} (h : FnS G P f ds sz n cs) (hk : wf3 (.sl sz n cs) → newW S cs fun S' => k (.osl S.nx sz n) S') :
    hold (callW G P f ds false S k) u := .mk <| .inl <| .inr <| .inl ⟨sz, n, cs, h, (show lentW false (∀ c ∈ cs, flS c = true) from fun e => by cases e), hk⟩
/-- Some of what is known is forgotten first. -/
theorem call_wk (T : St) {G : Glob} {P : Program} {f : FuncId} {ds : List D} {S : St} {k : D → St → Prop} {b : Bool} {u : Tag (callW G P f ds b S k)} (hw : wkW S T) (h : hold (callW0 G P f ds b T k) (tg _)) : hold (callW G P f ds b S k) u :=
  .mk <| .inr <| .inr ⟨T, hw, by simpa only [hold_eq] using h⟩
theorem call0_fn {G : Glob} {P : Program} {f : FuncId} {ds : List D} {S : St} {k : D → St → Prop} {d : D} {u : Tag (callW0 G P f ds false S k)} (h : Fn G P f ds d) (hk : wf3 d → k d S) : hold (callW0 G P f ds false S k) u :=
  .mk <| .inl ⟨d, h, (show lentW false (flD d) from fun e => by cases e), hk⟩
theorem flS_bytes (bs : List UInt8) : ∀ c ∈ bs.map bD, flS c = true := by simp [bD, flS]
theorem zero_is {i : TypeInfo} {v : Value} {cs : List D} {k : List D → Prop} (hz : i.zero = some v) (h1 : v.cells.all Value.oneCell' = true) (h2 : v.cells.toList.map dS = cs) :
    (match some i with | some i => (match i.zero with | some v => v.cells.all Value.oneCell' = true ∧ k (v.cells.toList.map dS) | none => False) | none => False) = k cs := by
  simp only [hz, h1, h2, true_and]
theorem flk_is {P : Program} {t : TypeId} {ks : List K} {k : List K → Prop} (h1 : P.keyTypeAt 8 t = true) (h2 : P.eqGuardType P.depth t = false) (h3 : P.cellsOf t = ks.length) (h4 : ∃ fs, P.underlying t = some (.struct fs) ∨ ∃ n e, P.underlying t = some (.array n e)) :
    (match some ks with | some ks => P.keyTypeAt 8 t = true ∧ P.eqGuardType P.depth t = false ∧ P.cellsOf t = ks.length ∧ (∃ fs, P.underlying t = some (.struct fs) ∨ ∃ n e, P.underlying t = some (.array n e)) ∧ k ks | none => False) = k ks :=
  propext ⟨fun h => h.2.2.2.2, fun h => ⟨h1, h2, h3, h4, h⟩⟩
end Go.Abs
