/- What the law BagDoes stands on: the framework, the given functions as plain functions, their walks, and the plain laws; part 1. -/
import Derived.CallsIn
import Derived.RangeFuncIn
import Derived.RangeFuncCalls
import Derived.Below
import Derived.WalkKit
import Derived.Orders
import Derived.Laws.Slices
import Derived.Laws.StructEq
import Derived.RangeFuncLeaves
import Derived.Laws.MakeOwn
import Derived.Laws.Append
import Derived.OrdersIn
import Derived.KernelRfl
import Derived.ChangeArms
import Derived.ChangeShapes
import Derived.SizedLaws
import Derived.RangeFuncRecord
import Derived.Lib.Bytealg
import Derived.MapKept
import Derived.Maps.RangeRun
import Derived.RangeFuncNested
import Derived.Laws.BytesArg
import Derived.ChangeKeysEq
import Derived.Test.YtapehjfhmhfaoaaGreatProg
import Derived.Laws.Strings
set_option linter.unusedSimpArgs false
set_option linter.unusedVariables false
namespace Go.Abs
open Go IntKind Go.RowKit
inductive V where
 | lit (v:Value)
 | agg (cs:List V)
 | tup (cs:List V)
 | sl (z:Bool) (n:Nat) (el:Nat->V)
 | msl (k l i n:Nat)
 | rp (x:V)
 | lp (l i o:Nat)
 | fn (f:Fn) (first cap:List V)
 | ifc (t:TypeId) (x:V)
 | mp (l:Nat)
instance : Inhabited V:=⟨.tup []⟩
def V.bad:V:=.tup []
def V.cells:V->List V
 | .agg cs=>cs
 | v=>[v]
def jM:V->Bool
 | .tup _=>false
 | _=>true
def plain:Value->Bool
 | .bool _ | .int _ _ | .float _ _ | .complex _ _ _ | .string _ | .nilFunc | .nilIface=>true
 | .pointer a=>a.isNone
 | .map r=>r.isNone
 | .func (.yield _) a b=>a.isEmpty&&b.isEmpty
 | _=>false
def one:Value->Bool
 | .agg _ | .tuple _=>false
 | _=>true
theorem aAw {v:Value}(h:plain v=true):one v=true:=by cases v <;> simp_all [plain,one]
theorem xV {v:Value}(h:one v=true):v.cells=#[v]:=by cases v <;> simp_all [one,Value.cells]
structure Gh where
 fx:Nat->Nat->Prop
 n:Nat
 blk:Nat->Nat
 off:Nat->Nat
 k:Nat->Nat
 cap:Nat->Nat
def EP (w:World)(b o:Nat)(c:Value):Prop:=∀ j x,c.cells[j]?=some x->w.cell? ⟨b,o+j,none⟩=some x
inductive Rep (g:Gh) (w:World):V->Value->Prop
 | lit (v:Value):plain v=true->Rep g w (.lit v) v
 | agg (cs:List V) (vs:Array Value):cs.length=vs.size->(∀ (i:Nat) x y,cs[i]?=some x->vs[i]?=some y->Rep g w x y) ->
   (∀ (i:Nat) y,vs[i]?=some y->one y=true)->Rep g w (.agg cs) (.agg vs)
 | tup (cs:List V) (vs:Array Value):cs.length=vs.size->(∀ (i:Nat) x y,cs[i]?=some x->vs[i]?=some y->Rep g w x y)->Rep g w (.tup cs) (.tuple vs)
 | sl0 (z:Bool) (el:Nat->V) (a:Option Addr) (cap:Nat):(z=true->cap=0)->Rep g w (.sl z 0 el) (.slice a 0 cap)
 | sl (n:Nat) (el:Nat->V) (b o k cap:Nat) (c:Nat->Value):(∀ i,i<n->Rep g w (el i) (c i))->(∀ i,i<n->(c i).cells.size=k) ->
   (∀ i,i<n->EP w b (o+i*k) (c i))->(∀ i,i<n -> ∀ j,j<k->g.fx b (o+i*k+j))->n<=cap->(∀ i,i<n->jM (el i)=true)->Rep g w (.sl false n el) (.slice (some ⟨b,o,none⟩) n cap)
 | msl (l i n:Nat):l<g.n->i+n<=g.cap l->Rep g w (.msl (g.k l) l i n) (.slice (some ⟨g.blk l,g.off l+i*g.k l,none⟩) n (g.cap l-i))
 | msl0 (l i:Nat) (a:Option Addr):l<g.n->g.cap l=i->Rep g w (.msl (g.k l) l i 0) (.slice a 0 0)
 | rp (x:V) (c:Value) (b o:Nat):Rep g w x c->EP w b o c->(∀ j,j<c.cells.size->g.fx b (o+j))->Rep g w (.rp x) (.pointer (some ⟨b,o,none⟩))
 | lp (l i o:Nat):l<g.n->Rep g w (.lp l i o) (.pointer (some ⟨g.blk l,g.off l+i*g.k l+o,none⟩))
 | fn (f:Fn) (first cap:List V) (fs cs:Array Value):first.length=fs.size->cap.length=cs.size ->
   (∀ (i:Nat) x y,first[i]?=some x->fs[i]?=some y->Rep g w x y)->(∀ (i:Nat) x y,cap[i]?=some x->cs[i]?=some y->Rep g w x y)->Rep g w (.fn f first cap) (.func f fs cs)
 | ifc (t:TypeId) (x:V) (c:Value):Rep g w x c->Rep g w (.ifc t x) (.iface t c)
 | mp (l:Nat):l<g.n->Rep g w (.mp l) (.map (some (g.blk l)))
structure Ext0 (g:Gh) (w:World) (g':Gh) (w':World):Prop where
 fx:∀ b o,g.fx b o->g'.fx b o
 cell:∀ b o,g.fx b o->w'.cell? ⟨b,o,none⟩=w.cell? ⟨b,o,none⟩
 n:g.n<=g'.n
 blk:∀ l,l<g.n->g'.blk l=g.blk l
 off:∀ l,l<g.n->g'.off l=g.off l
 k:∀ l,l<g.n->g'.k l=g.k l
 cap:∀ l,l<g.n->g'.cap l=g.cap l
structure Ext (g:Gh) (w:World) (g':Gh) (w':World):Prop extends Ext0 g w g' w' where
 size:w.heap.size<=w'.heap.size
 os:w'.os=w.os
 tape:w'.tape=w.tape
 output:w'.output=w.output
 keep:∀ b,b<w.heap.size->(∀ l,l<g.n->g.blk l≠b)->w'.heap[b]?=w.heap[b]?
 newblk:∀ l,g.n<=l->l<g'.n->w.heap.size<=g'.blk l ∨ ∃ l0,l0<g.n/\g.blk l0=g'.blk l
theorem Ext.refl (g:Gh)(w:World):Ext g w g w :=
 ⟨⟨fun _ _ h=>h,fun _ _ _=>rfl,Nat.le_refl _,fun _ _=>rfl,fun _ _=>rfl,fun _ _=>rfl,fun _ _=>rfl⟩,Nat.le_refl _,rfl,rfl,rfl,fun _ _ _=>rfl,fun l h h'=>absurd h' (by omega)⟩
theorem Ext.trans {g g' g'':Gh}{w w' w'':World}(h:Ext g w g' w')(h':Ext g' w' g'' w''):Ext g w g'' w'' where
 fx b o x:=h'.fx b o (h.fx b o x)
 cell b o x:=(h'.cell b o (h.fx b o x)).trans (h.cell b o x)
 n:=Nat.le_trans h.n h'.n
 blk l x:=(h'.blk l (Nat.lt_of_lt_of_le x h.n)).trans (h.blk l x)
 off l x:=(h'.off l (Nat.lt_of_lt_of_le x h.n)).trans (h.off l x)
 k l x:=(h'.k l (Nat.lt_of_lt_of_le x h.n)).trans (h.k l x)
 cap l x:=(h'.cap l (Nat.lt_of_lt_of_le x h.n)).trans (h.cap l x)
 size:=Nat.le_trans h.size h'.size
 os:=h'.os.trans h.os
 tape:=h'.tape.trans h.tape
 output:=h'.output.trans h.output
 keep b hb hl:=by
  refine (h'.keep b (Nat.lt_of_lt_of_le hb h.size) fun l hl'=>?_).trans (h.keep b hb hl);by_cases hn:l<g.n
  ·rw [h.blk l hn];exact hl l hn
  ·rcases h.newblk l (by omega) hl' with h1 | ⟨l0,h0,e⟩
   ·omega
   ·rw [←e];exact hl l0 h0
 newblk l hl hl':=by
  by_cases hn:l<g'.n
  ·rw [h'.blk l hn];exact h.newblk l hl hn
  ·rcases h'.newblk l (by omega) hl' with h1 | ⟨l0,h0,e⟩
   ·exact .inl (Nat.le_trans h.size h1)
   ·by_cases hn0:l0<g.n
    ·exact .inr ⟨l0,hn0,by rw [←e,h.blk l0 hn0]⟩
    ·rw [←e];exact h.newblk l0 (by omega) h0
theorem EP.ext {g g':Gh}{w w':World}(e:Ext0 g w g' w'){b o:Nat}{c:Value}(h:EP w b o c)(hf:∀ j,j<c.cells.size->g.fx b (o+j)):EP w' b o c:=by
 intro j x hx;have hj:j<c.cells.size:=(Array.getElem?_eq_some_iff.1 hx).1;rw [e.cell b (o+j) (hf j hj)];exact h j x hx
theorem Rep.ext {g g':Gh}{w w':World}(e:Ext0 g w g' w'){x:V}{v:Value}(h:Rep g w x v):Rep g' w' x v:=by
 induction h with
 | lit v hp=>exact .lit v hp
 | agg cs vs hl _ ho ih=>exact .agg cs vs hl ih ho
 | tup cs vs hl _ ih=>exact .tup cs vs hl ih
 | sl0 z el a cap hz=>exact .sl0 z el a cap hz
 | sl n el b o k cap c _ hk hh hf hn hnt ih =>
  refine .sl n el b o k cap c ih hk (fun i hi=>(hh i hi).ext e fun j hj=>hf i hi j (by rw [←hk i hi];exact hj)) (fun i hi j hj=>e.fx _ _ (hf i hi j hj)) hn hnt
 | msl l i n hl hc =>
  have:=Rep.msl (g:=g') (w:=w') l i n (Nat.lt_of_lt_of_le hl e.n) (by rw [e.cap l hl];exact hc)
  rwa [e.blk l hl,e.off l hl,e.k l hl,e.cap l hl] at this
 | msl0 l i a hl hc =>
  have:=Rep.msl0 (g:=g') (w:=w') l i a (Nat.lt_of_lt_of_le hl e.n) (by rw [e.cap l hl];exact hc)
  rwa [e.k l hl] at this
 | rp x c b o _ hh hf ih=>exact .rp x c b o ih (hh.ext e hf) (fun j hj=>e.fx _ _ (hf j hj))
 | lp l i o hl =>
  have:=Rep.lp (g:=g') (w:=w') l i o (Nat.lt_of_lt_of_le hl e.n)
  rwa [e.blk l hl,e.off l hl,e.k l hl] at this
 | fn f first cap fs cs h1 h2 _ _ ih1 ih2=>exact .fn f first cap fs cs h1 h2 ih1 ih2
 | ifc t x c _ ih=>exact .ifc t x c ih
 | mp l hl =>
  have:=Rep.mp (g:=g') (w:=w') l (Nat.lt_of_lt_of_le hl e.n)
  rwa [e.blk l hl] at this
theorem Rep.aNE {g:Gh}{w:World}{k l i n:Nat}{v:Value}(h:Rep g w (.msl k l i n) v):l<g.n/\g.k l=k /\
  ((i+n<=g.cap l/\v=.slice (some ⟨g.blk l,g.off l+i*k,none⟩) n (g.cap l-i))∨(n=0/\g.cap l=i /\ ∃ a,v=.slice a 0 0)):=by
 cases h with
 | msl l i n hl hc=>exact ⟨hl,rfl,.inl ⟨hc,rfl⟩⟩
 | msl0 l i a hl hc=>exact ⟨hl,rfl,.inr ⟨rfl,hc,a,rfl⟩⟩
structure Sp where
 p:Gh->World->Nat->Obj->Prop
 st:∀ {g:Gh} {w:World} {g':Gh} {w':World} {b:Nat} {o:Obj},Ext0 g w g' w'->p g w b o->p g' w' b o
inductive fD where
 | vec (k:Nat) (es:List V)
 | raw (s:Sp)
 | dead
abbrev bA:=List fD
structure SR (g:Gh) (w:World) (H:bA):Prop where
 len:H.length=g.n
 fxc:∀ b o,g.fx b o->(w.cell? ⟨b,o,none⟩).isSome=true
 nt:∀ (l k:Nat) (es:List V),H[l]?=some (.vec k es) -> ∀ x∈es,jM x=true
 kk:∀ (l k:Nat) (es:List V),H[l]?=some (.vec k es)->g.k l=k
 vec:∀ l k es,H[l]?=some (.vec k es)->es.length<=g.cap l /\
  (∃ c:Nat->Value,∀ i x,es[i]?=some x->Rep g w x (c i)/\(c i).cells.size=g.k l/\EP w (g.blk l) (g.off l+i*g.k l) (c i)) /\
  (∀ j,j<g.k l*g.cap l->(w.cell? ⟨g.blk l,g.off l+j,none⟩).isSome=true/\w.frozen? ⟨g.blk l,g.off l+j,none⟩=false /\ ¬ g.fx (g.blk l) (g.off l+j))
 raw:∀ l s,H[l]?=some (.raw s) -> ∃ o,w.heap[g.blk l]?=some o/\o.isCells=false/\s.p g w (g.blk l) o
 disj:∀ l l' k k' es es',H[l]?=some (.vec k es)->H[l']?=some (.vec k' es')->l≠l' -> ∀ j j',j<g.k l*g.cap l->j'<g.k l'*g.cap l' -> ¬ (g.blk l=g.blk l'/\g.off l+j=g.off l'+j')
 rawd:∀ l l' o o',H[l]?=some (.raw o)->H[l']?=some (.raw o')->l≠l'->g.blk l≠g.blk l'
def ZH:Value->Option V
 | .slice none 0 0=>some (.sl true 0 (fun _=>.bad))
 | .func (.func f) a b=>if a.isEmpty&&b.isEmpty then some (.fn (.func f) [] []) else none
 | v=>if plain v then some (.lit v) else none
def aGN (f:Value->Option V):List Value->Option (List V)
 | []=>some []
 | x::r=>match f x,aGN f r with
  | some y,some ys=>some (y::ys)
  | _,_=>none
def ofConst:Value->Option V
 | .agg cs=>match aGN ZH cs.toList with
  | some ys=>if cs.all one then some (.agg ys) else none
  | none=>none
 | .tuple vs=>if vs.isEmpty then some (.tup []) else none
 | v=>ZH v
theorem aBa {g:Gh}{w:World}{v:Value}{x:V}(h:ZH v=some x):Rep g w x v:=by
 unfold ZH at h;split at h
 ·simp at h;subst h;exact .sl0 _ _ _ _ (fun _=>rfl)
 ·rename_i f a b
  split at h
  ·rename_i hb
   simp at h;subst h;simp at hb;obtain⟨rfl,rfl⟩:=hb;exact .fn _ _ _ _ _ rfl rfl (by simp) (by simp)
  ·simp at h
 ·split at h
  ·rename_i hp;simp at h;subst h;exact .lit _ hp
  ·simp at h
theorem aGT {f:Value->Option V}:∀ {l:List Value} {ys:List V},aGN f l=some ys->l.length=ys.length /\ ∀ (i:Nat) x y,ys[i]?=some x->l[i]?=some y->f y=some x
 | [],ys,h=>by simp [aGN] at h; subst h; simp
 | a::r,ys,h=>by
  simp only [aGN] at h;split at h
  ·rename_i y zs h1 h2
   simp at h;subst h;obtain⟨hl,hg⟩:=aGT h2;refine⟨by simp [hl],fun i x y' hx hy=>?_⟩
   cases i with
   | zero=>simp at hx hy; subst hx; subst hy; exact h1
   | succ i=>simp at hx hy; exact hg i x y' hx hy
  ·simp at h
theorem uR {g:Gh}{w:World}{v:Value}{x:V}(h:ofConst v=some x):Rep g w x v:=by
 unfold ofConst at h;split at h
 ·rename_i cs
  split at h
  ·rename_i ys hy
   split at h
   ·rename_i ho
    simp at h;subst h;obtain⟨hl,hg⟩:=aGT hy;refine .agg _ _ (by simpa using hl.symm) (fun i x y hx hyy=>aBa (hg i x y hx (by simpa using hyy))) (fun i y hyy=>?_);have:=Array.all_eq_true_iff_forall_mem.1 ho y (Array.mem_of_getElem? hyy);exact this
   ·simp at h
  ·simp at h
 ·rename_i vs
  split at h
  ·rename_i he
   simp at h;subst h;simp at he;subst he;exact .tup _ _ rfl (by simp)
  ·simp at h
 ·exact aBa h
structure TyE where
 d:TypeDesc
 size:Nat
 bytes:Nat
 zero:V
def DJ:TypeDesc->Bool
 | .struct _ | .array _ _=>true
 | _=>false
def aIE (P:Program)(t:TypeId):Option TyE :=
 match P.info? t,P.underlying t with
 | some i,some d=>match i.zero with
  | some z=>match ofConst z with
   | some x=>some ⟨d,i.size,i.bytes,x⟩
   | none=>none
  | none=>none
 | _,_=>none
def aFD (P:Program)(t:TypeId):Bool := !P.stoodInHeld t && !P.eqGuardType P.depth t
structure TT where
 ty:TypeId->Option TyE
 eq:TypeId->Bool
instance : CoeFun TT (fun _=>TypeId->Option TyE):=⟨TT.ty⟩
def jO (P:Program)(tt:TT):Prop:=(∀ t e,tt t=some e->aIE P t=some e) /\ ∀ t,tt.eq t=true->aFD P t=true
structure aDI (P:Program) (t:TypeId) (e:TyE):Prop where
 info:∃ i,P.info? t=some i/\i.size=e.size/\i.bytes=e.bytes /\ ∃ z,i.zero=some z/\ofConst z=some e.zero
 under:P.underlying t=some e.d
theorem jO.facts {P:Program}{tt:TT}(h:jO P tt){t:TypeId}{e:TyE}(ht:tt t=some e):aDI P t e:=by
 have:=h.1 t e ht;unfold aIE at this;split at this
 ·rename_i i d hi hd
  split at this
  ·rename_i z hz
   split at this
   ·rename_i x hx
    simp at this;subst this;exact⟨⟨i,hi,rfl,rfl,z,hz,hx⟩,hd⟩
   ·simp at this
  ·simp at this
 ·simp at this
abbrev Ctx:=List (Nat×Bool)
abbrev Env:=Nat->Option (Ctx×V)
def TO (d:Nat):Ctx->Bool
 | []=>false
 | p::r=>Nat.beq p.1 d||TO d r
def aF9 (c c':Ctx):Bool:=c.all fun p=>c'.any fun q=>Nat.beq p.1 q.1&&(p.2==q.2)
def Env.set (T:Env)(d:Nat)(x:Ctx×V):Env:=fun t =>
 match Nat.beq t d with
 | true=>some x
 | false=>match T t with
  | some y=>match TO d y.1 with
   | true=>none
   | false=>some y
  | none=>none
def Env.cF (T:Env)(d:Option Tmp)(x:Ctx×V):Env :=
 match d with
 | some d=>T.set d x
 | none=>T
def Env.ofL:List (Nat×V)->Env
 | [],_=>none
 | p::r,t=>match Nat.beq t p.1 with
  | true=>some ([],p.2)
  | false=>Env.ofL r t
def eJ (tmps:Array Value)(c:Ctx):Prop:=∀ p∈c,tmps[p.1]?=some (.bool p.2)
def TR (g:Gh)(w:World)(T:Env)(tmps:Array Value):Prop :=
 ∀ t c x,T t=some (c,x)->(eJ tmps c -> ∃ v,tmps[t]?=some v/\Rep g w x v)/\(¬ eJ tmps c->tmps[t]?=some undef)
theorem TR.ext {g g':Gh}{w w':World}{T:Env}{tmps:Array Value}(h:TR g w T tmps)(e:Ext g w g' w'):TR g' w' T tmps :=
 fun t c x ht=>⟨fun hc=>let ⟨v,hv,hr⟩:=(h t c x ht).1 hc;⟨v,hv,hr.ext e.toExt0⟩,(h t c x ht).2⟩
theorem aAC {tmps:Array Value}{c c':Ctx}(h:aF9 c c'=true)(hc:eJ tmps c'):eJ tmps c:=by
 intro p hp;have h1:=List.all_eq_true.1 h p hp;obtain⟨q,hq,he⟩:=List.any_eq_true.1 h1;simp at he;have h2:=hc q hq;rw [he.1,he.2];exact h2
theorem aEv {tmps:Array Value}{c:Ctx}{d:Nat}{v:Value}(h:TO d c=false):eJ (tmps.setIfInBounds d v) c↔eJ tmps c:=by
 induction c with
 | nil=>simp [eJ]
 | cons p r ih =>
  simp only [TO,Bool.or_eq_false_iff] at h;have ih:=ih h.2
  have hne:p.1≠d:=by
   intro e;have:=h.1;rw [e] at this;simp at this
  simp only [eJ,List.mem_cons,forall_eq_or_imp] at ih ⊢;rw [Array.getElem?_setIfInBounds_ne (Ne.symm hne)];constructor
  ·exact fun ⟨a,b⟩=>⟨a,ih.1 b⟩
  ·exact fun ⟨a,b⟩=>⟨a,ih.2 b⟩
theorem TR.set {g:Gh} {w:World} {T:Env} {tmps:Array Value} (h:TR g w T tmps) {d:Nat} (hd:d<tmps.size) {c:Ctx} {x:V} {v:Value}
  (hk:TO d c=false) (h1:eJ tmps c->Rep g w x v) (h2:¬ eJ tmps c->v=undef):TR g w (T.set d (c,x)) (tmps.setIfInBounds d v):=by
 intro t c' x' ht;simp only [Env.set] at ht;split at ht
 ·rename_i hb
  have : t=d:=Nat.eq_of_beq_eq_true hb;subst this;simp at ht;obtain⟨rfl,rfl⟩:=ht;rw [aEv hk];simp only [Array.getElem?_setIfInBounds,hd,if_true];exact⟨fun hc=>⟨v,by simp,h1 hc⟩,fun hc=>by simp [h2 hc]⟩
 ·rename_i hb
  have hne:d≠t:=by intro e;subst e;simp at hb
  split at ht
  ·rename_i y hy
   split at ht
   ·simp at ht
   ·rename_i hk'
    simp at ht;subst ht;rw [aEv hk',Array.getElem?_setIfInBounds_ne hne];exact h t c' x' hy
  ·simp at ht
def dD (T:Env)(ctx:Ctx):Operand->Option V
 | .tmp t=>match T t with
  | some (c,x)=>match aF9 c ctx with
   | true=>some x
   | false=>none
  | none=>none
 | .const v=>ofConst v
 | .func f=>some (.fn (.func f) [] [])
 | .global _=>none
theorem dG {g:Gh}{w:World}{T:Env}{a:Act}{ctx:Ctx}(h:TR g w T a.tmps)(hc:eJ a.tmps ctx){x:Operand}{y:V}(he:dD T ctx x=some y) :
  Rep g w y (a.eval x):=by
 cases x with
 | tmp t =>
  simp only [dD] at he;split at he
  ·rename_i c z hz
   split at he
   ·rename_i hs
    simp at he;subst he;obtain⟨v,hv,hr⟩:=(h t c z hz).1 (aAC hs hc);simp [Act.eval,hv,hr]
   ·simp at he
  ·simp at he
 | const v=>exact uR he
 | func f=>simp [dD] at he; subst he; exact .fn _ _ _ _ _ rfl rfl (by simp) (by simp)
 | global g=>simp [dD] at he
def jT (T:Env)(ctx:Ctx):List Operand->Option (List V)
 | []=>some []
 | x::r=>match dD T ctx x,jT T ctx r with
  | some y,some ys=>some (y::ys)
  | _,_=>none
theorem RK {g:Gh}{w:World}{T:Env}{a:Act}{ctx:Ctx}(h:TR g w T a.tmps)(hc:eJ a.tmps ctx):∀ {xs:List Operand} {ys:List V},jT T ctx xs=some ys ->
  ys.length=xs.length /\ ∀ (i:Nat) x y,ys[i]?=some x->xs[i]?=some y->Rep g w x (a.eval y)
 | [],ys,he=>by simp [jT] at he; subst he; simp
 | o::r,ys,he=>by
  simp only [jT] at he;split at he
  ·rename_i y zs h1 h2
   simp at he;subst he;obtain⟨hl,hg⟩:=RK h hc h2;refine⟨by simp [hl],fun i x y' hx hy=>?_⟩
   cases i with
   | zero=>simp at hx hy; subst hx; subst hy; exact dG h hc h1
   | succ i=>simp at hx hy; exact hg i x y' hx hy
  ·simp at he
def uU (x y:ByteArray):Bool:=x.toList==y.toList
def strLt (x y:ByteArray):Bool:=Op.bytesLess x.toList y.toList
def cI (op:BinOp)(k:IntKind)(x y:Int):Int :=
 let a:=BitVec.ofInt k.bits x
 let b:=BitVec.ofInt k.bits y
 match op with
 | .and=>k.wrap (a &&& b).toNat
 | .or=>k.wrap (a ||| b).toNat
 | .xor=>k.wrap (a ^^^ b).toNat
 | _=>k.wrap (a &&& ~~~b).toNat
def bt (s:ByteArray)(i:Int):Int:=(s.data.getD i.toNat 0).toNat
def aAk (tt:TT)(op:BinOp)(t:TypeId)(x y:V):Option (List Prop×V) :=
 match x,y with
 | .lit (.int k a),.lit (.int k' b) =>
  match op with
  | .shl=>some ([0<=b],.lit (.int k (k.wrap (a*2 ^ (min b.toNat k.bits)))))
  | .shr=>some ([0<=b],.lit (.int k (a.fdiv (2 ^ (min b.toNat k.bits)))))
  | _ =>
  if k=k' then
   match op with
   | .add=>some ([],.lit (.int k (k.wrap (a+b))))
   | .sub=>some ([],.lit (.int k (k.wrap (a-b))))
   | .mul=>some ([],.lit (.int k (k.wrap (a*b))))
   | .quo=>some ([b≠0],.lit (.int k (k.wrap (a.tdiv b))))
   | .rem=>some ([b≠0],.lit (.int k (a.tmod b)))
   | .and=>some ([],.lit (.int k (cI .and k a b)))
   | .or=>some ([],.lit (.int k (cI .or k a b)))
   | .xor=>some ([],.lit (.int k (cI .xor k a b)))
   | .andNot=>some ([],.lit (.int k (cI .andNot k a b)))
   | .eql=>some ([],.lit (.bool (decide (a=b))))
   | .neq=>some ([],.lit (.bool (!decide (a=b))))
   | .lss=>some ([],.lit (.bool (decide (a<b))))
   | .leq=>some ([],.lit (.bool (decide (a<=b))))
   | .gtr=>some ([],.lit (.bool (decide (b<a))))
   | .geq=>some ([],.lit (.bool (decide (b<=a))))
   | _=>none
  else none
 | .lit (.string a),.lit (.string b) =>
  match op with
  | .add=>some ([a.size+b.size<=9223372036854775807],.lit (.string (a++b)))
  | .eql=>some ([],.lit (.bool (uU a b)))
  | .neq=>some ([],.lit (.bool (!uU a b)))
  | .lss=>some ([],.lit (.bool (strLt a b)))
  | .leq=>some ([],.lit (.bool (strLt a b||uU a b)))
  | .gtr=>some ([],.lit (.bool (!(strLt a b||uU a b))))
  | .geq=>some ([],.lit (.bool (!strLt a b)))
  | _=>none
 | .lit (.bool a),.lit (.bool b) =>
  match tt t with
  | some ⟨.bool,_,_,_⟩ =>
   match op with
   | .eql=>some ([],.lit (.bool (a==b)))
   | .neq=>some ([],.lit (.bool (!(a==b))))
   | _=>none
  | _=>none
 | _,_=>none
theorem aCR {P:Program}{w:World}{op:BinOp}{t:TypeId}{a b:Value}{oa ob:Operand}(ha:plain a=true)(hb:plain b=true)(hn:a ≠ .nilIface∨b ≠ .nilIface) :
  (eqGuard op t oa ob a b).run P w=.ok () w:=by
 unfold eqGuard
 cases op <;> (try rfl)
 all_goals (cases a <;> (try rfl) <;> cases b <;> first | rfl | (simp [plain] at ha; done) | (simp [plain] at hb; done) | (simp at hn))
theorem aHH {P:Program}{w:World}{t:TypeId}{a b:Bool}(hu:P.underlying t=some .bool):(Op.equal t (.bool a) (.bool b)).run P w=.ok (a==b) w:=by
 unfold Op.equal Op.maxDepth;unfold Op.equalIn;simp only [Sem.run_bind,run_underlying hu,Result.andThen];rfl
theorem aL2 {P:Program} {w:World} {tt:TT} {op:BinOp} {t:TypeId} {k k':IntKind} {p q:Int} {z:V} {Cs:List Prop}
  (h:aAk tt op t (.lit (.int k p)) (.lit (.int k' q))=some (Cs,z)) (hC:∀ c∈Cs,c) :
  ∃ v,(binOp op t (.int k p) (.int k' q)).run P w=.ok v w/\z=.lit v/\plain v=true:=by
 unfold aAk at h;by_cases hs:op=.shl∨op=.shr
 ·rcases hs with rfl | rfl <;> simp at h <;> obtain ⟨rfl,rfl⟩:=h
  all_goals
   have h0:¬ q<0:=by have:=hC (0<=q) (List.mem_cons_self ..);omega
   exact⟨_,by simp only [binOp,Op.shift,if_neg h0];rfl,rfl,rfl⟩
 ·by_cases hk:k=k'
  ·subst hk;have hkk:¬ (k≠k):=by simp
   cases op <;> simp at h hs <;> obtain ⟨rfl,rfl⟩:=h
   case quo=>exact ⟨_,by simp only [binOp,Op.intDiv,if_neg hkk,if_neg (show ¬ q=0 from hC _ (List.mem_cons_self ..))];rfl,rfl,rfl⟩
   case rem=>exact ⟨_,by simp only [binOp,Op.intDiv,if_neg hkk,if_neg (show ¬ q=0 from hC _ (List.mem_cons_self ..))];rfl,rfl,rfl⟩
   all_goals exact ⟨_,by simp only [binOp,if_neg hkk]; first | rfl | (simp only [Op.intCmp]; first | rfl | (simp [pure,Sem.run]; done)),rfl,rfl⟩
  ·cases op <;> simp [hk] at h hs
theorem aLt {P:Program} {w:World} {tt:TT} {op:BinOp} {t:TypeId} {p q:ByteArray} {z:V} {Cs:List Prop}
  (h:aAk tt op t (.lit (.string p)) (.lit (.string q))=some (Cs,z)) (hC:∀ c∈Cs,c) :
  ∃ v,(binOp op t (.string p) (.string q)).run P w=.ok v w/\z=.lit v/\plain v=true:=by
 unfold aAk at h
 cases op <;> simp only [reduceCtorEq,Option.some.injEq,Prod.mk.injEq] at h <;> obtain ⟨rfl,rfl⟩:=h
 case add =>
  have hC:=hC _ (List.mem_singleton.2 rfl);refine⟨_,?_,rfl,rfl⟩
  have : ¬ (((p.size+q.size:Nat):Int)>IntKind.i64.max):=by
   have : IntKind.i64.max=9223372036854775807:=by rfl
   omega
  simp only [binOp,Op.stringOp,if_neg this];rfl
 all_goals exact ⟨_,rfl,rfl,rfl⟩
theorem aKg {P:Program} {tt:TT} (htt:jO P tt) {w:World} {op:BinOp} {t:TypeId} {p q:Bool} {z:V} {Cs:List Prop}
  (h:aAk tt op t (.lit (.bool p)) (.lit (.bool q))=some (Cs,z)) :
  ∃ v,(binOp op t (.bool p) (.bool q)).run P w=.ok v w/\z=.lit v/\plain v=true:=by
 unfold aAk at h;simp only at h;split at h
 ·rename_i ht
  have hu:=(htt.facts ht).under
  cases op <;> simp at h <;> obtain ⟨rfl,rfl⟩:=h <;>
   exact⟨_,by simp only [binOp,Sem.run_bind,aHH hu,Result.andThen];rfl,rfl,rfl⟩
 ·simp at h
theorem aI6 {P:Program} {tt:TT} (htt:jO P tt) {g:Gh} {w:World} {op:BinOp} {t:TypeId} {x y z:V} {Cs:List Prop} {a b:Value} {oa ob:Operand}
  (hx:Rep g w x a) (hy:Rep g w y b) (h:aAk tt op t x y=some (Cs,z)) (hC:∀ c∈Cs,c) :
  ∃ v,(do eqGuard op t oa ob a b;binOp op t a b:Sem Value).run P w=.ok v w/\Rep g w z v:=by
 have fin:plain a=true->plain b=true->(a ≠ .nilIface∨b ≠ .nilIface)->(∃ v,(binOp op t a b).run P w=.ok v w/\z=.lit v/\plain v=true) ->
   ∃ v,(do eqGuard op t oa ob a b;binOp op t a b:Sem Value).run P w=.ok v w/\Rep g w z v:=by
  rintro ha hb hn ⟨v,hv,rfl,hp⟩;refine⟨v,?_,.lit v hp⟩;simp only [Sem.run_bind,aCR ha hb hn,Result.andThen,hv]
 match x,y,hx,hy,h with
 | .lit (.int k p),.lit (.int k' q),hx,hy,h=>cases hx; cases hy; exact fin rfl rfl (.inl (by simp)) (aL2 h hC)
 | .lit (.string p),.lit (.string q),hx,hy,h=>cases hx; cases hy; exact fin rfl rfl (.inl (by simp)) (aLt h hC)
 | .lit (.bool p),.lit (.bool q),hx,hy,h=>cases hx; cases hy; exact fin rfl rfl (.inl (by simp)) (aKg htt h)
def vY (x:V)(n:Nat):Bool:=match jM x with
 | true=>Nat.beq x.cells.length n
 | false=>false
def ZA (tt:TT)(t:TypeId)(cs:List V)(off:Nat):Option V :=
 match tt t with
 | some e=>match DJ e.d with
  | true=>match Nat.ble (off+e.size) cs.length with
   | true=>some (.agg ((cs.drop off).take e.size))
   | false=>none
  | false=>cs[off]?
 | none=>none
def aFX (f:TypeId->V->V->Option Bool)(tt:TT)(xs ys:List V):List Field->Option Bool
 | []=>some true
 | fd::r=>match fd.name == "_" with
  | true=>none
  | false=>match ZA tt fd.type xs fd.offset,ZA tt fd.type ys fd.offset with
   | some x,some y=>match f fd.type x y,aFX f tt xs ys r with
    | some a,some b=>some (a&&b)
    | _,_=>none
   | _,_=>none
def eqV (tt:TT):Nat->TypeId->V->V->Option Bool
 | 0,_,_,_=>none
 | _+1,t,.lit (.int k a),.lit (.int k' b)=>match tt t with
  | some ⟨.int _,_,_,_⟩=>if k=k' then some (decide (a=b)) else none
  | _=>none
 | _+1,t,.lit (.string a),.lit (.string b)=>match tt t with
  | some ⟨.string,_,_,_⟩=>some (uU a b)
  | _=>none
 | _+1,t,.lit (.bool a),.lit (.bool b)=>match tt t with
  | some ⟨.bool,_,_,_⟩=>some (a==b)
  | _=>none
 | d+1,t,.agg xs,.agg ys=>match tt t,tt.eq t with
  | some ⟨.struct fs,_,_,_⟩,true=>aFX (eqV tt d) tt xs ys fs.toList
  | _,_=>none
 | _,_,_,_=>none
def aJi (tt:TT)(op:BinOp)(t:TypeId)(x y:V):Option (List Prop×V) :=
 match x,y with
 | .agg xs,.agg ys=>match eqV tt 8 t (.agg xs) (.agg ys),op with
  | some b,.eql=>some ([],.lit (.bool b))
  | some b,.neq=>some ([],.lit (.bool (!b)))
  | _,_=>none
 | .fn _ _ _,.lit .nilFunc=>match tt t,op with
  | some ⟨.func _ _ _,_,_,_⟩,.eql=>some ([],.lit (.bool false))
  | some ⟨.func _ _ _,_,_,_⟩,.neq=>some ([],.lit (.bool true))
  | _,_=>none
 | x,y=>aAk tt op t x y
def aKZ (op:UnOp)(x:V):Option V :=
 match op,x with
 | .neg,.lit (.int k n)=>some (.lit (.int k (k.wrap (0-n))))
 | .xor,.lit (.int k n)=>some (.lit (.int k (cI .xor k (if k.signed then -1 else k.max) n)))
 | .not,.lit (.bool b)=>some (.lit (.bool (!b)))
 | _,_=>none
def putAt (cs:List V)(off:Nat):List V->List V
 | []=>cs
 | x::r=>putAt (cs.set off x) (off+1) r
def aCW (tt:TT)(fs:Array Field)(cs:List V):List (Nat×V)->Option (List V)
 | []=>some cs
 | (i,v)::rest =>
  match fs[i]? with
  | none=>none
  | some f=>match tt f.type with
   | none=>none
   | some e=>match Nat.beq v.cells.length e.size,Nat.ble (f.offset+v.cells.length) cs.length with
    | true,true=>aCW tt fs (putAt cs f.offset v.cells) rest
    | _,_=>none
def SS (T:Env)(ctx:Ctx):List (Nat×Operand)->Option (List (Nat×V))
 | []=>some []
 | (i,x)::r=>match dD T ctx x,SS T ctx r with
  | some y,some ys=>some ((i,y)::ys)
  | _,_=>none
def aGO (tt:TT)(t:TypeId)(x:V)(lo hi mx:Option V):Option (List Prop×V) :=
 match x with
 | .sl z n el =>
  match tt t with
  | some ⟨.slice e,_,_,_⟩ =>
   match tt e with
   | none=>none
   | some te =>
   match lo,hi,mx with
   | none,none,none=>some ([],.sl z n el)
   | some (.lit (.int _ l)),none,none=>match vY (el l.toNat) te.size with
    | true=>some ([0<=l/\l<=(n:Int)],.sl false (n-l.toNat) (fun i=>el (l.toNat+i)))
    | false=>none
   | none,some (.lit (.int _ h)),none=>some ([0<=h/\h<=(n:Int)],.sl z h.toNat el)
   | some (.lit (.int _ l)),some (.lit (.int _ h)),none=>match vY (el l.toNat) te.size with
    | true=>some ([0<=l/\l<=h/\h<=(n:Int)],.sl false (h.toNat-l.toNat) (fun i=>el (l.toNat+i)))
    | false=>none
   | none,some (.lit (.int _ (.ofNat 0))),some (.lit (.int _ (.ofNat 0)))=>some ([],.sl true 0 el)
   | none,some (.lit (.int _ h)),some (.lit (.int _ m))=>some ([0<=h/\h<=m/\m<=(n:Int)],.sl false h.toNat el)
   | some (.lit (.int _ l)),some (.lit (.int _ h)),some (.lit (.int _ m))=>match vY (el l.toNat) te.size with
    | true=>some ([0<=l/\l<=h/\h<=m/\m<=(n:Int)],.sl false (h.toNat-l.toNat) (fun i=>el (l.toNat+i)))
    | false=>none
   | _,_,_=>none
  | _=>none
 | .msl k l0 i n =>
  match tt t with
  | some ⟨.slice e,_,_,_⟩ =>
   match tt e with
   | none=>none
   | some te =>
   match Nat.beq k te.size with
   | false=>none
   | true =>
   match lo,hi,mx with
   | none,none,none=>some ([],.msl k l0 i n)
   | some (.lit (.int _ l)),none,none=>some ([0<=l/\l<=(n:Int)],.msl k l0 (i+l.toNat) (n-l.toNat))
   | none,some (.lit (.int _ h)),none=>some ([0<=h/\h<=(n:Int)],.msl k l0 i h.toNat)
   | some (.lit (.int _ l)),some (.lit (.int _ h)),none=>some ([0<=l/\l<=h/\h<=(n:Int)],.msl k l0 (i+l.toNat) (h.toNat-l.toNat))
   | _,_,_=>none
  | _=>none
 | .lit (.string s) =>
  match tt t with
  | some ⟨.string,_,_,_⟩ =>
   match lo,hi,mx with
   | none,none,none=>some ([],.lit (.string s))
   | some (.lit (.int _ l)),none,none=>some ([0<=l/\l<=(s.size:Int)],.lit (.string (s.extract l.toNat s.size)))
   | none,some (.lit (.int _ h)),none=>some ([0<=h/\h<=(s.size:Int)],.lit (.string (s.extract 0 h.toNat)))
   | some (.lit (.int _ l)),some (.lit (.int _ h)),none=>some ([0<=l/\l<=h/\h<=(s.size:Int)],.lit (.string (s.extract l.toNat h.toNat)))
   | _,_,_=>none
  | _=>none
 | _=>none
def aE3:List (Nat×V)->Bool
 | []=>true
 | p::r=>jM p.2&&aE3 r
def aE4 (tt:TT):List Field->Bool
 | []=>true
 | f::r=>(tt f.type).isSome&&aE4 tt r
def OH (T:Env)(ctx:Ctx):Option Operand->Option (Option V)
 | none=>some none
 | some x=>match dD T ctx x with
  | some y=>some (some y)
  | none=>none
def aFa:V->V->Option V
 | .lit (.int k x),.lit (.int k' y)=>if k=k' then some (.lit (.int k (if y<x then y else x))) else none
 | _,_=>none
def aGG:V->V->Option V
 | .lit (.int k x),.lit (.int k' y)=>if k=k' then some (.lit (.int k (if y>x then y else x))) else none
 | _,_=>none
def YN:TypeDesc->Bool
 | .interface _=>true
 | _=>false
def dX (tt:TT)(T:Env)(ctx:Ctx)(op:Op):Option (List Prop×V) :=
 match op with
 | .move x | .assign x=>match dD T ctx x with
  | some v=>some ([],v)
  | none=>none
 | .pick (.tmp c) a b=>match dD T ctx (.tmp c),dD T ((c,true)::ctx) a,dD T ((c,false)::ctx) b with
  | some (.lit (.bool x)),some (.lit (.bool y)),some (.lit (.bool z))=>some ([],.lit (.bool (cond x y z)))
  | _,_,_=>none
 | .binOp o t x y _=>match dD T ctx x,dD T ctx y with
  | some a,some b=>aJi tt o t a b
  | _,_=>none
 | .unOp o _ x=>match dD T ctx x with
  | some a=>match aKZ o a with
   | some v=>some ([],v)
   | none=>none
  | none=>none
 | .extract x i=>match dD T ctx x with
  | some (.tup vs)=>match vs[i]? with
   | some v=>some ([],v)
   | none=>none
  | _=>none
 | .fieldAddr s x f=>match dD T ctx x,tt s with
  | some v,some ⟨.struct fs,_,_,_⟩=>match fs[f]? with
   | some fd=>match tt fd.type with
    | some e=>match e.size with
     | 0=>none
     | _+1=>match v with
      | .rp (.agg cs)=>match ZA tt fd.type cs fd.offset with
       | some u=>some ([],.rp u)
       | none=>none
      | .lp l i o=>some ([],.lp l i (o+fd.offset))
      | _=>none
    | none=>none
   | none=>none
  | _,_=>none
 | .field s x f=>match dD T ctx x,tt s with
  | some (.agg cs),some ⟨.struct fs,_,_,_⟩=>match fs[f]? with
   | some fd=>match ZA tt fd.type cs fd.offset with
    | some u=>some ([],u)
    | none=>none
   | none=>none
  | _,_=>none
 | .indexAddr t x ix=>match dD T ctx x,dD T ctx ix,tt t with
  | some (.sl _ n el),some (.lit (.int _ j)),some ⟨.slice e,_,_,_⟩=>match tt e with
   | some te=>match vY (el j.toNat) te.size with
    | true=>some ([0<=j/\j<(n:Int)],.rp (el j.toNat))
    | false=>none
   | none=>none
  | some (.msl k l i n),some (.lit (.int _ j)),some ⟨.slice e,_,_,_⟩=>match tt e with
   | some te=>match Nat.beq k te.size with
    | true=>some ([0<=j/\j<(n:Int)],.lp l (i+j.toNat) 0)
    | false=>none
   | none=>none
  | _,_,_=>none
 | .index t x ix=>match dD T ctx x,dD T ctx ix,tt t with
  | some (.lit (.string s)),some (.lit (.int _ j)),some ⟨.string,_,_,_⟩=>some ([0<=j/\j<(s.size:Int)],.lit (.int .u8 (bt s j)))
  | _,_,_=>none
 | .load t x=>match dD T ctx x,tt t with
  | some (.rp v),some e=>match DJ e.d,v with
   | true,.agg cs=>match Nat.beq cs.length e.size with
    | true=>some ([],.agg cs)
    | false=>none
   | false,.agg _=>none
   | false,.tup _=>none
   | false,v=>some ([],v)
   | _,_=>none
  | _,_=>none
 | .slice t x lo hi mx=>match dD T ctx x,OH T ctx lo,OH T ctx hi,OH T ctx mx with
  | some v,some l,some h,some m=>aGO tt t v l h m
  | _,_,_,_=>none
 | .build t parts=>match tt t,SS T ctx parts.toList with
  | some ⟨.struct fs,_,_,.agg zs⟩,some ps=>match aE4 tt fs.toList&&aE3 ps with
   | true=>match aCW tt fs zs ps with
    | some cs=>some ([],.agg cs)
    | none=>none
   | false=>none
  | _,_=>none
 | .makeFunc fn first captured=>match jT T ctx first.toList,jT T ctx captured.toList with
  | some xs,some ys=>some ([],.fn fn xs ys)
  | _,_=>none
 | .convert src dst x=>match dD T ctx x,tt src,tt dst with
  | some (.lit (.int _ n)),some _,some ⟨.int k,_,_,_⟩=>some ([],.lit (.int k (k.wrap n)))
  | some (.lit (.string s)),some _,some ⟨.string,_,_,_⟩=>some ([],.lit (.string s))
  | _,_,_=>none
 | .call { callee:=.builtin .len,args,argTypes }=>match jT T ctx args.toList,argTypes[0]? with
  | some [x],some t=>match tt t,x with
   | some ⟨.slice _,_,_,_⟩,.sl _ n _=>some ([],.lit (.int .i64 n))
   | some ⟨.slice _,_,_,_⟩,.msl _ _ _ n=>some ([],.lit (.int .i64 n))
   | some ⟨.string,_,_,_⟩,.lit (.string s)=>some ([],.lit (.int .i64 s.size))
   | _,_=>none
  | _,_=>none
 | .call { callee:=.builtin .cap,args,argTypes }=>match jT T ctx args.toList,argTypes[0]? with
  | some [.sl true _ _],some t=>match tt t with
   | some ⟨.slice _,_,_,_⟩=>some ([],.lit (.int .i64 0))
   | _=>none
  | _,_=>none
 | .call { callee:=.builtin .min,args,.. }=>match jT T ctx args.toList with
  | some [x,y]=>match aFa x y with
   | some v=>some ([],v)
   | none=>none
  | some [x,y,z]=>match aFa x y with
   | some v=>match aFa v z with
    | some u=>some ([],u)
    | none=>none
   | none=>none
  | _=>none
 | .call { callee:=.builtin .max,args,.. }=>match jT T ctx args.toList with
  | some [x,y]=>match aGG x y with
   | some v=>some ([],v)
   | none=>none
  | some [x,y,z]=>match aGG x y with
   | some v=>match aGG v z with
    | some u=>some ([],u)
    | none=>none
   | none=>none
  | _=>none
 | .makeInterface t x=>match dD T ctx x,tt t with
  | some v,some e=>match YN e.d with
   | false=>some ([],.ifc t v)
   | true=>none
  | _,_=>none
 | .typeAssert x _ t ok=>match dD T ctx x,tt t with
  | some (.ifc u v),some e=>match YN e.d with
   | false=>match Nat.beq u t with
    | true=>match ok with
     | true=>some ([],.tup [v,.lit (.bool true)])
     | false=>some ([],v)
    | false=>match ok with
     | true=>some ([],.tup [e.zero,.lit (.bool false)])
     | false=>none
   | true=>none
  | some (.lit .nilIface),some e=>match YN e.d with
   | false=>match ok with
    | true=>some ([],.tup [e.zero,.lit (.bool false)])
    | false=>none
   | true=>none
  | _,_=>none
 | .nilCheck x=>match dD T ctx x with
  | some (.rp v)=>some ([],.rp v)
  | some (.lp l i o)=>some ([],.lp l i o)
  | some (.fn (.func f) a b)=>some ([],.fn (.func f) a b)
  | _=>none
 | _=>none
variable {P:Program} {tt:TT} {g:Gh} {w:World}
theorem pS {t:TypeId}{e:TyE}(f:aDI P t e)(w:World):(sizeOf t).run P w=.ok e.size w:=by
 obtain⟨⟨i,hi,hs,_⟩,_⟩:=f;simp [sizeOf,typeInfo,hi,hs]
theorem SZ {t:TypeId}{e:TyE}(f:aDI P t e)(w:World):(isAgg t).run P w=.ok (DJ e.d) w:=by
 simp only [isAgg,Sem.run_bind,run_underlying f.under,Result.andThen]
 cases e.d <;> rfl
theorem sS {x:V}{n:Nat}(h:vY x n=true):jM x=true/\x.cells.length=n:=by
 unfold vY at h;split at h
 ·rename_i hn;exact ⟨hn,Nat.eq_of_beq_eq_true h⟩
 ·cases h
def IN (g:Gh)(w:World)(cs:List V)(vs:Array Value):Prop :=
 cs.length=vs.size/\(∀ (i:Nat) x y,cs[i]?=some x->vs[i]?=some y->Rep g w x y)/\(∀ (i:Nat) y,vs[i]?=some y->one y=true)
theorem Rep.XJ {cs:List V}{v:Value}(h:Rep g w (.agg cs) v):∃ vs,v=.agg vs/\IN g w cs vs:=by
 cases h with
 | agg cs vs h1 h2 h3=>exact ⟨vs,rfl,h1,h2,h3⟩
theorem IN.rep {cs:List V}{vs:Array Value}(h:IN g w cs vs):Rep g w (.agg cs) (.agg vs):=.agg _ _ h.1 h.2.1 h.2.2
theorem Rep.CF {x:V}{v:Value}(h:Rep g w x v)(hn:jM x=true):IN g w x.cells v.cells:=by
 have single:∀ {x:V} {v:Value},Rep g w x v->x.cells=[x]->one v=true->IN g w x.cells v.cells:=by
  intro x v h hx ho;rw [hx,xV ho];refine⟨rfl,fun i a b ha hb=>?_,fun i b hb=>?_⟩
  ·cases i with
   | zero=>simp at ha hb; subst ha; subst hb; exact h
   | succ i=>simp at ha
  ·cases i with
   | zero=>simp at hb; subst hb; exact ho
   | succ i=>simp at hb
 have h':=h
 cases h with
 | agg cs vs h1 h2 h3=>exact ⟨h1,h2,h3⟩
 | tup=>simp [jM] at hn
 | lit v hp=>exact single h' rfl (aAw hp)
 | _=>exact single h' rfl rfl
theorem JV (htt:jO P tt){t:TypeId}{cs:List V}{off:Nat}{u:V}{vs:Array Value}(h:ZA tt t cs off=some u)(hr:IN g w cs vs) :
  ∃ v,(∀ w',(part t vs off).run P w'=.ok v w')/\Rep g w u v/\(∀ (j:Nat) x,v.cells[j]?=some x->vs[off+j]?=some x) /\
   ∃ e,tt t=some e/\((DJ e.d=true /\ ∃ us,v=.agg us/\us.size=e.size)∨(DJ e.d=false/\one v=true)):=by
 unfold ZA at h;split at h
 ·rename_i e he
  have f:=htt.facts he;split at h
  ·rename_i ha
   split at h
   ·rename_i hb
    simp at h;subst h;have hb:off+e.size<=cs.length:=Nat.le_of_ble_eq_true hb;refine⟨.agg (vs.extract off (off+e.size)),fun w'=>?_,?_,?_,e,he,.inl ⟨ha,_,rfl,by have:=hr.1;simp;omega⟩⟩
    ·simp only [part,Sem.run_bind,SZ f,ha,Result.andThen,if_true,pS f];rfl
    ·refine IN.rep ⟨?_,fun i x y hx hy=>?_,fun i y hy=>?_⟩
     ·have:=hr.1;simp;omega
     ·have h1:cs[off+i]?=some x:=by
       have h2:=hx;rw [List.getElem?_take] at h2;split at h2
       ·rwa [List.getElem?_drop] at h2
       ·cases h2
      have h3:vs[off+i]?=some y:=by
       rw [Array.getElem?_extract] at hy;split at hy
       ·exact hy
       ·cases hy
      exact hr.2.1 _ _ _ h1 h3
     ·rw [Array.getElem?_extract] at hy;split at hy
      ·exact hr.2.2 _ _ hy
      ·cases hy
    ·intro j x hx;simp only [Value.cells] at hx;rw [Array.getElem?_extract] at hx;split at hx
     ·exact hx
     ·cases hx
   ·simp at h
  ·rename_i ha
   have hlt:off<cs.length:=(List.getElem?_eq_some_iff.1 h).1;have hlt':off<vs.size:=by rw [←hr.1];exact hlt
   have hv:vs[off]?=some vs[off]:=Array.getElem?_eq_getElem hlt';refine⟨vs[off],fun w'=>?_,hr.2.1 _ _ _ h hv,fun j x hx=>?_,e,he,.inr ⟨ha,hr.2.2 _ _ hv⟩⟩
   ·simp only [part,Sem.run_bind,SZ f,ha,Result.andThen];simp only [Bool.false_eq_true,if_false];rw [hv];rfl
   ·rw [xV (hr.2.2 _ _ hv)] at hx
    cases j with
    | zero=>simp at hx; subst hx; exact hv
    | succ j=>simp at hx
 ·simp at h
theorem XW (htt:jO P tt) {t:TypeId} {e:TyE} (he:tt t=some e) {b o:Nat} {c:Value} (hh:EP w b o c)
  (hc:(DJ e.d=true /\ ∃ vs,c=.agg vs/\vs.size=e.size)∨(DJ e.d=false/\one c=true)):(loadVar t ⟨b,o,none⟩).run P w=.ok c w:=by
 have f:=htt.facts he
 have hadd:∀ j,(⟨b,o,none⟩:Addr).add j=⟨b,o+j,none⟩:=fun j=>by
  unfold Addr.add;split
  ·rename_i h0;subst h0;rfl
  ·rfl
 rcases hc with ⟨ha,vs,rfl,hs⟩ | ⟨ha,ho⟩
 ·have h1:=run_loadCells_list (P:=P) w ⟨b,o,none⟩ vs.toList (fun j v hj=>by rw [hadd];exact hh j v (by simpa [Value.cells] using hj));simp only [loadVar,Sem.run_bind,SZ f,ha,Result.andThen,if_true,pS f,←hs];rw [←Array.length_toList,h1];rfl
 ·have h0:=hh 0 c (by rw [xV ho];rfl);simp only [loadVar,Sem.run_bind,SZ f,ha,Result.andThen];simp only [Nat.add_zero] at h0;simp [h0]
theorem Rep.aDj {x:V}{v:Value}(h:Rep g w x v)(ha:∀ cs,x ≠ .agg cs)(ht:∀ cs,x ≠ .tup cs):one v=true:=by
 cases h with
 | agg cs=>exact absurd rfl (ha cs)
 | tup cs=>exact absurd rfl (ht cs)
 | lit v hp=>exact aAw hp
 | _=>rfl
theorem aHx {fs:Array Field}{places:Array (Nat×Nat)}(hpl:∀ (i:Nat) fd e,fs[i]?=some fd->tt fd.type=some e->places[i]?=some (fd.offset,e.size)) :
  ∀ {ps:List (Nat×V)} {qs:List (Nat×Value)} {cs:List V} {vs:Array Value} {us:List V},aCW tt fs cs ps=some us->IN g w cs vs ->
   ps.length=qs.length->(∀ (i:Nat) p q,ps[i]?=some p->qs[i]?=some q->p.1=q.1/\Rep g w p.2 q.2/\jM p.2=true) ->
   ∃ rs,Instr.fill (places[·]?) vs qs=some rs/\IN g w us rs:=by
 have put:∀ (xs:List V) (ys:List Value) (cs:List V) (vs:Array Value) (off k:Nat),IN g w cs vs->xs.length=ys.length ->
   (∀ (i:Nat) x y,xs[i]?=some x->ys[i]?=some y->Rep g w x y)->(∀ y∈ys,one y=true) ->
   IN g w (putAt cs (off+k) xs) ((ys.zipIdx k).foldl (fun cs (c,j)=>cs.setIfInBounds (off+j) c) vs):=by
  intro xs
  induction xs with
  | nil=>intro ys cs vs off k hr hl _ _; cases ys <;> simp at hl; simpa [putAt] using hr
  | cons x xs ih =>
   intro ys cs vs off k hr hl hrep hone
   cases ys with
   | nil=>simp at hl
   | cons y ys =>
    simp only [putAt,List.zipIdx_cons,List.foldl_cons];rw [Nat.add_assoc];refine ih ys _ _ off (k+1) ?_ (by simpa using hl) (fun i a b ha hb=>hrep (i+1) a b (by simpa using ha) (by simpa using hb)) (fun z hz=>hone z (List.mem_cons_of_mem _ hz));refine⟨by simp [hr.1],fun i a b ha hb=>?_,fun i b hb=>?_⟩
    ·rw [List.getElem?_set] at ha;rw [Array.getElem?_setIfInBounds] at hb;split at ha
     ·rename_i hi
      split at ha
      ·simp at ha;subst ha;rw [if_pos hi] at hb;split at hb
       ·simp at hb;subst hb;exact hrep 0 x y rfl rfl
       ·cases hb
      ·cases ha
     ·rename_i hi
      rw [if_neg hi] at hb;exact hr.2.1 i a b ha hb
    ·rw [Array.getElem?_setIfInBounds] at hb;split at hb
     ·split at hb
      ·simp at hb;subst hb;exact hone y (List.mem_cons_self ..)
      ·cases hb
     ·exact hr.2.2 i b hb
 intro ps
 induction ps with
 | nil =>
  intro qs cs vs us h hr hl _
  cases qs <;> simp at hl
  simp [aCW] at h;subst h;exact⟨vs,rfl,hr⟩
 | cons p ps ih =>
  intro qs cs vs us h hr hl hpq
  cases qs with
  | nil=>simp at hl
  | cons q qs =>
   obtain⟨i,x⟩:=p;obtain⟨i',y⟩:=q;obtain⟨rfl,hxy,hnt⟩:=hpq 0 _ _ rfl rfl;simp only [] at hxy hnt;have hcl:=hxy.CF hnt;simp only [aCW] at h;split at h
   ·simp at h
   ·rename_i fd hfd
    split at h
    ·simp at h
    ·rename_i e he
     split at h
     ·rename_i b5 b6
      have b5:x.cells.length=e.size:=Nat.eq_of_beq_eq_true b5;have b6:fd.offset+x.cells.length<=cs.length:=Nat.le_of_ble_eq_true b6;have hp:=hpl i fd e hfd he;simp only [Instr.fill,hp];have b7:y.cells.size=e.size:=by rw [←hcl.1];exact b5
      have b8:¬ (y.cells.size≠e.size||decide (fd.offset+y.cells.size>vs.size))=true:=by
       have:=hr.1;have:=hcl.1;simp [b7];omega
      simp only [if_neg b8];refine ih h ?_ (by simpa using hl) (fun j a b ha hb=>hpq (j+1) a b (by simpa using ha) (by simpa using hb))
      have:=put x.cells y.cells.toList cs vs fd.offset 0 hr (by simpa using hcl.1) (fun j a b ha hb=>hcl.2.1 j a b ha (by simpa using hb))
       (fun z hz=>by obtain ⟨j,hj,e⟩:=List.getElem_of_mem hz;exact hcl.2.2 j z (by simp at hj;simp [←e,hj]))
      simp only [Nat.add_zero] at this;rw [←Array.foldl_toList,Array.toList_zipIdx];exact this
     ·simp at h
theorem XB {T:Env}{a:Act}{ctx:Ctx}(htr:TR g w T a.tmps)(hc:eJ a.tmps ctx):∀ {ps:List (Nat×Operand)} {xs:List (Nat×V)},SS T ctx ps=some xs ->
  xs.length=ps.length /\ ∀ (i:Nat) x p,xs[i]?=some x->ps[i]?=some p->x.1=p.1/\Rep g w x.2 (a.eval p.2)
 | [],xs,h=>by simp [SS] at h; subst h; simp
 | (i,o)::r,xs,h=>by
  simp only [SS] at h;split at h
  ·rename_i y ys h1 h2
   simp at h;subst h;obtain⟨hl,hg⟩:=XB htr hc h2;refine⟨by simp [hl],fun j x p hx hp=>?_⟩
   cases j with
   | zero=>simp at hx hp; subst hx; subst hp; exact ⟨rfl,dG htr hc h1⟩
   | succ j=>simp at hx hp; exact hg j x p hx hp
  ·simp at h
theorem aD9:∀ {l:List (Nat×V)},aE3 l=true -> ∀ (i:Nat) p,l[i]?=some p->jM p.2=true
 | [],_,i,p,h=>by simp at h
 | q::r,h,i,p,hp=>by
  simp only [aE3,Bool.and_eq_true] at h
  cases i with
  | zero=>simp at hp; subst hp; exact h.1
  | succ i=>simp at hp; exact aD9 h.2 i p hp
theorem YR {T:Env}{a:Act}{ctx:Ctx}(htr:TR g w T a.tmps)(hc:eJ a.tmps ctx){x:Option Operand}{y:Option V}(h:OH T ctx x=some y) :
  (y=none/\x.map a.eval=none) ∨ ∃ z v,y=some z/\x.map a.eval=some v/\Rep g w z v:=by
 cases x with
 | none=>simp [OH] at h; exact .inl ⟨h.symm,rfl⟩
 | some x =>
  simp only [OH] at h;split at h
  ·rename_i z hz
   simp at h;subst h;exact .inr ⟨z,_,rfl,rfl,dG htr hc hz⟩
  ·simp at h
end Go.Abs
namespace Go.Abs
open Go IntKind Go.RowKit
variable {P:Program} {tt:TT} {g:Gh} {w:World}
theorem Rep.aN5 {t:TypeId}{x:V}{u:Value}(h:Rep g w (.ifc t x) u):∃ c,u=.iface t c/\Rep g w x c:=by cases h with | ifc _ _ c h=>exact ⟨c,rfl,h⟩
theorem Rep.aLK {v u:Value}(h:Rep g w (.lit v) u):plain v=true:=by cases h;assumption
theorem Rep.qJ {v u:Value}(h:Rep g w (.lit v) u):u=v:=by cases h;rfl
theorem QF (k:IntKind)(n:Int)(w:World):(asIntOf (.int k n)).run P w=.ok (k,n) w:=rfl
theorem CE (b o n:Nat):(⟨b,o,none⟩:Addr).add n=⟨b,o+n,none⟩:=by
 unfold Addr.add;split
 ·rename_i h;subst h;rfl
 ·rfl
theorem nZ {k:IntKind}{i:Int}{y:Nat}{code:BoundsCode}(h0:0<=i)(h1:i<=y)(w:World):(Instr.sliceBound (.int k i) y code).run P w=.ok i.toNat w:=by
 simp only [Instr.sliceBound,Sem.run_bind,QF,Result.andThen,if_pos (And.intro h0 h1)];rfl
theorem aDY {n:Nat} {el:Nat->V} {a:Option Addr} {cap l h m size:Nat} {z:Bool} (hr:Rep g w (.sl z n el) (.slice a n cap)) (hs:l<h->vY (el l) size=true)
  (hl:l<=h) (hh:h<=n) (hm:h<=m) :
  Rep g w (.sl false (h-l) (fun i=>el (l+i))) (.slice (if m=l then a else a.map (·.add (l*size))) (h-l) (m-l)):=by
 by_cases e:l<h
 ·cases hr with
  | sl0=>omega
  | sl n el b o k cap c h1 h2 h3 h4 h5 h6 =>
   have hsz:k=size:=by rw [←(sS (hs e)).2,←h2 l (by omega),((h1 l (by omega)).CF (sS (hs e)).1).1]
   subst hsz;rw [if_neg (by omega)];simp only [Option.map_some,CE];refine .sl _ _ b (o+l*k) k _ (fun i=>c (l+i)) (fun i hi=>h1 _ (by omega)) (fun i hi=>h2 _ (by omega)) (fun i hi=>?_) (fun i hi j hj=>?_) (by omega) (fun i hi=>h6 _ (by omega))
   ·have:=h3 (l+i) (by omega);rwa [Nat.add_mul,←Nat.add_assoc] at this
   ·have:=h4 (l+i) (by omega) j hj;rwa [Nat.add_mul,←Nat.add_assoc] at this
 ·have : h-l=0:=by omega
  rw [this];exact .sl0 _ _ _ _ (by simp)
theorem Rep.slE {z:Bool}{n:Nat}{el:Nat->V}{v:Value}(h:Rep g w (.sl z n el) v):∃ a cap,v=.slice a n cap/\n<=cap/\(z=true->cap=0):=by
 cases h with
 | sl0 z el a cap hz=>exact ⟨a,cap,rfl,Nat.zero_le _,hz⟩
 | sl n el b o k cap c _ _ _ _ h _=>exact ⟨_,cap,rfl,h,by simp⟩
theorem aFc {n:Nat}{el:Nat->V}{a:Option Addr}{cap h m:Nat}{z:Bool}(hr:Rep g w (.sl z n el) (.slice a n cap))(hh:h<=n)(hm:h<=m) :
  Rep g w (.sl false h el) (.slice a h m):=by
 by_cases e:h=0
 ·subst e;exact .sl0 _ _ _ _ (by simp)
 ·cases hr with
  | sl0=>omega
  | sl n el b o k cap c h1 h2 h3 h4 h5 h6=>exact .sl _ _ b o k _ c (fun i hi=>h1 i (by omega)) (fun i hi=>h2 i (by omega)) (fun i hi=>h3 i (by omega)) (fun i hi=>h4 i (by omega)) hm (fun i hi=>h6 i (by omega))
theorem aME {k l0 i n:Nat}{v:Value}(hx:Rep g w (.msl k l0 i n) v):∃ a cap,v=.slice a n cap/\n<=cap /\
  ∀ L H,L<=H->H<=n->Rep g w (.msl k l0 (i+L) (H-L)) (.slice (if cap=L then a else a.map (·.add (L*k))) (H-L) (cap-L)):=by
 cases hx with
 | msl l i n hl hc =>
  refine⟨_,_,rfl,by omega,fun L H hLH hH=>?_⟩;by_cases hcL:g.cap l0-i=L
  ·rw [if_pos hcL];have h0:H-L=0:=by omega
   rw [h0,hcL,Nat.sub_self];exact .msl0 _ _ _ hl (by omega)
  ·rw [if_neg hcL];simp only [Option.map_some,CE];have:=Rep.msl (g:=g) (w:=w) l0 (i+L) (H-L) hl (by omega);rw [Nat.add_mul,←Nat.add_assoc] at this
   rwa [show g.cap l0-i-L=g.cap l0-(i+L) by omega]
 | msl0 l i a hl hc =>
  refine⟨_,_,rfl,by omega,fun L H hLH hH=>?_⟩;have h1:L=0:=by omega
  have h2:H=0:=by omega
  subst h1;subst h2;simp only [if_true];exact .msl0 _ _ _ hl hc
abbrev OO (g:Gh)(w:World)(lo:Option V)(l':Option Value):Prop:=(lo=none/\l'=none) ∨ ∃ y u,lo=some y/\l'=some u/\Rep g w y u
theorem OO.none {l':Option Value}(h:OO g w none l'):l'=none:=by
 rcases h with ⟨_,h⟩ | ⟨_,_,h,_⟩
 ·exact h
 ·cases h
theorem OO.lit {c:Value}{l':Option Value}(h:OO g w (some (.lit c)) l'):l'=some c:=by
 rcases h with ⟨h,_⟩ | ⟨_,_,h,h',hr⟩
 ·cases h
 ·cases h;rw [h',hr.qJ]
section bounds
variable {b:Bool} {len cap:Nat} {kl kh km:IntKind} {l h m:Int}
theorem aBZ (h0:0<=l)(h1:l<=len)(w:World):(Instr.sliceBounds b len cap (some (.int kl l)) none none).run P w=.ok (l.toNat,len,cap) w:=by
 simp only [Instr.sliceBounds,Sem.run_bind,Sem.run_pure,Result.andThen,nZ (P:=P) h0 h1]
theorem aCw (h0:0<=h)(h1:h<=cap)(w:World):(Instr.sliceBounds b len cap none (some (.int kh h)) none).run P w=.ok (0,h.toNat,cap) w:=by
 simp only [Instr.sliceBounds,Sem.run_bind,Sem.run_pure,Result.andThen,nZ (P:=P) h0 h1]
theorem aAj (h0:0<=l)(h1:l<=h)(h2:h<=cap)(w:World):(Instr.sliceBounds b len cap (some (.int kl l)) (some (.int kh h)) none).run P w=.ok (l.toNat,h.toNat,cap) w:=by
 simp only [Instr.sliceBounds,Sem.run_bind,Sem.run_pure,Result.andThen,nZ (P:=P) (Int.le_trans h0 h1) h2,nZ (P:=P) (y:=h.toNat) h0 (by omega)]
theorem aEt (h0:0<=h)(h1:h<=m)(h2:m<=cap)(w:World):(Instr.sliceBounds b len cap none (some (.int kh h)) (some (.int km m))).run P w=.ok (0,h.toNat,m.toNat) w:=by
 simp only [Instr.sliceBounds,Sem.run_bind,Sem.run_pure,Result.andThen,nZ (P:=P) (Int.le_trans h0 h1) h2,nZ (P:=P) (y:=m.toNat) h0 (by omega)]
theorem aJf (h0:0<=l)(h1:l<=h)(h2:h<=m)(h3:m<=cap)(w:World) :
  (Instr.sliceBounds b len cap (some (.int kl l)) (some (.int kh h)) (some (.int km m))).run P w=.ok (l.toNat,h.toNat,m.toNat) w:=by
 simp only [Instr.sliceBounds,Sem.run_bind,Sem.run_pure,Result.andThen,nZ (P:=P) (show 0<=m by omega) h3,nZ (P:=P) (i:=h) (y:=m.toNat) (by omega) (by omega),
  nZ (P:=P) (y:=h.toNat) h0 (by omega)]
end bounds
theorem aF2 (htt:jO P tt) {t:TypeId} {x:V} {lo hi mx:Option V} {Cs:List Prop} {z:V} {v:Value} {l' h' m':Option Value}
  (h:aGO tt t x lo hi mx=some (Cs,z)) (hC:∀ c∈Cs,c) (hx:Rep g w x v) (hl:OO g w lo l') (hh:OO g w hi h') (hm:OO g w mx m') :
  ∃ u,(Instr.sliceAt t v l' h' m').run P w=.ok u w/\Rep g w z u:=by
 unfold aGO at h;split at h
 ·rename_i zf n el
  obtain⟨a,cap,rfl,hn,hz⟩:=hx.slE;split at h
  ·rename_i e _ _ _ ht
   split at h
   ·simp at h
   ·rename_i te hte
    have hu:=(htt.facts ht).under;have hsz:=pS (htt.facts hte)
    have main:∀ (L H M:Nat),(Instr.sliceBounds true n cap l' h' m').run P w=.ok (L,H,M) w ->
      (Instr.sliceAt t (.slice a n cap) l' h' m').run P w=.ok (.slice (if M=L then a else a.map (·.add (L*te.size))) (H-L) (M-L)) w:=by
     intro L H M hr;simp only [Instr.sliceAt,Sem.run_bind,run_underlying hu,Result.andThen,Instr.slice,hr,hsz];rfl
    have b5:∀ M:Nat,(if M=0 then a else a.map (·.add (0*te.size)))=a:=by
     intro M;split
     ·rfl
     ·cases a <;> simp [Addr.add]
    split at h
    ·cases hl.none;cases hh.none;cases hm.none
     simp at h;obtain ⟨rfl,rfl⟩:=h;refine⟨_,main 0 n cap (by rfl),?_⟩;rw [b5];simpa using hx
    ·rename_i k l
     cases hl.lit;cases hh.none;cases hm.none
     split at h
     ·rename_i hso
      simp at h;obtain ⟨rfl,rfl⟩:=h;have hC:=hC _ (List.mem_singleton.2 rfl);exact⟨_,main _ _ _ (aBZ hC.1 hC.2 w),aDY hx (fun _=>hso) (by omega) (by omega) hn⟩
     ·simp at h
    ·rename_i k b6
     cases hl.none;cases hh.lit;cases hm.none
     simp at h;obtain ⟨rfl,rfl⟩:=h;have hC:=hC _ (List.mem_singleton.2 rfl);refine⟨_,main _ _ _ (aCw hC.1 (by omega) w),?_⟩;rw [b5]
     cases zf with
     | false=>exact aFc hx (by omega) (by omega)
     | true =>
      have b7:=hz rfl;rw [show b6.toNat=0 by omega,b7];exact .sl0 _ _ _ _ (fun _=>rfl)
    ·rename_i k l k' b6
     cases hl.lit;cases hh.lit;cases hm.none
     split at h
     ·rename_i hso
      simp at h;obtain ⟨rfl,rfl⟩:=h;have hC:=hC _ (List.mem_singleton.2 rfl);exact⟨_,main _ _ _ (aAj hC.1 hC.2.1 (by omega) w),aDY hx (fun _=>hso) (by omega) (by omega) (by omega)⟩
     ·simp at h
    ·rename_i k k'
     cases hl.none;cases hh.lit;cases hm.lit
     simp at h;obtain ⟨rfl,rfl⟩:=h;refine⟨_,main _ _ _ (aEt (h:=0) (m:=0) (by omega) (by omega) (by omega) w),?_⟩;rw [show (0:Int).toNat=0 from rfl,b5];exact .sl0 _ _ _ _ (fun _=>rfl)
    ·rename_i k b6 k' mm _
     cases hl.none;cases hh.lit;cases hm.lit
     simp at h;obtain ⟨rfl,rfl⟩:=h;have hC:=hC _ (List.mem_singleton.2 rfl);refine⟨_,main _ _ _ (aEt hC.1 hC.2.1 (by omega) w),?_⟩;rw [b5];exact aFc hx (by omega) (by omega)
    ·rename_i k l k' b6 k'' mm
     cases hl.lit;cases hh.lit;cases hm.lit
     split at h
     ·rename_i hso
      simp at h;obtain ⟨rfl,rfl⟩:=h;have hC:=hC _ (List.mem_singleton.2 rfl);exact⟨_,main _ _ _ (aJf hC.1 hC.2.1 hC.2.2.1 (by omega) w),aDY hx (fun _=>hso) (by omega) (by omega) (by omega)⟩
     ·simp at h
    ·simp at h
  ·simp at h
 ·rename_i k l0 i n
  split at h
  ·rename_i e _ _ _ ht
   split at h
   ·simp at h
   ·rename_i te hte
    split at h
    ·simp at h
    ·rename_i hkb
     have hk:k=te.size:=Nat.eq_of_beq_eq_true hkb;obtain⟨a,cap,rfl,hn,hcut⟩:=aME hx;have hu:=(htt.facts ht).under;have hsz:=pS (htt.facts hte)
     have main:∀ (L H:Nat),L<=H->H<=n->(Instr.sliceBounds true n cap l' h' m').run P w=.ok (L,H,cap) w ->
       ∃ u,(Instr.sliceAt t (.slice a n cap) l' h' m').run P w=.ok u w/\Rep g w (.msl k l0 (i+L) (H-L)) u:=by
      intro L H hLH hHn hr;refine⟨_,?_,hcut L H hLH hHn⟩;simp only [Instr.sliceAt,Sem.run_bind,run_underlying hu,Result.andThen,Instr.slice,hr,hsz,hk];rfl
     split at h
     ·cases hl.none;cases hh.none;cases hm.none
      simp at h;obtain ⟨rfl,rfl⟩:=h;have:=main 0 n (Nat.zero_le _) (Nat.le_refl _) (by rfl)
      simpa using this
     ·cases hl.lit;cases hh.none;cases hm.none
      simp at h;obtain ⟨rfl,rfl⟩:=h;have hC:=hC _ (List.mem_singleton.2 rfl);exact main _ _ (by omega) (Nat.le_refl _) (aBZ hC.1 hC.2 w)
     ·cases hl.none;cases hh.lit;cases hm.none
      simp at h;obtain ⟨rfl,rfl⟩:=h;have hC:=hC _ (List.mem_singleton.2 rfl);have:=main 0 _ (Nat.zero_le _) (by omega) (aCw hC.1 (by omega) w)
      simpa using this
     ·cases hl.lit;cases hh.lit;cases hm.none
      simp at h;obtain ⟨rfl,rfl⟩:=h;have hC:=hC _ (List.mem_singleton.2 rfl);exact main _ _ (by omega) (by omega) (aAj hC.1 hC.2.1 (by omega) w)
     ·simp at h
  ·simp at h
 ·rename_i s
  cases hx.qJ
  split at h
  ·rename_i ht
   have hu:=(htt.facts ht).under
   have main:∀ (L H M:Nat),(Instr.sliceBounds false s.size s.size l' h' none).run P w=.ok (L,H,M) w->m'=none ->
     (Instr.sliceAt t (.string s) l' h' m').run P w=.ok (.string (s.extract L H)) w:=by
    rintro L H M hr rfl;simp only [Instr.sliceAt,Sem.run_bind,run_underlying hu,Result.andThen,Instr.slice,Option.isSome_none,Bool.false_eq_true,if_false,Sem.run_pure,hr]
   split at h
   ·cases hl.none;cases hh.none;cases hm.none
    simp at h;obtain ⟨rfl,rfl⟩:=h;refine⟨_,main 0 s.size s.size (by rfl) rfl,?_⟩;rw [show s.extract 0 s.size=s by simp];exact .lit _ rfl
   ·cases hl.lit;cases hh.none;cases hm.none
    simp at h;obtain ⟨rfl,rfl⟩:=h;have hC:=hC _ (List.mem_singleton.2 rfl);exact⟨_,main _ _ _ (aBZ hC.1 hC.2 w) rfl,.lit _ rfl⟩
   ·cases hl.none;cases hh.lit;cases hm.none
    simp at h;obtain ⟨rfl,rfl⟩:=h;have hC:=hC _ (List.mem_singleton.2 rfl);exact⟨_,main _ _ _ (aCw hC.1 hC.2 w) rfl,.lit _ rfl⟩
   ·cases hl.lit;cases hh.lit;cases hm.none
    simp at h;obtain ⟨rfl,rfl⟩:=h;have hC:=hC _ (List.mem_singleton.2 rfl);exact⟨_,main _ _ _ (aAj hC.1 hC.2.1 hC.2.2 w) rfl,.lit _ rfl⟩
   ·simp at h
  ·simp at h
 ·simp at h
end Go.Abs
namespace Go.Abs
open Go IntKind Go.RowKit
variable {P:Program} {tt:TT} {g:Gh} {w:World}
theorem Rep.aN9 {cs:List V}{v:Value}(h:Rep g w (.tup cs) v):∃ vs,v=.tuple vs/\cs.length=vs.size /\ ∀ (i:Nat) x y,cs[i]?=some x->vs[i]?=some y->Rep g w x y:=by
 cases h with
 | tup cs vs h1 h2=>exact ⟨vs,rfl,h1,h2⟩
theorem Rep.rpE {x:V}{v:Value}(h:Rep g w (.rp x) v):∃ c b o,v=.pointer (some ⟨b,o,none⟩)/\Rep g w x c/\EP w b o c /\ ∀ j,j<c.cells.size->g.fx b (o+j):=by
 cases h with
 | rp x c b o h1 h2 h3=>exact ⟨c,b,o,rfl,h1,h2,h3⟩
theorem Rep.lpE {l i o:Nat}{v:Value}(h:Rep g w (.lp l i o) v):l<g.n/\v=.pointer (some ⟨g.blk l,g.off l+i*g.k l+o,none⟩):=by
 cases h with
 | lp l i o h1=>exact ⟨h1,rfl⟩
theorem aNO {T:Env}{a:Act}{ctx:Ctx}(htr:TR g w T a.tmps)(hc:eJ a.tmps ctx){t:Nat}{y:V}(he:dD T ctx (.tmp t)=some y):a.tmps[t]?=some (a.eval (.tmp t)):=by
 simp only [dD] at he;split at he
 ·rename_i c z hz
  split at he
  ·rename_i hs
   obtain⟨v,hv,_⟩:=(htr t c z hz).1 (aAC hs hc);simp [Act.eval,hv]
  ·simp at he
 ·simp at he
theorem ZM {s:Sem Value}{v:Value}{w w':World}(h:s.run P w=.ok v w'):(do pure (Next.value (←s)):Sem Next).run P w=.ok (.value v) w':=by
 simp only [Sem.run_bind,h,Result.andThen];rfl
theorem ZJ {x y z:V}{a b:Value}(h:aFa x y=some z)(hx:Rep g w x a)(hy:Rep g w y b):∃ v,(Builtin.min2 a b).run P w=.ok v w/\Rep g w z v:=by
 unfold aFa at h;split at h
 ·split at h
  ·rename_i hk;subst hk
   simp at h;subst h
   cases hx.qJ;cases hy.qJ
   exact⟨_,rfl,.lit _ rfl⟩
  ·simp at h
 ·simp at h
theorem ZL {x y z:V}{a b:Value}(h:aGG x y=some z)(hx:Rep g w x a)(hy:Rep g w y b):∃ v,(Builtin.max2 a b).run P w=.ok v w/\Rep g w z v:=by
 unfold aGG at h;split at h
 ·split at h
  ·rename_i hk;subst hk
   simp at h;subst h
   cases hx.qJ;cases hy.qJ
   exact⟨_,rfl,.lit _ rfl⟩
  ·simp at h
 ·simp at h
theorem args2 {T:Env}{a:Act}{ctx:Ctx}(htr:TR g w T a.tmps)(hc:eJ a.tmps ctx){args:Array Operand}{x y:V}(he:jT T ctx args.toList=some [x,y]) :
  ∃ u v,args.map a.eval=#[u,v]/\Rep g w x u/\Rep g w y v:=by
 obtain⟨hl,hg⟩:=RK htr hc he;obtain⟨l⟩:=args;simp only at hl hg
 match l,hl,hg with
 | [p,q],_,hg=>exact ⟨a.eval p,a.eval q,by simp,hg 0 _ _ rfl rfl,hg 1 _ _ rfl rfl⟩
theorem aMc {T:Env}{a:Act}{ctx:Ctx}(htr:TR g w T a.tmps)(hc:eJ a.tmps ctx){args:Array Operand}{x y z:V}(he:jT T ctx args.toList=some [x,y,z]) :
  ∃ u v r,args.map a.eval=#[u,v,r]/\Rep g w x u/\Rep g w y v/\Rep g w z r:=by
 obtain⟨hl,hg⟩:=RK htr hc he;obtain⟨l⟩:=args;simp only at hl hg
 match l,hl,hg with
 | [p,q,s],_,hg=>exact ⟨a.eval p,a.eval q,a.eval s,by simp,hg 0 _ _ rfl rfl,hg 1 _ _ rfl rfl,hg 2 _ _ rfl rfl⟩
theorem args1 {T:Env}{a:Act}{ctx:Ctx}(htr:TR g w T a.tmps)(hc:eJ a.tmps ctx){args:Array Operand}{x:V}(he:jT T ctx args.toList=some [x]) :
  ∃ u,args.map a.eval=#[u]/\Rep g w x u:=by
 obtain⟨hl,hg⟩:=RK htr hc he;obtain⟨l⟩:=args;simp only at hl hg
 match l,hl,hg with
 | [p],_,hg=>exact ⟨a.eval p,by simp,hg 0 _ _ rfl rfl⟩
theorem Rep.fnE {f:Fn}{xs ys:List V}{v:Value}(h:Rep g w (.fn f xs ys) v):∃ fs cs,v=.func f fs cs/\xs.length=fs.size/\ys.length=cs.size /\
  (∀ (i:Nat) x y,xs[i]?=some x->fs[i]?=some y->Rep g w x y)/\(∀ (i:Nat) x y,ys[i]?=some x->cs[i]?=some y->Rep g w x y):=by
 cases h with
 | fn f first cap fs cs h1 h2 h3 h4=>exact ⟨fs,cs,rfl,h1,h2,h3,h4⟩
theorem aHs (htt:jO P tt){fs:Array Field}(h:∀ (i:Nat) f,fs[i]?=some f -> ∃ e,tt f.type=some e)(w:World) :
  ∃ pl:Array (Nat×Nat),(fs.mapM fun f=>do pure (f.offset,←sizeOf f.type):Sem (Array (Nat×Nat))).run P w=.ok pl w /\ ∀ (i:Nat) fd e,fs[i]?=some fd->tt fd.type=some e->pl[i]?=some (fd.offset,e.size):=by
 have key:∀ (l:List Field) (acc:Array (Nat×Nat)),(∀ f∈l,∃ e,tt f.type=some e) ->
   ∃ rs:List (Nat×Nat),(∀ (i:Nat) fd e,l[i]?=some fd->tt fd.type=some e->rs[i]?=some (fd.offset,e.size))/\rs.length=l.length /\
    (l.mapM fun f=>do pure (f.offset,←sizeOf f.type):Sem (List (Nat×Nat))).run P w=.ok rs w:=by
  intro l
  induction l with
  | nil=>intro acc _; exact ⟨[],by simp,rfl,rfl⟩
  | cons f l ih =>
   intro acc hl;obtain⟨e,he⟩:=hl f (List.mem_cons_self ..);obtain⟨rs,h1,h2,h3⟩:=ih acc (fun f hf=>hl f (List.mem_cons_of_mem _ hf));refine⟨(f.offset,e.size)::rs,fun i fd e' hfd he'=>?_,by simp [h2],?_⟩
   ·cases i with
    | zero=>simp at hfd; subst hfd; rw [he] at he'; cases he'; rfl
    | succ i=>simp at hfd; simpa using h1 i fd e' hfd he'
   ·simp only [List.mapM_cons,Sem.run_bind,pS (htt.facts he),Result.andThen,h3,Sem.run_pure]
 obtain⟨rs,h1,h2,h3⟩:=key fs.toList #[] (fun f hf=>by
  obtain⟨i,hi,e⟩:=List.getElem_of_mem hf;exact h i f (by simp at hi;simp [←e,hi]))
 refine⟨rs.toArray,?_,fun i fd e hfd he=>by simpa using h1 i fd e (by simpa using hfd) he⟩;rw [Array.mapM_eq_mapM_toList]
 change Sem.run P ((fs.toList.mapM fun f=>do pure (f.offset,←sizeOf f.type):Sem (List (Nat×Nat))).bind fun x=>Sem.pure x.toArray) w=_
 exact (Sem.run_bind ..).trans (by rw [h3];rfl)
theorem aEa:∀ {l:List Field},aE4 tt l=true -> ∀ (i:Nat) f,l[i]?=some f -> ∃ e,tt f.type=some e
 | [],_,i,f,h=>by simp at h
 | q::r,h,i,f,hf=>by
  simp only [aE4,Bool.and_eq_true] at h
  cases i with
  | zero=>simp at hf; subst hf; exact Option.isSome_iff_exists.1 h.1
  | succ i=>simp at hf; exact aEa h.2 i f hf
theorem aDl (htt:jO P tt) {T:Env} {a:Act} {ctx:Ctx} (htr:TR g w T a.tmps) (hc:eJ a.tmps ctx) {s:TypeId} {x:Operand} {f:Nat} {Cs:List Prop} {z:V}
  (h:dX tt T ctx (.fieldAddr s x f)=some (Cs,z)):∃ v,(Instr.fieldAt s (a.eval x) f).run P w=.ok v w/\Rep g w z v:=by
 simp only [dX] at h;split at h
 ·rename_i v fs _ _ _ hv hs
  split at h
  ·rename_i fd hfd
   split at h
   ·rename_i e he
    split at h
    ·simp at h
    ·rename_i k hk
     have hu:=(htt.facts hs).under;have hsz:=pS (P:=P) (htt.facts he);have hrep:=dG htr hc hv
     have main:∀ b o,a.eval x=.pointer (some ⟨b,o,none⟩)->(Instr.fieldAt s (a.eval x) f).run P w=.ok (.pointer (some ⟨b,o+fd.offset,none⟩)) w:=by
      intro b o hbo;rw [hbo];simp only [Instr.fieldAt,Sem.run_bind,run_underlying hu,Result.andThen,hfd,Instr.sureAddr,Sem.run_pure,fieldPlace,hsz,hk];rw [if_neg (by omega),CE];rfl
     split at h
     ·rename_i cs
      split at h
      ·rename_i u hpu
       simp at h;obtain ⟨rfl,rfl⟩:=h;obtain⟨c,b,o,hbo,h1,h2,h3⟩:=hrep.rpE;obtain⟨pv,_,hr,hcells,_⟩:=JV htt hpu (h1.CF rfl);refine⟨_,main b o hbo,.rp _ pv _ _ hr (fun j x hx=>?_) (fun j hj=>?_)⟩
       ·rw [Nat.add_assoc];exact h2 _ _ (hcells j x hx)
       ·rw [Nat.add_assoc];have:=hcells j _ (Array.getElem?_eq_getElem hj);exact h3 _ (Array.getElem?_eq_some_iff.1 this).1
      ·simp at h
     ·rename_i l i o
      simp at h;obtain ⟨rfl,rfl⟩:=h;obtain⟨hl,hbo⟩:=hrep.lpE;refine⟨_,main _ _ hbo,?_⟩;rw [Nat.add_assoc];exact .lp l i _ hl
     ·simp at h
   ·simp at h
  ·simp at h
 ·simp at h
theorem aIL (htt:jO P tt) {T:Env} {a:Act} {ctx:Ctx} (htr:TR g w T a.tmps) (hc:eJ a.tmps ctx) {t:TypeId} {x:Operand} {Cs:List Prop} {z:V}
  (h:dX tt T ctx (.load t x)=some (Cs,z)):∃ v,(Instr.loadAt t (a.eval x)).run P w=.ok v w/\Rep g w z v:=by
 simp only [dX] at h;split at h
 ·rename_i v e hv he
  obtain⟨c,b,o,hbo,h1,h2,h3⟩:=(dG htr hc hv).rpE
  have main:(DJ e.d=true/\(∃ vs,c=.agg vs/\vs.size=e.size))∨(DJ e.d=false/\one c=true)->(Instr.loadAt t (a.eval x)).run P w=.ok c w:=by
   intro hcase;rw [hbo];simp only [Instr.loadAt,Instr.sureAddr,Sem.run_bind,Sem.run_pure,Result.andThen];exact XW htt he h2 hcase
  split at h
  ·rename_i cs ha
   split at h
   ·rename_i hl
    simp at h;obtain ⟨rfl,rfl⟩:=h;obtain⟨vs,rfl,hr⟩:=h1.XJ;exact⟨_,main (.inl ⟨ha,vs,rfl,by rw [←hr.1];exact Nat.eq_of_beq_eq_true hl⟩),h1⟩
   ·simp at h
  ·simp at h
  ·simp at h
  ·rename_i ha hna hnt
   simp at h;obtain ⟨rfl,rfl⟩:=h;exact⟨_,main (.inr ⟨ha,h1.aDj (fun cs e=>hna cs e) (fun cs e=>hnt cs e)⟩),h1⟩
  ·simp at h
 ·simp at h
theorem aDa (htt:jO P tt) {T:Env} {a:Act} {ctx:Ctx} (htr:TR g w T a.tmps) (hc:eJ a.tmps ctx) {t:TypeId} {x ix:Operand} {Cs:List Prop} {z:V}
  (h:dX tt T ctx (.indexAddr t x ix)=some (Cs,z)) (hC:∀ c∈Cs,c):∃ v,(Instr.indexAt t (a.eval x) (a.eval ix)).run P w=.ok v w/\Rep g w z v:=by
 simp only [dX] at h;split at h
 ·rename_i zf n el k j e _ _ _ hx hix ht
  split at h
  ·rename_i te hte
   split at h
   ·rename_i hso
    simp at h;obtain ⟨rfl,rfl⟩:=h;have hC:=hC _ (List.mem_singleton.2 rfl);have hu:=(htt.facts ht).under;have hsz:=pS (P:=P) (htt.facts hte);have hr:=dG htr hc hx;have hj:=(dG htr hc hix).qJ;rw [hj]
    generalize a.eval x=v at hr ⊢
    cases hr with
    | sl0=>omega
    | sl n el b o kk cap c h1 h2 h3 h4 h5 h6 =>
     have hi:j.toNat<n:=by omega
     have hk:kk=te.size:=by rw [←(sS hso).2,←h2 _ hi,((h1 _ hi).CF (sS hso).1).1]
     subst hk;refine⟨.pointer (some ⟨b,o+j.toNat*te.size,none⟩),?_,.rp _ (c j.toNat) _ _ (h1 _ hi) (h3 _ hi) (fun i hi'=>h4 _ hi i (by rw [←h2 _ hi];exact hi'))⟩;simp only [Instr.indexAt,Sem.run_bind,QF,Result.andThen,run_underlying hu,Sem.run_pure];rw [if_pos hC];simp only [Sem.run_bind,hsz,Result.andThen,CE];rfl
   ·simp at h
  ·simp at h
 ·rename_i k l i n q j e _ _ _ hx hix ht
  split at h
  ·rename_i te hte
   split at h
   ·rename_i hkb
    have hk:k=te.size:=Nat.eq_of_beq_eq_true hkb;simp at h;obtain ⟨rfl,rfl⟩:=h;have hC:=hC _ (List.mem_singleton.2 rfl);have hu:=(htt.facts ht).under;have hsz:=pS (P:=P) (htt.facts hte);have hr:=dG htr hc hx;have hj:=(dG htr hc hix).qJ;rw [hj]
    generalize a.eval x=v at hr ⊢
    cases hr with
    | msl0=>omega
    | msl l i n hln _ =>
     refine⟨.pointer (some ⟨g.blk l,g.off l+(i+j.toNat)*g.k l+0,none⟩),?_,.lp l (i+j.toNat) 0 hln⟩;simp only [Instr.indexAt,Sem.run_bind,QF,Result.andThen,run_underlying hu,Sem.run_pure];rw [if_pos hC];simp only [Sem.run_bind,hsz,Result.andThen,CE,hk];rw [show g.off l+i*te.size+j.toNat*te.size=g.off l+(i+j.toNat)*te.size+0 by rw [Nat.add_mul];omega];rfl
   ·simp at h
  ·simp at h
 ·simp at h
end Go.Abs
namespace Go.Abs
open Go IntKind Go.RowKit
variable {P:Program} {tt:TT} {g:Gh} {w:World}
theorem aC3 (htt:jO P tt){f:TypeId->V->V->Option Bool}{D:Nat}(hf:∀ t x y r va vb,f t x y=some r->Rep g w x va->Rep g w y vb->(Op.equalIn D t va vb).run P w=.ok r w){xs ys:List V}{as0 bs:Array Value}(ha:IN g w xs as0)(hb:IN g w ys bs) :
  ∀ {fs:List Field} {r:Bool},aFX f tt xs ys fs=some r->(Op.eqFields D as0 bs fs).run P w=.ok r w
 | [],r,h=>by simp [aFX] at h; subst h; rfl
 | fd::fs,r,h=>by
  simp only [aFX] at h;split at h
  ·cases h
  ·rename_i hn
   have hn':fd.name ≠ "_" := by intro e;rw [e] at hn;simp at hn
   split at h
   ·rename_i x y hx hy
    split at h
    ·rename_i p q hp hq
     simp at h;subst h;obtain⟨u,h1,h2,_⟩:=JV htt hx ha;obtain⟨v,h3,h4,_⟩:=JV htt hy hb;have h5:=hf _ _ _ _ _ _ hp h2 h4;have h6:=aC3 htt hf ha hb hq;simp only [Op.eqFields,ne_eq,hn',not_false_eq_true,if_true,Sem.run_bind,h1,h3,h5,Result.andThen_ok]
     cases p
     ·simp
     ·simpa using h6
    ·cases h
   ·cases h
theorem aEf (htt:jO P tt):∀ (d D:Nat) (t:TypeId) (x y:V) (r:Bool) (va vb:Value),eqV tt d t x y=some r->Rep g w x va->Rep g w y vb->(Op.equalIn (d+D) t va vb).run P w=.ok r w
 | 0,D,t,x,y,r,va,vb,h,_,_=>by simp [eqV] at h
 | d+1,D,t,x,y,r,va,vb,h,hx,hy=>by
  rw [show d+1+D=(d+D)+1 by omega];unfold eqV at h;split at h
  ·cases h
  ·rename_i k a k' b
   split at h
   ·rename_i k2 q1 q2 q3 ht
    split at h
    ·rename_i hk
     subst hk;simp at h;subst h
     cases hx;cases hy
     have hu:=(htt.facts ht).under;rw [run_equalIn_int _ _ _ _ k2 _ _ hu]
     congr 1
    ·cases h
   ·cases h
  ·rename_i a b
   split at h
   ·rename_i q1 q2 q3 ht
    simp at h;subst h
    cases hx;cases hy
    have hu:=(htt.facts ht).under;rw [run_equalIn_string _ _ _ _ _ hu];rfl
   ·cases h
  ·rename_i a b
   split at h
   ·rename_i q1 q2 q3 ht
    simp at h;subst h
    cases hx;cases hy
    have hu:=(htt.facts ht).under;rw [run_equalIn_bool _ _ _ _ _ hu]
   ·cases h
  ·rename_i d' xs ys heq
   obtain rfl:d=d':=Nat.succ.inj heq;split at h
   ·rename_i fs q1 q2 q3 ht he
    obtain⟨as0,rfl,a1,a2,a3⟩:=hx.XJ;obtain⟨bs,rfl,b1,b2,b3⟩:=hy.XJ;have hu:=(htt.facts ht).under;have hok:=htt.2 _ he;simp only [aFD,Bool.and_eq_true,Bool.not_eq_true'] at hok;have hfs:∀ t',P.underlying t'=some (.struct fs)->P.fieldsOf t'=fs:=fun t' h=>by simp [Program.fieldsOf,h]
    have hf:=hfs _ hu;rw [run_equalIn_struct w (d+D) _ as0 bs (by rw [hf];exact hu) hok.1,hf];exact aC3 htt (fun t x y r va vb h hx hy=>aEf htt d D t x y r va vb h hx hy) ⟨a1,a2,a3⟩ ⟨b1,b2,b3⟩ h
   ·cases h
  ·cases h
theorem aHa (htt:jO P tt) {op:BinOp} {t:TypeId} {x y z:V} {Cs:List Prop} {a b:Value} {oa ob:Operand}
  (hx:Rep g w x a) (hy:Rep g w y b) (h:aJi tt op t x y=some (Cs,z)) (hC:∀ c∈Cs,c) :
  ∃ v,(do eqGuard op t oa ob a b;binOp op t a b:Sem Value).run P w=.ok v w/\Rep g w z v:=by
 unfold aJi at h;split at h
 ·rename_i xs ys
  have key:∀ r,eqV tt 8 t (.agg xs) (.agg ys)=some r -> ∃ as0 bs,a=.agg as0/\b=.agg bs/\(Op.equalIn 10000 t (.agg as0) (.agg bs)).run P w=.ok r w/\P.eqGuardType P.depth t=false:=by
   intro r hr;have h1:=aEf htt 8 9992 t _ _ r a b hr hx hy;obtain⟨as0,rfl,_⟩:=hx.XJ;obtain⟨bs,rfl,_⟩:=hy.XJ;refine⟨as0,bs,rfl,rfl,h1,?_⟩;unfold eqV at hr;simp only at hr;split at hr
   ·rename_i he
    have hok:=htt.2 t he;simp only [aFD,Bool.and_eq_true,Bool.not_eq_true'] at hok;exact hok.2
   ·cases hr
  split at h
  ·rename_i r hr
   simp at h;obtain ⟨rfl,rfl⟩:=h;obtain⟨as0,bs,rfl,rfl,h1,h2⟩:=key r hr;refine⟨.bool r,?_,.lit _ rfl⟩;simp only [Sem.run_bind,run_eqGuard_agg w _ t oa ob as0 bs h2,Result.andThen_ok,run_eql_struct,h1]
  ·rename_i r hr
   simp at h;obtain ⟨rfl,rfl⟩:=h;obtain⟨as0,bs,rfl,rfl,h1,h2⟩:=key r hr;refine⟨.bool (!r),?_,.lit _ rfl⟩;simp only [Sem.run_bind,run_eqGuard_agg w _ t oa ob as0 bs h2,Result.andThen_ok,run_neq_struct,h1]
  ·cases h
 ·obtain⟨fs,cs,rfl,_⟩:=hx.fnE
  cases hy with
  | lit v _ =>
  have key:∀ (fv:Fn) d q1 q2 q3,(∃ p1 p2 p3,d=TypeDesc.func p1 p2 p3)->tt t=some ⟨d,q1,q2,q3⟩->(Op.equal t (.func fv fs cs) .nilFunc).run P w=.ok false w:=by
   rintro fv d q1 q2 q3 ⟨p1,p2,p3,rfl⟩ ht;unfold Op.equal Op.maxDepth;unfold Op.equalIn;simp only [Sem.run_bind,run_underlying (htt.facts ht).under,Result.andThen];rfl
  split at h
  ·rename_i ht
   simp at h;obtain ⟨rfl,rfl⟩:=h;have hk:=fun fv=>key fv _ _ _ _ ⟨_,_,_,rfl⟩ ht
   have hb:∀ fv,(binOp .eql t (.func fv fs cs) .nilFunc).run P w=.ok (.bool false) w:=by
    intro fv;show (do pure (.bool ((←Op.equal t (.func fv fs cs) .nilFunc))):Sem Value).run P w=_;simp only [Sem.run_bind,hk fv,Result.andThen];rfl
   refine⟨.bool false,?_,.lit _ rfl⟩;have hq:∀ fv,(eqGuard .eql t oa ob (.func fv fs cs) .nilFunc).run P w=.ok () w:=fun _=>rfl;simp only [Sem.run_bind,hq,Result.andThen,hb]
  ·rename_i ht
   simp at h;obtain ⟨rfl,rfl⟩:=h;have hk:=fun fv=>key fv _ _ _ _ ⟨_,_,_,rfl⟩ ht
   have hb:∀ fv,(binOp .neq t (.func fv fs cs) .nilFunc).run P w=.ok (.bool true) w:=by
    intro fv;show (do pure (.bool (!(←Op.equal t (.func fv fs cs) .nilFunc))):Sem Value).run P w=_;simp only [Sem.run_bind,hk fv,Result.andThen];rfl
   refine⟨.bool true,?_,.lit _ rfl⟩;have hq:∀ fv,(eqGuard .neq t oa ob (.func fv fs cs) .nilFunc).run P w=.ok () w:=fun _=>rfl;simp only [Sem.run_bind,hq,Result.andThen,hb]
  ·cases h
 ·exact aI6 htt hx hy h hC
theorem aHj (htt:jO P tt) {T:Env} {a:Act} {ctx:Ctx} (htr:TR g w T a.tmps) (hc:eJ a.tmps ctx) {t:TypeId} {parts:Array (Nat×Operand)} {Cs:List Prop} {z:V}
  (h:dX tt T ctx (.build t parts)=some (Cs,z)):∃ v,(Instr.build t (parts.map fun (i,x)=>(i,a.eval x))).run P w=.ok v w/\Rep g w z v:=by
 simp only [dX] at h;split at h
 ·rename_i fs _ _ zs ps ht hps
  split at h
  ·rename_i hall
   simp only [Bool.and_eq_true] at hall;split at h
   ·rename_i cs hfill
    simp at h;obtain ⟨rfl,rfl⟩:=h;have f:=htt.facts ht;obtain⟨⟨i,hi,hs,hb,zv,hz,hzv⟩,hu⟩:=f;have hzr:Rep g w (.agg zs) zv:=uR hzv;obtain⟨vs,rfl,hr⟩:=hzr.XJ;obtain⟨pl,hpl,hplg⟩:=aHs (P:=P) htt (fun j fd hj=>aEa hall.1 j fd (by simpa using hj)) w;obtain⟨hl,hg⟩:=XB htr hc hps
    obtain⟨rs,hf,hrr⟩:=aHx (g:=g) (w:=w) hplg (qs:=(parts.map fun (i,x)=>(i,a.eval x)).toList) hfill hr (by simpa using hl) (fun j p q hp hq=>by
     simp only [Array.toList_map,List.getElem?_map,Option.map_eq_some_iff] at hq;obtain⟨r,b5,rfl⟩:=hq;obtain⟨h1,h2⟩:=hg j p r hp b5;exact⟨h1,h2,aD9 hall.2 j p hp⟩)
    refine⟨.agg rs,?_,hrr.rep⟩;have hzv':(zeroValue t).run P w=.ok (.agg vs) w:=by simp [zeroValue,typeInfo,hi,hz]
    have hf':Instr.fill (fun x=>pl[x]?) vs (parts.map fun (i,x)=>(i,a.eval x)).toList=some rs:=hf;simp only [Instr.build,Sem.run_bind,hzv',Result.andThen,run_underlying hu,Value.cells];rw [hpl];simp only [];rw [hf'];rfl
   ·simp at h
  ·simp at h
 ·simp at h
theorem DM {T:Env}{a:Act}{ctx:Ctx}(htr:TR g w T a.tmps)(hc:eJ a.tmps ctx){xs:Array Operand}{ys:List V}(he:jT T ctx xs.toList=some ys) :
  ys.length=(xs.map a.eval).size /\ ∀ (i:Nat) x y,ys[i]?=some x->(xs.map a.eval)[i]?=some y->Rep g w x y:=by
 obtain⟨hl,hg⟩:=RK htr hc he;refine⟨by simpa using hl,fun i x y hx hy=>?_⟩;simp only [Array.getElem?_map,Option.map_eq_some_iff] at hy;obtain⟨o,ho,rfl⟩:=hy;exact hg i x o hx (by simpa using ho)
theorem aEX (htt:jO P tt){t:TypeId}{e:TyE}(ht:tt t=some e)(hd:e.d=.string){s:ByteArray}{k:IntKind}{j:Int}(h:0<=j/\j<(s.size:Int)) :
  (Instr.index t (.string s) (.int k j)).run P w=.ok (.int .u8 (bt s j)) w:=by
 have hu:=(htt.facts ht).under;rw [hd] at hu;have hlt:j.toNat<s.size:=by omega
 simp only [Instr.index,Sem.run_bind,QF,Result.andThen,run_underlying hu,if_pos h.1]
 have h1:s[j.toNat]?=some s[j.toNat]:=by
  simp [hlt]
 rw [h1]
 have h2:bt s j=((s[j.toNat]).toNat:Int):=by
  unfold bt
  have : s.data.getD j.toNat 0=s[j.toNat]:=by
   have hd:j.toNat<s.data.size:=hlt;simp only [Array.getD,hd,dif_pos];rfl
  rw [this]
 rw [h2];rfl
theorem aJH (htt:jO P tt) {T:Env} {a:Act} {ctx:Ctx} (htr:TR g w T a.tmps) (hc:eJ a.tmps ctx) {args:Array Operand} {argTypes:Array TypeId} {ty:TypeId} {Cs:List Prop} {z:V}
  (h:dX tt T ctx (.call { callee:=.builtin .len,args,argTypes })=some (Cs,z)):∃ v,(Builtin.len_ argTypes ty (args.map a.eval)).run P w=.ok v w/\Rep g w z v:=by
 simp only [dX] at h;split at h
 ·rename_i x t hx ht
  obtain⟨u,hu,hr⟩:=args1 htr hc hx;rw [hu];split at h
  ·rename_i hte
   simp at h;obtain ⟨rfl,rfl⟩:=h;obtain⟨aa,cap,rfl,_,_⟩:=hr.slE;have hun:=(htt.facts hte).under;exact⟨_,by simp [Builtin.len_,ht,run_underlying hun];rfl,.lit _ rfl⟩
  ·rename_i hte
   simp at h;obtain ⟨rfl,rfl⟩:=h;have hun:=(htt.facts hte).under
   cases hr with
   | msl=>exact ⟨_,by simp [Builtin.len_,ht,run_underlying hun]; rfl,.lit _ rfl⟩
   | msl0=>exact ⟨_,by simp [Builtin.len_,ht,run_underlying hun]; rfl,.lit _ rfl⟩
  ·rename_i hte
   simp at h;obtain ⟨rfl,rfl⟩:=h
   cases hr.qJ
   have hun:=(htt.facts hte).under;exact⟨_,by simp [Builtin.len_,ht,run_underlying hun];rfl,.lit _ rfl⟩
  ·simp at h
 ·simp at h
theorem aHo {ts:Array TypeId}{ty:TypeId}{u v r:Value}(h:(Builtin.min2 u v).run P w=.ok r w):(Builtin.min_ ts ty #[u,v]).run P w=.ok r w:=by
 change Sem.run P (List.foldlM Builtin.min2 u [v]) w=_
 simp only [List.foldlM_cons,List.foldlM_nil,Sem.run_bind,h,Result.andThen,Sem.run_pure]
theorem aEO {ts:Array TypeId}{ty:TypeId}{u v x r r':Value}(h:(Builtin.min2 u v).run P w=.ok r w)(h':(Builtin.min2 r x).run P w=.ok r' w):(Builtin.min_ ts ty #[u,v,x]).run P w=.ok r' w:=by
 change Sem.run P (List.foldlM Builtin.min2 u [v,x]) w=_
 simp only [List.foldlM_cons,List.foldlM_nil,Sem.run_bind,h,h',Result.andThen,Sem.run_pure]
theorem aHd {ts:Array TypeId}{ty:TypeId}{u v r:Value}(h:(Builtin.max2 u v).run P w=.ok r w):(Builtin.max_ ts ty #[u,v]).run P w=.ok r w:=by
 change Sem.run P (List.foldlM Builtin.max2 u [v]) w=_
 simp only [List.foldlM_cons,List.foldlM_nil,Sem.run_bind,h,Result.andThen,Sem.run_pure]
theorem aEY {ts:Array TypeId}{ty:TypeId}{u v x r r':Value}(h:(Builtin.max2 u v).run P w=.ok r w)(h':(Builtin.max2 r x).run P w=.ok r' w):(Builtin.max_ ts ty #[u,v,x]).run P w=.ok r' w:=by
 change Sem.run P (List.foldlM Builtin.max2 u [v,x]) w=_
 simp only [List.foldlM_cons,List.foldlM_nil,Sem.run_bind,h,h',Result.andThen,Sem.run_pure]
theorem aAO (htt:jO P tt) {T:Env} {a:Act} {ctx:Ctx} (htr:TR g w T a.tmps) (hc:eJ a.tmps ctx) {o:Oper} {Cs:List Prop} {z:V}
  (h:dX tt T ctx o.op=some (Cs,z)) (hC:∀ c∈Cs,c):∃ v,(execOp a.eval o).run P w=.ok (.value v) w/\Rep g w z v:=by
 obtain⟨dst,op,type,pos,after,guard⟩:=o
 have fin:∀ {s:Sem Value},execOp a.eval ⟨dst,op,type,pos,after,guard⟩=(do pure (Next.value (←s)):Sem Next)->(∃ v,s.run P w=.ok v w/\Rep g w z v) ->
   ∃ v,(execOp a.eval ⟨dst,op,type,pos,after,guard⟩).run P w=.ok (.value v) w/\Rep g w z v:=by
  rintro s hs ⟨v,hv,hr⟩;exact⟨v,by rw [hs];exact ZM hv,hr⟩
 cases op
 case move x =>
  simp only [dX] at h;split at h
  ·rename_i v hv;simp at h;obtain ⟨rfl,rfl⟩:=h;exact ⟨_,rfl,dG htr hc hv⟩
  ·simp at h
 case assign x =>
  simp only [dX] at h;split at h
  ·rename_i v hv;simp at h;obtain ⟨rfl,rfl⟩:=h;exact ⟨_,rfl,dG htr hc hv⟩
  ·simp at h
 case pick c x y =>
  cases c with
  | tmp c =>
   simp only [dX] at h;split at h
   ·rename_i b p q hb hp hq
    simp at h;obtain ⟨rfl,rfl⟩:=h;have hbv:=(dG htr hc hb).qJ;have hat:=aNO htr hc hb;rw [hbv] at hat
    have hcc:eJ a.tmps ((c,b)::ctx):=by
     intro r hr;rcases List.mem_cons.1 hr with rfl | hr
     ·exact hat
     ·exact hc r hr
    cases b
    ·refine⟨a.eval y,?_,?_⟩
     ·simp [execOp,hbv,asBool]
     ·have:=dG htr hcc hq;rw [this.qJ];exact .lit _ rfl
    ·refine⟨a.eval x,?_,?_⟩
     ·simp [execOp,hbv,asBool]
     ·have:=dG htr hcc hp;rw [this.qJ];exact .lit _ rfl
   ·simp at h
  | _=>simp [dX] at h
 case binOp o t x y yt =>
  simp only [dX] at h;split at h
  ·rename_i p q hp hq
   exact fin rfl (aHa htt (dG htr hc hp) (dG htr hc hq) h hC)
  ·simp at h
 case unOp o t x =>
  simp only [dX] at h;split at h
  ·rename_i p hp
   split at h
   ·rename_i v hv
    simp at h;obtain ⟨rfl,rfl⟩:=h;have hr:=dG htr hc hp;refine fin rfl ?_;unfold aKZ at hv;split at hv <;> simp only [Option.some.injEq,reduceCtorEq] at hv <;> subst hv <;> rw [hr.qJ] <;> exact ⟨_,rfl,.lit _ rfl⟩
   ·simp at h
  ·simp at h
 case extract x i =>
  simp only [dX] at h;split at h
  ·rename_i vs hvs
   split at h
   ·rename_i v hv
    simp at h;obtain ⟨rfl,rfl⟩:=h;obtain⟨us,hus,hl,hg⟩:=(dG htr hc hvs).aN9;have hlt:i<us.size:=by rw [←hl];exact (List.getElem?_eq_some_iff.1 hv).1
    refine fin rfl ⟨us[i],?_,hg i _ _ hv (Array.getElem?_eq_getElem hlt)⟩;rw [hus];simp [Instr.extract,Array.getElem?_eq_getElem hlt]
   ·simp at h
  ·simp at h
 case fieldAddr s x f=>exact fin rfl (aDl htt htr hc h)
 case field s x f =>
  simp only [dX] at h;split at h
  ·rename_i cs fs _ _ _ hv hs
   split at h
   ·rename_i fd hfd
    split at h
    ·rename_i u hpu
     simp at h;obtain ⟨rfl,rfl⟩:=h;obtain⟨vs,hvs,hr⟩:=(dG htr hc hv).XJ;obtain⟨pv,hrun,hrep,_⟩:=JV htt hpu hr;refine fin rfl ⟨pv,?_,hrep⟩;have hu:=(htt.facts hs).under;rw [hvs];simp only [Instr.field,Sem.run_bind,run_underlying hu,Result.andThen,hfd,asAgg,Sem.run_pure,hrun]
    ·simp at h
   ·simp at h
  ·simp at h
 case indexAddr t x ix=>exact fin rfl (aDa htt htr hc h hC)
 case index t x ix =>
  simp only [dX] at h;split at h
  ·rename_i s k j _ _ _ hx hix ht
   simp at h;obtain ⟨rfl,rfl⟩:=h;have hC:=hC _ (List.mem_singleton.2 rfl);refine fin rfl ⟨_,?_,.lit _ rfl⟩;rw [(dG htr hc hx).qJ,(dG htr hc hix).qJ];exact aEX htt ht rfl hC
  ·simp at h
 case load t x=>exact fin rfl (aIL htt htr hc h)
 case slice t x lo hi mx =>
  simp only [dX] at h;split at h
  ·rename_i v l hh m hv hl hhi hm
   exact fin rfl (aF2 htt h hC (dG htr hc hv) (YR htr hc hl) (YR htr hc hhi) (YR htr hc hm))
  ·simp at h
 case build t parts=>exact fin rfl (aHj htt htr hc h)
 case makeFunc fn first captured =>
  simp only [dX] at h;split at h
  ·rename_i xs ys hx hy
   simp at h;obtain ⟨rfl,rfl⟩:=h;obtain⟨l1,g1⟩:=DM htr hc hx;obtain⟨l2,g2⟩:=DM htr hc hy;exact fin rfl ⟨_,rfl,.fn _ _ _ _ _ l1 l2 g1 g2⟩
  ·simp at h
 case convert src dst' x =>
  simp only [dX] at h;split at h
  ·rename_i k n _ k' _ _ _ hx hs hd
   simp at h;obtain ⟨rfl,rfl⟩:=h;refine fin rfl ⟨_,?_,.lit _ rfl⟩;rw [(dG htr hc hx).qJ];simp only [convert,Sem.run_bind,run_underlying (htt.facts hs).under,run_underlying (htt.facts hd).under,Result.andThen,Conv.intToInt];rfl
  ·rename_i s _ _ _ _ hx hs hd
   simp at h;obtain ⟨rfl,rfl⟩:=h;refine fin rfl ⟨_,?_,.lit _ rfl⟩;rw [(dG htr hc hx).qJ];simp only [convert,Sem.run_bind,run_underlying (htt.facts hs).under,run_underlying (htt.facts hd).under,Result.andThen];rfl
  ·simp at h
 case call c =>
  obtain⟨callee,args,argTypes⟩:=c
  cases callee with
  | builtin b =>
   have hexec:∀ {s:Sem Value},(∀ v w',s.run P w=.ok v w'->(builtin b argTypes type (args.map fun | .const _=>true | _=>false) (args.map a.eval)).run P w=.ok (.value v) w') ->
     (∃ v,s.run P w=.ok v w/\Rep g w z v) -> ∃ v,(execOp a.eval ⟨dst,.call ⟨.builtin b,args,argTypes⟩,type,pos,after,guard⟩).run P w=.ok (.value v) w/\Rep g w z v:=by
    rintro s hs ⟨v,hv,hr⟩;refine⟨v,?_,hr⟩;simp only [execOp,resolve,Sem.run_bind,Sem.run_pure,Result.andThen,invoke];exact hs v w hv
   cases b
   case len=>exact hexec (fun v w' hv=>by simp only [builtin];exact ZM hv) (aJH htt htr hc h)
   case cap =>
    simp only [dX] at h;split at h
    ·rename_i z0 e0 t hx ht
     split at h
     ·rename_i hte
      simp at h;obtain ⟨rfl,rfl⟩:=h;obtain⟨u,hu,hr⟩:=args1 htr hc hx;obtain⟨aa,cp,rfl,_,hz⟩:=hr.slE;have hun:=(htt.facts hte).under;refine hexec (s:=Builtin.cap_ argTypes type (args.map a.eval)) (fun v w' hv=>by simp only [builtin];exact ZM hv) ⟨.int .i64 0,?_,.lit _ rfl⟩;rw [hu,hz rfl];simp [Builtin.cap_,ht,run_underlying hun];rfl
     ·simp at h
    ·simp at h
   case min =>
    simp only [dX] at h;split at h
    ·rename_i x y hxy
     split at h
     ·rename_i v hv
      simp at h;obtain ⟨rfl,rfl⟩:=h;obtain⟨u1,u2,hu,h1,h2⟩:=args2 htr hc hxy;obtain⟨r,b5,b6⟩:=ZJ hv h1 h2;exact hexec (s:=Builtin.min_ argTypes type (args.map a.eval)) (fun v w' hv=>by simp only [builtin];exact ZM hv) ⟨r,by rw [hu];exact aHo b5,b6⟩
     ·simp at h
    ·rename_i x y z' hxy
     split at h
     ·rename_i v hv
      split at h
      ·rename_i v' hv'
       simp at h;obtain ⟨rfl,rfl⟩:=h;obtain⟨u1,u2,u3,hu,h1,h2,h3⟩:=aMc htr hc hxy;obtain⟨r,b5,b6⟩:=ZJ hv h1 h2;obtain⟨r',hr1',hr2'⟩:=ZJ hv' b6 h3;exact hexec (s:=Builtin.min_ argTypes type (args.map a.eval)) (fun v w' hv=>by simp only [builtin];exact ZM hv) ⟨r',by rw [hu];exact aEO b5 hr1',hr2'⟩
      ·simp at h
     ·simp at h
    ·simp at h
   case max =>
    simp only [dX] at h;split at h
    ·rename_i x y hxy
     split at h
     ·rename_i v hv
      simp at h;obtain ⟨rfl,rfl⟩:=h;obtain⟨u1,u2,hu,h1,h2⟩:=args2 htr hc hxy;obtain⟨r,b5,b6⟩:=ZL hv h1 h2;exact hexec (s:=Builtin.max_ argTypes type (args.map a.eval)) (fun v w' hv=>by simp only [builtin];exact ZM hv) ⟨r,by rw [hu];exact aHd b5,b6⟩
     ·simp at h
    ·rename_i x y z' hxy
     split at h
     ·rename_i v hv
      split at h
      ·rename_i v' hv'
       simp at h;obtain ⟨rfl,rfl⟩:=h;obtain⟨u1,u2,u3,hu,h1,h2,h3⟩:=aMc htr hc hxy;obtain⟨r,b5,b6⟩:=ZL hv h1 h2;obtain⟨r',hr1',hr2'⟩:=ZL hv' b6 h3;exact hexec (s:=Builtin.max_ argTypes type (args.map a.eval)) (fun v w' hv=>by simp only [builtin];exact ZM hv) ⟨r',by rw [hu];exact aEY b5 hr1',hr2'⟩
      ·simp at h
     ·simp at h
    ·simp at h
   all_goals simp [dX] at h
  | value f=>simp [dX] at h
  | invoke r m=>simp [dX] at h
 case makeInterface t x =>
  simp only [dX] at h;split at h
  ·rename_i v e hv ht
   split at h
   ·rename_i hi
    simp at h;obtain ⟨rfl,rfl⟩:=h;refine fin rfl ⟨.iface t (a.eval x),?_,.ifc _ _ _ (dG htr hc hv)⟩;have hu:=(htt.facts ht).under;obtain⟨d,q1,q2,q3⟩:=e;simp only [Instr.makeInterface,Sem.run_bind,run_underlying hu,Result.andThen]
    cases d <;> first | (simp [YN] at hi; done) | rfl
   ·simp at h
  ·simp at h
 case typeAssert x xt t ok =>
  have zero:∀ {e:TyE},tt t=some e -> ∃ zv,(zeroValue t).run P w=.ok zv w/\Rep g w e.zero zv:=by
   intro e ht;obtain⟨⟨i,hi,_,_,zv,hz,hzv⟩,_⟩:=htt.facts ht;exact⟨zv,by simp [zeroValue,typeInfo,hi,hz],uR hzv⟩
  have two:∀ {y:V} {c:Value} {b:Bool},Rep g w y c->Rep g w (.tup [y,.lit (.bool b)]) (.tuple #[c,.bool b]):=by
   intro y c b hr;refine .tup _ _ rfl fun i p q hp hq=>?_
   match i with
   | 0=>simp at hp hq; subst hp; subst hq; exact hr
   | 1=>simp at hp hq; subst hp; subst hq; exact .lit _ rfl
   | i+2=>simp at hp
  simp only [dX] at h;split at h
  ·rename_i u v e hv ht
   obtain⟨c,hcv,hrc⟩:=(dG htr hc hv).aN5;have hu:=(htt.facts ht).under;obtain⟨zv,b7,b8⟩:=zero ht;split at h
   ·rename_i hi
    have b9:u=t->(Instr.typeAssert (.iface u c) xt t ok).run P w=.ok (if ok then .tuple #[c,.bool true] else c) w:=by
     intro hut;obtain⟨d,q1,q2,q3⟩:=e;simp only [Instr.typeAssert,Sem.run_bind,run_underlying hu,Result.andThen]
     cases d <;> first | (simp [YN] at hi; done) | (simp [hut,Sem.run_pure]; done) | (cases ok <;> simp [hut,Sem.run_pure]; done)
    have c4:u≠t->ok=true->(Instr.typeAssert (.iface u c) xt t ok).run P w=.ok (.tuple #[zv,.bool false]) w:=by
     intro hut hok;obtain⟨d,q1,q2,q3⟩:=e;simp only [Instr.typeAssert,Sem.run_bind,run_underlying hu,Result.andThen]
     cases d <;> first | (simp [YN] at hi; done) | (simp [hut,hok,Sem.run_bind,b7,Result.andThen,Sem.run_pure]; done)
    split at h
    ·rename_i hb
     have hut:u=t:=Nat.eq_of_beq_eq_true hb;split at h
     ·simp at h;obtain ⟨rfl,rfl⟩:=h;exact fin rfl ⟨_,by rw [hcv];exact b9 hut,two hrc⟩
     ·simp at h;obtain ⟨rfl,rfl⟩:=h;exact fin rfl ⟨_,by rw [hcv];exact b9 hut,hrc⟩
    ·rename_i hb
     have hut:u≠t:=fun he=>by subst he;simp at hb
     split at h
     ·simp at h;obtain ⟨rfl,rfl⟩:=h;exact fin rfl ⟨_,by rw [hcv];exact c4 hut rfl,two b8⟩
     ·simp at h
   ·simp at h
  ·rename_i e hv ht
   have hu:=(htt.facts ht).under;obtain⟨zv,b7,b8⟩:=zero ht;split at h
   ·rename_i hi
    split at h
    ·simp at h;obtain ⟨rfl,rfl⟩:=h;refine fin rfl ⟨.tuple #[zv,.bool false],?_,two b8⟩;rw [(dG htr hc hv).qJ];obtain⟨d,q1,q2,q3⟩:=e;simp only [Instr.typeAssert,Sem.run_bind,run_underlying hu,Result.andThen]
     cases d <;> first | (simp [YN] at hi; done) | (simp [Sem.run_bind,b7,Result.andThen,Sem.run_pure]; done)
    ·simp at h
   ·simp at h
  ·simp at h
 case nilCheck x =>
  simp only [dX] at h;split at h
  ·rename_i v hv
   simp at h;obtain ⟨rfl,rfl⟩:=h;have hr:=dG htr hc hv;obtain⟨c,b,o,hbo,_⟩:=hr.rpE;exact⟨a.eval x,by simp only [execOp,hbo];rfl,hr⟩
  ·rename_i l i o hv
   simp at h;obtain ⟨rfl,rfl⟩:=h;have hr:=dG htr hc hv;obtain⟨_,hbo⟩:=hr.lpE;exact⟨a.eval x,by simp only [execOp,hbo];rfl,hr⟩
  ·rename_i f p q hv
   simp at h;obtain ⟨rfl,rfl⟩:=h;have hr:=dG htr hc hv;obtain⟨fs,cs,hbo,_⟩:=hr.fnE;exact⟨a.eval x,by simp only [execOp,hbo];rfl,hr⟩
  ·simp at h
 all_goals simp [dX] at h
end Go.Abs
namespace Go.Abs
open Go IntKind Go.RowKit
variable {P:Program} {tt:TT}
def FR (ro:Option Nat):Fence:={ Fence.wide with round:=ro }
def mkD (g:Gh)(l:Nat):Deferred:={ target:=.collected (g.blk l),args := #[] }
structure Good (N:Nat) (g:Gh) (w:World) (T:Env) (H:bA) (ds:List Nat) (a:Act):Prop where
 sr:SR g w H
 tr:TR g w T a.tmps
 df:a.defers=ds.map (mkD g)
 dl:∀ l∈ds,l<g.n
 sz:a.tmps.size=N
def pO (P:Program)(f:FuncId)(args:List V)(H:bA)(Q:V->bA->Prop):Prop :=
 (∀ as0 w,(callFunc f as0).run P w=.ok (.enter f as0) w) /\
 ∀ g w (vs:Array Value),SR g w H->args.length=vs.size->(∀ (i:Nat) x y,args[i]?=some x->vs[i]?=some y->Rep g w x y) ->
  Calls P f vs w fun e w'=>∃ v r g' H',e=.returned v/\Rep g' w' r v/\SR g' w' H'/\Ext g w g' w'/\Q r H'
theorem pO.mono {f:FuncId}{args:List V}{H:bA}{Q Q':V->bA->Prop}(h:pO P f args H Q)(hq:∀ r H',Q r H'->Q' r H'):pO P f args H Q' :=
 ⟨h.1,fun g w vs h1 h2 h3=>(h.2 g w vs h1 h2 h3).mono fun _ _ ⟨v,r,g',H',a,b,c,d,e⟩=>⟨v,r,g',H',a,b,c,d,hq _ _ e⟩⟩
def XZ (P:Program)(l:Nat)(args:List V)(H:bA)(Q:V->bA->Prop):Prop :=
 ∀ g w (vs:Array Value),SR g w H->args.length=vs.size->(∀ (i:Nat) x y,args[i]?=some x->vs[i]?=some y->Rep g w x y) ->
  ∃ fn tmps asg body,(Instr.yield l vs).run P w=.ok (.round l fn tmps asg body) w/\RoundIn (FR none) 0 P l fn tmps asg body w fun e w'=>∃ v r g' H',e=.returned v/\Rep g' w' r v/\SR g' w' H'/\Ext g w g' w'/\Q r H'
theorem XZ.mono {l:Nat}{args:List V}{H:bA}{Q Q':V->bA->Prop}(h:XZ P l args H Q)(hq:∀ r H',Q r H'->Q' r H'):XZ P l args H Q' :=
 fun g w vs h1 h2 h3=>let ⟨fn,tmps,asg,body,e,hr⟩:=h g w vs h1 h2 h3
  ⟨fn,tmps,asg,body,e,hr.mono fun _ _ ⟨v,r,g',H',a,b,c,d,e⟩=>⟨v,r,g',H',a,b,c,d,hq _ _ e⟩⟩
def aF1 (P:Program)(f:FuncId)(args:List V)(H:bA)(Q:V->bA->Prop):Prop :=
 ∀ g w (vs:Array Value),SR g w H->args.length=vs.size->(∀ (i:Nat) x y,args[i]?=some x->vs[i]?=some y->Rep g w x y) ->
  ∃ v r,(callFunc f vs).run P w=.ok (.value v) w/\Rep g w r v/\Q r H
theorem aF1.mono {f:FuncId}{args:List V}{H:bA}{Q Q':V->bA->Prop}(h:aF1 P f args H Q)(hq:∀ r H',Q r H'->Q' r H'):aF1 P f args H Q' :=
 fun g w vs h1 h2 h3=>let ⟨v,r,a,b,c⟩:=h g w vs h1 h2 h3;⟨v,r,a,b,hq _ _ c⟩
def SX (P:Program)(fv:V)(args:List V)(H:bA)(Q:V->bA->Prop):Prop :=
 match fv with
 | .fn (.func fid) ys cs=>pO P fid (ys++args++cs) H Q∨aF1 P fid (ys++args++cs) H Q
 | .lit (.func (.yield l) _ _)=>XZ P l args H Q
 | _=>False
theorem SX.mono {fv:V}{args:List V}{H:bA}{Q Q':V->bA->Prop}(h:SX P fv args H Q)(hq:∀ r H',Q r H'->Q' r H'):SX P fv args H Q':=by
 unfold SX at h ⊢;split at h
 ·exact h.imp (fun h=>h.mono hq) (fun h=>h.mono hq)
 ·exact h.mono hq
 ·exact h.elim
theorem aJo {ro:Option Nat}{n l:Nat}{f:FuncId}{tmps:Array Value}{asg body:Code}{w:World}{R:Ending->World->Prop}(h:RoundIn (FR none) n P l f tmps asg body w R):RoundIn (FR ro) n P l f tmps asg body w R:=h
def AWP (P:Program)(ro:Option Nat)(N:Nat)(c:Code)(T:Env)(H:bA)(ds:List Nat)(Q:Exit->Env->bA->List Nat->Prop):Prop :=
 ∀ g w a (R:Exit->Act->World->Prop),Good N g w T H ds a ->
  (∀ e T' H' ds' g' w' a',Q e T' H' ds'->Good N g' w' T' H' ds' a'->Ext g w g' w'->R e a' w')->c.wpIn (FR ro) 0 P R a w
variable {ro:Option Nat} {N:Nat} {T:Env} {H:bA} {ds:List Nat} {Q:Exit->Env->bA->List Nat->Prop}
theorem AWP.mono {c:Code}{Q':Exit->Env->bA->List Nat->Prop}(h:AWP P ro N c T H ds Q)(hq:∀ e T H ds,Q e T H ds->Q' e T H ds):AWP P ro N c T H ds Q' :=
 fun g w a R hg hr=>h g w a R hg fun e T' H' ds' g' w' a' q=>hr e T' H' ds' g' w' a' (hq _ _ _ _ q)
theorem aND (h:Q .normal T H ds):AWP P ro N .skip T H ds Q :=
 fun g w _ _ hg hr=>wpIn_skip (hr _ _ _ _ _ _ _ h hg (Ext.refl g w))
theorem aNB {id:Nat}(h:Q (.exit id) T H ds):AWP P ro N (.exit id) T H ds Q :=
 fun g w _ _ hg hr=>wpIn_exit (hr _ _ _ _ _ _ _ h hg (Ext.refl g w))
theorem aOy (h:Q .ret T H ds):AWP P ro N .ret T H ds Q :=
 fun g w _ _ hg hr=>wpIn_ret (hr _ _ _ _ _ _ _ h hg (Ext.refl g w))
def AA (next:Env->bA->List Nat->Prop)(Q:Exit->Env->bA->List Nat->Prop):Exit->Env->bA->List Nat->Prop
 | .normal,T,H,ds=>next T H ds
 | e,T,H,ds=>Q e T H ds
theorem aOq {x y:Code}(h:AWP P ro N x T H ds (AA (fun T H ds=>AWP P ro N y T H ds Q) Q)):AWP P ro N (.seq x y) T H ds Q:=by
 intro g w a R hg hr;refine wpIn_seq (h g w a _ hg ?_);intro e T' H' ds' g' w' a' q hg' hx
 cases e with
 | normal=>exact q g' w' a' R hg' fun e T2 H2 b5 g2 w2 a2 q2 b6 b7=>hr e T2 H2 b5 g2 w2 a2 q2 b6 (hx.trans b7)
 | _=>exact hr _ _ _ _ _ _ _ q hg' hx
def KC (id:Nat)(Q:Exit->Env->bA->List Nat->Prop):Exit->Env->bA->List Nat->Prop
 | .exit id',T,H,ds=>match Nat.beq id' id with
  | true=>Q .normal T H ds
  | false=>Q (.exit id') T H ds
 | e,T,H,ds=>Q e T H ds
theorem aNp {id:Nat}{c:Code}(h:AWP P ro N c T H ds (KC id Q)):AWP P ro N (.block id c) T H ds Q:=by
 intro g w a R hg hr;refine wpIn_block (h g w a _ hg ?_);intro e T' H' ds' g' w' a' q hg' hx
 cases e with
 | exit id' =>
  simp only [Exit.inBlock];simp only [KC] at q;split at q
  ·rename_i hb
   rw [if_pos (Nat.eq_of_beq_eq_true hb)];exact hr _ _ _ _ _ _ _ q hg' hx
  ·rename_i hb
   rw [if_neg (fun e=>by subst e;simp at hb)];exact hr _ _ _ _ _ _ _ q hg' hx
 | _=>exact hr _ _ _ _ _ _ _ q hg' hx
theorem aN0 {c:Operand}{x y:Code}{b:Bool}(hc:dD T [] c=some (.lit (.bool b)))(h1:b=true->AWP P ro N x T H ds Q)(h2:b=false->AWP P ro N y T H ds Q) :
  AWP P ro N (.cond c x y) T H ds Q:=by
 intro g w a R hg hr;have hb:a.eval c=.bool b:=(dG hg.tr (fun p hp=>by simp at hp) hc).qJ
 cases b with
 | true=>exact wpIn_cond hb (h1 rfl g w a R hg hr)
 | false=>exact wpIn_cond hb (h2 rfl g w a R hg hr)
def aLj (T' T:Env):Prop:=∀ t x,T' t=some x->T t=some x
theorem aNG {c:Code}{T':Env}(hs:aLj T' T)(h:AWP P ro N c T' H ds Q):AWP P ro N c T H ds Q :=
 fun g w a R hg hr=>h g w a R ⟨hg.sr,fun t c x ht=>hg.tr t c x (hs t _ ht),hg.df,hg.dl,hg.sz⟩ hr
theorem ZR {p:Nat->Prop}(h:∃ n,p n):∃ n,p n /\ ∀ m,p m->n<=m:=by
 obtain⟨n,hn⟩:=h
 induction n using Nat.strongRecOn with
 | _ n ih =>
  by_cases hx:∃ m,m<n/\p m
  ·obtain⟨m,hm,hp⟩:=hx;exact ih m hm hp
  ·exact⟨n,hn,fun m hm=>Nat.le_of_not_lt fun hlt=>hx ⟨m,hlt,hm⟩⟩
theorem aN4 {c:Code} (I:Nat->Env->bA->List Nat->Prop) {k:Nat} (h0:I k T H ds)
  (round:∀ k T H ds,I k T H ds->AWP P ro N c T H ds (AA (fun T' H' ds'=>∃ k',k'<k/\I k' T' H' ds') Q)):AWP P ro N (.loop c) T H ds Q:=by
 intro g w a R hg hr
 let J:Act->World->Nat->Prop:=fun a' w' j=>∃ T' H' ds' g',I j T' H' ds'/\Good N g' w' T' H' ds' a'/\Ext g w g' w'
 refine wpIn_loop (fun a' w'=>∃ j,J a' w' j) (fun a' w'=>open Classical in if h:∃ j,J a' w' j then Classical.choose (ZR h) else 0) ⟨k,T,H,ds,g,h0,hg,Ext.refl g w⟩ ?_;intro a' w' hJ;have hsp:=Classical.choose_spec (ZR hJ);simp only [dif_pos hJ]
 generalize Classical.choose (ZR hJ)=j at hsp ⊢
 obtain⟨⟨T',H',ds',g',hI,hg',hx⟩,hmin⟩:=hsp;refine round j T' H' ds' hI g' w' a' _ hg' ?_;intro e T2 H2 b8 g2 w2 a2 q b5 b6
 cases e with
 | normal =>
  obtain⟨k',hk',hI'⟩:=q;have b7:∃ j,J a2 w2 j:=⟨k',T2,H2,b8,g2,hI',b5,hx.trans b6⟩;refine⟨b7,?_⟩;rw [dif_pos b7];have:=(Classical.choose_spec (ZR b7)).2 k' ⟨T2,H2,b8,g2,hI',b5,hx.trans b6⟩;omega
 | _=>exact hr _ _ _ _ _ _ _ q b5 (hx.trans b6)
def aCY (T:Env):Ctx->Bool
 | []=>true
 | p::r=>(match T p.1 with
  | some (c,.lit (.bool _))=>aF9 c r
  | _=>false)&&aCY T r
def gB1 (T:Env)(p:Nat×Bool):Bool :=
 match T p.1 with
 | some (_,.lit (.bool b))=>match p.2 with
  | true=>b
  | false => !b
 | _=>false
def gB (T:Env):Ctx->Bool
 | []=>true
 | [p]=>gB1 T p
 | p::r=>gB1 T p&&gB T r
theorem aNa (T:Env)(p:Nat×Bool)(r:Ctx):gB T (p::r)=(gB1 T p&&gB T r):=by
 cases r <;> simp [gB]
theorem aIA {g:Gh}{w:World}{tmps:Array Value}(h:TR g w T tmps):∀ {c:Ctx},aCY T c=true->(eJ tmps c↔gB T c=true)
 | [],_=>by simp [eJ,gB]
 | p::r,hw=>by
  simp only [aCY,Bool.and_eq_true] at hw;obtain⟨h1,h2⟩:=hw;have ih:=aIA h h2;rw [aNa];have hc:eJ tmps (p::r)↔tmps[p.1]?=some (.bool p.2)/\eJ tmps r:=by simp [eJ]
  rw [hc,Bool.and_eq_true,←ih];split at h1
  ·rename_i c b ht
   have key:eJ tmps r->(tmps[p.1]?=some (.bool p.2)↔gB1 T p=true):=by
    intro hr;obtain⟨v,hv,hrep⟩:=(h _ _ _ ht).1 (aAC h1 hr);rw [hv,hrep.qJ];unfold gB1;rw [ht]
    cases p.2 <;> cases b <;> simp
   exact⟨fun ⟨a,b⟩=>⟨(key b).1 a,b⟩,fun ⟨a,b⟩=>⟨(key b).2 a,b⟩⟩
  ·cases h1
def SJ (ops:Array Oper)(T:Env)(o:Oper):Option Ctx :=
 match o.guard with
 | none=>some []
 | some (j,want)=>match ops[j]? with
  | some oj=>match oj.dst with
   | some t=>match T t with
    | some (c,.lit (.bool _))=>match aCY T ((t,want)::c) with
     | true=>some ((t,want)::c)
     | false=>none
    | _=>none
   | none=>none
  | none=>none
theorem aJp {ops:Array Oper}{o:Oper}{ctx:Ctx}{g:Gh}{w:World}{a:Act}(h:SJ ops T o=some ctx)(htr:TR g w T a.tmps) :
  aCY T ctx=true/\(Region.wanted o (yielded ops a.tmps)=true↔eJ a.tmps ctx):=by
 unfold SJ at h;split at h
 ·rename_i hg
  simp at h;subst h;exact⟨rfl,by simp [Region.wanted,hg,eJ]⟩
 ·rename_i j want hg
  split at h
  ·rename_i oj hj
   split at h
   ·rename_i t ht
    split at h
    ·rename_i c b hT
     split at h
     ·rename_i hw
      simp at h;subst h;refine⟨hw,?_⟩
      have hy:yielded ops a.tmps j=(match a.tmps[t]? with | some (.bool b)=>some b | _=>none):=by
       simp [yielded,hj,ht];split <;> simp_all
      simp only [Region.wanted,hg,hy];constructor
      ·intro hwant p hp
       have hb:a.tmps[t]?=some (.bool want):=by
        cases hv:a.tmps[t]? with
        | none=>simp [hv] at hwant
        | some v =>
         rw [hv] at hwant
         cases v <;> simp at hwant
         subst hwant;rfl
       by_cases hcc:eJ a.tmps c
       ·rcases List.mem_cons.1 hp with rfl | hp
        ·exact hb
        ·exact hcc p hp
       ·have:=(htr _ _ _ hT).2 hcc;rw [hb] at this;simp [undef] at this
      ·intro hc;have:=hc (t,want) (List.mem_cons_self ..);simp only at this;simp [this]
     ·simp at h
    ·simp at h
   ·simp at h
  ·simp at h
def ES (N:Nat)(o:Oper)(ctx:Ctx):Bool :=
 match o.dst with
 | some d=>Nat.blt d N && !TO d ctx
 | none=>true
theorem TR.put {g:Gh} {w:World} {a:Act} (h:TR g w T a.tmps) {o:Oper} {ctx:Ctx} {x:V} {v:Value} (hN:a.tmps.size=N) (hd:ES N o ctx=true)
  (h1:eJ a.tmps ctx->Rep g w x v) (h2:¬ eJ a.tmps ctx->v=undef):TR g w (T.cF o.dst (ctx,x)) (a.put o.dst v).tmps:=by
 unfold ES at hd
 cases ho:o.dst with
 | none=>simpa [Env.cF,Act.put] using h
 | some d =>
  rw [ho] at hd;simp only [Bool.and_eq_true,Bool.not_eq_true'] at hd;exact TR.set h (by rw [hN];exact Nat.le_of_ble_eq_true hd.1) hd.2 h1 h2
end Go.Abs
namespace Go.Abs
open Go IntKind Go.RowKit
variable {P:Program} {tt:TT} {g:Gh} {w:World} {H:bA}
theorem cell?_spot0 {w:World}{b o:Nat}{x:Value}(h:w.cell? ⟨b,o,none⟩=some x):∃ c t f,w.heap[b]?=some (.cells c t f)/\c[o]?=some x:=by
 simp only [World.cell?] at h;split at h
 ·rename_i c t f hc
  exact⟨c,t,f,hc,by simpa using h⟩
 ·cases h
theorem cell?_of {w:World}{b o:Nat}{c:Array Value}{t:TypeId}{f:Nat×Nat}(h:w.heap[b]?=some (.cells c t f)):w.cell? ⟨b,o,none⟩=c[o]? := by
 simp [World.cell?,h]
theorem cell?_lt {w:World}{b o:Nat}(h:(w.cell? ⟨b,o,none⟩).isSome=true):b<w.heap.size:=by
 obtain⟨x,hx⟩:=Option.isSome_iff_exists.1 h;obtain⟨c,t,f,hc,_⟩:=cell?_spot0 hx;exact (Array.getElem?_eq_some_iff.1 hc).1
theorem VY {w:World}{o:Obj}{b:Nat}(h:b<w.heap.size):(w.alloc o).heap[b]?=w.heap[b]? := Below.heap_alloc w o b h
theorem cell?_alloc' {w:World}{o:Obj}{b i:Nat}(h:b<w.heap.size):(w.alloc o).cell? ⟨b,i,none⟩=w.cell? ⟨b,i,none⟩:=by
 simp only [World.cell?,VY h]
theorem frozen?_alloc' {w:World}{o:Obj}{b i:Nat}(h:b<w.heap.size):(w.alloc o).frozen? ⟨b,i,none⟩=w.frozen? ⟨b,i,none⟩:=by
 simp only [World.frozen?,VY h]
theorem cell?_allocNew {w:World}{c:Array Value}{t:TypeId}{i:Nat}:(w.alloc (.cells c t)).cell? ⟨w.heap.size,i,none⟩=c[i]? :=
 cell?_of (World.alloc_heap_new w _)
theorem frozen?_allocNew {w:World}{c:Array Value}{t:TypeId}{i:Nat}:(w.alloc (.cells c t)).frozen? ⟨w.heap.size,i,none⟩=false:=by
 simp only [World.frozen?,World.alloc_heap_new];simp
def upd {α:Type}(f:Nat->α)(n:Nat)(x:α):Nat->α:=fun i=>if i=n then x else f i
theorem gU {α:Type}(f:Nat->α)(n:Nat)(x:α):upd f n x n=x:=by simp [upd]
theorem RV {α:Type}(f:Nat->α){n i:Nat}(x:α)(h:i≠n):upd f n x i=f i:=by simp [upd,h]
def Gh.more (g:Gh)(b o k cap:Nat):Gh:={ g with n:=g.n+1,blk:=upd g.blk g.n b,off:=upd g.off g.n o,k:=upd g.k g.n k,cap:=upd g.cap g.n cap }
def Gh.fix (g:Gh)(b o n:Nat):Gh:={ g with fx:=fun b' o'=>g.fx b' o'∨(b'=b/\o<=o'/\o'<o+n) }
theorem aEs {b o k cap:Nat}:Ext0 g w (g.more b o k cap) w where
 fx _ _ h:=h
 cell _ _ _:=rfl
 n:=Nat.le_succ _
 blk l h:=RV _ _ (Nat.ne_of_lt h)
 off l h:=RV _ _ (Nat.ne_of_lt h)
 k l h:=RV _ _ (Nat.ne_of_lt h)
 cap l h:=RV _ _ (Nat.ne_of_lt h)
theorem Ext.more {w':World}{b o k cap:Nat}(e:Ext g w g w')(hb:w.heap.size<=b ∨ ∃ l0,l0<g.n/\g.blk l0=b):Ext g w (g.more b o k cap) w' :=
 {fx:=fun _ _ h=>h,cell:=e.cell,n:=Nat.le_succ _,blk:=fun l h=>RV _ _ (Nat.ne_of_lt h),off:=fun l h=>RV _ _ (Nat.ne_of_lt h),k:=fun l h=>RV _ _ (Nat.ne_of_lt h),cap:=fun l h=>RV _ _ (Nat.ne_of_lt h),
  size:=e.size,os:=e.os,tape:=e.tape,output:=e.output,keep:=e.keep,
  newblk:=fun l h1 h2=>by
   have : l=g.n:=by simp only [Gh.more] at h2;omega
   subst this
   simpa [Gh.more,gU] using hb }
theorem SR.move {w':World} (h:SR g w H) (e:Ext g w g w')
  (hv:∀ l k es,H[l]?=some (.vec k es) -> ∀ j,j<g.k l*g.cap l->w'.cell? ⟨g.blk l,g.off l+j,none⟩=w.cell? ⟨g.blk l,g.off l+j,none⟩/\w'.frozen? ⟨g.blk l,g.off l+j,none⟩=w.frozen? ⟨g.blk l,g.off l+j,none⟩)
  (hr:∀ l o,H[l]?=some (.raw o)->w'.heap[g.blk l]?=w.heap[g.blk l]?):SR g w' H where
 len:=h.len
 fxc b o hf:=by rw [e.cell b o hf];exact h.fxc b o hf
 kk:=h.kk
 nt:=h.nt
 vec l k es hl:=by
  obtain⟨h1,⟨c,hc⟩,h3⟩:=h.vec l k es hl;refine⟨h1,⟨c,fun i x hx=>?_⟩,fun j hj=>?_⟩
  ·obtain⟨a1,a2,a3⟩:=hc i x hx;refine⟨a1.ext e.toExt0,a2,fun j y hy=>?_⟩;have hi:i<es.length:=(List.getElem?_eq_some_iff.1 hx).1;have hj:j<g.k l:=by rw [←a2];exact (Array.getElem?_eq_some_iff.1 hy).1
   have hlt:i*g.k l+j<g.k l*g.cap l:=by
    have : (i+1)*g.k l<=g.cap l*g.k l:=Nat.mul_le_mul_right _ (by omega);rw [Nat.add_mul,Nat.one_mul] at this;rw [Nat.mul_comm (g.k l)];omega
   have:=(hv l k es hl _ hlt).1;rw [←Nat.add_assoc] at this;rw [this];exact a3 j y hy
  ·obtain⟨a1,a2,a3⟩:=h3 j hj;rw [(hv l k es hl j hj).1,(hv l k es hl j hj).2];exact⟨a1,a2,a3⟩
 raw l s hl:=by
  obtain⟨o,h1,h2,h3⟩:=h.raw l s hl;exact⟨o,by rw [hr l s hl];exact h1,h2,s.st e.toExt0 h3⟩
 disj:=h.disj
 rawd:=h.rawd
theorem SR.aDy (h:SR g w H){l k:Nat}{es:List V}(hl:H[l]?=some (.vec k es)){j:Nat}(hj:j<g.k l*g.cap l):g.blk l<w.heap.size :=
 cell?_lt ((h.vec l k es hl).2.2 j hj).1
theorem SR.aJ6 (h:SR g w H){l:Nat}{o:Sp}(hl:H[l]?=some (.raw o)):g.blk l<w.heap.size :=
 let ⟨_,h1,_⟩:=h.raw l o hl
 (Array.getElem?_eq_some_iff.1 h1).1
theorem SR.alloc (h:SR g w H)(o:Obj):SR g (w.alloc o) H/\Ext g w g (w.alloc o):=by
 have e:Ext g w g (w.alloc o) :=
  {fx:=fun _ _ h=>h,cell:=fun b o hf=>cell?_alloc' (cell?_lt (h.fxc b o hf)),n:=Nat.le_refl _,blk:=fun _ _=>rfl,off:=fun _ _=>rfl,k:=fun _ _=>rfl,cap:=fun _ _=>rfl,
   size:=by simp,os:=rfl,tape:=rfl,output:=rfl,keep:=fun b hb _=>VY hb,newblk:=fun l h1 h2=>absurd h2 (by omega) }
 exact⟨h.move e (fun l k es hl j hj=>⟨cell?_alloc' (h.aDy hl hj),frozen?_alloc' (h.aDy hl hj)⟩) (fun l o hl=>VY (h.aJ6 hl)),e⟩
theorem SR.drew (h:SR g w H):SR g w.drew H/\Ext g w g w.drew:=by
 have e:Ext g w g w.drew :=
  {fx:=fun _ _ h=>h,cell:=fun b o hf=>rfl,n:=Nat.le_refl _,blk:=fun _ _=>rfl,off:=fun _ _=>rfl,k:=fun _ _=>rfl,cap:=fun _ _=>rfl,
   size:=Nat.le_refl _,os:=rfl,tape:=rfl,output:=rfl,keep:=fun b hb _=>rfl,newblk:=fun l h1 h2=>absurd h2 (by omega) }
 exact⟨h.move e (fun l k es hl j hj=>⟨rfl,rfl⟩) (fun l o hl=>rfl),e⟩
theorem SR.more (h:SR g w H) {b o k cap:Nat} {xs:List V} (hcap:xs.length<=cap) (hnt:∀ x∈xs,jM x=true) (c:Nat->Value)
  (hc:∀ i x,xs[i]?=some x->Rep g w x (c i)/\(c i).cells.size=k/\EP w b (o+i*k) (c i))
  (hcl:∀ j,j<k*cap->(w.cell? ⟨b,o+j,none⟩).isSome=true/\w.frozen? ⟨b,o+j,none⟩=false /\ ¬ g.fx b (o+j))
  (hd:∀ l k' es,H[l]?=some (.vec k' es) -> ∀ j j',j<g.k l*g.cap l->j'<k*cap -> ¬ (g.blk l=b/\g.off l+j=o+j'))
  : SR (g.more b o k cap) w (H++[.vec k xs]):=by
 have e:Ext0 g w (g.more b o k cap) w:=aEs
 have hat:∀ l ob,(H++[.vec k xs])[l]?=some ob->(l<g.n/\H[l]?=some ob)∨(l=g.n/\ob=.vec k xs):=by
  intro l ob hl;rw [List.getElem?_append] at hl;split at hl
  ·rename_i hlt;exact .inl ⟨by rw [←h.len];exact hlt,hl⟩
  ·rename_i hge
   have hlen:=h.len
   have h0:l-H.length=0:=by
    have:=(List.getElem?_eq_some_iff.1 hl).1;simp at this;omega
   rw [h0] at hl;simp at hl;exact .inr ⟨by omega,hl.symm⟩
 refine { len:=by simp [Gh.more,h.len],fxc:=h.fxc,nt:=?_,kk:=?_,vec:=?_,raw:=?_,disj:=?_,rawd:=?_ }
 ·intro l k' es hl;rcases hat l _ hl with ⟨hlt,hl'⟩ | ⟨rfl,he⟩
  ·exact h.nt l k' es hl'
  ·cases he;exact hnt
 ·intro l k' es hl;rcases hat l _ hl with ⟨hlt,hl'⟩ | ⟨rfl,he⟩
  ·rw [e.k l hlt];exact h.kk l k' es hl'
  ·cases he;simp only [Gh.more,gU]
 ·intro l k' es hl;rcases hat l _ hl with ⟨hlt,hl'⟩ | ⟨rfl,he⟩
  ·obtain⟨h1,⟨c',hc'⟩,h3⟩:=h.vec l k' es hl';have e1:=e.blk l hlt;have e2:=e.off l hlt;have e3:=e.k l hlt;have e4:=e.cap l hlt;rw [e1,e2,e3,e4];exact⟨h1,⟨c',fun i x hx=>⟨(hc' i x hx).1.ext e,(hc' i x hx).2⟩⟩,h3⟩
  ·cases he
   simp only [Gh.more,gU];exact⟨hcap,⟨c,fun i x hx=>⟨(hc i x hx).1.ext e,(hc i x hx).2⟩⟩,hcl⟩
 ·intro l ob hl;rcases hat l _ hl with ⟨hlt,hl'⟩ | ⟨rfl,he⟩
  ·rw [e.blk l hlt];obtain⟨o,h1,h2,h3⟩:=h.raw l ob hl';exact⟨o,h1,h2,ob.st e h3⟩
  ·cases he
 ·intro l l' k1 k2 es es' hl hl' hne j j' hj hj';rcases hat l _ hl with ⟨hlt,b5⟩ | ⟨rfl,he⟩ <;> rcases hat l' _ hl' with ⟨hlt',hl1'⟩ | ⟨b6,he'⟩
  ·rw [e.blk l hlt,e.off l hlt,e.blk l' hlt',e.off l' hlt'];rw [e.k l hlt,e.cap l hlt] at hj;rw [e.k l' hlt',e.cap l' hlt'] at hj';exact h.disj l l' k1 k2 es es' b5 hl1' hne j j' hj hj'
  ·subst b6;rw [e.blk l hlt,e.off l hlt];rw [e.k l hlt,e.cap l hlt] at hj;simp only [Gh.more,gU] at hj' ⊢;exact hd l k1 es b5 j j' hj hj'
  ·rw [e.blk l' hlt',e.off l' hlt'];rw [e.k l' hlt',e.cap l' hlt'] at hj';simp only [Gh.more,gU] at hj ⊢;intro ⟨a,b⟩;exact hd l' k2 es' hl1' j' j hj' hj ⟨a.symm,b.symm⟩
  ·exact absurd b6.symm hne
 ·intro l l' o1 o2 hl hl' hne;rcases hat l _ hl with ⟨hlt,b5⟩ | ⟨rfl,he⟩
  ·rcases hat l' _ hl' with ⟨hlt',hl1'⟩ | ⟨b6,he'⟩
   ·rw [e.blk l hlt,e.blk l' hlt'];exact h.rawd l l' o1 o2 b5 hl1' hne
   ·cases he'
  ·cases he
theorem SR.kill (h:SR g w H)(l:Nat):SR g w (H.set l .dead):=by
 have hat:∀ (l':Nat) (ob:fD),(H.set l fD.dead)[l']?=some ob->ob≠fD.dead->H[l']?=some ob:=by
  intro l' ob hl hne;rw [List.getElem?_set] at hl;split at hl
  ·split at hl
   ·simp at hl;exact absurd hl.symm hne
   ·cases hl
  ·exact hl
 exact { len:=by simp [h.len],fxc:=h.fxc,nt:=fun l' k es hl=>h.nt l' k es (hat _ _ hl (by simp)),kk:=fun l' k es hl=>h.kk l' k es (hat _ _ hl (by simp)),vec:=fun l' k es hl=>h.vec l' k es (hat _ _ hl (by simp)),raw:=fun l' o hl=>h.raw l' o (hat _ _ hl (by simp)),disj:=fun a b k k' es es' ha hb=>h.disj a b k k' es es' (hat _ _ ha (by simp)) (hat _ _ hb (by simp)),rawd:=fun a b es es' ha hb=>h.rawd a b es es' (hat _ _ ha (by simp)) (hat _ _ hb (by simp)) }
theorem SR.write {w':World} (h:SR g w H) (e:Ext g w g w') {l ke:Nat} {es es':List V} (hl:H[l]?=some (.vec ke es))
  (hv:∀ l' k' es',l'≠l->H[l']?=some (.vec k' es') -> ∀ j,j<g.k l'*g.cap l'->w'.cell? ⟨g.blk l',g.off l'+j,none⟩=w.cell? ⟨g.blk l',g.off l'+j,none⟩/\w'.frozen? ⟨g.blk l',g.off l'+j,none⟩=w.frozen? ⟨g.blk l',g.off l'+j,none⟩)
  (hr:∀ l o,H[l]?=some (.raw o)->w'.heap[g.blk l]?=w.heap[g.blk l]?)
  (hcap:es'.length<=g.cap l) (hnt:∀ x∈es',jM x=true) (c:Nat->Value) (hc:∀ i x,es'[i]?=some x->Rep g w x (c i)/\(c i).cells.size=g.k l/\EP w' (g.blk l) (g.off l+i*g.k l) (c i))
  (hcl:∀ j,j<g.k l*g.cap l->(w'.cell? ⟨g.blk l,g.off l+j,none⟩).isSome=true/\w'.frozen? ⟨g.blk l,g.off l+j,none⟩=false):SR g w' (H.set l (.vec ke es')):=by
 have hlt:l<H.length:=(List.getElem?_eq_some_iff.1 hl).1
 have hat:∀ l' ob,(H.set l (.vec ke es'))[l']?=some ob->(l'=l/\ob=.vec ke es')∨(l'≠l/\H[l']?=some ob):=by
  intro l' ob hl';rw [List.getElem?_set] at hl';split at hl'
  ·rename_i heq
   simp [heq ▸ hlt] at hl';exact .inl ⟨heq.symm,hl'.symm⟩
  ·rename_i hne;exact .inr ⟨fun e=>hne e.symm,hl'⟩
 have hm:=(h.kill l).move e (fun l' k1 b6 b5 j hj=>by
  have : l'≠l:=by
   rintro rfl;rw [List.getElem?_set] at b5;simp [hlt] at b5
  refine hv l' k1 b6 this ?_ j hj
  rwa [List.getElem?_set_ne (Ne.symm this)] at b5) (fun l' o b5=>by
  have : l'≠l:=by
   rintro rfl;rw [List.getElem?_set] at b5;simp [hlt] at b5
  exact hr l' o (by rwa [List.getElem?_set_ne (Ne.symm this)] at b5))
 have back:∀ l' ob,l'≠l->H[l']?=some ob->(H.set l fD.dead)[l']?=some ob:=fun l' ob hne hl'=>by rw [List.getElem?_set_ne (Ne.symm hne)];exact hl'
 refine { len:=by simp [h.len],fxc:=hm.fxc,nt:=?_,kk:=?_,vec:=?_,raw:=?_,disj:=?_,rawd:=?_ }
 ·intro l' k1 b6 b5;rcases hat _ _ b5 with ⟨rfl,he⟩ | ⟨hne,b7⟩
  ·cases he;exact hnt
  ·exact h.nt l' k1 b6 b7
 ·intro l' k1 b6 b5;rcases hat _ _ b5 with ⟨rfl,he⟩ | ⟨hne,b7⟩
  ·cases he;exact h.kk _ _ _ hl
  ·exact h.kk l' k1 b6 b7
 ·intro l' k1 b6 b5;rcases hat _ _ b5 with ⟨rfl,he⟩ | ⟨hne,b7⟩
  ·cases he
   exact⟨hcap,⟨c,fun i x hx=>⟨(hc i x hx).1.ext e.toExt0,(hc i x hx).2⟩⟩,fun j hj=>⟨(hcl j hj).1,(hcl j hj).2,((h.vec _ _ _ hl).2.2 j hj).2.2⟩⟩
  ·exact hm.vec l' k1 b6 (back _ _ hne b7)
 ·intro l' o b5;rcases hat _ _ b5 with ⟨rfl,he⟩ | ⟨hne,b7⟩
  ·cases he
  ·exact hm.raw l' o (back _ _ hne b7)
 ·intro a b k1 k2 b6 c5 ha hb hne;rcases hat _ _ ha with ⟨rfl,he⟩ | ⟨hna,b8⟩ <;> rcases hat _ _ hb with ⟨c4,he'⟩ | ⟨hnb,b9⟩
  ·exact absurd c4.symm hne
  ·exact h.disj _ _ _ _ _ _ hl b9 hne
  ·subst c4;exact h.disj _ _ _ _ _ _ b8 hl hne
  ·exact h.disj _ _ _ _ _ _ b8 b9 hne
 ·intro a b o1 o2 ha hb hne;rcases hat _ _ ha with ⟨rfl,he⟩ | ⟨hna,b8⟩
  ·cases he
  ·rcases hat _ _ hb with ⟨c4,he'⟩ | ⟨hnb,b9⟩
   ·cases he'
   ·exact h.rawd _ _ _ _ b8 b9 hne
theorem SR.freeze (h:SR g w H){l ke:Nat}{es:List V}(hl:H[l]?=some (.vec ke es)) :
  SR (g.fix (g.blk l) (g.off l) (g.k l*es.length)) w (H.set l .dead)/\Ext g w (g.fix (g.blk l) (g.off l) (g.k l*es.length)) w /\
   ∀ v,Rep g w (.msl ke l 0 es.length) v->Rep (g.fix (g.blk l) (g.off l) (g.k l*es.length)) w (.sl false es.length (fun i=>es.getD i .bad)) v:=by
 obtain⟨h1,⟨c,hc⟩,h3⟩:=h.vec l ke es hl;have hkl:g.k l*es.length<=g.k l*g.cap l:=Nat.mul_le_mul_left _ h1
 have hmine:∀ o,g.off l<=o->o<g.off l+g.k l*es.length->(w.cell? ⟨g.blk l,o,none⟩).isSome=true:=fun o b5 b6=>by
  have:=(h3 (o-g.off l) (by omega)).1
  rwa [show g.off l+(o-g.off l)=o by omega] at this
 have e:Ext g w (g.fix (g.blk l) (g.off l) (g.k l*es.length)) w :=
  {fx:=fun _ _ h=>.inl h,cell:=fun _ _ _=>rfl,n:=Nat.le_refl _,blk:=fun _ _=>rfl,off:=fun _ _=>rfl,k:=fun _ _=>rfl,cap:=fun _ _=>rfl,
   size:=Nat.le_refl _,os:=rfl,tape:=rfl,output:=rfl,keep:=fun _ _ _=>rfl,newblk:=fun l h1 h2=>absurd h2 (by simp [Gh.fix];omega) }
 have hlt:l<H.length:=(List.getElem?_eq_some_iff.1 hl).1
 have hat:∀ (l':Nat) (ob:fD),(H.set l fD.dead)[l']?=some ob->ob≠fD.dead->l'≠l/\H[l']?=some ob:=by
  intro l' ob hl' hne;by_cases heq:l'=l
  ·subst heq;rw [List.getElem?_set] at hl';simp [hlt] at hl';exact absurd hl'.symm hne
  ·exact⟨heq,by rwa [List.getElem?_set_ne (Ne.symm heq)] at hl'⟩
 refine⟨?_,e,?_⟩
 ·have hk:=h.kill l;refine { len:=hk.len,fxc:=?_,nt:=hk.nt,kk:=hk.kk,vec:=?_,raw:=fun l s hl=>let ⟨o,a1,a2,a3⟩:=hk.raw l s hl;⟨o,a1,a2,s.st e.toExt0 a3⟩,disj:=hk.disj,rawd:=hk.rawd }
  ·rintro b o (hf | ⟨rfl,b5,b6⟩)
   ·exact h.fxc b o hf
   ·exact hmine o b5 b6
  ·intro l' k' es' hl';obtain⟨hne,b7⟩:=hat _ _ hl' (by simp);obtain⟨a1,⟨c',hc'⟩,a3⟩:=h.vec l' k' es' b7;refine⟨a1,⟨c',fun i x hx=>⟨(hc' i x hx).1.ext e.toExt0,(hc' i x hx).2⟩⟩,fun j hj=>⟨(a3 j hj).1,(a3 j hj).2.1,?_⟩⟩;rintro (hf | ⟨hb,b5,b6⟩)
   ·exact (a3 j hj).2.2 hf
   ·change g.blk l'=g.blk l at hb
    change g.off l<=g.off l'+j at b5
    change g.off l'+j<g.off l+g.k l*es.length at b6
    exact h.disj l' l k' ke es' es b7 hl hne j (g.off l'+j-g.off l) hj (by omega) ⟨hb,by omega⟩
 ·intro v hv;obtain⟨hln,hkk,⟨hcap,rfl⟩ | ⟨hn,_,a,rfl⟩⟩:=hv.aNE
  case inr=>rw [hn];exact .sl0 _ _ _ _ (by simp)
  case inl =>
   rw [←hkk]
   refine .sl _ _ _ _ (g.k l) _ c (fun i hi=>?_) (fun i hi=>?_) (fun i hi=>?_) (fun i hi j hj=>?_) (by omega) (fun i hi=>by
    rw [List.getD_eq_getElem?_getD,List.getElem?_eq_getElem hi];exact h.nt _ _ _ hl _ (List.getElem_mem hi))
   ·have hx:es[i]?=some es[i]:=List.getElem?_eq_getElem hi;have:=((hc i _ hx).1).ext e.toExt0
    simpa [List.getD,hx] using this
   ·exact (hc i _ (List.getElem?_eq_getElem hi)).2.1
   ·have:=(hc i _ (List.getElem?_eq_getElem hi)).2.2
    simpa using this
   ·refine .inr ⟨rfl,by omega,?_⟩;have : (i+1)*g.k l<=es.length*g.k l:=Nat.mul_le_mul_right _ (by omega);rw [Nat.add_mul,Nat.one_mul] at this;rw [Nat.mul_comm (g.k l)];omega
end Go.Abs
namespace Go.Abs
open Go IntKind Go.RowKit
variable {P:Program} {tt:TT} {g:Gh} {w:World} {H:bA}
theorem SR.aAq (h:SR g w H) {t:TypeId} {cs:Array Value} {k cap:Nat} {xs:List V} (c:Nat->Value)
  (hrep:∀ (i:Nat) x,xs[i]?=some x->Rep g w x (c i)/\(c i).cells.size=k /\ ∀ (j:Nat) y,(c i).cells[j]?=some y->cs[i*k+j]?=some y)
  (hsz:cs.size=k*cap) (hcap:xs.length<=cap) (hnt:∀ x∈xs,jM x=true) :
  SR (g.more w.heap.size 0 k cap) (w.alloc (.cells cs t)) (H++[.vec k xs])/\Ext g w (g.more w.heap.size 0 k cap) (w.alloc (.cells cs t)) /\
   Rep (g.more w.heap.size 0 k cap) (w.alloc (.cells cs t)) (.msl k H.length 0 xs.length) (.slice (some ⟨w.heap.size,0,none⟩) xs.length cap) /\
   Rep (g.more w.heap.size 0 k cap) (w.alloc (.cells cs t)) (.lp H.length 0 0) (.pointer (some ⟨w.heap.size,0,none⟩)):=by
 obtain⟨h1,e1⟩:=h.alloc (.cells cs t)
 have hd:∀ l k' es,H[l]?=some (.vec k' es) -> ∀ j j',j<g.k l*g.cap l->j'<k*cap -> ¬ (g.blk l=w.heap.size/\g.off l+j=0+j'):=fun l k' es hl j j' hj _ ⟨hb,_⟩=>by
  have:=h.aDy hl hj;omega
 have h2:=h1.more (b:=w.heap.size) (o:=0) (k:=k) (cap:=cap) (xs:=xs) hcap hnt c
  (fun i x hx=>⟨(hrep i x hx).1.ext e1.toExt0,(hrep i x hx).2.1,fun j y hy=>by
   rw [Nat.zero_add,cell?_allocNew];exact (hrep i x hx).2.2 j y hy⟩)
  (fun j hj=>⟨by rw [Nat.zero_add,cell?_allocNew];simp [hsz,hj],frozen?_allocNew,fun hf=>by
   have:=cell?_lt (h.fxc _ _ hf);omega⟩)
  hd
 have e2:Ext g w (g.more w.heap.size 0 k cap) (w.alloc (.cells cs t)):=e1.more (.inl (Nat.le_refl _));refine⟨h2,e2,?_,?_⟩
 ·have:=Rep.msl (g:=g.more w.heap.size 0 k cap) (w:=w.alloc (.cells cs t)) g.n 0 xs.length (Nat.lt_succ_self _) (by simpa [Gh.more,gU] using hcap);rw [h.len]
  simpa [Gh.more,gU] using this
 ·have:=Rep.lp (g:=g.more w.heap.size 0 k cap) (w:=w.alloc (.cells cs t)) g.n 0 0 (Nat.lt_succ_self _);rw [h.len]
  simpa [Gh.more,gU] using this
theorem SR.aD4 (h:SR g w H) {t:TypeId} {cs:Array Value} {k cap n:Nat} (el:Nat->V) (c:Nat->Value)
  (hrep:∀ i,i<n->Rep g w (el i) (c i)/\(c i).cells.size=k /\ ∀ (j:Nat) y,(c i).cells[j]?=some y->cs[i*k+j]?=some y)
  (hsz:cs.size=k*cap) (hcap:n<=cap) (hnt:∀ i,i<n->jM (el i)=true) :
  SR (g.fix w.heap.size 0 (k*cap)) (w.alloc (.cells cs t)) H/\Ext g w (g.fix w.heap.size 0 (k*cap)) (w.alloc (.cells cs t)) /\
   Rep (g.fix w.heap.size 0 (k*cap)) (w.alloc (.cells cs t)) (.sl false n el) (.slice (some ⟨w.heap.size,0,none⟩) n cap):=by
 obtain⟨h1,e1⟩:=h.alloc (.cells cs t)
 have e:Ext g w (g.fix w.heap.size 0 (k*cap)) (w.alloc (.cells cs t)) :=
  {fx:=fun _ _ h=>.inl h,cell:=e1.cell,n:=Nat.le_refl _,blk:=fun _ _=>rfl,off:=fun _ _=>rfl,k:=fun _ _=>rfl,cap:=fun _ _=>rfl,
   size:=e1.size,os:=rfl,tape:=rfl,output:=rfl,keep:=e1.keep,newblk:=fun l h1 h2=>absurd h2 (by simp [Gh.fix];omega) }
 have e':Ext0 g (w.alloc (.cells cs t)) (g.fix w.heap.size 0 (k*cap)) (w.alloc (.cells cs t)) :=
  {fx:=fun _ _ h=>.inl h,cell:=fun _ _ _=>rfl,n:=Nat.le_refl _,blk:=fun _ _=>rfl,off:=fun _ _=>rfl,k:=fun _ _=>rfl,cap:=fun _ _=>rfl }
 refine⟨{ len:=h1.len,fxc:=?_,nt:=h1.nt,kk:=h1.kk,vec:=?_,raw:=fun l s hl=>let ⟨o,a1,a2,a3⟩:=h1.raw l s hl;⟨o,a1,a2,s.st e' a3⟩,disj:=h1.disj,rawd:=h1.rawd },e,?_⟩
 ·rintro b o (hf | ⟨rfl,_,ho⟩)
  ·exact h1.fxc b o hf
  ·rw [cell?_allocNew];simp [hsz];omega
 ·intro l k' es hl;obtain⟨a1,⟨c',hc'⟩,a3⟩:=h1.vec l k' es hl;refine⟨a1,⟨c',fun i x hx=>⟨(hc' i x hx).1.ext e',(hc' i x hx).2⟩⟩,fun j hj=>⟨(a3 j hj).1,(a3 j hj).2.1,?_⟩⟩;rintro (hf | ⟨hb,_,_⟩)
  ·exact (a3 j hj).2.2 hf
  ·have:=h.aDy hl hj
   change g.blk l=_ at hb
   omega
 ·refine .sl n el _ _ k cap c (fun i hi=>(hrep i hi).1.ext e.toExt0) (fun i hi=>(hrep i hi).2.1) (fun i hi j y hy=>?_) (fun i hi j hj=>.inr ⟨rfl,Nat.zero_le _,?_⟩) hcap hnt
  ·rw [Nat.zero_add,cell?_allocNew];exact (hrep i hi).2.2 j y hy
  ·have : (i+1)*k<=cap*k:=Nat.mul_le_mul_right _ (by omega);rw [Nat.add_mul,Nat.one_mul] at this;rw [Nat.mul_comm k];omega
structure Wr (w w':World) (b lo hi:Nat):Prop where
 os:w'.os=w.os
 tape:w'.tape=w.tape
 output:w'.output=w.output
 size:w'.heap.size=w.heap.size
 other:∀ b',b'≠b->w'.heap[b']?=w.heap[b']?
 block:∃ c t f c',w.heap[b]?=some (.cells c t f)/\w'.heap[b]?=some (.cells c' t f)/\c'.size=c.size /\ ∀ o,(o<lo∨hi<=o)->c'[o]?=c[o]?
theorem Wr.cell {w w':World}{b lo hi b' o:Nat}(h:Wr w w' b lo hi)(ho:b'≠b∨o<lo∨hi<=o):w'.cell? ⟨b',o,none⟩=w.cell? ⟨b',o,none⟩:=by
 by_cases hb:b'=b
 ·subst hb;obtain⟨c,t,f,c',h1,h2,h3,h4⟩:=h.block;rw [cell?_of h1,cell?_of h2];exact h4 o (ho.resolve_left (by simp))
 ·simp only [World.cell?,h.other b' hb]
theorem Wr.frozen {w w':World}{b lo hi b' o:Nat}(h:Wr w w' b lo hi):w'.frozen? ⟨b',o,none⟩=w.frozen? ⟨b',o,none⟩:=by
 by_cases hb:b'=b
 ·subst hb;obtain⟨c,t,f,c',h1,h2,h3,h4⟩:=h.block;simp [World.frozen?,h1,h2]
 ·simp only [World.frozen?,h.other b' hb]
theorem aIv (x:Array Value)(o:Nat):x[o]?.isSome=decide (o<x.size):=by
 by_cases ho:o<x.size <;> simp [ho]
theorem Wr.isSome {w w':World}{b lo hi b' o:Nat}(h:Wr w w' b lo hi):(w'.cell? ⟨b',o,none⟩).isSome=(w.cell? ⟨b',o,none⟩).isSome:=by
 by_cases hb:b'=b
 ·subst hb;obtain⟨c,t,f,c',h1,h2,h3,h4⟩:=h.block;rw [cell?_of h1,cell?_of h2,aIv,aIv,h3]
 ·simp only [World.cell?,h.other b' hb]
theorem OV:∀ (vs:List Value) (i:Nat) (w:World) {b o:Nat} {c:Array Value} {t:TypeId} {f:Nat×Nat},w.heap[b]?=Option.some (.cells c t f)->o+i+vs.length<=c.size->(∀ v∈vs,one v=true) ->
  (∀ j,j<vs.length->w.frozen? ⟨b,o+i+j,none⟩=false) ->
  ∃ w',(storeCells ⟨b,o,none⟩ vs i).run P w=.ok () w'/\Wr w w' b (o+i) (o+i+vs.length) /\ ∀ (j:Nat) v,vs[j]?=Option.some v->w'.cell? ⟨b,o+i+j,none⟩=Option.some v
 | [],i,w,b,o,c,t,f,hb,_,_,_=>⟨w,rfl,⟨rfl,rfl,rfl,rfl,fun _ _=>rfl,c,t,f,c,hb,hb,rfl,fun _ _=>rfl⟩,by simp⟩
 | v::vs,i,w,b,o,c,t,f,hb,hl,ho,hf=>by
  simp only [List.length_cons] at hl hf;have hv:=ho v (List.mem_cons_self ..);have hcell:w.cell? ⟨b,o+i,none⟩=Option.some c[o+i]:=by rw [cell?_of hb,Array.getElem?_eq_getElem (by omega)]
  have hfr:=hf 0 (by omega);simp only [Nat.add_zero] at hfr
  have hst:(store ⟨b,o+i,none⟩ v).run P w=.ok () (w.setCell ⟨b,o+i,none⟩ v):=by
   cases v <;> first | (simp [one] at hv; done) | simp [store,Sem.run,hcell,hfr]
  have hb':(w.setCell ⟨b,o+i,none⟩ v).heap[b]?=Option.some (.cells (c.setIfInBounds (o+i) v) t f):=by
   simp [World.setCell,Array.getElem?_modify,hb]
  have hw1:Wr w (w.setCell ⟨b,o+i,none⟩ v) b (o+i) (o+i+1) :=
   ⟨rfl,rfl,rfl,by simp,fun b' hne=>Below.heap_setCell _ _ _ _ hne,c,t,f,_,hb,hb',by simp,fun p hp=>by
    rw [Array.getElem?_setIfInBounds_ne (by omega)]⟩
  obtain⟨w',hr,hw,hg⟩:=OV vs (i+1) (w.setCell ⟨b,o+i,none⟩ v) (o:=o) hb' (by simp;omega) (fun u hu=>ho u (List.mem_cons_of_mem _ hu)) (fun j hj=>by
   rw [hw1.frozen];have:=hf (j+1) (by omega);rwa [show o+i+(j+1)=o+(i+1)+j by omega] at this)
  refine⟨w',?_,?_,?_⟩
  ·simp only [storeCells,Sem.run_bind,CE,hst,Result.andThen];exact hr
  ·obtain⟨c1,t1,f1,c2,q1,q2,q3,q4⟩:=hw.block;rw [hb'] at q1
   cases q1
   refine⟨hw.os,hw.tape,hw.output,by rw [hw.size];simp,fun b' hne=>(hw.other b' hne).trans (hw1.other b' hne),c,t,f,c2,hb,q2,by simpa using q3,fun p hp=>?_⟩;simp only [List.length_cons] at hp;rw [q4 p (by omega),Array.getElem?_setIfInBounds_ne (by omega)]
  ·intro j u hj
   cases j with
   | zero =>
    simp at hj;subst hj;rw [Nat.add_zero,hw.cell (.inr (.inl (by omega)))];exact World.cell?_setCell_same w _ _ hcell
   | succ j =>
    simp at hj;have:=hg j u hj
    rwa [show o+(i+1)+j=o+i+(j+1) by omega] at this
end Go.Abs
namespace Go.Abs
open Go IntKind Go.RowKit
variable {P:Program} {tt:TT} {g:Gh} {w:World} {H:bA}
theorem aAI (off:Nat):∀ (ys:List Value) (k:Nat) (cs:Array Value),
  ((ys.zipIdx k).foldl (fun cs (c,j)=>cs.setIfInBounds (off+j) c) cs).size=cs.size /\
  (∀ p,(p<off+k∨off+k+ys.length<=p)->((ys.zipIdx k).foldl (fun cs (c,j)=>cs.setIfInBounds (off+j) c) cs)[p]?=cs[p]?) /\
  (∀ (j:Nat) y,ys[j]?=some y->off+k+j<cs.size->((ys.zipIdx k).foldl (fun cs (c,j)=>cs.setIfInBounds (off+j) c) cs)[off+k+j]?=some y)
 | [],k,cs=>by simp
 | y::ys,k,cs=>by
  simp only [List.zipIdx_cons,List.foldl_cons,List.length_cons];obtain⟨h1,h2,h3⟩:=aAI off ys (k+1) (cs.setIfInBounds (off+k) y);refine⟨by rw [h1];simp,fun p hp=>?_,fun j z hz hj=>?_⟩
  ·rw [h2 p (by omega),Array.getElem?_setIfInBounds_ne (by omega)]
  ·cases j with
   | zero =>
    simp at hz;subst hz;rw [h2 _ (by omega),Nat.add_zero,Array.getElem?_setIfInBounds];simp;omega
   | succ j =>
    simp at hz;have:=h3 j z hz (by simp;omega)
    rwa [show off+(k+1)+j=off+k+(j+1) by omega] at this
theorem aCM (size:Nat):∀ (qs:List (Nat×Value)) (s:Nat) (cells:Array Value),(∀ (i:Nat) q,qs[i]?=some q->q.1=s+i/\q.2.cells.size=size)->(s+qs.length)*size<=cells.size ->
  ∃ rs,Instr.fill (fun i=>some (i*size,size)) cells qs=some rs/\rs.size=cells.size/\(∀ k,k<s*size->rs[k]?=cells[k]?) /\
   (∀ (i:Nat) q (j:Nat) x,qs[i]?=some q->q.2.cells[j]?=some x->rs[(s+i)*size+j]?=some x)
 | [],s,cells,_,_=>⟨cells,rfl,rfl,fun _ _=>rfl,by simp⟩
 | (i0,v)::qs,s,cells,hq,hl=>by
  obtain⟨he,hs⟩:=hq 0 _ rfl;simp only [Nat.add_zero] at he hs;subst he;simp only [List.length_cons] at hl
  have hle:i0*size+size<=cells.size:=by
   have : (i0+1)*size<=(i0+(qs.length+1))*size:=Nat.mul_le_mul_right _ (by omega);rw [Nat.add_mul,Nat.one_mul] at this;omega
  have hcond:¬ ((v.cells.size≠size||decide (i0*size+v.cells.size>cells.size))=true):=by
   simp [hs];omega
  obtain⟨p1,p2,p3⟩:=aAI (i0*size) v.cells.toList 0 cells;simp only [Nat.add_zero,Array.length_toList,hs] at p1 p2 p3
  obtain⟨rs,h1,h2,h3,h4⟩:=aCM size qs (i0+1) (v.cells.zipIdx.foldl (fun cs (c,j)=>cs.setIfInBounds (i0*size+j) c) cells) (fun i q hi=>by
   have:=hq (i+1) q (by simpa using hi)
   exact⟨by omega,this.2⟩) (by
    rw [←Array.foldl_toList,Array.toList_zipIdx,p1]
    rwa [show i0+1+qs.length=i0+(qs.length+1) by omega])
  rw [←Array.foldl_toList,Array.toList_zipIdx] at h1 h2 h3;refine⟨rs,?_,by rw [h2,p1],fun k hk=>?_,fun i q j x hi hj=>?_⟩
  ·simp only [Instr.fill,if_neg hcond];rw [←Array.foldl_toList,Array.toList_zipIdx];exact h1
  ·have : (i0+1)*size=i0*size+size:=by rw [Nat.add_mul,Nat.one_mul]
   rw [h3 k (by omega),p2 k (by omega)]
  ·cases i with
   | zero =>
    simp at hi;subst hi;have hj':j<size:=by rw [←hs];exact (Array.getElem?_eq_some_iff.1 hj).1
    have : (i0+1)*size=i0*size+size:=by rw [Nat.add_mul,Nat.one_mul]
    rw [Nat.add_zero,h3 _ (by omega)];exact p3 j x (by simpa using hj) (by omega)
   | succ i =>
    simp at hi;have:=h4 i q j x hi hj
    rwa [show i0+1+i=i0+(i+1) by omega] at this
def aBd (s:Nat):List (Nat×V)->Bool
 | []=>true
 | p::r=>Nat.beq p.1 s&&aBd (s+1) r
theorem aBO:∀ {l:List (Nat×V)} {s:Nat},aBd s l=true -> ∀ (i:Nat) p,l[i]?=some p->p.1=s+i
 | [],s,_,i,p,h=>by simp at h
 | q::r,s,h,i,p,hp=>by
  simp only [aBd,Bool.and_eq_true] at h
  cases i with
  | zero=>simp at hp; subst hp; simpa using Nat.eq_of_beq_eq_true h.1
  | succ i=>simp at hp; have:=aBO h.2 i p hp; omega
def aE1 (n:Nat):List V->Bool
 | []=>true
 | x::r=>vY x n&&aE1 n r
theorem aAT {n:Nat}:∀ {l:List V},aE1 n l=true -> ∀ (i:Nat) p,l[i]?=some p->vY p n=true
 | [],_,i,p,h=>by simp at h
 | q::r,h,i,p,hp=>by
  simp only [aE1,Bool.and_eq_true] at h
  cases i with
  | zero=>simp at hp; subst hp; exact h.1
  | succ i=>simp at hp; exact aAT h.2 i p hp
def SW (tt:TT)(T:Env)(ctx:Ctx)(op:Op):Option (List V) :=
 match op with
 | .buildSlice t n parts=>match SS T ctx parts.toList,tt t with
  | some ps,some ⟨.slice e,_,_,_⟩=>match tt e with
   | some te=>match aBd 0 ps&&Nat.beq ps.length n&&aE1 te.size (ps.map (·.2))&&Nat.ble (n*te.size) 16777216&&Nat.beq te.zero.cells.length te.size&&jM te.zero with
    | true=>some (ps.map (·.2))
    | false=>none
   | none=>none
  | _,_=>none
 | _=>none
theorem aDX (htt:jO P tt) {T:Env} {a:Act} {ctx:Ctx} (htr:TR g w T a.tmps) (hc:eJ a.tmps ctx) {t:TypeId} {n:Nat} {parts:Array (Nat×Operand)} {xs:List V}
  (h:SW tt T ctx (.buildSlice t n parts)=some xs) :
  ∃ (e:TypeId) (te:TyE) (cs:Array Value) (c:Nat->Value),n=xs.length/\(∃ q1 q2 q3,tt t=some ⟨.slice e,q1,q2,q3⟩)/\(∀ x∈xs,jM x=true)/\tt e=some te/\cs.size=te.size*n/\(Instr.buildSlice t n (parts.map fun (i,x)=>(i,a.eval x))).run P w=.ok (.slice (some ⟨w.heap.size,0,none⟩) n n) (w.alloc (.cells cs e)) /\
   ∀ (i:Nat) x,xs[i]?=some x->Rep g w x (c i)/\(c i).cells.size=te.size /\ ∀ (j:Nat) y,(c i).cells[j]?=some y->cs[i*te.size+j]?=some y:=by
 simp only [SW] at h;split at h
 ·rename_i ps e _ _ _ hps ht
  split at h
  ·rename_i te hte
   split at h
   ·rename_i hb
    simp only [Bool.and_eq_true] at hb;obtain⟨⟨⟨⟨⟨b1,b2⟩,b3⟩,b4⟩,b5⟩,b6⟩:=hb;simp at h;subst h;have b2:ps.length=n:=Nat.eq_of_beq_eq_true b2;have b4:n*te.size<=16777216:=Nat.le_of_ble_eq_true b4;have b5:te.zero.cells.length=te.size:=Nat.eq_of_beq_eq_true b5;obtain⟨hl,hg⟩:=XB htr hc hps;have hu:=(htt.facts ht).under;have hsz:=pS (P:=P) (htt.facts hte);obtain⟨⟨i,hi,_,_,zv,hz,hzv⟩,_⟩:=htt.facts hte;have hzr:Rep g w te.zero zv:=uR hzv;have hzs:zv.cells.size=te.size:=by rw [←(hzr.CF b6).1,b5]
    have hqs:∀ (i:Nat) q,((parts.map fun (i,x)=>(i,a.eval x)).toList)[i]?=some q->q.1=0+i/\q.2.cells.size=te.size /\ ∃ p,ps[i]?=some p/\Rep g w p.2 q.2:=by
     intro i q hq;simp only [Array.toList_map,List.getElem?_map,Option.map_eq_some_iff] at hq;obtain⟨r,b7,rfl⟩:=hq;have hlt:i<ps.length:=by rw [hl];exact (List.getElem?_eq_some_iff.1 b7).1
     have hp:ps[i]?=some ps[i]:=List.getElem?_eq_getElem hlt;obtain⟨h1,h2⟩:=hg i _ r hp b7;have hso:=sS (aAT b3 i ps[i].2 (by simp [hp]));exact⟨by rw [←aBO b1 i _ hp,h1],by rw [←(h2.CF hso.1).1,hso.2],_,hp,h2⟩
    obtain⟨rs,f1,f2,f3,f4⟩:=aCM te.size (parts.map fun (i,x)=>(i,a.eval x)).toList 0 ((Array.range (n*te.size)).map (zv.cells[· % zv.cells.size]!))
     (fun i q hq=>⟨(hqs i q hq).1,(hqs i q hq).2.1⟩) (by simp at hl ⊢;rw [←hl,b2];exact Nat.le_refl _)
    have hzero:(zeroValue e).run P w=.ok zv w:=by simp [zeroValue,typeInfo,hi,hz]
    refine⟨e,te,rs,fun i=>(((parts.map fun (i,x)=>(i,a.eval x)).toList)[i]?.getD (0,undef)).2,by simp [b2],⟨_,_,_,ht⟩,fun x hx=>by
     obtain⟨i,hi,e⟩:=List.getElem_of_mem hx;exact (sS (aAT b3 i x (by rw [List.getElem?_eq_getElem hi,e]))).1,hte,by rw [f2];simp [Nat.mul_comm],?_,?_⟩
    ·have hlim:¬ (n*te.size>2 ^ 24):=by omega
     simp only [Instr.buildSlice,Sem.run_bind,run_underlying hu,Result.andThen,hsz,if_neg hlim,Sem.run_pure];by_cases h0:n*te.size=0
     ·simp only [if_pos h0,Sem.run_bind,Sem.run_pure,Result.andThen]
      have hrange:(Array.map (fun x=>(#[]:Array Value)[x % (#[]:Array Value).size]!) (Array.range (n*te.size)))=Array.map (fun x=>zv.cells[x % zv.cells.size]!) (Array.range (n*te.size)):=by
       rw [h0];simp
      rw [hrange,f1];rfl
     ·simp only [if_neg h0,Sem.run_bind,hzero,Result.andThen,Sem.run_pure];rw [f1];rfl
    ·intro i x hx;simp only [List.getElem?_map,Option.map_eq_some_iff] at hx;obtain⟨p,hp,rfl⟩:=hx
     have hlt:i<((parts.map fun (i,x)=>(i,a.eval x)).toList).length:=by
      have:=(List.getElem?_eq_some_iff.1 hp).1;simp at hl ⊢;omega
     have hq:=List.getElem?_eq_getElem hlt;obtain⟨q1,q2,p',hp',q3⟩:=hqs i _ hq;rw [hp] at hp';cases hp';simp only [hq,Option.getD_some];refine⟨q3,q2,fun j y hy=>?_⟩;have:=f4 i _ j y hq hy
     simpa using this
   ·simp at h
  ·simp at h
 ·simp at h
def ON (k:Nat)(H:bA):V->Option (List V)
 | .sl true _ _=>some []
 | .msl k0 l 0 n=>match H[l]? with
  | some (.vec k' es)=>match Nat.beq es.length n&&Nat.beq k' k&&Nat.beq k0 k with
   | true=>some es
   | false=>none
  | _=>none
 | _=>none
def wQ (k:Nat)(H:bA):V->Option (List V)
 | .sl _ n el=>match vY (el 0) k with
  | true=>some ((List.range n).map el)
  | false=>none
 | .msl k0 l i n=>match H[l]? with
  | some (.vec k' es)=>match Nat.ble (i+n) es.length&&Nat.beq k' k&&Nat.beq k0 k with
   | true=>some ((es.drop i).take n)
   | false=>none
  | _=>none
 | _=>none
def IT (k:Nat)(H:bA)(s:V)(es:List V):bA :=
 (match s with
  | .msl _ l _ _=>H.set l .dead
  | _=>H)++[.vec k es]
end Go.Abs
namespace Go.Abs
open Go IntKind Go.RowKit
variable {P:Program} {tt:TT} {g:Gh} {w:World} {H:bA}
structure yS (g:Gh) (w:World) (k:Nat) (ys:List V) (cs:List Value):Prop where
 len:cs.length=ys.length*k
 rep:∃ c:Nat->Value,∀ (i:Nat) y,ys[i]?=some y->Rep g w y (c i)/\(c i).cells.size=k /\ ∀ (j:Nat) z,(c i).cells[j]?=some z->cs[i*k+j]?=some z
 one:∀ z∈cs,one z=true
theorem aBH {k:Nat} {ys:List V} {b o:Nat} (c:Nat->Value) (h:∀ (i:Nat) y,ys[i]?=some y->Rep g w y (c i)/\(c i).cells.size=k/\EP w b (o+i*k) (c i))
  (hn:∀ y∈ys,jM y=true) :
  ∃ cs,yS g w k ys cs /\ ∀ (j:Nat) z,cs[j]?=some z->w.cell? ⟨b,o+j,none⟩=some z:=by
 have at_:∀ p,p<ys.length*k -> ∃ i j z,i<ys.length/\j<k/\p=i*k+j/\(c i).cells[j]?=some z/\w.cell? ⟨b,o+p,none⟩=some z:=by
  intro p hp
  have hk:0<k:=by
   rcases Nat.eq_zero_or_pos k with h0 | h0
   ·subst h0;simp at hp
   ·exact h0
  have hi:p / k<ys.length:=(Nat.div_lt_iff_lt_mul hk).2 hp;have hy:=List.getElem?_eq_getElem hi;obtain⟨_,h2,h3⟩:=h _ _ hy;have hj:p % k<(c (p / k)).cells.size:=by rw [h2];exact Nat.mod_lt _ hk
  have hz:=Array.getElem?_eq_getElem hj;have he:p=p / k*k+p % k:=by rw [Nat.mul_comm];exact (Nat.div_add_mod p k).symm
  refine⟨p / k,p % k,_,hi,Nat.mod_lt _ hk,he,hz,?_⟩;have:=h3 _ _ hz;rw [Nat.add_assoc,←he] at this;exact this
 refine⟨(List.range (ys.length*k)).map fun p=>(w.cell? ⟨b,o+p,none⟩).getD undef,⟨by simp,⟨c,fun i y hy=>⟨(h i y hy).1,(h i y hy).2.1,fun j z hz=>?_⟩⟩,fun z hz=>?_⟩,fun j z hz=>?_⟩
 ·have hi:i<ys.length:=(List.getElem?_eq_some_iff.1 hy).1;have hj:j<k:=by rw [←(h i y hy).2.1];exact (Array.getElem?_eq_some_iff.1 hz).1
  have hlt:i*k+j<ys.length*k:=by
   have : (i+1)*k<=ys.length*k:=Nat.mul_le_mul_right _ (by omega);rw [Nat.add_mul,Nat.one_mul] at this;omega
  have:=(h i y hy).2.2 j z hz;rw [Nat.add_assoc] at this;simp [hlt,this]
 ·simp only [List.mem_map,List.mem_range] at hz;obtain⟨p,hp,rfl⟩:=hz;obtain⟨i,j,z,hi,hj,he,hz,hc⟩:=at_ p hp;rw [hc];have hy:=List.getElem?_eq_getElem hi;exact (((h i _ hy).1.CF (hn _ (List.getElem_mem hi))).2.2 j z hz)
 ·simp only [List.getElem?_map,Option.map_eq_some_iff,List.getElem?_range] at hz;obtain⟨p,hp,rfl⟩:=hz
  have hlt:j<ys.length*k:=by
   rcases Nat.lt_or_ge j (ys.length*k) with h' | h'
   ·exact h'
   ·simp [List.getElem?_eq_none (l:=List.range (ys.length*k)) (by simpa using h')] at hp
  have : p=j:=by
   rw [List.getElem?_range hlt] at hp;simpa using hp.symm
  subst this;obtain⟨i,j',z,hi,hj,he,hz,hc⟩:=at_ p hlt;rw [hc];rfl
theorem aC7 {k:Nat}{x:V}{vx:Value}{ys:List V}(h:SR g w H)(hx:Rep g w x vx)(hy:wQ k H x=some ys) :
  ∃ (b:Option Addr) (cap:Nat) (cs:List Value),vx=.slice b ys.length cap/\yS g w k ys cs/\(∀ y∈ys,jM y=true) /\
   ∀ w1:World,(∀ a,w1.cell? a=w.cell? a)->(Builtin.firstCells k ys.length vx).run P w1=.ok cs.toArray w1:=by
 have fin:∀ {b o cap:Nat} (c:Nat->Value),(∀ (i:Nat) y,ys[i]?=some y->Rep g w y (c i)/\(c i).cells.size=k/\EP w b (o+i*k) (c i))->(∀ y∈ys,jM y=true)->vx=.slice (some ⟨b,o,none⟩) ys.length cap ->
   ∃ (b:Option Addr) (cap:Nat) (cs:List Value),vx=.slice b ys.length cap/\yS g w k ys cs/\(∀ y∈ys,jM y=true) /\
    ∀ w1:World,(∀ a,w1.cell? a=w.cell? a)->(Builtin.firstCells k ys.length vx).run P w1=.ok cs.toArray w1:=by
  intro b o cap c hc hn hv;obtain⟨cs,h1,h2⟩:=aBH c hc hn;refine⟨_,_,cs,hv,h1,hn,fun w1 hw1=>?_⟩;rw [hv];exact run_firstCells_some (P:=P) w1 k ys.length _ _ _ cs h1.len (fun j z hz=>by rw [CE,hw1];exact h2 j z hz)
 have b5:∀ {a:Option Addr} {cap:Nat},ys=[]->vx=.slice a 0 cap -> ∃ (b:Option Addr) (cap:Nat) (cs:List Value),vx=.slice b ys.length cap/\yS g w k ys cs/\(∀ y∈ys,jM y=true) /\
    ∀ w1:World,(∀ a,w1.cell? a=w.cell? a)->(Builtin.firstCells k ys.length vx).run P w1=.ok cs.toArray w1:=by
  rintro a cap rfl rfl;refine⟨a,cap,[],rfl,⟨by simp,⟨fun _=>undef,by simp⟩,by simp⟩,by simp,fun w1 _=>?_⟩
  cases a <;> simp [Builtin.firstCells,loadCells,loadCellsFrom]
 cases x with
 | sl z n el =>
  simp only [wQ] at hy;split at hy
  ·rename_i hso
   simp at hy;subst hy
   cases hx with
   | sl0=>exact b5 rfl rfl
   | sl n el b o kk cap c h1 h2 h3 h4 h5 h6 =>
    by_cases hn0:n=0
    ·subst hn0;exact b5 rfl rfl
    ·have hk:kk=k:=by rw [←(sS hso).2,←h2 0 (by omega),((h1 0 (by omega)).CF (sS hso).1).1]
     subst hk;refine fin (b:=b) (o:=o) (cap:=cap) c (fun i y hi=>?_) (fun y hy=>?_) (by simp)
     ·simp only [List.getElem?_map,Option.map_eq_some_iff] at hi;obtain⟨j,hj,rfl⟩:=hi;have hlt:i<n:=by have:=(List.getElem?_eq_some_iff.1 hj).1;simpa using this
      rw [List.getElem?_range hlt] at hj;cases hj;exact⟨h1 i hlt,h2 i hlt,h3 i hlt⟩
     ·simp only [List.mem_map,List.mem_range] at hy;obtain⟨j,hj,rfl⟩:=hy;exact h6 j hj
  ·simp at hy
 | msl k0 l i n =>
  simp only [wQ] at hy;split at hy
  ·rename_i k' es hl
   split at hy
   ·rename_i hb
    simp only [Bool.and_eq_true] at hb;have hle:i+n<=es.length:=Nat.le_of_ble_eq_true hb.1.1;have hk:k'=k:=Nat.eq_of_beq_eq_true hb.1.2;have b6:k0=k:=Nat.eq_of_beq_eq_true hb.2;subst b6;subst hk;simp at hy;subst hy;obtain⟨v1,⟨c,hc⟩,v3⟩:=h.vec l k' es hl;have hkk:=h.kk l k' es hl;have hlen:((es.drop i).take n).length=n:=by simp;omega
    cases hx with
    | msl0=>exact b5 (by simp) rfl
    | msl l i n hln hcap =>
     refine fin (b:=g.blk l) (o:=g.off l+i*g.k l) (cap:=g.cap l-i) (fun j=>c (i+j)) (fun j y hj=>?_) (fun y hy=>?_) (by rw [hlen])
     ·have hj':es[i+j]?=some y:=by
       rw [List.getElem?_take] at hj;split at hj
       ·rwa [List.getElem?_drop] at hj
       ·cases hj
      obtain⟨a1,a2,a3⟩:=hc _ _ hj';refine⟨a1,by rw [a2,hkk],?_⟩;rw [←hkk,Nat.add_assoc,←Nat.add_mul];exact a3
     ·exact h.nt l _ es hl y (List.mem_of_mem_drop (List.mem_of_mem_take hy))
   ·simp at hy
  ·simp at hy
 | _=>simp [wQ] at hy
theorem yS.append {k:Nat}{xs ys:List V}{cs ds:List Value}(h1:yS g w k xs cs)(h2:yS g w k ys ds):yS g w k (xs++ys) (cs++ds):=by
 obtain⟨c1,r1⟩:=h1.rep;obtain⟨c2,r2⟩:=h2.rep;refine⟨by simp [h1.len,h2.len,Nat.add_mul],⟨fun i=>if i<xs.length then c1 i else c2 (i-xs.length),fun i y hy=>?_⟩,fun z hz=>?_⟩
 ·by_cases hi:i<xs.length
  ·rw [List.getElem?_append_left hi] at hy;obtain⟨a1,a2,a3⟩:=r1 i y hy;simp only [hi,if_true];refine⟨a1,a2,fun j z hz=>?_⟩;have:=a3 j z hz;rw [List.getElem?_append_left (List.getElem?_eq_some_iff.1 this).1];exact this
  ·rw [List.getElem?_append_right (by omega)] at hy;obtain⟨a1,a2,a3⟩:=r2 _ y hy;simp only [hi,if_false];refine⟨a1,a2,fun j z hz=>?_⟩;have h3:=a3 j z hz
   have hge:cs.length<=i*k+j:=by
    rw [h1.len];have : xs.length*k<=i*k:=Nat.mul_le_mul_right _ (by omega);omega
   rw [List.getElem?_append_right hge]
   have he:i*k+j-cs.length=(i-xs.length)*k+j:=by
    rw [h1.len,Nat.sub_mul];have : xs.length*k<=i*k:=Nat.mul_le_mul_right _ (by omega);omega
   rw [he];exact h3
 ·rcases List.mem_append.1 hz with hz | hz
  ·exact h1.one z hz
  ·exact h2.one z hz
theorem OG (z:Array Value)(n:Nat):(Builtin.zeroCells z n).size=n*z.size:=by simp [Builtin.zeroCells]
theorem aFh (h:SR g w H){t:TypeId}{k m:Nat}{xs:List V}{cs:List Value}{rest:Array Value}(hc:yS g w k xs cs)(hnt:∀ x∈xs,jM x=true)(hr:rest.size=m*k) :
  ∃ g',SR g' (w.alloc (.cells (cs.toArray++rest) t)) (H++[.vec k xs])/\Ext g w g' (w.alloc (.cells (cs.toArray++rest) t)) /\
   Rep g' (w.alloc (.cells (cs.toArray++rest) t)) (.msl k H.length 0 xs.length) (.slice (some ⟨w.heap.size,0,none⟩) xs.length (xs.length+m)):=by
 obtain⟨c,r⟩:=hc.rep
 obtain⟨h1,h2,h3,_⟩:=h.aAq (t:=t) (cs:=cs.toArray++rest) (k:=k) (cap:=xs.length+m) (xs:=xs) c
  (fun i x hx=>⟨(r i x hx).1,(r i x hx).2.1,fun j y hy=>by
   have:=(r i x hx).2.2 j y hy;rw [Array.getElem?_append_left (by simpa using (List.getElem?_eq_some_iff.1 this).1)]
   simpa using this⟩)
  (by simp [hr,hc.len,Nat.mul_comm k,Nat.add_mul]) (by omega) hnt
 exact⟨_,h1,h2,h3⟩
theorem aD0 {t t' ty e:TypeId} {te:TyE} {e':TypeId} (htt:jO P tt) (hu:P.underlying t=some (.slice e)) (hu':P.underlying t'=some (.slice e')∨P.underlying t'=some .string) (hte:tt e=some te) {zv:Value}
  (hz:∀ w,(zeroValue e).run P w=.ok zv w) {base:Option Addr} {sLen sCap m:Nat} {vx:Value} {olds news:List Value} (hl:∀ w,(Builtin.lenOf vx).run P w=.ok m w)
  (ho:∀ w1:World,(∀ a,w1.cell? a=w.cell? a)->(Builtin.firstCells te.size sLen (.slice base sLen sCap)).run P w1=.ok olds.toArray w1)
  (hn:∀ w1:World,(∀ a,w1.cell? a=w.cell? a)->(Builtin.firstCells te.size m vx).run P w1=.ok news.toArray w1)
  (hg:sCap<sLen+m) (h63:((sLen+m:Nat):Int)<=9223372036854775807) (hfit:(sLen+m)*te.bytes<=140737488355328) :
  (Builtin.append_ #[t,t'] ty #[.slice base sLen sCap,vx]).run P w =
   .ok (.slice (some ⟨w.heap.size,0,none⟩) (sLen+m) (grownCap w (sLen+m) sCap e))
    (w.drew.alloc (.cells ((olds++news).toArray++Builtin.zeroCells zv.cells (grownCap w (sLen+m) sCap e-(sLen+m))) e)):=by
 have hcap:=growslice_fits hg hfit;obtain⟨⟨i,hi,hs,hb,_⟩,_⟩:=htt.facts hte;have hsz:=pS (P:=P) (htt.facts hte);have hti:∀ w,(typeInfo e).run P w=.ok i w:=fun w=>by simp [typeInfo,hi]
 have h1:¬ (sLen+m<=sCap):=by omega
 have hmax:IntKind.i64.max=9223372036854775807:=rfl;have h2:¬ (((sLen+m:Nat):Int)>IntKind.i64.max/\(False∨i.bytes=0)):=fun ⟨a,_⟩=>by rw [hmax] at a;omega
 have h3:¬ (Builtin.nextslicecap (sLen+m) sCap*i.bytes>2 ^ 48):=by rw [hb];omega
 have ho':=ho w.drew (fun _=>rfl);have hn':=hn w.drew (fun _=>rfl);have h2':¬ (9223372036854775807<(sLen:Int)+(m:Int)):=by omega
 have h3':¬ (281474976710656<Builtin.nextslicecap (sLen+m) sCap*i.bytes):=by omega
 have hz':=hz w.drew;rcases hu' with hu' | hu'
 all_goals simp [Builtin.append_,run_underlying hu,run_underlying hu',hsz,hti,hl,h1,h2',h3',Question.forced,ho',hn',hz',newRow,grownCap]
 all_goals rw [show (olds++news).toArray=olds.toArray++news.toArray by simp,Array.append_assoc]
theorem PK {t t' ty e:TypeId} {te:TyE} {e':TypeId} (htt:jO P tt) (hu:P.underlying t=some (.slice e)) (hu':P.underlying t'=some (.slice e')∨P.underlying t'=some .string) (hte:tt e=some te)
  {base:Option Addr} {sLen sCap m:Nat} {vx:Value} {news:List Value} (hl:∀ w,(Builtin.lenOf vx).run P w=.ok m w)
  (hn:(Builtin.firstCells te.size m vx).run P w=.ok news.toArray w) (hg:sLen+m<=sCap) {w':World}
  (hst:∀ a,base=some a->(storeCells (a.add (sLen*te.size)) news).run P w=.ok () w') (b5:base=none->w'=w) :
  (Builtin.append_ #[t,t'] ty #[.slice base sLen sCap,vx]).run P w=.ok (.slice base (sLen+m) sCap) w':=by
 have hsz:=pS (P:=P) (htt.facts hte)
 cases base with
 | none =>
  cases b5 rfl
  rcases hu' with hu' | hu' <;> simp [Builtin.append_,run_underlying hu,run_underlying hu',hsz,hl,hg,hn]
 | some a =>
  have:=hst a rfl;rcases hu' with hu' | hu' <;> simp [Builtin.append_,run_underlying hu,run_underlying hu',hsz,hl,hg,hn,this]
theorem aAa (htt:jO P tt) (h:SR g w H) {t t' ty e e':TypeId} {te:TyE} (hu:P.underlying t=some (.slice e)) (hu':P.underlying t'=some (.slice e')∨P.underlying t'=some .string) (hte:tt e=some te)
  (c5:vY te.zero te.size=true) {s:V} {vs vx:Value} {es ys:List V} {news:List Value} (hs:Rep g w s vs) (he:ON te.size H s=some es) (hlV:∀ w,(Builtin.lenOf vx).run P w=.ok ys.length w) (hnews:yS g w te.size ys news) (hnt:∀ y∈ys,jM y=true) (hrun:∀ w1:World,(∀ a,w1.cell? a=w.cell? a)->(Builtin.firstCells te.size ys.length vx).run P w1=.ok news.toArray w1)
  (hb:(es.length+ys.length)*te.bytes<=140737488355328) (h63:es.length+ys.length<=9223372036854775807) :
  ∃ v w' g',(Builtin.append_ #[t,t'] ty #[vs,vx]).run P w=.ok v w'/\Rep g' w' (.msl te.size H.length 0 (es.length+ys.length)) v/\SR g' w' (IT te.size H s (es++ys))/\Ext g w g' w':=by
 obtain⟨⟨i,hi,_,_,zv,hzi,hzv⟩,_⟩:=htt.facts hte;have hz:∀ w,(zeroValue e).run P w=.ok zv w:=fun w=>by simp [zeroValue,typeInfo,hi,hzi]
 have hzs:zv.cells.size=te.size:=by
  have hzr:Rep g w te.zero zv:=uR hzv;rw [←(hzr.CF (sS c5).1).1,(sS c5).2]
 have h63':((es.length+ys.length:Nat):Int)<=9223372036854775807:=by omega
 -- a new block
 have fresh:∀ {H0:bA} {base:Option Addr} {sCap:Nat} {olds:List Value},SR g w H0->H0.length=H.length->vs=.slice base es.length sCap->yS g w te.size es olds->(∀ y∈es,jM y=true)->sCap<es.length+ys.length ->
   (∀ w1:World,(∀ a,w1.cell? a=w.cell? a)->(Builtin.firstCells te.size es.length (.slice base es.length sCap)).run P w1=.ok olds.toArray w1)->H0++[.vec te.size (es++ys)]=IT te.size H s (es++ys) ->
   ∃ v w' g',(Builtin.append_ #[t,t'] ty #[vs,vx]).run P w=.ok v w'/\Rep g' w' (.msl te.size H.length 0 (es.length+ys.length)) v/\SR g' w' (IT te.size H s (es++ys))/\Ext g w g' w':=by
  intro H0 base sCap olds h0 hlen hv holds hnto hg ho hH;subst hv;have hr:=aD0 (t:=t) (t':=t') (ty:=ty) htt hu hu' hte hz hlV ho hrun hg h63' hb;obtain⟨d1,d2⟩:=h0.drew
  have hcells:yS g w.drew te.size (es++ys) (olds++news):=by
   have:=holds.append hnews;obtain⟨c,r⟩:=this.rep;exact⟨this.len,⟨c,fun i y hy=>⟨(r i y hy).1.ext d2.toExt0,(r i y hy).2⟩⟩,this.one⟩
  obtain⟨g',q1,q2,q3⟩:=aFh (t:=e) (m:=grownCap w (es.length+ys.length) sCap e-(es.length+ys.length)) d1 hcells (fun x hx=>(List.mem_append.1 hx).elim (hnto x) (hnt x)) (rest:=Builtin.zeroCells zv.cells (grownCap w (es.length+ys.length) sCap e-(es.length+ys.length)))
   (by rw [OG,hzs])
  rw [hH] at q1;rw [hlen,List.length_append] at q3;refine⟨_,_,g',hr,?_,q1,d2.trans q2⟩;have hge:es.length+ys.length<=grownCap w (es.length+ys.length) sCap e:=Nat.le_add_right _ _;rw [show es.length+ys.length+(grownCap w (es.length+ys.length) sCap e-(es.length+ys.length))=grownCap w (es.length+ys.length) sCap e by omega] at q3;exact q3
 -- nothing,of no room
 have empty:∀ {H0:bA} {base:Option Addr},SR g w H0->H0.length=H.length->vs=.slice base 0 0->es=[]->ys=[]->H0++[.vec te.size (es++ys)]=IT te.size H s (es++ys) ->
   ∃ v w' g',(Builtin.append_ #[t,t'] ty #[vs,vx]).run P w=.ok v w'/\Rep g' w' (.msl te.size H.length 0 (es.length+ys.length)) v/\SR g' w' (IT te.size H s (es++ys))/\Ext g w g' w':=by
  intro H0 base h0 hlen hv b5 hy0 hH;subst hv;subst b5;subst hy0;have hn0:=hrun w (fun _=>rfl);have aGm:news=[]:=by have:=hnews.len;simpa using this
  subst aGm;have hr:=PK (t:=t) (t':=t') (ty:=ty) (sLen:=0) (sCap:=0) htt hu hu' hte (base:=base) hlV hn0 (by simp) (w':=w) (fun a _=>rfl) (fun _=>rfl);have h2:=h0.more (b:=w.heap.size) (o:=0) (k:=te.size) (cap:=0) (xs:=[]) (by simp) (by simp) (fun _=>undef) (by simp) (by simp) (fun _ _ _ _ _ _ _ hj=>by simp at hj);refine⟨_,w,g.more w.heap.size 0 te.size 0,hr,?_,?_,(Ext.refl g w).more (.inl (Nat.le_refl _))⟩
  ·rw [←hlen,h0.len];have:=Rep.msl0 (g:=g.more w.heap.size 0 te.size 0) (w:=w) g.n 0 base (Nat.lt_succ_self _) (by simp [Gh.more,gU])
   simpa [Gh.more,gU] using this
  ·rw [←hH];exact h2
 cases s with
 | sl z n el =>
  cases z with
  | false=>simp [ON] at he
  | true =>
   simp [ON] at he;subst he;obtain⟨a,e3,rfl,hn,c9⟩:=hs.slE
   cases c9 rfl
   have hn:n=0:=by omega
   subst hn;by_cases hy0:ys=[]
   ·exact empty h rfl rfl rfl hy0 rfl
   ·refine fresh h rfl rfl ⟨by simp,⟨fun _=>undef,by simp⟩,by simp⟩ (by simp) ?_ (fun w1 _=>?_) rfl (olds:=[])
    ·have : 0<ys.length:=List.length_pos_iff.2 hy0
     simpa using this
    ·cases a <;> simp [Builtin.firstCells,loadCells,loadCellsFrom]
 | msl k0 l i n =>
  cases i with
  | succ i=>simp [ON] at he
  | zero =>
   simp only [ON] at he;split at he
   ·rename_i k' es' hl
    split at he
    ·rename_i hbb
     simp at he;subst he;simp only [Bool.and_eq_true] at hbb;have hnn:es'.length=n:=Nat.eq_of_beq_eq_true hbb.1.1;have hk:k'=te.size:=Nat.eq_of_beq_eq_true hbb.1.2;have b7:k0=te.size:=Nat.eq_of_beq_eq_true hbb.2;subst hk;subst b7;subst hnn;obtain⟨v1,⟨c,hc⟩,v3⟩:=h.vec l _ es' hl;have hkk:=h.kk l _ es' hl;have hln:l<g.n:=by rw [←h.len];exact (List.getElem?_eq_some_iff.1 hl).1
     have hkill:=h.kill l;have hnto:=h.nt l _ es' hl
     have small:g.cap l=0 -> ∀ base,vs=.slice base 0 0 -> ∃ v w' g',(Builtin.append_ #[t,t'] ty #[vs,vx]).run P w=.ok v w'/\Rep g' w' (.msl te.size H.length 0 (es'.length+ys.length)) v/\SR g' w' (IT te.size H (.msl te.size l 0 es'.length) (es'++ys))/\Ext g w g' w':=by
      intro hc0 base hv;have b5:es'=[]:=List.length_eq_zero_iff.1 (by omega);by_cases hy0:ys=[]
      ·exact empty hkill (by simp) hv b5 hy0 rfl
      ·refine fresh hkill (by simp) (by rw [b5];exact hv) (by rw [b5];exact ⟨by simp,⟨fun _=>undef,by simp⟩,by simp⟩) (by simp [b5]) ?_ (fun w1 _=>?_) rfl (olds:=[])
       ·have : 0<ys.length:=List.length_pos_iff.2 hy0;simp [b5];omega
       ·rw [b5];cases base <;> simp [Builtin.firstCells,loadCells,loadCellsFrom]
     have hvs:(∃ base,g.cap l=0/\vs=.slice base 0 0)∨vs=.slice (some ⟨g.blk l,g.off l,none⟩) es'.length (g.cap l):=by
      obtain⟨_,_,⟨_,hv⟩ | ⟨h0,hc0,a,hv⟩⟩:=hs.aNE
      ·right;simpa using hv
      ·exact .inl ⟨a,hc0,hv⟩
     rcases hvs with ⟨base,hc0,hv⟩ | hv
     ·exact small hc0 base hv
     ·obtain⟨olds,b6,c6⟩:=aBH (b:=g.blk l) (o:=g.off l) c (fun i y hy=>by
       have:=hc i y hy;rw [hkk] at this;exact this) hnto
      have hfirst:∀ w1:World,(∀ a,w1.cell? a=w.cell? a)->(Builtin.firstCells te.size es'.length (.slice (some ⟨g.blk l,g.off l,none⟩) es'.length (g.cap l))).run P w1=.ok olds.toArray w1 :=
       fun w1 hw1=>run_firstCells_some (P:=P) w1 te.size es'.length _ _ _ olds b6.len (fun j z hz=>by rw [CE,hw1];exact c6 j z hz)
      by_cases hg:g.cap l<es'.length+ys.length
      ·exact fresh hkill (by simp) hv b6 hnto hg hfirst rfl
      ·-- in place
       have hroom:es'.length+ys.length<=g.cap l:=Nat.le_of_not_lt hg;by_cases b7:te.size*g.cap l=0
       ·-- no cells at all
        have aGm:news=[]:=by
         have h1:=hnews.len;have : ys.length*te.size<=g.cap l*te.size:=Nat.mul_le_mul_right _ (by omega);rw [Nat.mul_comm (g.cap l)] at this;exact List.length_eq_zero_iff.1 (by omega)
        subst aGm;have hr:=PK (t:=t) (t':=t') (ty:=ty) (sLen:=es'.length) (sCap:=g.cap l) htt hu hu' hte (base:=some ⟨g.blk l,g.off l,none⟩) hlV (hrun w (fun _=>rfl)) hroom (w':=w) (fun a _=>rfl) (fun hx=>by cases hx);obtain⟨c1,r1⟩:=(b6.append hnews).rep
        have c8:∀ (i:Nat) y,(es'++ys)[i]?=some y->te.size=0:=fun i y hy=>by
         have:=(List.getElem?_eq_some_iff.1 hy).1;rw [List.length_append] at this;rcases Nat.mul_eq_zero.1 b7 with h0 | h0
         ·exact h0
         ·omega
        have h2:=hkill.more (b:=g.blk l) (o:=g.off l) (k:=te.size) (cap:=g.cap l) (xs:=es'++ys) (by simpa using hroom) (fun x hx=>(List.mem_append.1 hx).elim (hnto x) (hnt x)) c1
         (fun i x hx=>⟨(r1 i x hx).1,(r1 i x hx).2.1,fun j y hy=>by
          have h0:=c8 i x hx;have:=(Array.getElem?_eq_some_iff.1 hy).1;rw [(r1 i x hx).2.1,h0] at this;omega⟩)
         (fun j hj=>by rw [b7] at hj;omega) (fun _ _ _ _ _ _ _ hj=>by rw [b7] at hj;omega)
        refine⟨_,w,g.more (g.blk l) (g.off l) te.size (g.cap l),by rw [hv];exact hr,?_,h2,(Ext.refl g w).more (.inr ⟨l,hln,rfl⟩)⟩;have:=Rep.msl (g:=g.more (g.blk l) (g.off l) te.size (g.cap l)) (w:=w) g.n 0 (es'.length+ys.length) (Nat.lt_succ_self _) (by simpa [Gh.more,gU] using hroom);rw [h.len]
        simpa [Gh.more,gU] using this
       ·have hblk:∃ cs0 t0 f0,w.heap[g.blk l]?=some (.cells cs0 t0 f0)/\g.off l+te.size*g.cap l<=cs0.size:=by
         have hlast:=(v3 (g.k l*g.cap l-1) (by rw [hkk];omega)).1;obtain⟨x,hx⟩:=Option.isSome_iff_exists.1 hlast;obtain⟨cs0,t0,f0,a1,a2⟩:=cell?_spot0 hx;have:=(Array.getElem?_eq_some_iff.1 a2).1;rw [hkk] at this;exact⟨cs0,t0,f0,a1,by omega⟩
        obtain⟨cs0,t0,f0,c7,e4⟩:=hblk;have hnl:news.length=ys.length*te.size:=hnews.len
        have hfits:es'.length*te.size+news.length<=te.size*g.cap l:=by
         rw [hnl,←Nat.add_mul,Nat.mul_comm te.size];exact Nat.mul_le_mul_right _ hroom
        obtain⟨w',hst,hwr,hgot⟩:=OV (P:=P) news 0 w (b:=g.blk l) (o:=g.off l+es'.length*te.size) c7 (by omega) (hnews.one) (fun j hj=>by
         have:=(v3 (es'.length*te.size+j) (by rw [hkk];omega)).2.1
         simpa [Nat.add_assoc] using this)
        simp only [Nat.add_zero] at hwr hgot;have hmine:∀ p,g.off l+es'.length*te.size<=p->p<g.off l+es'.length*te.size+news.length -> ∃ j,j<g.k l*g.cap l/\p=g.off l+j:=fun p h1 h2=>⟨p-g.off l,by rw [hkk];omega,by omega⟩
        have e:Ext g w g w' :=
         {fx:=fun _ _ h=>h,cell:=fun b' o' hf=>hwr.cell (by
           by_cases hbb:b'=g.blk l
           ·right;by_cases h1:o'<g.off l+es'.length*te.size
            ·exact .inl h1
            ·right;apply Nat.le_of_not_lt;intro h2;obtain⟨j,hj,hp⟩:=hmine o' (Nat.le_of_not_lt h1) h2;subst hbb;rw [hp] at hf;exact (v3 j hj).2.2 hf
           ·exact .inl hbb),
          n:=Nat.le_refl _,blk:=fun _ _=>rfl,off:=fun _ _=>rfl,k:=fun _ _=>rfl,cap:=fun _ _=>rfl,
          size:=by rw [hwr.size];exact Nat.le_refl _,os:=hwr.os,tape:=hwr.tape,output:=hwr.output,
          keep:=fun b' _ hb'=>hwr.other b' (fun hx=>hb' l hln hx.symm),newblk:=fun l h1 h2=>absurd h2 (by omega) }
        have hat:∀ (l':Nat) (ob:fD),(H.set l fD.dead)[l']?=some ob->ob≠fD.dead->l'≠l/\H[l']?=some ob:=by
         intro l' ob hl' hne;have hlt:l<H.length:=(List.getElem?_eq_some_iff.1 hl).1;by_cases heq:l'=l
         ·subst heq;rw [List.getElem?_set] at hl';simp [hlt] at hl';exact absurd hl'.symm hne
         ·exact⟨heq,by rwa [List.getElem?_set_ne (Ne.symm heq)] at hl'⟩
        have h1:SR g w' (H.set l .dead):=hkill.move e (fun l' k1 c4 b8 j hj=>by
          obtain⟨hne,b9⟩:=hat l' _ b8 (by simp);refine⟨hwr.cell ?_,hwr.frozen⟩;by_cases hbb:g.blk l'=g.blk l
          ·right;by_cases h1:g.off l'+j<g.off l+es'.length*te.size
           ·exact .inl h1
           ·right;apply Nat.le_of_not_lt;intro h2;obtain⟨j',hj',hp⟩:=hmine _ (Nat.le_of_not_lt h1) h2;exact h.disj l' l k1 _ c4 es' b9 hl hne j j' hj hj' ⟨hbb,hp⟩
          ·exact .inl hbb) (fun l' o b8=>by
          obtain⟨hne,b9⟩:=hat l' _ b8 (by simp);obtain⟨ob,r1,r2,_⟩:=h.raw l' o b9;refine hwr.other _ (fun hbb=>?_);rw [hbb,c7] at r1
          cases r1
          simp [Obj.isCells] at r2)
        have hr:=PK (t:=t) (t':=t') (ty:=ty) (sLen:=es'.length) (sCap:=g.cap l) htt hu hu' hte (base:=some ⟨g.blk l,g.off l,none⟩) hlV (hrun w (fun _=>rfl)) hroom (w':=w')
         (fun a ha=>by cases ha;rw [CE];exact hst) (fun hx=>by cases hx)
        obtain⟨c1,r1⟩:=(b6.append hnews).rep
        have h2:=h1.more (b:=g.blk l) (o:=g.off l) (k:=te.size) (cap:=g.cap l) (xs:=es'++ys) (by simpa using hroom) (fun x hx=>(List.mem_append.1 hx).elim (hnto x) (hnt x)) c1
         (fun i x hx=>⟨(r1 i x hx).1.ext e.toExt0,(r1 i x hx).2.1,fun j y hy=>by
          have h3:=(r1 i x hx).2.2 j y hy;rw [Nat.add_assoc];by_cases hlt:i*te.size+j<olds.length
          ·rw [List.getElem?_append_left hlt] at h3;rw [hwr.cell (.inr (.inl (by rw [b6.len] at hlt;omega)))];exact c6 _ _ h3
          ·rw [List.getElem?_append_right (by omega)] at h3;have:=hgot _ _ h3;rw [b6.len] at this hlt
           rwa [show g.off l+es'.length*te.size+(i*te.size+j-es'.length*te.size)=g.off l+(i*te.size+j) by omega] at this⟩)
         (fun j hj=>by
          obtain⟨a1,a2,a3⟩:=v3 j (by rw [hkk];exact hj);exact⟨by rw [hwr.isSome];exact a1,by rw [hwr.frozen];exact a2,a3⟩)
         (fun l' k1 c4 b8 j j' hj hj'=>by
          obtain⟨hne,b9⟩:=hat l' _ b8 (by simp);exact h.disj l' l k1 _ c4 es' b9 hl hne j j' hj (by rw [hkk];exact hj'))
        refine⟨_,w',g.more (g.blk l) (g.off l) te.size (g.cap l),by rw [hv];exact hr,?_,h2,e.more (.inr ⟨l,hln,rfl⟩)⟩;have:=Rep.msl (g:=g.more (g.blk l) (g.off l) te.size (g.cap l)) (w:=w') g.n 0 (es'.length+ys.length) (Nat.lt_succ_self _) (by simpa [Gh.more,gU] using hroom);rw [h.len]
        simpa [Gh.more,gU] using this
    ·simp at he
   ·simp at he
 | _=>simp [ON] at he
theorem aAF (htt:jO P tt) (h:SR g w H) {t t' ty e e':TypeId} {te:TyE} (hu:P.underlying t=some (.slice e)) (hu':P.underlying t'=some (.slice e')) (hte:tt e=some te)
  (b5:vY te.zero te.size=true) {s x:V} {vs vx:Value} {es ys:List V} (hs:Rep g w s vs) (hx:Rep g w x vx) (he:ON te.size H s=some es) (hy:wQ te.size H x=some ys)
  (hb:(es.length+ys.length)*te.bytes<=140737488355328) (h63:es.length+ys.length<=9223372036854775807) :
  ∃ v w' g',(Builtin.append_ #[t,t'] ty #[vs,vx]).run P w=.ok v w'/\Rep g' w' (.msl te.size H.length 0 (es.length+ys.length)) v/\SR g' w' (IT te.size H s (es++ys))/\Ext g w g' w':=by
 obtain⟨b,cap,news,rfl,hnews,hnt,hrun⟩:=aC7 h hx hy;exact aAa htt h hu (.inl hu') hte b5 hs he (fun _=>rfl) hnews hnt hrun hb h63
theorem aIJ (htt:jO P tt)(h:SR g w H){t e:TypeId}{te:TyE}(hu:P.underlying t=some (.slice e))(hte:tt e=some te){k1 k2:IntKind}{n:Int}(h0:0<=n)(hb:(te.bytes:Int)*n<=281474976710656)(h63:n<=9223372036854775807) :
  ∃ v w' g',(Instr.makeSlice t (.int k1 0) (.int k2 n)).run P w=.ok v w'/\Rep g' w' (.msl te.size H.length 0 0) v/\SR g' w' (H++[.vec te.size []])/\Ext g w g' w':=by
 obtain⟨⟨i,hi,his,hib,zv,hzi,_⟩,_⟩:=htt.facts hte;have hr:=run_make (P:=P) w t e i zv hu hi hzi k1 k2 0 n (Int.le_refl _) h0 (by rw [hib];exact hb) h63;obtain⟨s1,s2,s3,_⟩:=h.aAq (t:=e) (cs:=madeCells zv.cells (n.toNat*i.size)) (k:=te.size) (cap:=n.toNat) (xs:=[]) (fun _=>undef) (by simp) (by rw [size_madeCells,his,Nat.mul_comm]) (by simp) (by simp);exact⟨_,_,_,hr,by simpa using s3,s1,s2⟩
theorem aCb (htt:jO P tt) (h:SR g w H) {t t' ty e:TypeId} {te:TyE} {ik kk:IntKind} (hu:P.underlying t=some (.slice e)) (hu':P.underlying t'=some (.int ik)) (hte:tt e=some te) (b5:vY te.zero te.size=true) {a:Option Addr} {n:Int}
  (h0:0<=n) (hb:n.toNat*te.bytes<=140737488355328) (h63:n<=9223372036854775807) :
  ∃ v w' g',(Builtin.append_ #[t,t'] ty #[.slice a 0 0,.int kk n]).run P w=.ok v w'/\Rep g' w' (.msl te.size H.length 0 n.toNat) v/\SR g' w' (H++[.vec te.size []])/\Ext g w g' w':=by
 obtain⟨⟨i,hi,his,hib,zv,hzi,hzv⟩,_⟩:=htt.facts hte;have hz:∀ w,(zeroValue e).run P w=.ok zv w:=fun w=>by simp [zeroValue,typeInfo,hi,hzi]
 have hzs:zv.cells.size=te.size:=by
  have hzr:Rep g w te.zero zv:=uR hzv;rw [←(hzr.CF (sS b5).1).1,(sS b5).2]
 have hsz:=pS (P:=P) (htt.facts hte);have hti:∀ w,(typeInfo e).run P w=.ok i w:=fun w=>by simp [typeInfo,hi]
 have hw:i64.wrap n=n:=by rw [IntKind.wrap_i64];omega
 obtain⟨m,rfl⟩:∃ m:Nat,n=(m:Int):=⟨n.toNat,by omega⟩;simp only [Int.toNat_natCast] at hb ⊢;have n1:¬ ((m:Int)<0):=by omega
 have n2:¬ (281474976710656<(m:Int)*(i.bytes:Int)):=by
  have : ((m*te.bytes:Nat):Int)<=140737488355328:=by omega
  rw [Int.natCast_mul] at this;rw [hib];omega
 by_cases hm:m=0
 ·subst hm;have h2:=h.more (b:=w.heap.size) (o:=0) (k:=te.size) (cap:=0) (xs:=[]) (by simp) (by simp) (fun _=>undef) (by simp) (by simp) (fun _ _ _ _ _ _ _ hj=>by simp at hj);refine⟨.slice a 0 0,w,g.more w.heap.size 0 te.size 0,?_,?_,h2,(Ext.refl g w).more (.inl (Nat.le_refl _))⟩
  ·simp only [Int.natCast_zero] at hw n2
   cases a <;> simp [Builtin.append_,run_underlying hu,run_underlying hu',hsz,hti,asInt,asIntOf,hw,storeCells,Result.andThen]
  ·rw [h.len];have:=Rep.msl0 (g:=g.more w.heap.size 0 te.size 0) (w:=w) g.n 0 a (Nat.lt_succ_self _) (by simp [Gh.more,gU])
   simpa [Gh.more,gU] using this
 ·have hcap:=growslice_fits (need:=m) (old:=0) (bytes:=te.bytes) (by omega) hb;have h1:¬ (m<=0):=by omega
  have h2':¬ (9223372036854775807<(m:Int)):=by omega
  have h3':¬ (281474976710656<Builtin.nextslicecap m 0*i.bytes):=by rw [hib];omega
  obtain⟨d1,d2⟩:=h.drew
  obtain⟨mid,hmid,hrun⟩:∃ mid:Array Value,mid.size=m*te.size/\(Builtin.append_ #[t,t'] ty #[.slice a 0 0,.int kk (m:Int)]).run P w =
    .ok (.slice (some ⟨w.heap.size,0,none⟩) m (grownCap w m 0 e)) (w.drew.alloc (.cells (mid++Builtin.zeroCells zv.cells (grownCap w m 0 e-m)) e)):=by
   have hfc:∀ w1,(Builtin.firstCells te.size 0 (.slice a 0 0)).run P w1=.ok #[] w1:=fun w1=>by cases a <;> simp [Builtin.firstCells,loadCells,loadCellsFrom]
   have hfc':=hfc w.drew;have hz':=hz w.drew;by_cases hs0:m*te.size=0
   ·refine⟨#[],by simp [hs0],?_⟩;simp [Builtin.append_,run_underlying hu,run_underlying hu',hsz,hti,asInt,asIntOf,hw,n1,n2,h1,hm,h2',h3',Question.forced,hfc',hz',newRow,grownCap,hs0]
   ·refine⟨Builtin.zeroCells zv.cells m,by rw [OG,hzs],?_⟩;have b6:¬ te.size=0:=fun he=>hs0 (by rw [he];simp);simp [Builtin.append_,run_underlying hu,run_underlying hu',hsz,hti,asInt,asIntOf,hw,n1,n2,h1,hm,h2',h3',Question.forced,hfc',hz',newRow,grownCap,hs0,b6]
  have hge:m<=grownCap w m 0 e:=by
   have : 0+m<=grownCap w (0+m) 0 e:=Nat.le_add_right _ _
   simpa using this
  obtain⟨s1,s2,s3,_⟩:=d1.aAq (t:=e) (cs:=mid++Builtin.zeroCells zv.cells (grownCap w m 0 e-m)) (k:=te.size) (cap:=grownCap w m 0 e) (xs:=[]) (fun _=>undef) (by simp) (by
   rw [Array.size_append,hmid,OG,hzs,←Nat.add_mul,Nat.mul_comm]
   congr 1;omega) (by simp) (by simp)
  refine⟨_,_,_,hrun,?_,s1,d2.trans s2⟩;have hr:=Rep.msl (g:=g.more w.drew.heap.size 0 te.size (grownCap w m 0 e)) (w:=w.drew.alloc (.cells (mid++Builtin.zeroCells zv.cells (grownCap w m 0 e-m)) e)) g.n 0 m (Nat.lt_succ_self _) (by simpa [Gh.more,gU] using hge);rw [h.len]
  simpa [Gh.more,gU] using hr
end Go.Abs
namespace Go.Abs
open Go IntKind Go.RowKit
variable {P:Program} {tt:TT} {g:Gh} {w:World} {H:bA}
def YQ (tt:TT)(t:TypeId)(y:V)(o:Nat):Option V :=
 match y with
 | .agg cs=>ZA tt t cs o
 | .tup _=>none
 | y=>match tt t with
  | some e=>match DJ e.d,o with
   | false,0=>some y
   | _,_=>none
  | none=>none
def aCS (y:V)(o:Nat)(x:V):Option V :=
 match y with
 | .agg cs=>match jM x&&Nat.ble (o+x.cells.length) cs.length with
  | true=>some (.agg (putAt cs o x.cells))
  | false=>none
 | .tup _=>none
 | _=>match x,o with
  | .agg _,_=>none
  | .tup _,_=>none
  | x,0=>some x
  | _,_=>none
theorem aIu (h:SR g w H){l k i:Nat}{es:List V}{y:V}(hl:H[l]?=some (.vec k es))(hy:es[i]?=some y) :
  ∃ c,Rep g w y c/\c.cells.size=k/\g.k l=k/\jM y=true/\EP w (g.blk l) (g.off l+i*g.k l) c/\i<g.cap l:=by
 obtain⟨v1,⟨c,hc⟩,v3⟩:=h.vec l k es hl;have hkk:=h.kk l k es hl;obtain⟨a1,a2,a3⟩:=hc i y hy;have hi:i<es.length:=(List.getElem?_eq_some_iff.1 hy).1;exact⟨c i,a1,by rw [a2,hkk],hkk,h.nt l k es hl y (List.mem_of_getElem? hy),a3,by omega⟩
theorem aDv (htt:jO P tt) (h:SR g w H) {t:TypeId} {e:TyE} (he:tt t=some e) {l k i o:Nat} {es:List V} {y x:V} {v:Value} (hl:H[l]?=some (.vec k es)) (hy:es[i]?=some y)
  (hv:Rep g w (.lp l i o) v) (hx:YQ tt t y o=some x):∃ u,(Instr.loadAt t v).run P w=.ok u w/\Rep g w x u:=by
 obtain⟨c,h1,h2,h3,h4,h5,h6⟩:=aIu h hl hy;obtain⟨hln,rfl⟩:=hv.lpE
 have fin:∀ u,EP w (g.blk l) (g.off l+i*g.k l+o) u->((DJ e.d=true /\ ∃ vs,u=.agg vs/\vs.size=e.size)∨(DJ e.d=false/\one u=true)) ->
   (Instr.loadAt t (.pointer (some ⟨g.blk l,g.off l+i*g.k l+o,none⟩))).run P w=.ok u w:=by
  intro u hu hc;simp only [Instr.loadAt,Instr.sureAddr,Sem.run_bind,Sem.run_pure,Result.andThen];exact XW htt he hu hc
 unfold YQ at hx;split at hx
 ·rename_i cs
  obtain⟨vs,rfl,hr⟩:=h1.XJ;obtain⟨u,_,hrep,hcells,e',he',hsh⟩:=JV htt hx hr;rw [he] at he';cases he';exact⟨u,fin u (fun j z hz=>by rw [Nat.add_assoc];exact h5 _ _ (hcells j z hz)) hsh,hrep⟩
 ·simp at hx
 ·rw [he] at hx;simp only at hx;split at hx
  ·rename_i hna hnt _ _ ha
   simp at hx;subst hx;exact⟨c,fin c (by simpa using h5) (.inr ⟨ha,h1.aDj (fun cs e=>hna cs e) (fun cs e=>hnt cs e)⟩),h1⟩
  ·simp at hx
theorem aKf {g:Gh}{w:World}:∀ (xs:List V) (ys:List Value) (cs:List V) (vs:Array Value) (off k:Nat),IN g w cs vs->xs.length=ys.length ->
  (∀ (i:Nat) x y,xs[i]?=some x->ys[i]?=some y->Rep g w x y)->(∀ y∈ys,one y=true) ->
  IN g w (putAt cs (off+k) xs) ((ys.zipIdx k).foldl (fun cs (c,j)=>cs.setIfInBounds (off+j) c) vs):=by
 intro xs
 induction xs with
 | nil=>intro ys cs vs off k hr hl _ _; cases ys <;> simp at hl; simpa [putAt] using hr
 | cons x xs ih =>
  intro ys cs vs off k hr hl hrep hone
  cases ys with
  | nil=>simp at hl
  | cons y ys =>
   simp only [putAt,List.zipIdx_cons,List.foldl_cons];rw [Nat.add_assoc];refine ih ys _ _ off (k+1) ?_ (by simpa using hl) (fun i a b ha hb=>hrep (i+1) a b (by simpa using ha) (by simpa using hb)) (fun z hz=>hone z (List.mem_cons_of_mem _ hz));refine⟨by simp [hr.1],fun i a b ha hb=>?_,fun i b hb=>?_⟩
   ·rw [List.getElem?_set] at ha;rw [Array.getElem?_setIfInBounds] at hb;split at ha
    ·rename_i hi
     split at ha
     ·simp at ha;subst ha;rw [if_pos hi] at hb;split at hb
      ·simp at hb;subst hb;exact hrep 0 x y rfl rfl
      ·cases hb
     ·cases ha
    ·rename_i hi
     rw [if_neg hi] at hb;exact hr.2.1 i a b ha hb
   ·rw [Array.getElem?_setIfInBounds] at hb;split at hb
    ·split at hb
     ·simp at hb;subst hb;exact hone y (List.mem_cons_self ..)
     ·cases hb
    ·exact hr.2.2 i b hb
theorem aHz (htt:jO P tt) (h:SR g w H) {t:TypeId} {e:TyE} (he:tt t=some e) {l k i o:Nat} {es:List V} {y x y':V} {v u:Value} (hl:H[l]?=some (.vec k es)) (hy:es[i]?=some y)
  (hv:Rep g w (.lp l i o) v) (hu:Rep g w x u) (hsz:vY x e.size=true) (hx:aCS y o x=some y') :
  ∃ w',(Instr.storeAt t v u).run P w=.ok () w'/\SR g w' (H.set l (.vec k (es.set i y')))/\Ext g w g w':=by
 obtain⟨v1,⟨c,hc⟩,v3⟩:=h.vec l k es hl;obtain⟨c0,h1,h2,h3,h4,h5,h6⟩:=aIu h hl hy;obtain⟨hln,rfl⟩:=hv.lpE;have hi:i<es.length:=(List.getElem?_eq_some_iff.1 hy).1;obtain⟨hxn,hxl⟩:=sS hsz;have hcl:=hu.CF hxn;have hus:u.cells.size=e.size:=by rw [←hcl.1,hxl]
 have hun:∀ z∈u.cells.toList,one z=true:=fun z hz=>by
  obtain⟨j,hj,e⟩:=List.getElem_of_mem hz;exact hcl.2.2 j z (by simp at hj;simp [←e,hj])
 have hagg:∀ a,(Value.agg a).cells=a:=fun _=>rfl
 -- the element behind the store,and that it fits
 have hnew:∃ c',Rep g w y' c'/\jM y'=true/\c'.cells.size=k/\o+e.size<=k/\(∀ j z,c'.cells[j]?=some z->(o<=j->j<o+e.size->u.cells[j-o]?=some z)/\((j<o∨o+e.size<=j)->c0.cells[j]?=some z)):=by
  unfold aCS at hx;split at hx
  ·rename_i cs
   split at hx
   ·rename_i hb
    simp only [Bool.and_eq_true] at hb;have hb:=Nat.le_of_ble_eq_true hb.2;simp at hx;subst hx;obtain⟨vs,rfl,hr⟩:=h1.XJ;have hp:=aKf x.cells u.cells.toList cs vs o 0 hr (by simpa using hcl.1) (fun j a b ha hb=>hcl.2.1 j a b ha (by simpa using hb)) hun;obtain⟨p1,p2,p3⟩:=aAI o u.cells.toList 0 vs;simp only [Nat.add_zero,Array.length_toList] at p1 p2 p3 hp;refine⟨_,hp.rep,rfl,by rw [hagg,p1];exact h2,by rw [←h2,hagg,←hr.1,←hxl];exact hb,fun j z hz=>⟨fun c7 hj2=>?_,fun hj=>?_⟩⟩
    ·rw [hagg] at hz;have hlt:j-o<u.cells.size:=by rw [hus];omega
     have hjv:o+(j-o)<vs.size:=by rw [←hr.1,];rw [hxl] at hb;omega
     have:=p3 (j-o) _ (by rw [Array.getElem?_toList];exact Array.getElem?_eq_getElem hlt) hjv;rw [show o+(j-o)=j by omega] at this;rw [this] at hz;rw [Array.getElem?_eq_getElem hlt];exact hz
    ·rw [hagg] at hz ⊢;rw [p2 j (by omega)] at hz;exact hz
   ·simp at hx
  ·simp at hx
  ·split at hx
   ·simp at hx
   ·simp at hx
   ·rename_i hna hnt _ _ hxa hxt
    simp at hx;subst hx;have b7:=h1.aDj (fun cs e=>hna cs e) (fun cs e=>hnt cs e);have b8:=hu.aDj (fun cs e=>hxa cs e) (fun cs e=>hxt cs e);have b9:k=1:=by rw [←h2,xV b7];rfl
    have c4:e.size=1:=by rw [←hus,xV b8];rfl
    refine⟨u,hu,hxn,by rw [hus,c4,b9],by omega,fun j z hz=>⟨fun _ _=>by simpa using hz,fun hj=>?_⟩⟩;have:=(Array.getElem?_eq_some_iff.1 hz).1;omega
   ·simp at hx
 obtain⟨c',n1,n2,n3,n4,n5⟩:=hnew
 have hlim:i*k+k<=k*g.cap l:=by
  have : (i+1)*k<=g.cap l*k:=Nat.mul_le_mul_right _ (by omega);rw [Nat.add_mul,Nat.one_mul] at this;rw [Nat.mul_comm k];exact this
 have hrun:∀ w',(storeCells ⟨g.blk l,g.off l+i*g.k l+o,none⟩ u.cells.toList 0).run P w=.ok () w'->(Instr.storeAt t (.pointer (some ⟨g.blk l,g.off l+i*g.k l+o,none⟩)) u).run P w=.ok () w':=by
  intro w' hw;simp only [Instr.storeAt,Instr.sureAddr,Sem.run_bind,Sem.run_pure,Result.andThen,storeVar,pS (P:=P) (htt.facts he),hus];simp only [ne_eq,not_true_eq_false,if_false];exact hw
 by_cases h0:e.size=0
 ·-- nothing is written
  have c5:u.cells.toList=[]:=by rw [←List.length_eq_zero_iff];simpa [hus] using h0
  refine⟨w,hrun w (by rw [c5];rfl),?_,Ext.refl g w⟩;refine h.write (Ext.refl g w) hl (fun _ _ _ _ _ _ _=>⟨rfl,rfl⟩) (fun _ _ _=>rfl) (by simpa using v1) (fun z hz=>?_) (fun j=>if j=i then c' else c j) (fun j z hz=>?_) (fun j hj=>⟨(v3 j hj).1,(v3 j hj).2.1⟩)
  ·rcases List.mem_or_eq_of_mem_set hz with hz | rfl
   ·exact h.nt _ _ _ hl z hz
   ·exact n2
  ·rw [List.getElem?_set] at hz;split at hz
   ·rename_i hij;subst hij
    simp [hi] at hz;subst hz;simp only [if_true];exact⟨n1,by rw [n3,h3],fun j z hz=>h5 j z ((n5 j z hz).2 (by omega))⟩
   ·rename_i hij
    rw [if_neg (Ne.symm hij)];exact hc j z hz
 ·have hblk:∃ cs0 t0 f0,w.heap[g.blk l]?=some (.cells cs0 t0 f0)/\g.off l+k*g.cap l<=cs0.size:=by
   have hlast:=(v3 (g.k l*g.cap l-1) (by rw [h3];omega)).1;obtain⟨x,hx⟩:=Option.isSome_iff_exists.1 hlast;obtain⟨cs0,t0,f0,a1,a2⟩:=cell?_spot0 hx;have:=(Array.getElem?_eq_some_iff.1 a2).1;rw [h3] at this;exact⟨cs0,t0,f0,a1,by omega⟩
  obtain⟨cs0,t0,f0,b6,c8⟩:=hblk;have hul:u.cells.toList.length=e.size:=by simpa using hus
  obtain⟨w',hst,hwr,hgot⟩:=OV (P:=P) u.cells.toList 0 w (b:=g.blk l) (o:=g.off l+i*g.k l+o) b6 (by rw [h3];omega) hun (fun j hj=>by
   have:=(v3 (i*k+o+j) (by rw [h3];omega)).2.1;rw [h3];simpa [Nat.add_assoc] using this)
  simp only [Nat.add_zero,h3] at hwr hgot;rw [hul] at hwr;have hmine:∀ p,g.off l+i*k+o<=p->p<g.off l+i*k+o+e.size -> ∃ j,j<g.k l*g.cap l/\p=g.off l+j:=fun p h1 h2=>⟨p-g.off l,by rw [h3];omega,by omega⟩
  have hext:Ext g w g w' :=
   {fx:=fun _ _ h=>h,cell:=fun b' o' hf=>hwr.cell (by
     by_cases hbb:b'=g.blk l
     ·right;by_cases h1:o'<g.off l+i*k+o
      ·exact .inl h1
      ·right;apply Nat.le_of_not_lt;intro h2;obtain⟨j,hj,hp⟩:=hmine o' (Nat.le_of_not_lt h1) h2;subst hbb;rw [hp] at hf;exact (v3 j hj).2.2 hf
     ·exact .inl hbb),
    n:=Nat.le_refl _,blk:=fun _ _=>rfl,off:=fun _ _=>rfl,k:=fun _ _=>rfl,cap:=fun _ _=>rfl,
    size:=by rw [hwr.size];exact Nat.le_refl _,os:=hwr.os,tape:=hwr.tape,output:=hwr.output,
    keep:=fun b' _ hb'=>hwr.other b' (fun hx=>hb' l hln hx.symm),newblk:=fun l h1 h2=>absurd h2 (by omega) }
  refine⟨w',hrun w' hst,?_,hext⟩;refine h.write hext hl (fun l' k1 c6 hne b5 j hj=>?_) (fun l' o' b5=>?_) (by simpa using v1) (fun z hz=>?_) (fun j=>if j=i then c' else c j) (fun j z hz=>?_) (fun j hj=>?_)
  ·refine⟨hwr.cell ?_,hwr.frozen⟩;by_cases hbb:g.blk l'=g.blk l
   ·right;by_cases h1:g.off l'+j<g.off l+i*k+o
    ·exact .inl h1
    ·right;apply Nat.le_of_not_lt;intro h2;obtain⟨j',hj',hp⟩:=hmine _ (Nat.le_of_not_lt h1) h2;exact h.disj l' l k1 _ c6 es b5 hl hne j j' hj hj' ⟨hbb,hp⟩
   ·exact .inl hbb
  ·obtain⟨ob,r1,r2,_⟩:=h.raw l' o' b5;refine hwr.other _ (fun hbb=>?_);rw [hbb,b6] at r1
   cases r1
   simp [Obj.isCells] at r2
  ·rcases List.mem_or_eq_of_mem_set hz with hz | rfl
   ·exact h.nt _ _ _ hl z hz
   ·exact n2
  ·rw [List.getElem?_set] at hz;split at hz
   ·rename_i hij;subst hij
    simp [hi] at hz;subst hz;simp only [if_true];refine⟨n1,by rw [n3,h3],fun j z hz=>?_⟩;have hjk:j<k:=by rw [←n3];exact (Array.getElem?_eq_some_iff.1 hz).1
    rw [h3];by_cases hj:o<=j/\j<o+e.size
    ·have:=hgot (j-o) z (by rw [Array.getElem?_toList];exact (n5 j z hz).1 hj.1 hj.2)
     rwa [show g.off l+i*k+o+(j-o)=g.off l+i*k+j by omega] at this
    ·rw [hwr.cell (.inr (by omega))];have:=h5 j z ((n5 j z hz).2 (by omega))
     rwa [h3] at this
   ·rename_i hij
    rw [if_neg (Ne.symm hij)];obtain⟨a1,a2,a3⟩:=hc j z hz;refine⟨a1,a2,fun p q hq=>?_⟩;have hp:p<k:=by rw [←h3,←a2];exact (Array.getElem?_eq_some_iff.1 hq).1
    rw [hwr.cell]
    ·exact a3 p q hq
    ·right;rw [h3];rcases Nat.lt_or_ge j i with hlt | hge
     ·left;have : (j+1)*k<=i*k:=Nat.mul_le_mul_right _ (by omega);rw [Nat.add_mul,Nat.one_mul] at this;omega
     ·right;have : (i+1)*k<=j*k:=Nat.mul_le_mul_right _ (by omega);rw [Nat.add_mul,Nat.one_mul] at this;omega
  ·obtain⟨a1,a2,a3⟩:=v3 j hj;exact⟨by rw [hwr.isSome];exact a1,by rw [hwr.frozen];exact a2⟩
theorem aA5 (h:SR g w H){t:TypeId}{x:V}{v:Value}(hx:Rep g w x v)(hn:jM x=true) :
  ∃ w' g',(newVar t v).run P w=.ok ⟨w.heap.size,0,none⟩ w'/\Rep g' w' (.lp H.length 0 0) (.pointer (some ⟨w.heap.size,0,none⟩))/\SR g' w' (H++[.vec x.cells.length [x]])/\Ext g w g' w':=by
 have hcl:=hx.CF hn
 obtain⟨h1,h2,_,h4⟩:=h.aAq (t:=t) (cs:=v.cells) (k:=x.cells.length) (cap:=1) (xs:=[x]) (fun _=>v) (fun i y hy=>by
  cases i with
  | zero=>simp at hy; subst hy; exact ⟨hx,hcl.1.symm,fun j z hz=>by simpa using hz⟩
  | succ i=>simp at hy) (by rw [←hcl.1]; simp) (by simp) (by simpa using hn)
 exact⟨_,_,rfl,h4,h1,h2⟩
theorem ZV (h:SR g w H){t:TypeId}{x:V}{v:Value}(hx:Rep g w x v)(hn:jM x=true) :
  ∃ w' g',(newVar t v).run P w=.ok ⟨w.heap.size,0,none⟩ w'/\Rep g' w' (.rp x) (.pointer (some ⟨w.heap.size,0,none⟩))/\SR g' w' H/\Ext g w g' w':=by
 obtain⟨h1,h2,_⟩:=h.aD4 (t:=t) (cs:=v.cells) (k:=v.cells.size) (cap:=1) (n:=1) (fun _=>x) (fun _=>v) (fun i hi=>⟨hx,rfl,fun j y hy=>by
  have : i=0:=by omega
  subst this;simpa using hy⟩) (by simp) (by simp) (fun _ _=>hn)
 refine⟨_,_,rfl,?_,h1,h2⟩;refine .rp x v _ _ (hx.ext h2.toExt0) (fun j y hy=>?_) (fun j hj=>.inr ⟨rfl,Nat.zero_le _,by simpa using hj⟩);rw [Nat.zero_add];show (w.alloc (.cells v.cells t)).cell? _=_;rw [cell?_allocNew];exact hy
end Go.Abs
namespace Go.Abs
open Go IntKind Go.RowKit
variable {P:Program} {tt:TT}
def zX:List Prop->Prop
 | []=>True
 | p::r=>p/\zX r
theorem aB8:∀ {l:List Prop},zX l -> ∀ c∈l,c
 | [],_,c,h=>by simp at h
 | p::r,ha,c,h=>by
  rcases List.mem_cons.1 h with rfl | h
  ·exact ha.1
  ·exact aB8 ha.2 c h
theorem XU:∀ {l m:List Prop},zX (l++m)↔zX l/\zX m
 | [],m=>by simp [zX]
 | p::r,m=>by simp [zX,XU (l:=r),and_assoc]
def dB (xs:List V):V :=
 match xs with
 | []=>.sl true 0 (fun _=>.bad)
 | x::r=>.sl false (r.length+1) (fun i=>(x::r).getD i .bad)
def yD (P:Program)(op:Op)(xs:List V)(H:bA)(K:V->bA->Prop):Prop:=∀ (ro:Option Nat) (o:Oper) (a:Act) (g:Gh) (w:World) (next:Act->World->Prop) (R:Exit->Act->World->Prop),o.op=op->SR g w H ->
 (xs.length=(op.operands.map a.eval).size /\ ∀ (i:Nat) x y,xs[i]?=some x->(op.operands.map a.eval)[i]?=some y->Rep g w x y) ->
 (∀ x H' g' w' v,K x H'->SR g' w' H'->Rep g' w' x v->Ext g w g' w'->next (a.put o.dst v) w')->o.wpIn (FR ro) 0 P a w next R
theorem yD.mono {op:Op}{xs:List V}{H:bA}{K K':V->bA->Prop}(hk:∀ x H',K x H'->K' x H')(h:yD P op xs H K):yD P op xs H K' :=
 fun ro o a g w next R ho hs hx hn=>h ro o a g w next R ho hs hx fun x H' g' w' v k=>hn x H' g' w' v (hk x H' k)
def rO (P:Program)(tt:TT)(T:Env)(ctx:Ctx)(op:Op)(H:bA)(K:V->bA->Prop):Prop :=
 match op with
 | .call ⟨.value f,args,_⟩=>∃ fv xs,dD T ctx f=some fv/\jT T ctx args.toList=some xs/\SX P fv xs H K
 | .makeSlice t l c=>∃ k1 k2 n e q1 q2 q3 te,dD T ctx l=some (.lit (.int k1 0))/\dD T ctx c=some (.lit (.int k2 n))/\tt t=some ⟨.slice e,q1,q2,q3⟩/\tt e=some te/\0<=n/\(te.bytes:Int)*n<=281474976710656/\n<=9223372036854775807 /\
   K (.msl te.size H.length 0 0) (H++[.vec te.size []])
 | .call ⟨.builtin .append,args,tys⟩=>(∃ el kk n t t' e q1 q2 q3 ik q4 q5 q6 te,jT T ctx args.toList=some [.sl true 0 el,.lit (.int kk n)]/\tys=#[t,t']/\tt t=some ⟨.slice e,q1,q2,q3⟩/\tt t'=some ⟨.int ik,q4,q5,q6⟩/\tt e=some te /\
   vY te.zero te.size=true/\0<=n/\n.toNat*te.bytes<=140737488355328/\n<=9223372036854775807/\K (.msl te.size H.length 0 n.toNat) (H++[.vec te.size []])) ∨
   (∃ el x t t' e e' te ys f,jT T ctx args.toList=some [.sl true 0 el,x]/\tys=#[t,t']/\(∃ q1 q2 q3,tt t=some ⟨.slice e,q1,q2,q3⟩)/\(∃ q1 q2 q3,tt t'=some ⟨.slice e',q1,q2,q3⟩)/\tt e=some te /\
   vY te.zero te.size=true/\wQ te.size H x=some ys/\ys.length*te.bytes<=140737488355328/\ys.length<=9223372036854775807/\(∀ i,i<ys.length->ys.getD i .bad=f i)/\K (.sl false ys.length f) (H++[.dead])) ∨ ∃ s x t t' e e' te es ys,jT T ctx args.toList=some [s,x]/\tys=#[t,t']/\(∃ q1 q2 q3,tt t=some ⟨.slice e,q1,q2,q3⟩)/\(∃ q1 q2 q3,tt t'=some ⟨.slice e',q1,q2,q3⟩)/\tt e=some te /\
   vY te.zero te.size=true/\ON te.size H s=some es/\wQ te.size H x=some ys/\(es.length+ys.length)*te.bytes<=140737488355328/\es.length+ys.length<=9223372036854775807 /\
   K (.msl te.size H.length 0 (es.length+ys.length)) (IT te.size H s (es++ys))
 | .alloc t=>∃ e z,tt t=some e/\(∀ g w v,Rep g w e.zero v->Rep g w z v)/\jM z=true/\(K (.lp H.length 0 0) (H++[.vec z.cells.length [z]])∨K (.rp z) H)
 | .box _ x=>∃ v,dD T ctx x=some v/\jM v=true/\(K (.lp H.length 0 0) (H++[.vec v.cells.length [v]])∨K (.rp v) H)
 | .load t x=>∃ l i o k es y v e,dD T ctx x=some (.lp l i o)/\H[l]?=some (.vec k es)/\es[i]?=some y/\tt t=some e/\YQ tt t y o=some v/\K v H
 | .store t p x=>∃ l i o k es y v y' e,dD T ctx p=some (.lp l i o)/\dD T ctx x=some v/\H[l]?=some (.vec k es)/\es[i]?=some y/\tt t=some e/\vY v e.size=true/\aCS y o v=some y'/\K .bad (H.set l (.vec k (es.set i y')))
 | .buildSlice t n parts=>∃ xs,SW tt T ctx (.buildSlice t n parts)=some xs/\(K (dB xs) H ∨ ∃ e te q1 q2 q3,tt t=some ⟨.slice e,q1,q2,q3⟩/\tt e=some te/\K (.msl te.size H.length 0 xs.length) (H++[.vec te.size xs]))
 | .binOp .eql t x (.const (.slice none 0 0)) _=>∃ z n el e q1 q2 q3,dD T ctx x=some (.sl z n el)/\tt t=some ⟨.slice e,q1,q2,q3⟩ /\ ∀ b:Bool,(b=true->n=0)->K (.lit (.bool b)) H
 | .lookup t m k ok=>∃ xs,jT T ctx [m,k]=some xs/\yD P (.lookup t m k ok) xs H K
 | .mapUpdate t m k x=>∃ xs,jT T ctx [m,k,x]=some xs/\yD P (.mapUpdate t m k x) xs H K
 | _=>False
def oF (N:Nat)(T:Env)(H:bA)(T':Env)(H':bA):Prop:=∀ g w a ds,Good N g w T H ds a -> ∃ g',Good N g' w T' H' ds a/\Ext g w g' w
theorem oF.refl (N:Nat)(T:Env)(H:bA):oF N T H T H:=fun g w _ _ hg=>⟨g,hg,Ext.refl g w⟩
def RWs (P:Program)(tt:TT)(N:Nat)(ops:Array Oper):List Nat->Env->bA->(Env->bA->Prop)->Prop
 | [],T,H,K=>K T H
 | i::is,T0,H0,K=>∃ T H,oF N T0 H0 T H /\ ∃ o ctx,ops[i]?=some o/\SJ ops T o=some ctx/\ES N o ctx=true /\
   ((∃ Cs x,dX tt T ctx o.op=some (Cs,x)/\(gB T ctx=true->zX Cs)/\RWs P tt N ops is (T.cF o.dst (ctx,x)) H K) ∨
    ((gB T ctx=true->rO P tt T ctx o.op H (fun x H'=>RWs P tt N ops is (T.cF o.dst (ctx,x)) H' K) ∨ ∃ xs,jT T ctx o.op.operands.toList=some xs/\yD P o.op xs H (fun x H'=>RWs P tt N ops is (T.cF o.dst (ctx,x)) H' K))/\(gB T ctx=false -> ∃ y,RWs P tt N ops is (T.cF o.dst (ctx,y)) H K)))
theorem Good.step {N:Nat} {g g':Gh} {w w':World} {T T':Env} {H H':bA} {ds:List Nat} {a a':Act} (hg:Good N g w T H ds a) (e:Ext g w g' w') (hs:SR g' w' H') (ht:TR g' w' T' a'.tmps)
  (hd:a'.defers=a.defers) (hz:a'.tmps.size=a.tmps.size):Good N g' w' T' H' ds a' where
 sr:=hs
 tr:=ht
 df:=by
  rw [hd,hg.df];apply List.map_congr_left;intro l hl;simp only [mkD,e.blk l (hg.dl l hl)]
 dl l hl:=Nat.lt_of_lt_of_le (hg.dl l hl) e.n
 sz:=by rw [hz];exact hg.sz
theorem PA (a:Act)(d:Option Tmp)(v:Value):(a.put d v).tmps.size=a.tmps.size:=by cases d <;> simp [Act.put]
theorem put_defers (a:Act)(d:Option Tmp)(v:Value):(a.put d v).defers=a.defers:=by cases d <;> rfl
theorem TU {ro:Option Nat}{ρ:Operand->Value}{o:Oper}(h:∀ c,o.op ≠ .defer c):o.semAt ro ρ=execOp ρ o:=Oper.semAt_eq ro ρ o h
theorem fI {ro:Option Nat} {o:Oper} {a:Act} {w w':World} {v:Value} {next:Act->World->Prop} {R:Exit->Act->World->Prop} (hd:∀ c,o.op ≠ .defer c) (hr:(execOp a.eval o).run P w=.ok (.value v) w')
  (hn:next (a.put o.dst v) w'):o.wpIn (FR ro) 0 P a w next R :=
 ⟨fun _ _=>trivial,by rw [TU hd,hr];exact hn⟩
theorem aCV {ro:Option Nat} {o:Oper} {a:Act} {w w':World} {next:Act->World->Prop} {R:Exit->Act->World->Prop} (hd:∀ c,o.op ≠ .defer c) (hr:(execOp a.eval o).run P w=.ok .skip w')
  (hn:next (a.put o.dst undef) w'):o.wpIn (FR ro) 0 P a w next R :=
 ⟨fun _ _=>trivial,by rw [TU hd,hr];exact hn⟩
theorem ZG {ro:Option Nat}{n:Nat}{f:FuncId}{as0:Array Value}{w:World}{R:Ending->World->Prop}(h:Calls P f as0 w R):CallsIn (FR ro) n P f as0 w R:=by
 cases ro with
 | none=>exact callsIn_wide.2 h
 | some l=>exact CallsIn.inRound l (callsIn_wide.2 h)
theorem SP {g:Gh} {w:World} {xs ys:List V} {as0 bs:Array Value} (h1:xs.length=as0.size) (h2:ys.length=bs.size) (g1:∀ (i:Nat) x y,xs[i]?=some x->as0[i]?=some y->Rep g w x y)
  (g2:∀ (i:Nat) x y,ys[i]?=some x->bs[i]?=some y->Rep g w x y):(xs++ys).length=(as0++bs).size /\ ∀ (i:Nat) x y,(xs++ys)[i]?=some x->(as0++bs)[i]?=some y->Rep g w x y:=by
 refine⟨by simp [h1,h2],fun i x y hx hy=>?_⟩;by_cases hi:i<xs.length
 ·rw [List.getElem?_append_left hi] at hx;rw [Array.getElem?_append_left (by omega)] at hy;exact g1 i x y hx hy
 ·rw [List.getElem?_append_right (by omega)] at hx;rw [Array.getElem?_append_right (by omega),←h1] at hy;exact g2 _ x y hx hy
theorem aFq {g:Gh}{w:World}{xs:List V}{v:Value}(h:Rep g w (.sl false xs.length (fun i=>xs.getD i .bad)) v)(hc:xs=[] -> ∃ a,v=.slice a 0 0):Rep g w (dB xs) v:=by
 cases xs with
 | nil =>
  obtain⟨a,rfl⟩:=hc rfl;exact .sl0 _ _ _ _ (fun _=>rfl)
 | cons x r=>exact h
theorem aJl {t e:TypeId}(hu:P.underlying t=some (.slice e))(a:Option Addr)(n c:Nat)(w:World):(Op.equal t (.slice a n c) (.slice none 0 0)).run P w=.ok a.isNone w:=by
 unfold Op.equal Op.maxDepth;unfold Op.equalIn;simp only [Sem.run_bind,run_underlying hu,Result.andThen]
 cases a <;> rfl
theorem Rep.aLF {g:Gh}{w:World}{n:Nat}{el el':Nat->V}{v:Value}(h:Rep g w (.sl false n el) v)(he:∀ i,i<n->el i=el' i):Rep g w (.sl false n el') v:=by
 cases h with
 | sl0=>exact .sl0 _ _ _ _ (by assumption)
 | sl n el b o k cap c h1 h2 h3 h4 h5 h6=>exact .sl n el' b o k cap c (fun i hi=>by rw [←he i hi]; exact h1 i hi) h2 h3 h4 h5 (fun i hi=>by rw [←he i hi]; exact h6 i hi)
theorem aDf (htt:jO P tt) {ro:Option Nat} {N:Nat} {g:Gh} {w:World} {T:Env} {H:bA} {ds:List Nat} {a:Act} {ctx:Ctx} {o:Oper} {K:V->bA->Prop} (hg:Good N g w T H ds a) (hc:eJ a.tmps ctx)
  (h:rO P tt T ctx o.op H K) {next:Act->World->Prop} {R:Exit->Act->World->Prop}
  (hn:∀ x H' g' w' v,K x H'->SR g' w' H'->Rep g' w' x v->Ext g w g' w'->next (a.put o.dst v) w'):o.wpIn (FR ro) 0 P a w next R:=by
 obtain⟨dst,op,type,pos,after,guard⟩:=o;simp only at h hn ⊢;have htr:=hg.tr;have hsr:=hg.sr;unfold rO at h;split at h
 ·-- a call
  rename_i f args atys
  obtain⟨fv,xs,hf,hx,hcall⟩:=h;obtain⟨l3,g3⟩:=DM htr hc hx;unfold SX at hcall;split at hcall
  rotate_left
  ·rename_i l b1 b2
   have hlv:=(dG htr hc hf).qJ;obtain⟨fn,tmps,asg,body,hy,hr⟩:=hcall g w _ hsr l3 g3;refine⟨fun _ _=>trivial,?_⟩;rw [TU (by simp)];have hpl:=(dG htr hc hf).aLK;have hb:b1=#[]/\b2=#[]:=by simpa [plain] using hpl
   obtain⟨rfl,rfl⟩:=hb
   have hrun:(execOp a.eval ⟨dst,.call ⟨.value f,args,atys⟩,type,pos,after,guard⟩).run P w=.ok (.round l fn tmps asg body) w:=by
    simp only [execOp,resolve,hlv,Deferred.ofValue,Sem.run_bind,Sem.run_pure,Result.andThen,invoke]
    simpa using hy
   rw [hrun];refine⟨fun h=>by simp [FR,Fence.wide] at h,?_⟩;refine (aJo hr).mono ?_;rintro e w' ⟨v,r,g',H',rfl,hr,hs,hx,hq⟩;exact hn r H' g' w' v hq hs hr hx
  ·exact hcall.elim
  rename_i fid ys cs
  obtain⟨fs,cap,hfv,l1,l2,g1,g2⟩:=(dG htr hc hf).fnE;obtain⟨l4,g4⟩:=SP l1 l3 g1 g3;obtain⟨l5,g5⟩:=SP l4 l2 g4 g2;rcases hcall with hcall | hcall
  rotate_left
  ·obtain⟨v,r,hrun,hrep,hq⟩:=hcall g w _ hsr l5 g5;refine fI (by simp) (v:=v) (w':=w) ?_ (hn _ _ g w v hq hsr hrep (Ext.refl g w));simp only [execOp,resolve,hfv,Deferred.ofValue,Sem.run_bind,Sem.run_pure,Result.andThen,invoke,hrun]
  obtain⟨henter,hcalls⟩:=hcall;refine⟨fun _ _=>trivial,?_⟩;rw [TU (by simp)]
  have hrun:(execOp a.eval ⟨dst,.call ⟨.value f,args,atys⟩,type,pos,after,guard⟩).run P w=.ok (.enter fid (fs++args.map a.eval++cap)) w:=by
   simp only [execOp,resolve,hfv,Deferred.ofValue,Sem.run_bind,Sem.run_pure,Result.andThen,invoke,henter]
  rw [hrun];refine⟨fun h=>by simp [FR,Fence.wide] at h,ZG ?_⟩;refine (hcalls g w _ hsr l5 g5).mono ?_;rintro e w' ⟨v,r,g',H',rfl,hr,hs,hx,hq⟩;exact hn r H' g' w' v hq hs hr hx
 ·-- a slice that is made
  rename_i t l c
  obtain⟨k1,k2,n,e,q1,q2,q3,te,hl,hcc,ht,hte,h0,hb,h63,hk⟩:=h;obtain⟨v,w',g',hrun,hrep,hsr',hext⟩:=aIJ (k1:=k1) (k2:=k2) htt hsr (htt.facts ht).under hte h0 hb h63;refine fI (by simp) (v:=v) (w':=w') ?_ (hn _ _ g' w' v hk hsr' hrep hext);simp only [execOp,(dG htr hc hl).qJ,(dG htr hc hcc).qJ,Sem.run_bind,Result.andThen,hrun,Sem.run_pure]
 ·-- append
  rename_i args tys
  rcases h with ⟨el,kk,n,t,t',e,q1,q2,q3,ik,q4,q5,q6,te,hev,rfl,ht,ht',hte,hz,h0,hb,h63,hk⟩ | h
  ·obtain⟨u1,u2,hu,r1,r2⟩:=args2 htr hc hev;obtain⟨aa,cp,rfl,_,hzc⟩:=r1.slE;have b8:=hzc rfl;subst b8;have h2:=r2.qJ;subst h2;obtain⟨v,w',g',hrun,hrep,hsr',hext⟩:=aCb (ty:=type) (kk:=kk) (a:=aa) htt hsr (htt.facts ht).under (htt.facts ht').under hte hz h0 hb h63;refine fI (by simp) (v:=v) (w':=w') ?_ (hn _ _ g' w' v hk hsr' hrep hext);simp only [execOp,resolve,Sem.run_bind,Sem.run_pure,Result.andThen,invoke,builtin,hu];rw [hrun]
  rcases h with ⟨el,x,t,t',e,e',te,ys,f,hev,rfl,⟨q1,q2,q3,ht⟩,⟨p1,p2,p3,ht'⟩,hte,hz,hys,hb,h63,hf,hk⟩ | h
  ·obtain⟨u1,u2,hu,r1,r2⟩:=args2 htr hc hev;obtain⟨v,w',g',hrun,hrep,hsr',hext⟩:=aAF (ty:=type) htt hsr (htt.facts ht).under (htt.facts ht').under hte hz r1 r2 rfl hys (by simpa using hb) (by simpa using h63);simp only [IT,List.nil_append,List.length_nil,Nat.zero_add] at hsr' hrep;have hl:(H++[fD.vec te.size ys])[H.length]?=some (.vec te.size ys):=by simp
   obtain⟨s1,s2,s3⟩:=hsr'.freeze hl;have hd:(H++[fD.vec te.size ys]).set H.length .dead=H++[.dead]:=by simp
   rw [hd] at s1;refine fI (by simp) (v:=v) (w':=w') ?_ (hn _ _ _ w' v hk s1 ((s3 v hrep).aLF hf) (hext.trans s2));simp only [execOp,resolve,Sem.run_bind,Sem.run_pure,Result.andThen,invoke,builtin,hu];rw [hrun]
  obtain⟨s,x,t,t',e,e',te,es,ys,hev,rfl,⟨q1,q2,q3,ht⟩,⟨p1,p2,p3,ht'⟩,hte,hz,hes,hys,hb,h63,hk⟩:=h;obtain⟨u1,u2,hu,r1,r2⟩:=args2 htr hc hev;obtain⟨v,w',g',hrun,hrep,hsr',hext⟩:=aAF (ty:=type) htt hsr (htt.facts ht).under (htt.facts ht').under hte hz r1 r2 hes hys hb h63;refine fI (by simp) (v:=v) (w':=w') ?_ (hn _ _ g' w' v hk hsr' hrep hext);simp only [execOp,resolve,Sem.run_bind,Sem.run_pure,Result.andThen,invoke,builtin,hu];rw [hrun]
 ·-- alloc
  rename_i t
  obtain⟨e,z,ht,hsub,hnt,hk⟩:=h;obtain⟨⟨i,hi,_,_,zv,hz,hzv⟩,_⟩:=htt.facts ht;have hz':(zeroValue t).run P w=.ok zv w:=by simp [zeroValue,typeInfo,hi,hz]
  rcases hk with hk | hk
  ·obtain⟨w',g',hrun,hrep,hsr',hext⟩:=aA5 (P:=P) (t:=t) hsr (hsub _ _ _ (uR hzv)) hnt;refine fI (by simp) (w':=w') ?_ (hn _ _ g' w' _ hk hsr' hrep hext);simp only [execOp,Instr.alloc,Sem.run_bind,hz',Result.andThen,hrun,Sem.run_pure]
  ·obtain⟨w',g',hrun,hrep,hsr',hext⟩:=ZV (P:=P) (t:=t) hsr (hsub _ _ _ (uR hzv)) hnt;refine fI (by simp) (w':=w') ?_ (hn _ _ g' w' _ hk hsr' hrep hext);simp only [execOp,Instr.alloc,Sem.run_bind,hz',Result.andThen,hrun,Sem.run_pure]
 ·-- box
  rename_i t x
  obtain⟨v,hv,hnt,hk⟩:=h;rcases hk with hk | hk
  ·obtain⟨w',g',hrun,hrep,hsr',hext⟩:=aA5 (P:=P) (t:=t) hsr (dG htr hc hv) hnt;refine fI (by simp) (w':=w') ?_ (hn _ _ g' w' _ hk hsr' hrep hext);simp only [execOp,Instr.box,Sem.run_bind,Result.andThen,hrun,Sem.run_pure]
  ·obtain⟨w',g',hrun,hrep,hsr',hext⟩:=ZV (P:=P) (t:=t) hsr (dG htr hc hv) hnt;refine fI (by simp) (w':=w') ?_ (hn _ _ g' w' _ hk hsr' hrep hext);simp only [execOp,Instr.box,Sem.run_bind,Result.andThen,hrun,Sem.run_pure]
 ·-- load
  rename_i t x
  obtain⟨l,i,o,k,es,y,v,e,hx,hl,hy,ht,hlv,hk⟩:=h;obtain⟨u,hrun,hrep⟩:=aDv htt hsr ht hl hy (dG htr hc hx) hlv;refine fI (by simp) (w':=w) ?_ (hn _ _ g w u hk hsr hrep (Ext.refl g w));simp only [execOp,Sem.run_bind,Result.andThen,hrun,Sem.run_pure]
 ·-- store
  rename_i t p x
  obtain⟨l,i,o,k,es,y,v,y',e,hp,hx,hl,hy,ht,hsz,hsv,hk⟩:=h;obtain⟨w',hrun,hsr',hext⟩:=aHz htt hsr ht hl hy (dG htr hc hp) (dG htr hc hx) hsz hsv;refine aCV (by simp) (w':=w') ?_ (hn _ _ g w' undef hk hsr' (.tup [] #[] rfl (by simp)) hext);simp only [execOp,Sem.run_bind,Result.andThen,hrun,Sem.run_pure]
 ·-- a slice literal
  rename_i t n parts
  obtain⟨xs,hxs,hk⟩:=h;obtain⟨e,te,cs,c,rfl,⟨z1,z2,z3,b5⟩,hnt,hte,hsz,hrun,hrep⟩:=aDX (w:=w) htt htr hc hxs
  have hex:(execOp a.eval ⟨dst,.buildSlice t xs.length parts,type,pos,after,guard⟩).run P w=.ok (.value (.slice (some ⟨w.heap.size,0,none⟩) xs.length xs.length)) (w.alloc (.cells cs e)):=by
   simp only [execOp,Sem.run_bind,Result.andThen,hrun,Sem.run_pure]
  rcases hk with hk | ⟨e1,b7,q1,q2,q3,ht,b6,hk⟩
  ·obtain⟨s1,s2,s3⟩:=hsr.aD4 (t:=e) (cs:=cs) (k:=te.size) (cap:=xs.length) (n:=xs.length) (fun i=>xs.getD i .bad) c
    (fun i hi=>by
     have:=hrep i xs[i] (List.getElem?_eq_getElem hi)
     simpa [List.getD,List.getElem?_eq_getElem hi] using this) hsz (Nat.le_refl _) (fun i hi=>by
     rw [List.getD_eq_getElem?_getD,List.getElem?_eq_getElem hi];exact hnt _ (List.getElem_mem hi))
   refine fI (by simp) hex (hn _ _ _ _ _ hk s1 (aFq s3 (fun h0=>⟨some ⟨w.heap.size,0,none⟩,by simp [h0]⟩)) s2)
  ·have : e1=e/\b7=te:=by
    rw [ht] at b5;cases b5;rw [hte] at b6;cases b6;exact⟨rfl,rfl⟩
   obtain⟨rfl,rfl⟩:=this;obtain⟨s1,s2,s3,_⟩:=hsr.aAq (t:=e1) (cs:=cs) (k:=b7.size) (cap:=xs.length) (xs:=xs) c (fun i x hx=>hrep i x hx) hsz (Nat.le_refl _) hnt;exact fI (by simp) hex (hn _ _ _ _ _ hk s1 s3 s2)
 ·-- held against nil
  rename_i t x yt
  obtain⟨z,n,el,e,q1,q2,q3,hx,ht,hk⟩:=h;obtain⟨aa,cap,hv,hle,hzc⟩:=(dG htr hc hx).slE;have hrx:=dG htr hc hx;have hu:=(htt.facts ht).under;refine fI (by simp) (v:=.bool aa.isNone) (w':=w) ?_ (hn _ _ g w _ (hk aa.isNone ?_) hsr (.lit _ rfl) (Ext.refl g w))
  ·simp only [execOp,Sem.run_bind,Result.andThen,hv];have h1:(eqGuard .eql t x (.const (.slice none 0 0)) (.slice aa n cap) (a.eval (.const (.slice none 0 0)))).run P w=.ok () w:=rfl;rw [h1];simp only []
   have h2:(binOp .eql t (.slice aa n cap) (a.eval (.const (.slice none 0 0)))).run P w=.ok (.bool aa.isNone) w:=by
    change (binOp .eql t (.slice aa n cap) (.slice none 0 0)).run P w=_
    simp only [binOp,Sem.run_bind,aJl hu,Result.andThen];rfl
   rw [h2];rfl
  ·intro hb;rw [hv] at hrx
   cases aa with
   | some _=>simp at hb
   | none =>
    cases hrx with
    | sl0=>rfl
 ·-- a map is looked at
  rename_i t m k ok
  obtain⟨xs,hx,he⟩:=h;exact he ro _ a g w next R rfl hsr (DM (xs := #[m,k]) htr hc hx) hn
 ·-- an entry is put into a map
  rename_i t m k x
  obtain⟨xs,hx,he⟩:=h;exact he ro _ a g w next R rfl hsr (DM (xs := #[m,k,x]) htr hc hx) hn
 ·exact h.elim
theorem TG {g:Gh} {w:World} {T:Env} {a:Act} {N:Nat} {o:Oper} {ctx:Ctx} {x:V} {v:Value} (h:TR g w T a.tmps) (hN:a.tmps.size=N) (hd:ES N o ctx=true)
  (h1:eJ a.tmps ctx->Rep g w x v) (h2:¬ eJ a.tmps ctx->v=undef):TR g w (T.cF o.dst (ctx,x)) (a.put o.dst v).tmps:=h.put hN hd h1 h2
theorem WK (htt:jO P tt){ro:Option Nat}{N:Nat}{ops:Array Oper}{ds:List Nat}:∀ (is:List Nat) (T:Env) (H:bA) (K:Env->bA->Prop),RWs P tt N ops is T H K ->
  ∀ g w a (R:Exit->Act->World->Prop),Good N g w T H ds a->(∀ T' H' g' w' a',K T' H'->Good N g' w' T' H' ds a'->Ext g w g' w'->R .normal a' w')->wpOpsIn (FR ro) 0 P ops R is a w
 | [],T,H,K,h,g,w,a,R,hg,hr=>hr T H g w a h hg (Ext.refl g w)
 | i::is,T0,H0,K,h,g0,w,a,R,b5,b6=>by
  obtain⟨T,H,hgh,o,ctx,ho,hctx,hd,h⟩:=h;obtain⟨g,hg,hx0⟩:=hgh g0 w a ds b5;have hr:∀ T' H' g' w' a',K T' H'->Good N g' w' T' H' ds a'->Ext g w g' w'->R .normal a' w':=fun T' H' g' w' a' hk hg' hx=>b6 T' H' g' w' a' hk hg' (hx0.trans hx);obtain⟨hwf,hwant⟩:=aJp hctx hg.tr;have hiff:=aIA hg.tr hwf;simp only [wpOpsIn,ho]
  have skip:gB T ctx=false -> ∀ x,RWs P tt N ops is (T.cF o.dst (ctx,x)) H K->wpOpsIn (FR ro) 0 P ops R is (a.put o.dst undef) w:=by
   intro hb x hrest;have hnc:¬ eJ a.tmps ctx:=fun hc=>by rw [hiff.1 hc] at hb;cases hb
   refine WK htt is _ H K hrest g w _ R (hg.step (Ext.refl g w) hg.sr (TG hg.tr hg.sz hd (fun hc=>absurd hc hnc) (fun _=>rfl)) (put_defers ..) (PA ..)) hr
  by_cases hb:gB T ctx=true
  ·have hc:=hiff.2 hb;rw [if_pos (hwant.2 hc)];rcases h with ⟨Cs,x,hp,hC,hrest⟩ | ⟨heff,_⟩
   ·obtain⟨v,hrun,hrep⟩:=aAO htt hg.tr hc hp (aB8 (hC hb));refine fI (fun c e=>by rw [e] at hp;simp [dX] at hp) hrun ?_;exact WK htt is _ H K hrest g w _ R (hg.step (Ext.refl g w) hg.sr (TG hg.tr hg.sz hd (fun _=>hrep) (fun hnc=>absurd hc hnc)) (put_defers ..) (PA ..)) hr
   ·have fin:∀ x H' g' w' v,RWs P tt N ops is (T.cF o.dst (ctx,x)) H' K->SR g' w' H'->Rep g' w' x v->Ext g w g' w'->wpOpsIn (FR ro) 0 P ops R is (a.put o.dst v) w':=by
     intro x H' g' w' v hrest hs hrep hx;refine WK htt is _ H' K hrest g' w' _ R (hg.step hx hs (TG (hg.tr.ext hx) hg.sz hd (fun _=>hrep) (fun hnc=>absurd hc hnc)) (put_defers ..) (PA ..)) ?_;intro T2 H2 g2 w2 a2 hk b7 b8;exact hr T2 H2 g2 w2 a2 hk b7 (hx.trans b8)
    rcases heff hb with he | ⟨xs,hxs,he⟩
    ·exact aDf htt hg hc he fin
    ·exact he ro o a g w _ R rfl hg.sr (DM hg.tr hc hxs) fin
  ·have hb':gB T ctx=false:=by simpa using hb
   have hnw:¬ (Region.wanted o (yielded ops a.tmps)=true):=fun hw=>hb (hiff.1 (hwant.1 hw));rw [if_neg hnw];refine⟨fun _ _=>trivial,?_⟩;rcases h with ⟨Cs,x,hp,hC,hrest⟩ | ⟨_,hskip⟩
   ·exact skip hb' x hrest
   ·obtain⟨y,hy⟩:=hskip hb';exact skip hb' y hy
theorem aLf (htt:jO P tt) {ro:Option Nat} {N id:Nat} {ops:Array Oper} {T:Env} {H:bA} {ds:List Nat} {Q:Exit->Env->bA->List Nat->Prop}
  (h:RWs P tt N ops (List.range ops.size) T H (fun T' H'=>Q .normal T' H' ds)):AWP P ro N (.region id ops false) T H ds Q:=by
 intro g w a R hg hr;exact wpIn_region (WK htt _ T H _ h g w a R hg fun T' H' g' w' a' hk hg' hx=>hr _ _ _ _ _ _ _ hk hg' hx)
end Go.Abs
namespace Go.Abs
open Go IntKind Go.RowKit
variable {P:Program} {tt:TT} {ro:Option Nat} {N:Nat} {T:Env} {H:bA} {ds:List Nat} {Q:Exit->Env->bA->List Nat->Prop}
def B (f:Func):Code:=f.body.getD .skip
end Go.Abs
namespace Go
def Code.l:Code->Code
 | .seq a _=>a
 | _=>.skip
def Code.r:Code->Code
 | .seq _ b=>b
 | _=>.skip
def Code.t:Code->Code
 | .cond _ a _=>a
 | _=>.skip
def Code.e:Code->Code
 | .cond _ _ b=>b
 | _=>.skip
def Code.b:Code->Code
 | .block _ c=>c
 | .loop c=>c
 | .scope c=>c
 | .rangeFunc _ _ _ c=>c
 | _=>.skip
def Code.asg:Code->Code
 | .rangeFunc _ _ a _=>a
 | _=>.skip
def Code.cnd:Code->Operand
 | .cond c _ _=>c
 | .rangeFunc f _ _ _=>f
 | _=>.tmp 0
def Code.rps:Code->Array Tmp
 | .rangeFunc _ ps _ _=>ps
 | _ => #[]
def Code.ops:Code->Array Oper
 | .region _ o _=>o
 | _ => #[]
def Code.blk:Code->Nat
 | .block i _=>i
 | .exit i=>i
 | _=>0
def Code.kind:Code->Nat
 | .skip=>0
 | .seq _ _=>1
 | .cond _ _ _=>2
 | .block _ _=>3
 | .loop _=>4
 | .exit _=>5
 | .ret=>6
 | .region _ _ false=>7
 | .region _ _ true=>8
 | .rangeFunc _ _ _ _=>9
 | .scope _=>10
 | _=>11
end Go
namespace Go.Abs
open Go IntKind Go.RowKit
variable {P:Program} {tt:TT} {ro:Option Nat} {N:Nat} {T:Env} {H:bA} {ds:List Nat} {Q:Exit->Env->bA->List Nat->Prop}
theorem aE6 {c:Code}(hk:c.kind=1)(h:AWP P ro N c.l T H ds (AA (fun T H ds=>AWP P ro N c.r T H ds Q) Q)):AWP P ro N c T H ds Q:=by
 cases c with
 | seq a b=>exact aOq h
 | region i o d=>cases d <;> simp [Code.kind] at hk
 | _=>simp [Code.kind] at hk
theorem aOm {c:Code}(hk:c.kind=0)(h:Q .normal T H ds):AWP P ro N c T H ds Q:=by
 cases c with
 | skip=>exact aND h
 | region i o d=>cases d <;> simp [Code.kind] at hk
 | _=>simp [Code.kind] at hk
theorem aOr {c:Code}(hk:c.kind=6)(h:Q .ret T H ds):AWP P ro N c T H ds Q:=by
 cases c with
 | ret=>exact aOy h
 | region i o d=>cases d <;> simp [Code.kind] at hk
 | _=>simp [Code.kind] at hk
theorem aNJ {c:Code}{id:Nat}(hk:c.kind=5)(hi:c.blk=id)(h:Q (.exit id) T H ds):AWP P ro N c T H ds Q:=by
 cases c with
 | exit i=>subst hi; exact aNB h
 | region i o d=>cases d <;> simp [Code.kind] at hk
 | _=>simp [Code.kind] at hk
theorem aNd {c:Code}{id:Nat}(hk:c.kind=3)(hi:c.blk=id)(h:AWP P ro N c.b T H ds (KC id Q)):AWP P ro N c T H ds Q:=by
 cases c with
 | block i c=>subst hi; exact aNp h
 | region i o d=>cases d <;> simp [Code.kind] at hk
 | _=>simp [Code.kind] at hk
theorem aK1 {c:Code}{b:Bool}(hk:c.kind=2)(hc:dD T [] c.cnd=some (.lit (.bool b)))(h1:b=true->AWP P ro N c.t T H ds Q)(h2:b=false->AWP P ro N c.e T H ds Q):AWP P ro N c T H ds Q:=by
 cases c with
 | cond c x y=>exact aN0 hc h1 h2
 | region i o d=>cases d <;> simp [Code.kind] at hk
 | _=>simp [Code.kind] at hk
theorem aKp {c:Code} (hk:c.kind=4) (I:Nat->Env->bA->List Nat->Prop) {k:Nat} (h0:I k T H ds)
  (round:∀ k T H ds,I k T H ds->AWP P ro N c.b T H ds (AA (fun T' H' ds'=>∃ k',k'<k/\I k' T' H' ds') Q)):AWP P ro N c T H ds Q:=by
 cases c with
 | loop c=>exact aN4 I h0 round
 | region i o d=>cases d <;> simp [Code.kind] at hk
 | _=>simp [Code.kind] at hk
def aP (i n:Nat):List Nat:=List.range' i (n-i)
theorem aCi (htt:jO P tt){c:Code}{n:Nat}(hk:c.kind=7)(hn:c.ops.size=n)(h:RWs P tt N c.ops (aP 0 n) T H (fun T' H'=>Q .normal T' H' ds)):AWP P ro N c T H ds Q:=by
 cases c with
 | region id ops draw =>
  cases draw with
  | false =>
   refine aLf htt ?_;simp only [Code.ops] at hn h;rw [hn,List.range_eq_range'];exact h
  | true=>simp [Code.kind] at hk
 | _=>simp [Code.kind] at hk
theorem aH {next:Env->bA->List Nat->Prop}(h:next T H ds):AA next Q .normal T H ds:=h
theorem aR {next:Env->bA->List Nat->Prop}(h:Q .ret T H ds):AA next Q .ret T H ds:=h
theorem aT {next:Env->bA->List Nat->Prop}{id:Nat}(h:Q (.exit id) T H ds):AA next Q (.exit id) T H ds:=h
theorem aX {id:Nat}(h:Q .normal T H ds):KC id Q .normal T H ds:=h
theorem bH {id:Nat}(h:Q .ret T H ds):KC id Q .ret T H ds:=h
theorem bN {id:Nat}(h:Q .normal T H ds):KC id Q (.exit id) T H ds:=by
 simp only [KC];have : Nat.beq id id=true:=Nat.beq_refl id;rw [this];exact h
theorem KG {id id':Nat}(hne:Nat.beq id' id=false)(h:Q (.exit id') T H ds):KC id Q (.exit id') T H ds:=by
 simp only [KC];rw [hne];exact h
theorem aDV:∀ {l:List (Nat×V)},l.map (fun p=>T p.1)=l.map (fun p=>some ([],p.2))->aLj (Env.ofL l) T
 | [],_=>fun t x ht=>by simp [Env.ofL] at ht
 | p::r,h=>by
  simp only [List.map_cons,List.cons.injEq] at h;intro t x ht;simp only [Env.ofL] at ht;split at ht
  ·rename_i hb
   have : t=p.1:=Nat.eq_of_beq_eq_true hb;subst this;rw [h.1];exact ht
  ·exact aDV h.2 t x ht
theorem aN2 {c:Code}(l:List (Nat×V))(h:l.map (fun p=>T p.1)=l.map (fun p=>some ([],p.2)))(next:AWP P ro N c (Env.ofL l) H ds Q):AWP P ro N c T H ds Q :=
 aNG (aDV h) next
def aFk (T:Env)(ctx:Ctx)(Cs:List Prop):List Prop :=
 match ctx with
 | []=>Cs
 | _=>Cs.map fun c=>gB T ctx=true->c
theorem aHO {ctx:Ctx}{Cs:List Prop}(h:zX (aFk T ctx Cs)):gB T ctx=true->zX Cs:=by
 intro hb;unfold aFk at h;split at h
 ·exact h
 ·induction Cs with
  | nil=>trivial
  | cons c r ih=>exact ⟨h.1 hb,ih h.2⟩
def UA (tt:TT)(N:Nat)(ops:Array Oper):List Nat->Env->Option (List Prop)
 | [],_=>some []
 | i::is,T=>match ops[i]? with
  | none=>none
  | some o=>match SJ ops T o with
   | none=>none
   | some ctx=>match ES N o ctx,dX tt T ctx o.op with
    | true,some (Cs,x)=>match UA tt N ops is (T.cF o.dst (ctx,x)) with
     | some Ds=>some (aFk T ctx Cs++Ds)
     | none=>none
    | _,_=>none
def UI (tt:TT)(ops:Array Oper):List Nat->Env->Env
 | [],T=>T
 | i::is,T=>match ops[i]? with
  | none=>T
  | some o=>match SJ ops T o with
   | none=>T
   | some ctx=>match dX tt T ctx o.op with
    | some (_,x)=>UI tt ops is (T.cF o.dst (ctx,x))
    | none=>T
theorem aDL {ops:Array Oper}{K:Env->bA->Prop}:∀ {is js:List Nat} {T:Env} {Ds:List Prop},UA tt N ops is T=some Ds->zX Ds->RWs P tt N ops js (UI tt ops is T) H K->RWs P tt N ops (is++js) T H K
 | [],js,T,Ds,_,_,h=>h
 | i::is,js,T,Ds,hc,hD,h=>by
  simp only [UA] at hc;simp only [UI] at h;split at hc
  ·simp at hc
  ·rename_i o ho
   simp only [ho] at h;split at hc
   ·simp at hc
   ·rename_i ctx hctx
    simp only [hctx] at h;split at hc
    ·rename_i Cs x hd hp
     simp only [hp] at h;split at hc
     ·rename_i Ds' hDs
      simp at hc;subst hc;obtain⟨d1,d2⟩:=XU.1 hD;exact⟨T,_,oF.refl _ _ _,o,ctx,ho,hctx,hd,.inl ⟨Cs,x,hp,aHO d1,aDL hDs d2 h⟩⟩
     ·simp at hc
    ·simp at hc
section rules
variable {ops:Array Oper} {K:Env->bA->Prop} {i n:Nat}
theorem aKB (j:Nat) (hs:aP i n=aP i j++aP j n) {Ds:List Prop} (hc:UA tt N ops (aP i j) T=some Ds) (hD:zX Ds)
  (h:RWs P tt N ops (aP j n) (UI tt ops (aP i j) T) H K):RWs P tt N ops (aP i n) T H K:=by
 rw [hs];exact aDL hc hD h
theorem aOx (hs:aP i n=[])(h:K T H):RWs P tt N ops (aP i n) T H K:=by rw [hs];exact h
theorem aE5 {Ds:List Prop}(hc:UA tt N ops (aP i n) T=some Ds)(hD:zX Ds)(h:K (UI tt ops (aP i n) T) H):RWs P tt N ops (aP i n) T H K:=by
 have:=aDL (P:=P) (js:=[]) (H:=H) (K:=K) hc hD h
 rwa [List.append_nil] at this
def cP (ops:Array Oper)(i:Nat):Option Tmp:=match ops[i]? with
 | some o=>o.dst
 | none=>none
def gJ (N:Nat)(ops:Array Oper)(i:Nat):Option Op:=match ops[i]? with
 | some o=>match o.guard,ES N o [] with
  | none,true=>some o.op
  | _,_=>none
 | none=>none
theorem BF {op:Op}(h:gJ N ops i=some op):∃ o,ops[i]?=some o/\o.op=op/\SJ ops T o=some []/\ES N o []=true/\cP ops i=o.dst:=by
 unfold gJ at h;split at h
 ·rename_i o ho
  split at h
  ·rename_i hg hd
   simp at h;exact⟨o,ho,h,by simp [SJ,hg],hd,by simp [cP,ho]⟩
  ·simp at h
 ·simp at h
theorem HQ {op:Op}(hs:aP i n=i::aP (i+1) n)(hp:gJ N ops i=some op)(h:rO P tt T [] op H (fun x H'=>RWs P tt N ops (aP (i+1) n) (T.cF (cP ops i) ([],x)) H' K)) :
  RWs P tt N ops (aP i n) T H K:=by
 rw [hs];obtain⟨o,ho,rfl,hctx,hd,hdst⟩:=BF (T:=T) hp;rw [hdst] at h;exact⟨T,H,oF.refl _ _ _,o,[],ho,hctx,hd,.inr ⟨fun _=>.inl h,fun h=>by simp [gB] at h⟩⟩
theorem FY {op:Op}{xs:List V}(hs:aP i n=i::aP (i+1) n)(hp:gJ N ops i=some op)(hx:jT T [] op.operands.toList=some xs)(h:yD P op xs H (fun x H'=>RWs P tt N ops (aP (i+1) n) (T.cF (cP ops i) ([],x)) H' K)) :
  RWs P tt N ops (aP i n) T H K:=by
 rw [hs];obtain⟨o,ho,rfl,hctx,hd,hdst⟩:=BF (T:=T) hp;rw [hdst] at h;exact⟨T,H,oF.refl _ _ _,o,[],ho,hctx,hd,.inr ⟨fun _=>.inr ⟨xs,hx,h⟩,fun h=>by simp [gB] at h⟩⟩
def qY (N:Nat)(ops:Array Oper)(T:Env)(i:Nat):Option (Nat×List V):=match gJ N ops i with
 | some (.call ⟨.value f,args,_⟩)=>match dD T [] f,jT T [] args.toList with
  | some (.fn (.func fid) ys cs),some xs=>some (fid,ys++xs++cs)
  | _,_=>none
 | _=>none
theorem YC {fid:Nat} {as0:List V} (hs:aP i n=i::aP (i+1) n) (hd:qY N ops T i=some (fid,as0)) {Q:V->bA->Prop} (hc:pO P fid as0 H Q)
  (h:∀ r H',Q r H'->RWs P tt N ops (aP (i+1) n) (T.cF (cP ops i) ([],r)) H' K):RWs P tt N ops (aP i n) T H K:=by
 unfold qY at hd;split at hd
 ·rename_i f args tys hp
  split at hd
  ·rename_i ys cs xs hf hx
   simp at hd;obtain ⟨rfl,rfl⟩:=hd;refine HQ hs hp ?_;refine⟨_,xs,hf,hx,?_⟩;refine Or.inl ?_
   simpa using hc.mono h
  ·simp at hd
 ·simp at hd
def KF (tt:TT)(N:Nat)(ops:Array Oper)(T:Env)(i:Nat):Option (V×V×TyE):=match gJ N ops i with
 | some (.call ⟨.builtin .append,args,tys⟩)=>match jT T [] args.toList,tys[0]?,tys[1]?,tys[2]? with
  | some [s,x],some t,some t',none=>match tt t,tt t' with
   | some ⟨.slice e,_,_,_⟩,some ⟨.slice _,_,_,_⟩=>match tt e with
    | some te=>match vY te.zero te.size with
     | true=>some (s,x,te)
     | false=>none
    | none=>none
   | _,_=>none
  | _,_,_,_=>none
 | _=>none
theorem aFd {tys:Array TypeId}{t t':TypeId}(h0:tys[0]?=some t)(h1:tys[1]?=some t')(h2:tys[2]?=none):tys=#[t,t']:=by
 have hs:tys.size=2:=by
  have:=(Array.getElem?_eq_some_iff.1 h1).1;have:=Array.getElem?_eq_none_iff.1 h2;omega
 obtain⟨l⟩:=tys
 match l,hs with
 | [a,b],_=>simp at h0 h1; subst h0; subst h1; rfl
theorem aFO {s x:V} {te:TyE} {es ys:List V} (hs:aP i n=i::aP (i+1) n) (hd:KF tt N ops T i=some (s,x,te)) (he:ON te.size H s=some es) (hy:wQ te.size H x=some ys)
  (hb:(es.length+ys.length)*te.bytes<=140737488355328) (h63:es.length+ys.length<=9223372036854775807)
  (h:RWs P tt N ops (aP (i+1) n) (T.cF (cP ops i) ([],.msl te.size H.length 0 (es.length+ys.length))) (IT te.size H s (es++ys)) K):RWs P tt N ops (aP i n) T H K:=by
 unfold KF at hd;split at hd
 ·rename_i args tys hp
  split at hd
  ·rename_i s' x' t t' hev h0 h1 h2
   split at hd
   ·rename_i e _ _ _ e' _ _ _ ht ht'
    split at hd
    ·rename_i te' hte
     split at hd
     ·rename_i hz
      simp at hd;obtain ⟨rfl,rfl,rfl⟩:=hd;refine HQ hs hp ?_;exact .inr (.inr ⟨_,_,t,t',e,e',_,es,ys,hev,aFd h0 h1 h2,⟨_,_,_,ht⟩,⟨_,_,_,ht'⟩,hte,hz,he,hy,hb,h63,h⟩)
     ·simp at hd
    ·simp at hd
   ·simp at hd
  ·simp at hd
 ·simp at hd
def RA (tt:TT)(N:Nat)(ops:Array Oper)(T:Env)(i:Nat):Option (List V×Nat):=match gJ N ops i with
 | some (.buildSlice t k parts)=>match SW tt T [] (.buildSlice t k parts),tt t with
  | some xs,some ⟨.slice e,_,_,_⟩=>match tt e with
   | some te=>some (xs,te.size)
   | none=>none
  | _,_=>none
 | _=>none
theorem aOv {xs:List V} {k:Nat} (hs:aP i n=i::aP (i+1) n) (hd:RA tt N ops T i=some (xs,k))
  (h:RWs P tt N ops (aP (i+1) n) (T.cF (cP ops i) ([],dB xs)) H K):RWs P tt N ops (aP i n) T H K:=by
 unfold RA at hd;split at hd
 ·rename_i t k' parts hp
  split at hd
  ·rename_i ys e _ _ _ hb ht
   split at hd
   ·rename_i te hte
    simp at hd;obtain ⟨rfl,rfl⟩:=hd;refine HQ hs hp ?_;exact⟨_,hb,.inl h⟩
   ·simp at hd
  ·simp at hd
 ·simp at hd
theorem aN1 {xs:List V} {k:Nat} (hs:aP i n=i::aP (i+1) n) (hd:RA tt N ops T i=some (xs,k))
  (h:RWs P tt N ops (aP (i+1) n) (T.cF (cP ops i) ([],.msl k H.length 0 xs.length)) (H++[.vec k xs]) K):RWs P tt N ops (aP i n) T H K:=by
 unfold RA at hd;split at hd
 ·rename_i t k' parts hp
  split at hd
  ·rename_i ys e _ _ _ hb ht
   split at hd
   ·rename_i te hte
    simp at hd;obtain ⟨rfl,rfl⟩:=hd;refine HQ hs hp ?_;exact⟨_,hb,.inr ⟨e,te,_,_,_,ht,hte,h⟩⟩
   ·simp at hd
  ·simp at hd
 ·simp at hd
end rules
def aB3 (T:Env):List ResultVar->Option (List V)
 | []=>some []
 | .tmp t::r=>match T t,aB3 T r with
  | some ([],x),some xs=>some (x::xs)
  | _,_=>none
 | .cell _ _::_=>none
def SF (fn:Func)(T:Env):Option V:=match aB3 T fn.results.toList with
 | some [x]=>some x
 | some xs=>some (.tup xs)
 | none=>none
theorem aFA {g:Gh}{w:World}{tmps:Array Value}(h:TR g w T tmps):∀ {rs:List ResultVar} {xs:List V},aB3 T rs=some xs ->
  ∃ vs:List Value,(rs.mapM fun | .tmp t=>pure (tmps.getD t undef) | .cell a t=>do loadVar t (←asAddr (tmps.getD a undef)):Sem (List Value)).run P w=.ok vs w/\xs.length=vs.length /\
   ∀ (i:Nat) x y,xs[i]?=some x->vs[i]?=some y->Rep g w x y
 | [],xs,he=>by simp [aB3] at he; subst he; exact ⟨[],rfl,rfl,by simp⟩
 | .tmp t::r,xs,he=>by
  simp only [aB3] at he;split at he
  ·rename_i x ys ht hr
   simp at he;subst he;obtain⟨v,hv,hrep⟩:=(h t [] x ht).1 (by simp [eJ]);obtain⟨vs,h1,h2,h3⟩:=aFA h hr;refine⟨v::vs,?_,by simp [h2],fun i a b ha hb=>?_⟩
   ·simp only [List.mapM_cons,Sem.run_bind,Sem.run_pure,Result.andThen,h1];simp [hv]
   ·cases i with
    | zero=>simp at ha hb; subst ha; subst hb; exact hrep
    | succ i=>simp at ha hb; exact h3 i a b ha hb
  ·simp at he
 | .cell a t::r,xs,he=>by simp [aB3] at he
theorem aLX {g:Gh}{w:World}{tmps:Array Value}{fn:Func}(h:TR g w T tmps){x:V}(hx:SF fn T=some x):∃ v,(results fn tmps).run P w=.ok v w/\Rep g w x v:=by
 unfold SF at hx
 have main:∀ {xs:List V},aB3 T fn.results.toList=some xs -> ∃ vs:List Value,xs.length=vs.length/\(∀ (i:Nat) x y,xs[i]?=some x->vs[i]?=some y->Rep g w x y) /\
   (results fn tmps).run P w=.ok (if h:vs.toArray.size=1 then vs.toArray[0] else .tuple vs.toArray) w:=by
  intro xs hxs;obtain⟨vs,h1,h2,h3⟩:=aFA (P:=P) h hxs;refine⟨vs,h2,h3,?_⟩;unfold results;rw [Array.mapM_eq_mapM_toList];refine (Sem.run_bind ..).trans ?_
  have : Sem.run P (List.toArray <$> (fn.results.toList.mapM fun | .tmp t=>pure (tmps.getD t undef) | .cell a t=>do loadVar t (←asAddr (tmps.getD a undef)):Sem (List Value))) w=.ok vs.toArray w:=by
   change Sem.run P ((fn.results.toList.mapM fun | .tmp t=>pure (tmps.getD t undef) | .cell a t=>do loadVar t (←asAddr (tmps.getD a undef)):Sem (List Value)).bind fun x=>Sem.pure x.toArray) w=_
   exact (Sem.run_bind ..).trans (by rw [h1];rfl)
  exact (congrArg (fun r=>Result.andThen r (fun (a:Array Value) w'=>Sem.run P (pure (if h:a.size=1 then a[0] else Value.tuple a)) w')) this).trans rfl
 split at hx
 ·rename_i y hy
  simp at hx;subst hx;obtain⟨vs,h1,h2,h3⟩:=main hy
  match vs,h1 with
  | [v],_=>exact ⟨v,h3,h2 0 _ _ rfl rfl⟩
 ·rename_i xs hne hxs
  simp at hx;subst hx;obtain⟨vs,h1,h2,h3⟩:=main hxs
  have hs:¬ vs.toArray.size=1:=by
   intro h0;simp at h0
   match xs,h1.trans h0 with
   | [y],_=>exact hne y rfl
  rw [dif_neg hs] at h3;exact⟨_,h3,.tup _ _ (by simpa using h1) (fun i a b ha hb=>h2 i a b ha (by simpa using hb))⟩
 ·simp at hx
def WY (fn:Func)(Q:V->bA->Prop):Exit->Env->bA->List Nat->Prop
 | .normal,T,H,ds=>ds=[] /\ ∃ x,SF fn T=some x/\Q x H
 | .ret,T,H,ds=>ds=[] /\ ∃ x,SF fn T=some x/\Q x H
 | _,_,_,_=>False
def params:Nat->List V->List (Nat×V)
 | _,[]=>[]
 | i,x::r=>(i,x)::params (i+1) r
theorem aA4 {g:Gh}{w:World}{tmps:Array Value}:∀ {l:List V} {i:Nat},(∀ (j:Nat) x,l[j]?=some x -> ∃ v,tmps[i+j]?=some v/\Rep g w x v)->TR g w (Env.ofL (params i l)) tmps
 | [],i,_=>fun t c x ht=>by simp [params,Env.ofL] at ht
 | y::r,i,h=>by
  intro t c x ht;simp only [params,Env.ofL] at ht;split at ht
  ·rename_i hb
   have : t=i:=Nat.eq_of_beq_eq_true hb;subst this;simp at ht;obtain ⟨rfl,rfl⟩:=ht;exact⟨fun _=>by simpa using h 0 y rfl,fun hn=>absurd (by simp [eJ]) hn⟩
  ·exact aA4 (l:=r) (i:=i+1) (fun j x hx=>by
    have:=h (j+1) x (by simpa using hx)
    rwa [show i+(j+1)=i+1+j by omega] at this) t c x ht
theorem aM5 {f:Nat} {fn:Func} {args:List V} {Q:V->bA->Prop} (hf:P.funcs[f]?=some fn) (hb:fn.body.isSome=true) (hname:(fn.name == "runtime.NumGoroutine")=false) (b5:Nat.ble args.length fn.ntmps=true)
  (h:AWP P none fn.ntmps (B fn) (Env.ofL (params 0 args)) H [] (WY fn Q)):pO P f args H Q:=by
 have hN:args.length<=fn.ntmps:=Nat.le_of_ble_eq_true b5;obtain⟨c,hc⟩:=Option.isSome_iff_exists.1 hb;refine⟨fun as0 w=>?_,fun g w vs hs hl hr=>?_⟩
 ·simp only [callFunc,Sem.run_bind,program,Sem.run,Result.andThen,hf];simp [hname,hc]
 ·refine (callsIn_wide (n:=0)).1 (callsIn_of_wp (F:=Fence.wide) hf hc trivial ?_);rw [show B fn=c by simp [B,hc]] at h;refine h g w _ _ ⟨hs,?_,rfl,by simp,?_⟩ ?_
  ·refine aA4 fun j x hx=>?_;have hj:j<vs.size:=by rw [←hl];exact (List.getElem?_eq_some_iff.1 hx).1
   refine⟨vs[j],?_,hr j x _ hx (Array.getElem?_eq_getElem hj)⟩;simp only [Nat.zero_add];rw [Array.getElem?_append_left hj];exact Array.getElem?_eq_getElem hj
  ·simp;omega
  ·intro e T' H' ds' g' w' a' hq hg hx
   have fin:ds'=[]->(∃ x,SF fn T'=some x/\Q x H')->a'.defers=[] /\ ∃ v,(results fn a'.tmps).run P w'=.ok v w' /\ ∃ v2 r g2 H2,Ending.returned v=Ending.returned v2/\Rep g2 w' r v2/\SR g2 w' H2/\Ext g w g2 w'/\Q r H2:=by
    rintro rfl ⟨x,hx1,b6⟩;obtain⟨v,hv,hrep⟩:=aLX (P:=P) hg.tr hx1;exact⟨by rw [hg.df];rfl,v,hv,v,x,g',H',rfl,hrep,hg.sr,hx,b6⟩
   cases e with
   | normal=>exact fin hq.1 hq.2
   | ret=>exact fin hq.1 hq.2
   | _=>exact hq.elim
end Go.Abs
namespace Go.Abs
open Go IntKind Go.RowKit
variable {P:Program} {tt:TT} {ro:Option Nat} {N:Nat} {H:bA} {ds:List Nat}
abbrev PE:=Nat->Option V
def lift (T:PE):Env:=fun t=>match T t with
 | some x=>some ([],x)
 | none=>none
def PE.set (T:PE)(d:Nat)(x:V):PE:=fun t=>match Nat.beq t d with
 | true=>some x
 | false=>T t
def PE.cF (T:PE)(d:Option Tmp)(x:V):PE:=match d with
 | some d=>T.set d x
 | none=>T
def PE.ofL:List (Nat×V)->PE
 | [],_=>none
 | p::r,t=>match Nat.beq t p.1 with
  | true=>some p.2
  | false=>PE.ofL r t
theorem aGs (l:List (Nat×V)):lift (PE.ofL l)=Env.ofL l:=by
 funext t
 induction l with
 | nil=>rfl
 | cons p r ih =>
  cases hb:Nat.beq t p.1 with
  | true=>simp [lift,PE.ofL,Env.ofL,hb]
  | false =>
   simp only [lift,PE.ofL,Env.ofL,hb] at ih ⊢;exact ih
theorem aK9 (T:PE)(d:Nat)(x:V):lift (T.set d x)=(lift T).set d ([],x):=by
 funext t
 simp only [lift,PE.set,Env.set]
 cases hb:Nat.beq t d with
 | true=>rfl
 | false =>
  cases hT:T t with
  | none=>rfl
  | some y=>rfl
theorem aA1 (T:PE)(d:Option Tmp)(x:V):lift (T.cF d x)=(lift T).cF d ([],x):=by
 cases d with
 | none=>rfl
 | some d=>exact aK9 T d x
theorem PE.set_comm (T:PE){d e:Nat}(x y:V)(h:d≠e):(T.set d x).set e y=(T.set e y).set d x:=by
 funext t
 simp only [PE.set]
 cases h1:Nat.beq t e <;> cases h2:Nat.beq t d <;> try rfl
 exact absurd ((Nat.eq_of_beq_eq_true h2).symm.trans (Nat.eq_of_beq_eq_true h1)) h
theorem PE.aEw (T:PE){d e:Option Tmp}(x y:V)(h:∀ a,d=some a->e≠some a):(T.cF d x).cF e y=(T.cF e y).cF d x:=by
 cases d with
 | none=>rfl
 | some d =>
  cases e with
  | none=>rfl
  | some e=>exact PE.set_comm T x y (fun he=>h d rfl (by rw [he]))
theorem PE.aCx (T:PE){d:Option Tmp}(x:V){t:Nat}(h:d≠some t):(T.cF d x) t=T t:=by
 cases d with
 | none=>rfl
 | some d =>
  simp only [PE.cF,PE.set]
  cases hb:Nat.beq t d with
  | false=>rfl
  | true=>exact absurd (by rw [Nat.eq_of_beq_eq_true hb]) h
def NS (T T':PE)(xs:List Operand):Prop:=∀ x∈xs,∀ t,x=.tmp t->T t=T' t
theorem aDb {T:PE}{ctx:Ctx}{x:Operand}:dD (lift T) ctx x=dD (lift T) [] x:=by
 cases x with
 | tmp t =>
  simp only [dD,lift]
  cases T t with
  | none=>rfl
  | some y=>rfl
 | _=>rfl
theorem DY {T T':PE}{x:Operand}{ctx ctx':Ctx}(h:∀ t,x=.tmp t->T t=T' t):dD (lift T) ctx x=dD (lift T') ctx' x:=by
 rw [aDb,aDb (ctx:=ctx')]
 cases x with
 | tmp t=>simp only [dD,lift,h t rfl]
 | _=>rfl
theorem wX {T T':PE}:∀ {xs:List Operand},NS T T' xs->jT (lift T) [] xs=jT (lift T') [] xs
 | [],_=>rfl
 | x::r,h=>by
  simp only [jT];rw [DY (T:=T) (T':=T') (ctx:=[]) (ctx':=[]) (h x (List.mem_cons_self ..)),wX (fun y hy=>h y (List.mem_cons_of_mem _ hy))]
theorem XL {T T':PE}:∀ {xs:List (Nat×Operand)},NS T T' (xs.map (·.2))->SS (lift T) [] xs=SS (lift T') [] xs
 | [],_=>rfl
 | (i,x)::r,h=>by
  simp only [SS];rw [DY (T:=T) (T':=T') (ctx:=[]) (ctx':=[]) (h x (List.mem_cons_self ..)),XL (fun y hy=>h y (List.mem_cons_of_mem _ hy))]
theorem TW {T T':PE}{x:Option Operand}(h:NS T T' x.toList):OH (lift T) [] x=OH (lift T') [] x:=by
 cases x with
 | none=>rfl
 | some x=>simp only [OH]; rw [DY (T:=T) (T':=T') (ctx:=[]) (ctx':=[]) (h x (by simp))]
theorem aGI {T T':PE}{op:Op}(h:NS T T' op.operands.toList):dX tt (lift T) [] op=dX tt (lift T') [] op:=by
 have o:∀ x,x∈op.operands.toList -> ∀ ctx,dD (lift T) ctx x=dD (lift T') ctx x:=fun x hx ctx=>DY (h x hx)
 cases op
 case call c =>
  obtain⟨callee,args,tys⟩:=c
  cases callee with
  | builtin b =>
   have hl:=wX (T:=T) (T':=T') (xs:=args.toList) (fun x hx=>h x (by simpa [Op.operands,Call.operands] using hx))
   cases b <;> first | rfl | (unfold dX; simp only [hl])
  | _=>rfl
 case pick c a b =>
  cases c with
  | tmp c =>
   unfold dX;simp only [o (.tmp c) (by simp [Op.operands]) [],o a (by simp [Op.operands]) [(c,true)],o b (by simp [Op.operands]) [(c,false)]]
  | _=>rfl
 case build t ps =>
  have hl:=XL (T:=T) (T':=T') (xs:=ps.toList) (fun x hx=>h x (by simpa [Op.operands] using hx));unfold dX;simp only [hl]
 case makeFunc fn fi ca =>
  have h1:=wX (T:=T) (T':=T') (xs:=fi.toList) (fun x hx=>h x (by simp [Op.operands];exact .inl (by simpa using hx)));have h2:=wX (T:=T) (T':=T') (xs:=ca.toList) (fun x hx=>h x (by simp [Op.operands];exact .inr (by simpa using hx)));unfold dX;simp only [h1,h2]
 case slice t x lo hi mx =>
  have h0:=o x (by simp [Op.operands]) [];have h1:=TW (T:=T) (T':=T') (x:=lo) (fun y hy=>h y (by simp [Op.operands];simp at hy;simp [hy]));have h2:=TW (T:=T) (T':=T') (x:=hi) (fun y hy=>h y (by simp [Op.operands];simp at hy;simp [hy]));have h3:=TW (T:=T) (T':=T') (x:=mx) (fun y hy=>h y (by simp [Op.operands];simp at hy;simp [hy]));unfold dX;simp only [h0,h1,h2,h3]
 case move x=>unfold dX;simp only [o x (by simp [Op.operands]) []]
 case assign x=>unfold dX;simp only [o x (by simp [Op.operands]) []]
 case binOp p t x y q=>unfold dX;simp only [o x (by simp [Op.operands]) [],o y (by simp [Op.operands]) []]
 case unOp p t x=>unfold dX;simp only [o x (by simp [Op.operands]) []]
 case extract x i=>unfold dX;simp only [o x (by simp [Op.operands]) []]
 case fieldAddr t x i=>unfold dX;simp only [o x (by simp [Op.operands]) []]
 case field t x i=>unfold dX;simp only [o x (by simp [Op.operands]) []]
 case indexAddr t x i=>unfold dX;simp only [o x (by simp [Op.operands]) [],o i (by simp [Op.operands]) []]
 case index t x i=>unfold dX;simp only [o x (by simp [Op.operands]) [],o i (by simp [Op.operands]) []]
 case load t x=>unfold dX;simp only [o x (by simp [Op.operands]) []]
 case convert s t x=>unfold dX;simp only [o x (by simp [Op.operands]) []]
 case nilCheck x=>unfold dX;simp only [o x (by simp [Op.operands]) []]
 case makeInterface t x=>unfold dX;simp only [o x (by simp [Op.operands]) []]
 case typeAssert x xt t ok=>unfold dX;simp only [o x (by simp [Op.operands]) []]
 all_goals rfl
def UG:Op->Option (Nat×Operand×Operand)
 | .pick (.tmp c) a b=>some (c,a,b)
 | _=>none
def zI (tt:TT)(T:PE)(op:Op):Option (List Prop×V) :=
 match UG op with
 | some (c,a,b)=>match dD (lift T) [] (.tmp c) with
  | some (.lit (.bool true))=>match dD (lift T) [] a with
   | some x=>some ([],x)
   | none=>none
  | some (.lit (.bool false))=>match dD (lift T) [] b with
   | some x=>some ([],x)
   | none=>none
  | _=>none
 | none=>dX tt (lift T) [] op
theorem aBT {op:Op}{c:Nat}{a b:Operand}(h:UG op=some (c,a,b)):op=.pick (.tmp c) a b:=by
 unfold UG at h;split at h
 ·simp at h;obtain ⟨rfl,rfl,rfl⟩:=h;rfl
 ·simp at h
theorem KE {T T':PE}{op:Op}(h:NS T T' op.operands.toList):zI tt T op=zI tt T' op:=by
 unfold zI;rw [aGI h]
 cases hp:UG op with
 | none=>rfl
 | some q =>
  obtain⟨c,a,b⟩:=q;have hop:=aBT hp;subst hop;have o:∀ x,x∈(Op.pick (.tmp c) a b).operands.toList -> ∀ ctx,dD (lift T) ctx x=dD (lift T') ctx x:=fun x hx ctx=>DY (h x hx);simp only [o (.tmp c) (by simp [Op.operands]) [],o a (by simp [Op.operands]) [],o b (by simp [Op.operands]) []]
theorem aHk (htt:jO P tt){g:Gh}{w:World}{T:PE}{a:Act}(htr:TR g w (lift T) a.tmps){o:Oper}{Cs:List Prop}{z:V}(h:zI tt T o.op=some (Cs,z))(hC:∀ c∈Cs,c) :
  ∃ v,(execOp a.eval o).run P w=.ok (.value v) w/\Rep g w z v:=by
 have hc:eJ a.tmps []:=by simp [eJ]
 unfold zI at h
 cases hp:UG o.op with
 | none=>rw [hp] at h; exact aAO htt htr hc h hC
 | some q =>
  obtain⟨c,x,y⟩:=q;have hop:=aBT hp;rw [hp] at h;simp only at h;split at h
  ·rename_i hb
   split at h
   ·rename_i u hu
    simp at h;obtain ⟨rfl,rfl⟩:=h;refine⟨a.eval x,?_,dG htr hc hu⟩;simp [execOp,hop,(dG htr hc hb).qJ,asBool]
   ·simp at h
  ·rename_i hb
   split at h
   ·rename_i u hu
    simp at h;obtain ⟨rfl,rfl⟩:=h;refine⟨a.eval y,?_,dG htr hc hu⟩;simp [execOp,hop,(dG htr hc hb).qJ,asBool]
   ·simp at h
  ·simp at h
theorem BY {T T':PE}{op:Op}{K:V->bA->Prop}(h:NS T T' op.operands.toList)(he:rO P tt (lift T) [] op H K):rO P tt (lift T') [] op H K:=by
 have o:∀ x,x∈op.operands.toList->dD (lift T) [] x=dD (lift T') [] x:=fun x hx=>DY (h x hx);unfold rO at he ⊢;split at he
 ·rename_i f args tys
  have hl:=wX (T:=T) (T':=T') (xs:=args.toList) (fun x hx=>h x (by simp [Op.operands,Call.operands];exact .inr (by simpa using hx)));rw [o f (by simp [Op.operands,Call.operands]),hl] at he;exact he
 ·rename_i t l c
  rw [o l (by simp [Op.operands]),o c (by simp [Op.operands])] at he;exact he
 ·rename_i args tys
  have hl:=wX (T:=T) (T':=T') (xs:=args.toList) (fun x hx=>h x (by simpa [Op.operands,Call.operands] using hx));rw [hl] at he;exact he
 ·exact he
 ·rw [o _ (by simp [Op.operands])] at he;exact he
 ·rename_i t x
  rw [o x (by simp [Op.operands])] at he;exact he
 ·rename_i t p x
  rw [o p (by simp [Op.operands]),o x (by simp [Op.operands])] at he;exact he
 ·rename_i t n parts
  have hl:=XL (T:=T) (T':=T') (xs:=parts.toList) (fun x hx=>h x (by simpa [Op.operands] using hx));have hb:SW tt (lift T) [] (.buildSlice t n parts)=SW tt (lift T') [] (.buildSlice t n parts):=by simp only [SW,hl]
  rw [hb] at he;exact he
 ·rename_i t x yt
  rw [o x (by simp [Op.operands])] at he;exact he
 ·rename_i t m k ok
  rw [wX (T:=T) (T':=T') (xs:=[m,k]) h] at he;exact he
 ·rename_i t m k x
  rw [wX (T:=T) (T':=T') (xs:=[m,k,x]) h] at he;exact he
 ·exact he.elim
theorem qT {T:Env}{ctx:Ctx}{op:Op}{K K':V->bA->Prop}(hk:∀ x H',K x H'->K' x H')(he:rO P tt T ctx op H K):rO P tt T ctx op H K':=by
 unfold rO at he ⊢;split at he
 ·obtain⟨fv,xs,h1,h2,h3⟩:=he;exact⟨fv,xs,h1,h2,h3.mono hk⟩
 ·obtain⟨k1,k2,n,e,q1,q2,q3,te,h1,h2,h3,h4,h5,h6,h7,h8⟩:=he;exact⟨k1,k2,n,e,q1,q2,q3,te,h1,h2,h3,h4,h5,h6,h7,hk _ _ h8⟩
 ·rcases he with ⟨el,kk,n,t,t',e,q1,q2,q3,ik,q4,q5,q6,te,h1,h2,h3,h4,h5,h6,h7,h8,h9,b5⟩ | ⟨el,x,t,t',e,e',te,ys,f,h1,h2,h3,h4,h5,h6,h7,h8,h9,b5,b6⟩ | ⟨s,x,t,t',e,e',te,es,ys,h1,h2,h3,h4,h5,h6,h7,h8,h9,b5,b6⟩
  ·exact .inl ⟨el,kk,n,t,t',e,q1,q2,q3,ik,q4,q5,q6,te,h1,h2,h3,h4,h5,h6,h7,h8,h9,hk _ _ b5⟩
  ·exact .inr (.inl ⟨el,x,t,t',e,e',te,ys,f,h1,h2,h3,h4,h5,h6,h7,h8,h9,b5,hk _ _ b6⟩)
  ·exact .inr (.inr ⟨s,x,t,t',e,e',te,es,ys,h1,h2,h3,h4,h5,h6,h7,h8,h9,b5,hk _ _ b6⟩)
 ·obtain⟨e,z,h1,h0,h2,h3⟩:=he;exact⟨e,z,h1,h0,h2,h3.imp (hk _ _) (hk _ _)⟩
 ·obtain⟨e,h1,h2,h3⟩:=he;exact⟨e,h1,h2,h3.imp (hk _ _) (hk _ _)⟩
 ·obtain⟨l,i,o,k,es,y,v,e,h1,h2,h3,h4,h5,h6⟩:=he;exact⟨l,i,o,k,es,y,v,e,h1,h2,h3,h4,h5,hk _ _ h6⟩
 ·obtain⟨l,i,o,k,es,y,v,y',e,h1,h2,h3,h4,h5,h6,h7,h8⟩:=he;exact⟨l,i,o,k,es,y,v,y',e,h1,h2,h3,h4,h5,h6,h7,hk _ _ h8⟩
 ·obtain⟨xs,h1,h2 | ⟨e,te,q1,q2,q3,h2,h3,h4⟩⟩:=he
  ·exact⟨xs,h1,.inl (hk _ _ h2)⟩
  ·exact⟨xs,h1,.inr ⟨e,te,q1,q2,q3,h2,h3,hk _ _ h4⟩⟩
 ·obtain⟨z,n,el,e,q1,q2,q3,h1,h2,h3⟩:=he;exact⟨z,n,el,e,q1,q2,q3,h1,h2,fun b hb=>hk _ _ (h3 b hb)⟩
 ·obtain⟨xs,h1,h2⟩:=he;exact⟨xs,h1,yD.mono hk h2⟩
 ·obtain⟨xs,h1,h2⟩:=he;exact⟨xs,h1,yD.mono hk h2⟩
 ·exact he.elim
def oU:Op->Nat
 | .call ⟨.value _,_,_⟩=>2
 | .call ⟨.builtin .append,_,_⟩=>2
 | .alloc _=>2
 | .makeSlice _ _ _=>2
 | .box _ _=>2
 | .load _ _=>1
 | .store _ _ _=>2
 | .buildSlice _ _ _=>2
 | .binOp .eql _ _ (.const (.slice none 0 0)) _=>2
 | .lookup _ _ _ _=>2
 | .mapUpdate _ _ _ _=>2
 | _=>0
theorem aKM {T:Env}{ctx:Ctx}{op:Op}{K:V->bA->Prop}(hk:oU op=0):¬ rO P tt T ctx op H K:=by
 intro he;unfold rO at he;split at he <;> first | exact he | (simp [oU] at hk)
def fH (H H':bA):Prop:=H.length<=H'.length /\ ∀ l,l<H.length->H'[l]?=H[l]?
theorem fH.refl (H:bA):fH H H:=⟨Nat.le_refl _,fun _ _=>rfl⟩
theorem fH.at {H H':bA}(h:fH H H'){l:Nat}{o:fD}(ho:H[l]?=some o):H'[l]?=some o:=(h.2 l (List.getElem?_eq_some_iff.1 ho).1).trans ho
theorem aA2 {T:Env}{ctx:Ctx}{op:Op}{K:V->bA->Prop}(hk:oU op=1)(he:rO P tt T ctx op H K):∃ x,K x H /\ ∀ (H':bA) (K':V->bA->Prop),fH H H'->K' x H'->rO P tt T ctx op H' K':=by
 unfold rO at he;split at he <;> (try (simp [oU] at hk;done))
 ·obtain⟨l,i,o,k,es,y,v,e,h1,h2,h3,h4,h5,h6⟩:=he;exact⟨v,h6,fun H' K' hx h'=>by unfold rO;exact ⟨l,i,o,k,es,y,v,e,h1,hx.at h2,h3,h4,h5,h'⟩⟩
def uG (ops:Array Oper)(T:PE)(o:Oper):Option Bool :=
 match o.guard with
 | none=>some true
 | some (j,want)=>match ops[j]? with
  | some oj=>match oj.dst with
   | some t=>match T t with
    | some (.lit (.bool b))=>some (b==want)
    | some (.tup [])=>some false
    | _=>none
   | none=>none
  | none=>none
def dOk (N:Nat)(o:Oper):Bool:=match o.dst with
 | some d=>Nat.blt d N
 | none=>true
variable {pl:Oper->Bool}
def ek (pl:Oper->Bool)(o:Oper):Nat:=if pl o&&Nat.beq (oU o.op) 1 then 0 else oU o.op
def NQ:Op->Bool
 | .call ⟨.value _,_,_⟩=>true
 | .buildSlice _ _ _=>true
 | .lookup _ _ _ _=>true
 | _=>false
def quiet (pl:Oper->Bool)(o:Oper):Bool:=NQ o.op&&pl o
theorem aJn {o:Oper}(h:oU o.op=1):quiet pl o=false:=by
 unfold quiet
 cases hc:NQ o.op with
 | false=>rfl
 | true =>
  unfold NQ at hc;split at hc
  ·rename_i he;rw [he] at h;cases h
  ·rename_i he;rw [he] at h;cases h
  ·rename_i he;rw [he] at h;cases h
  ·cases hc
def tQ:Op->Bool
 | .alloc _=>true
 | _=>false
def qL:Op->Bool
 | .call ⟨.value _,_,_⟩=>true
 | _=>false
def aLA:Op->Bool
 | .call ⟨.builtin .append,_,_⟩=>true
 | _=>false
def aJt (pl:Oper->Bool)(ops:Array Oper):Bool:=ops.any fun o=>(tQ o.op||aLA o.op||Nat.beq (oU o.op) 0)&&pl o
def clo (pl:Oper->Bool)(ops:Array Oper)(o:Oper):Bool:=pl o&&(tQ o.op||qL o.op)&&aJt pl ops
theorem fH.trans {H H' H'':bA}(h:fH H H')(h':fH H' H''):fH H H'':=⟨Nat.le_trans h.1 h'.1,fun l hl=>(h'.2 l (Nat.lt_of_lt_of_le hl h.1)).trans (h.2 l hl)⟩
def Clo (P:Program)(tt:TT)(o:Oper)(T:PE)(H:bA)(next:PE->bA->Prop):Prop :=
 (tQ o.op=true /\ ∀ H1,fH H H1->rO P tt (lift T) [] o.op H1 (fun y H2=>fH H1 H2 /\ ∀ H',fH H2 H'->next (T.cF o.dst y) H')) ∨
 (qL o.op=true /\ ∃ x,(∀ H1,fH H H1->rO P tt (lift T) [] o.op H1 (fun x' H'=>x'=x/\fH H1 H')) /\ ∀ H',fH H H'->next (T.cF o.dst x) H')
theorem Clo.eff {o:Oper}{T:PE}{next:PE->bA->Prop}(h:Clo P tt o T H next):rO P tt (lift T) [] o.op H (fun x H'=>fH H H'/\next (T.cF o.dst x) H'):=by
 rcases h with ⟨_,h⟩ | ⟨_,x,h1,h2⟩
 ·have:=h H (fH.refl H);exact qT (fun x H' (hx:fH H H' /\ ∀ H'',fH H' H''->next (T.cF o.dst x) H'')=>⟨hx.1,hx.2 H' (fH.refl H')⟩) this
 ·have:=h1 H (fH.refl H);exact qT (fun y H' (hx:y=x/\fH H H')=>⟨hx.2,hx.1 ▸ h2 H' hx.2⟩) this
theorem Clo.map {o:Oper}{T T':PE}{next next':PE->bA->Prop}(ha:NS T T' o.op.operands.toList)(hn:∀ x H',fH H H'->next (T.cF o.dst x) H'->next' (T'.cF o.dst x) H')(h:Clo P tt o T H next):Clo P tt o T' H next':=by
 rcases h with ⟨hk,h⟩ | ⟨hk,x,h1,h2⟩
 ·refine .inl ⟨hk,fun H1 e1=>?_⟩;have:=h H1 e1;exact BY ha (qT (fun x H2 (hx:fH H1 H2 /\ ∀ H',fH H2 H'->next (T.cF o.dst x) H')=>⟨hx.1,fun H' e=>hn _ _ (e1.trans (hx.1.trans e)) (hx.2 H' e)⟩) this)
 ·exact .inr ⟨hk,x,fun H1 e1=>BY ha (h1 H1 e1),fun H' e=>hn _ _ e (h2 H' e)⟩
theorem Clo.ek {o:Oper}{T:PE}{next:PE->bA->Prop}(h:Clo P tt o T H next):oU o.op=2:=by
 have : tQ o.op=true∨qL o.op=true:=by rcases h with ⟨h,_⟩ | ⟨h,_⟩ <;> simp [h]
 rcases this with h | h
 ·unfold tQ at h;split at h
  ·rename_i he;rw [he];rfl
  ·cases h
 ·unfold qL at h;split at h
  ·rename_i he;rw [he];rfl
  ·cases h
def OpD (P:Program)(tt:TT)(N:Nat)(pl:Oper->Bool)(ops:Array Oper)(o:Oper)(T:PE)(H:bA)(next:PE->bA->Prop):Prop :=
 dOk N o=true /\ ∃ b,uG ops T o=some b /\
  (b=true->(∃ Cs x,zI tt T o.op=some (Cs,x)/\zX Cs/\next (T.cF o.dst x) H)∨(ek pl o≠0/\(clo pl ops o=false/\rO P tt (lift T) [] o.op H (fun x H'=>(quiet pl o=true->fH H H')/\next (T.cF o.dst x) H')∨clo pl ops o=true/\Clo P tt o T H next))) /\
  (b=false->next (T.cF o.dst .bad) H)
def RD (P:Program)(tt:TT)(N:Nat)(pl:Oper->Bool)(ops:Array Oper):List Nat->PE->bA->(PE->bA->Prop)->Prop
 | [],T,H,K=>K T H
 | i::is,T,H,K=>∃ o,ops[i]?=some o/\OpD P tt N pl ops o T H (fun T' H'=>RD P tt N pl ops is T' H' K)
theorem TP {ops:Array Oper}{o:Oper}{T:PE}{next next':PE->bA->Prop}(hn:∀ T' H',next T' H'->next' T' H')(h:OpD P tt N pl ops o T H next):OpD P tt N pl ops o T H next':=by
 obtain⟨hd,b,hb,h1,h2⟩:=h;refine⟨hd,b,hb,fun h=>?_,fun h=>hn _ _ (h2 h)⟩;rcases h1 h with ⟨Cs,x,a1,a2,a3⟩ | he
 ·exact .inl ⟨Cs,x,a1,a2,hn _ _ a3⟩
 ·rcases he with ⟨he,⟨hz,h3⟩ | ⟨hz,h3⟩⟩
  ·exact .inr ⟨he,.inl ⟨hz,qT (fun x H' hx=>⟨hx.1,hn _ _ hx.2⟩) h3⟩⟩
  ·exact .inr ⟨he,.inr ⟨hz,h3.map (fun _ _ _ _=>rfl) fun _ _ _=>hn _ _⟩⟩
theorem aAM (htt:jO P tt) {ops:Array Oper} {i:Nat} {o:Oper} (ho:ops[i]?=some o) {T:PE} {next:PE->bA->Prop} (h:OpD P tt N pl ops o T H next) {g:Gh} {w:World} {a:Act} (hg:Good N g w (lift T) H ds a)
  {K:Act->World->Prop} {R:Exit->Act->World->Prop} (hn:∀ T' H' g' w' a',next T' H'->Good N g' w' (lift T') H' ds a'->Ext g w g' w'->K a' w'):wpOpIn (FR ro) 0 P ops R i K a w:=by
 obtain⟨hd,b,hb,h1,h2⟩:=h;have hc:eJ a.tmps []:=by simp [eJ]
 have hdst:ES N o []=true:=by
  unfold dOk at hd;unfold ES;split <;> simp_all [TO]
 have hwant:Region.wanted o (yielded ops a.tmps)=b:=by
  unfold uG at hb;split at hb
  ·rename_i hgd
   simp at hb;subst hb;simp [Region.wanted,hgd]
  ·rename_i j want hgd
   split at hb
   ·rename_i oj hj
    split at hb
    ·rename_i t ht
     split at hb
     ·rename_i q hq
      simp at hb;subst hb;obtain⟨v,hv,hrep⟩:=(hg.tr t [] (.lit (.bool q)) (by simp [lift,hq])).1 hc
      cases hrep.qJ
      simp [Region.wanted,hgd,yielded,hj,ht,hv]
     ·rename_i hq
      simp at hb;subst hb;obtain⟨v,hv,hrep⟩:=(hg.tr t [] (.tup []) (by simp [lift,hq])).1 hc;obtain⟨us,rfl,hl,_⟩:=hrep.aN9;simp [Region.wanted,hgd,yielded,hj,ht,hv]
     ·simp at hb
    ·simp at hb
   ·simp at hb
 unfold wpOpIn;simp only [ho]
 cases b with
 | true =>
  rw [if_pos hwant];rcases h1 rfl with ⟨Cs,x,a1,a2,a3⟩ | he
  ·obtain⟨v,hrun,hrep⟩:=aHk htt hg.tr a1 (aB8 a2);refine fI (fun c e=>by rw [e] at a1;simp [zI,UG,dX] at a1) hrun (hn _ _ g w _ a3 ?_ (Ext.refl g w));rw [aA1];exact hg.step (Ext.refl g w) hg.sr (TG hg.tr hg.sz hdst (fun _=>hrep) (fun hnc=>absurd hc hnc)) (put_defers ..) (PA ..)
  ·have b5:rO P tt (lift T) [] o.op H (fun x H'=>(quiet pl o=true->fH H H')/\next (T.cF o.dst x) H'):=by
    rcases he.2 with h3 | h3
    ·exact h3.2
    ·exact qT (fun _ _ hx=>⟨fun _=>hx.1,hx.2⟩) h3.2.eff
   refine aDf htt hg hc b5 ?_;intro x H' g' w' v hk hs hrep hx;refine hn _ _ g' w' _ hk.2 ?_ hx;rw [aA1];exact hg.step hx hs (TG (hg.tr.ext hx) hg.sz hdst (fun _=>hrep) (fun hnc=>absurd hc hnc)) (put_defers ..) (PA ..)
 | false =>
  rw [if_neg (by simp [hwant])];refine⟨fun _ _=>trivial,hn _ _ g w _ (h2 rfl) ?_ (Ext.refl g w)⟩;rw [aA1];exact hg.step (Ext.refl g w) hg.sr (TG hg.tr hg.sz hdst (fun _=>.tup [] #[] rfl (by simp)) (fun hnc=>absurd hc hnc)) (put_defers ..) (PA ..)
theorem aFl (htt:jO P tt){ops:Array Oper}{i:Nat}{o:Oper}(ho:ops[i]?=some o){T:PE}{next:PE->bA->Prop}(h:OpD P tt N pl ops o T H next){g:Gh}{w:World}{a:Act}(hg:Good N g w (lift T) H ds a) :
  ∃ T' H' g' w' a',next T' H'/\Good N g' w' (lift T') H' ds a':=by
 have:=aAM (ro:=none) htt ho h hg (K:=fun _ _=>∃ T' H' g' w' a',next T' H'/\Good N g' w' (lift T') H' ds a') (R:=fun _ _ _=>False) (fun T' H' g' w' a' hn hg' _=>⟨T',H',g',w',a',hn,hg'⟩);unfold wpOpIn at this;simp only [ho] at this;split at this
 ·obtain⟨_,hu⟩:=this
  generalize (o.semAt (FR none).round a.eval).run P w=r at hu
  cases r with
  | ok n w' =>
   cases n <;> simp only [Oper.uponIn] at hu <;> (try exact hu.elim) <;> (try exact hu)
   case enter f args =>
    obtain⟨e,w'',fr,hR,_⟩:=hu.2.2 [] (room_wide _)
    cases e with
    | returned v=>exact hR
    | panicked c=>exact hR.elim
    | outgrown=>obtain ⟨_,_,hq⟩:=hR; exact hq.elim
   case row row args =>
    obtain⟨v,w'',hR,_⟩:=hu.2 default [] (room_wide _);exact hR
   case round l f tmps assign body =>
    obtain⟨e,w'',hR,_⟩:=hu.2.2 default [] (room_wide _)
    cases e with
    | returned v=>exact hR
    | panicked c=>exact hR.elim
    | outgrown=>obtain ⟨_,_,hq⟩:=hR; exact hq.elim
  | halt x w'=>cases x <;> simp only [Oper.uponIn] at hu
 ·exact this.2
def aGl (ops:Array Oper)(o:Oper):Option Tmp:=match o.guard with
 | some (j,_)=>(ops[j]?).bind (·.dst)
 | none=>none
theorem aLN {ops:Array Oper}{o:Oper}{t:Tmp}(h:Operand.tmp t∈o.op.operands.toList):t∈o.looksAt ops :=
 List.mem_append_left _ (List.mem_filterMap.2 ⟨_,h,rfl⟩)
theorem aHf {ops:Array Oper}{o:Oper}{t:Tmp}(h:aGl ops o=some t):t∈o.looksAt ops:=by
 unfold aGl at h;refine List.mem_append_right _ ?_;split at h
 ·rename_i j want hg
  simp only [hg]
  simpa using h
 ·simp at h
theorem BM {ops:Array Oper}{o:Oper}{T:PE}{d:Option Tmp}{x:V}(h:∀ e,d=some e->e ∉ o.looksAt ops):NS T (T.cF d x) o.op.operands.toList:=by
 intro y hy t ht;subst ht;exact (PE.aCx T x (fun hd=>h t hd (aLN hy))).symm
theorem uT {ops:Array Oper}{o:Oper}{T:PE}{d:Option Tmp}{x:V}(h:∀ e,d=some e->e ∉ o.looksAt ops):uG ops (T.cF d x) o=uG ops T o:=by
 unfold uG;split
 ·rfl
 ·rename_i j want hg
  split
  ·rename_i oj hj
   split
   ·rename_i t ht
    have : (T.cF d x) t=T t:=PE.aCx T x (fun hd=>h t hd (aHf (by simp [aGl,hg,hj,ht])));rw [this]
   ·rfl
  ·rfl
def xZ (tt:TT)(N:Nat)(ops:Array Oper)(o:Oper)(T:PE):Prop :=
 dOk N o=true /\ ∃ b,uG ops T o=some b/\(b=true -> ∃ Cs x,zI tt T o.op=some (Cs,x)/\zX Cs)
theorem xZ.put {ops:Array Oper}{o:Oper}{T:PE}{d:Option Tmp}{x:V}(h:∀ e,d=some e->e ∉ o.looksAt ops):xZ tt N ops o (T.cF d x)↔xZ tt N ops o T:=by
 unfold xZ;rw [uT h,←KE (BM (x:=x) h)]
theorem OpD.known {ops:Array Oper}{o:Oper}{T:PE}{next:PE->bA->Prop}(hk:ek pl o=0)(h:OpD P tt N pl ops o T H next):xZ tt N ops o T:=by
 obtain⟨hd,b,hb,h1,h2⟩:=h;refine⟨hd,b,hb,fun h=>?_⟩;rcases h1 h with ⟨Cs,x,a1,a2,_⟩ | he
 ·exact⟨Cs,x,a1,a2⟩
 ·exact absurd hk he.1
def XE (tt:TT)(ops:Array Oper)(o:Oper)(T:PE):V :=
 match uG ops T o with
 | some true=>match zI tt T o.op with
  | some (_,x)=>x
  | none=>.bad
 | _=>.bad
theorem aG1 {ops:Array Oper}{o:Oper}{T:PE}{d:Option Tmp}{x:V}(h:∀ e,d=some e->e ∉ o.looksAt ops):XE tt ops o (T.cF d x)=XE tt ops o T:=by
 unfold XE;rw [uT h,←KE (BM (x:=x) h)]
theorem xZ.iff {ops:Array Oper}{o:Oper}{T:PE}{next:PE->bA->Prop}(hk:ek pl o=0)(h:xZ tt N ops o T):OpD P tt N pl ops o T H next↔next (T.cF o.dst (XE tt ops o T)) H:=by
 obtain⟨hd,b,hb,h1⟩:=h
 cases b with
 | false =>
  have hv:XE tt ops o T=.bad:=by unfold XE;rw [hb]
  rw [hv];refine⟨?_,fun h=>⟨hd,false,hb,⟨fun h=>by simp at h,fun _=>h⟩⟩⟩;rintro ⟨_,b',hb',_,h2⟩;rw [hb] at hb';cases hb';exact h2 rfl
 | true =>
  obtain⟨Cs,x,hp,hC⟩:=h1 rfl;have hv:XE tt ops o T=x:=by unfold XE;rw [hb];simp only [hp]
  rw [hv];refine⟨?_,fun h=>⟨hd,true,hb,⟨fun _=>.inl ⟨Cs,x,hp,hC,h⟩,fun h=>by simp at h⟩⟩⟩;rintro ⟨_,b',hb',h2,_⟩;rw [hb] at hb'; cases hb';rcases h2 rfl with ⟨Cs',x',a1,a2,a3⟩ | he
  ·rw [hp] at a1;cases a1;exact a3
  ·exact absurd hk he.1
theorem XY {ops:Array Oper}{o:Oper}{T:PE}{d:Option Tmp}{y:V}{next:PE->bA->Prop}(h:∀ e,d=some e->e ∉ o.looksAt ops)(hne:∀ a,d=some a->o.dst≠some a) :
  OpD P tt N pl ops o (T.cF d y) H next↔OpD P tt N pl ops o T H (fun T' H'=>next (T'.cF d y) H'):=by
 have ha:=BM (T:=T) (x:=y) h;have ha':NS (T.cF d y) T o.op.operands.toList:=fun x hx t ht=>(ha x hx t ht).symm;unfold OpD;rw [uT h];have hn:∀ x H',next ((T.cF d y).cF o.dst x) H'↔next ((T.cF o.dst x).cF d y) H':=fun x H'=>by rw [PE.aEw T y x hne]
 constructor
 ·rintro ⟨hd,b,hb,h1,h2⟩;refine⟨hd,b,hb,fun hh=>?_,fun hh=>(hn _ _).1 (h2 hh)⟩;rcases h1 hh with ⟨Cs,x,a1,a2,a3⟩ | he
  ·exact .inl ⟨Cs,x,by rw [KE ha];exact a1,a2,(hn _ _).1 a3⟩
  ·rcases he with ⟨he,⟨hz,h3⟩ | ⟨hz,h3⟩⟩
   ·exact .inr ⟨he,.inl ⟨hz,BY ha' (qT (fun x H' hx=>⟨hx.1,(hn _ _).1 hx.2⟩) h3)⟩⟩
   ·exact .inr ⟨he,.inr ⟨hz,h3.map ha' fun _ _ _=>(hn _ _).1⟩⟩
 ·rintro ⟨hd,b,hb,h1,h2⟩;refine⟨hd,b,hb,fun hh=>?_,fun hh=>(hn _ _).2 (h2 hh)⟩;rcases h1 hh with ⟨Cs,x,a1,a2,a3⟩ | he
  ·exact .inl ⟨Cs,x,by rw [KE ha'];exact a1,a2,(hn _ _).2 a3⟩
  ·rcases he with ⟨he,⟨hz,h3⟩ | ⟨hz,h3⟩⟩
   ·exact .inr ⟨he,.inl ⟨hz,BY ha (qT (fun x H' hx=>⟨hx.1,(hn _ _).2 hx.2⟩) h3)⟩⟩
   ·exact .inr ⟨he,.inr ⟨hz,h3.map ha fun _ _ _=>(hn _ _).2⟩⟩
theorem aJO {ops:Array Oper} {oi oj:Oper} {T:PE} {next:PE->bA->Prop} (hap:oj.apart ops oi=true) (hk:ek pl oi=0) (hK:xZ tt N ops oi T)
  (h:OpD P tt N pl ops oj T H (fun T1 H1=>OpD P tt N pl ops oi T1 H1 next)):OpD P tt N pl ops oi T H (fun T1 H1=>OpD P tt N pl ops oj T1 H1 next):=by
 obtain⟨h1,h2,h3⟩:=Oper.apart_spec hap;rw [xZ.iff hk hK];have hne:∀ a,oi.dst=some a->oj.dst≠some a:=fun a ha hb=>h2 a hb ha;rw [XY (fun e he=>h3 e he) hne]
 -- behind the other one this one comes to the same
 obtain⟨hd,b,hb,g1,g2⟩:=h
 have key:∀ x H',OpD P tt N pl ops oi (T.cF oj.dst x) H' next->next ((T.cF oj.dst x).cF oi.dst (XE tt ops oi T)) H':=by
  intro x H' hx;rw [xZ.iff hk ((xZ.put (fun e he=>h1 e he)).2 hK),aG1 (fun e he=>h1 e he)] at hx;exact hx
 refine⟨hd,b,hb,fun hh=>?_,fun hh=>key _ _ (g2 hh)⟩;rcases g1 hh with ⟨Cs,x,a1,a2,a3⟩ | he
 ·exact .inl ⟨Cs,x,a1,a2,key _ _ a3⟩
 ·rcases he with ⟨he,⟨hz,h3⟩ | ⟨hz,h3⟩⟩
  ·exact .inr ⟨he,.inl ⟨hz,qT (fun x H' hx=>⟨hx.1,key _ _ hx.2⟩) h3⟩⟩
  ·exact .inr ⟨he,.inr ⟨hz,h3.map (fun _ _ _ _=>rfl) fun _ _ _=>key _ _⟩⟩
theorem aK7 {ops:Array Oper} {oi oj:Oper} {T:PE} {next:PE->bA->Prop} (hap:oj.apart ops oi=true) (hk:ek pl oj=0)
  (h:OpD P tt N pl ops oj T H (fun T1 H1=>OpD P tt N pl ops oi T1 H1 next)):OpD P tt N pl ops oi T H (fun T1 H1=>OpD P tt N pl ops oj T1 H1 next):=by
 obtain⟨h1,h2,h3⟩:=Oper.apart_spec hap;have hK:=OpD.known hk h;rw [xZ.iff hk hK,XY (fun e he=>h1 e he) (fun a ha hb=>h2 a ha hb)] at h;obtain⟨hd,b,hb,g1,g2⟩:=h
 have key:∀ x H',next ((T.cF oi.dst x).cF oj.dst (XE tt ops oj T)) H'->OpD P tt N pl ops oj (T.cF oi.dst x) H' next:=by
  intro x H' hx;rw [xZ.iff hk ((xZ.put (fun e he=>h3 e he)).2 hK),aG1 (fun e he=>h3 e he)];exact hx
 refine⟨hd,b,hb,fun hh=>?_,fun hh=>key _ _ (g2 hh)⟩;rcases g1 hh with ⟨Cs,x,a1,a2,a3⟩ | he
 ·exact .inl ⟨Cs,x,a1,a2,key _ _ a3⟩
 ·rcases he with ⟨he,⟨hz,h3⟩ | ⟨hz,h3⟩⟩
  ·exact .inr ⟨he,.inl ⟨hz,qT (fun x H' hx=>⟨hx.1,key _ _ hx.2⟩) h3⟩⟩
  ·exact .inr ⟨he,.inr ⟨hz,h3.map (fun _ _ _ _=>rfl) fun _ _ _=>key _ _⟩⟩
theorem aB0 {ops:Array Oper}{o:Oper}{T:PE}{next:PE->bA->Prop}(hk:ek pl o=1)(h:OpD P tt N pl ops o T H next) :
  ∃ x,next (T.cF o.dst x) H /\ ∀ (T':PE) (H':bA) (next':PE->bA->Prop),fH H H'->NS T T' o.op.operands.toList->uG ops T' o=uG ops T o->next' (T'.cF o.dst x) H'->OpD P tt N pl ops o T' H' next':=by
 obtain⟨hd,b,hb,h1,h2⟩:=h
 cases b with
 | false=>exact ⟨.bad,h2 rfl,fun T' H' next' _ _ hg hn=>⟨hd,false,by rw [hg]; exact hb,⟨fun h=>by simp at h,fun _=>hn⟩⟩⟩
 | true =>
  rcases h1 rfl with ⟨Cs,x,a1,a2,a3⟩ | he
  ·exact⟨x,a3,fun T' H' next' _ ha hg hn=>⟨hd,true,by rw [hg];exact hb,⟨fun _=>.inl ⟨Cs,x,by rw [←KE ha];exact a1,a2,hn⟩,fun h=>by simp at h⟩⟩⟩
  ·have b5:oU o.op=1:=by
    unfold ek at hk;split at hk
    ·cases hk
    ·exact hk
   obtain⟨hz,b6⟩:clo pl ops o=false/\rO P tt (lift T) [] o.op H (fun x H'=>(quiet pl o=true->fH H H')/\next (T.cF o.dst x) H'):=by
    rcases he.2 with h3 | h3
    ·exact h3
    ·have:=h3.2.ek;rw [b5] at this;cases this
   obtain⟨x,hx,hany⟩:=aA2 b5 b6;exact⟨x,hx.2,fun T' H' next' hH ha hg hn=>⟨hd,true,by rw [hg];exact hb,⟨fun _=>.inr ⟨he.1,.inl ⟨hz,BY ha (hany _ _ hH ⟨fun hq=>absurd hq (by simp [aJn b5]),hn⟩)⟩⟩,fun h=>by simp at h⟩⟩⟩
theorem aI2 {ops:Array Oper} {oi oj:Oper} {T:PE} {next:PE->bA->Prop} (hap:oj.apart ops oi=true) (hki:ek pl oi=1) (hkj:ek pl oj=1)
  (h:OpD P tt N pl ops oj T H (fun T1 H1=>OpD P tt N pl ops oi T1 H1 next)):OpD P tt N pl ops oi T H (fun T1 H1=>OpD P tt N pl ops oj T1 H1 next):=by
 obtain⟨h1,h2,h3⟩:=Oper.apart_spec hap;obtain⟨xj,hj,anyj⟩:=aB0 hkj h;obtain⟨xi,hi,anyi⟩:=aB0 hki hj;have aj:NS T (T.cF oj.dst xj) oi.op.operands.toList:=BM (fun e he=>h1 e he);refine anyi T H _ (fH.refl H) (fun x hx t ht=>(aj x hx t ht).symm) (uT (fun e he=>h1 e he)).symm ?_;refine anyj (T.cF oi.dst xi) H _ (fH.refl H) (BM (fun e he=>h3 e he)) (uT (fun e he=>h3 e he)) ?_;rw [PE.aEw T xi xj (fun a ha hb=>h2 a hb ha)];exact hi
theorem aIG {ops:Array Oper} {oi oj:Oper} {T:PE} {next:PE->bA->Prop} (hap:oj.apart ops oi=true) (hki:quiet pl oi=true∨clo pl ops oi=true) (hkj:ek pl oj=1)
  (h:OpD P tt N pl ops oj T H (fun T1 H1=>OpD P tt N pl ops oi T1 H1 next)):OpD P tt N pl ops oi T H (fun T1 H1=>OpD P tt N pl ops oj T1 H1 next):=by
 obtain⟨h1,h2,h3⟩:=Oper.apart_spec hap;obtain⟨xj,hj,anyj⟩:=aB0 hkj h;rw [XY (fun e he=>h1 e he) (fun a ha hb=>h2 a ha hb)] at hj;obtain⟨hd,b,hb,g1,g2⟩:=hj
 have key:∀ x H',fH H H'->next ((T.cF oi.dst x).cF oj.dst xj) H'->OpD P tt N pl ops oj (T.cF oi.dst x) H' next:=fun x H' hH hx =>
  anyj (T.cF oi.dst x) H' _ hH (BM (fun e he=>h3 e he)) (uT (fun e he=>h3 e he)) hx
 refine⟨hd,b,hb,fun hh=>?_,fun hh=>key _ _ (fH.refl H) (g2 hh)⟩;rcases g1 hh with ⟨Cs,x,a1,a2,a3⟩ | he
 ·exact .inl ⟨Cs,x,a1,a2,key _ _ (fH.refl H) a3⟩
 ·rcases he with ⟨he,⟨hz,h3⟩ | ⟨hz,h3⟩⟩
  ·have hki:=hki.resolve_right (by rw [hz];decide);exact .inr ⟨he,.inl ⟨hz,qT (fun x H' hx=>⟨hx.1,key _ _ (hx.1 hki) hx.2⟩) h3⟩⟩
  ·exact .inr ⟨he,.inr ⟨hz,h3.map (fun _ _ _ _=>rfl) fun _ _ e=>key _ _ e⟩⟩
theorem aDw {ops:Array Oper}{o:Oper}{T:PE}{next:PE->bA->Prop}(h:OpD P tt N pl ops o T H next):OpD P tt N pl ops o T H (fun T1 H1=>(∃ x,T1=T.cF o.dst x)/\next T1 H1):=by
 obtain⟨hd,b,hb,g1,g2⟩:=h;refine⟨hd,b,hb,fun hh=>?_,fun hh=>⟨⟨_,rfl⟩,g2 hh⟩⟩;rcases g1 hh with ⟨Cs,x,a1,a2,a3⟩ | he
 ·exact .inl ⟨Cs,x,a1,a2,⟨_,rfl⟩,a3⟩
 ·rcases he with ⟨he,⟨hz,h3⟩ | ⟨hz,h3⟩⟩
  ·exact .inr ⟨he,.inl ⟨hz,qT (fun x H' hx=>⟨hx.1,⟨_,rfl⟩,hx.2⟩) h3⟩⟩
  ·exact .inr ⟨he,.inr ⟨hz,h3.map (fun _ _ _ _=>rfl) fun _ _ _ hx=>⟨⟨_,rfl⟩,hx⟩⟩⟩
theorem aLw {ops:Array Oper} {oi oj:Oper} {T:PE} {next:PE->bA->Prop} (hap:oj.apart ops oi=true) (hki:clo pl ops oi=true) (hni:tQ oi.op=true) (hkj:clo pl ops oj=true) (hnj:qL oj.op=true)
  (h:OpD P tt N pl ops oj T H (fun T1 H1=>OpD P tt N pl ops oi T1 H1 next)):OpD P tt N pl ops oi T H (fun T1 H1=>OpD P tt N pl ops oj T1 H1 next):=by
 obtain⟨h1,h2,h3⟩:=Oper.apart_spec hap
 have hpd:∀ (T:PE),zI tt T oi.op=none:=by
  intro T;unfold tQ at hni;split at hni
  ·rename_i he;rw [he];rfl
  ·cases hni
 have hpj:∀ (T:PE),zI tt T oj.op=none:=by
  intro T;unfold qL at hnj;split at hnj
  ·rename_i he;rw [he];rfl
  ·cases hnj
 have hnj':tQ oj.op=false:=by
  unfold qL at hnj;split at hnj
  ·rename_i he;rw [he];rfl
  ·cases hnj
 have hni':qL oi.op=false:=by
  unfold tQ at hni;split at hni
  ·rename_i he;rw [he];rfl
  ·cases hni
 obtain⟨hd,b,hb,g1,g2⟩:=h;have put:∀ x H',OpD P tt N pl ops oi (T.cF oj.dst x) H' next->OpD P tt N pl ops oi T H' (fun T' H'=>next (T'.cF oj.dst x) H'):=fun x H' hx=>(XY (fun e he=>h1 e he) (fun a ha hb=>h2 a ha hb)).1 hx
 cases b with
 | false =>
  refine TP (fun T' H' hx=>?_) (aDw (put _ _ (g2 rfl)));obtain⟨⟨y,rfl⟩,hx⟩:=hx;exact⟨hd,false,by rw [uT (fun e he=>h3 e he)];exact hb,fun h=>(by cases h),fun _=>hx⟩
 | true =>
  rcases g1 rfl with ⟨Cs,x,a1,_⟩ | ⟨hek,⟨hz,_⟩ | ⟨_,hc⟩⟩
  ·rw [hpj] at a1;cases a1
  ·rw [hkj] at hz;cases hz
  ·rcases hc with ⟨hk,_⟩ | ⟨_,x,hr,hn⟩
   ·rw [hnj'] at hk;cases hk
   have mk:∀ y H',fH H H'->(∀ H5,fH H' H5->next ((T.cF oi.dst y).cF oj.dst x) H5)->OpD P tt N pl ops oj (T.cF oi.dst y) H' next:=fun y H' e hx =>
    ⟨hd,true,by rw [uT (fun e he=>h3 e he)];exact hb,fun _=>.inr ⟨hek,.inr ⟨hkj,.inr ⟨hnj,x,fun H3 e3=>BY (BM (fun e he=>h3 e he)) (hr H3 (e.trans e3)),fun H5 e5=>hx H5 e5⟩⟩⟩,fun h=>(by cases h)⟩
   obtain⟨hdi,bi,hbi,i1,i2⟩:=put _ _ (hn H (fH.refl H))
   cases bi with
   | false =>
    refine⟨hdi,false,hbi,fun h=>(by cases h),fun _=>mk _ _ (fH.refl H) fun H5 e5=>?_⟩;obtain⟨_,b',hb',_,j2⟩:=put _ _ (hn H5 e5);rw [hbi] at hb';cases hb';exact j2 rfl
   | true =>
    rcases i1 rfl with ⟨Cs,y,a1,_⟩ | ⟨heki,⟨hz,_⟩ | ⟨_,hc⟩⟩
    ·rw [hpd] at a1;cases a1
    ·rw [hki] at hz;cases hz
    ·rcases hc with ⟨_,hc⟩ | ⟨hk,_⟩
     ·exact⟨hdi,true,hbi,fun _=>.inr ⟨heki,.inr ⟨hki,.inl ⟨hni,fun H1 e1=>qT (fun y H2 hx=>⟨hx.1,fun H' e=>mk y H' (e1.trans (hx.1.trans e)) fun H5 e5=>hx.2 H5 (e.trans e5)⟩) (hc H1 e1)⟩⟩⟩,fun h=>(by cases h)⟩
     ·rw [hni'] at hk;cases hk
theorem aI9 {T:Env}{ctx:Ctx}{op:Op}{H5:bA}{K K5:V->bA->Prop}(hk:oU op=1)(he:rO P tt T ctx op H K)(b5:rO P tt T ctx op H5 K5)(hx:fH H H5):∃ x,K x H/\K5 x H5:=by
 unfold rO at he b5;split at he <;> (try (simp [oU] at hk;done))
 ·obtain⟨l,i,o,k,es,y,v,e,h1,h2,h3,h4,h5,h6⟩:=he;obtain⟨l',i',o',k',es',y',v',e',g1,g2,g3,g4,g5,g6⟩:=b5;rw [h1] at g1;cases g1;rw [hx.at h2] at g2;cases g2;rw [h3] at g3;cases g3;rw [h4] at g4;cases g4;rw [h5] at g5;cases g5;exact⟨v,h6,g6⟩
theorem aFS {T:PE}{o:Oper}{Cs:List Prop}{x:V}{K:V->bA->Prop}(hk:oU o.op=1)(hp:zI tt T o.op=some (Cs,x))(he:rO P tt (lift T) [] o.op H K):False:=by
 unfold rO at he;split at he <;> (try (first | exact he | (rename_i hh; rw [hh] at hk; simp [oU] at hk; done)))
 ·rename_i hh
  obtain⟨l,i,o',k,es,y,v,e,h1,_⟩:=he;rw [hh] at hp;simp [zI,UG,dX,h1] at hp
end Go.Abs
