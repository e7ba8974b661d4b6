/- What the proof of 'FnExactPartsOf' needs, part 3: conditions and steps of the functions that it reaches, and the mathematics. -/
import Derived.Test.YtpafacebfogkmaaGreatRows
import Derived.WalkKit
import Derived.WalkSpells
import Derived.Below
import Derived.Orders
import Derived.Maps.AppendAt
import Derived.Laws.StructEq
import Derived.WideShapes
import Derived.ChangeSlices
import Derived.Deep.Strs
import Derived.ChangeOld
import Derived.Test.YtpafacebfogkmaaGreatSFnExactPartsOf2
set_option linter.unusedSimpArgs false
set_option linter.unusedVariables false
namespace Go.Proofs.YtpafacebfogkmaaGreat
open Go.RowKit
theorem evL_congr {ev ev':Operand→AV} {l:List Operand} (h:∀ x∈l,ev x=ev' x):evL ev l=evL ev' l:=by
 unfold evL
 exact List.map_congr_left h
theorem aval_congr (c:Cfg) (own:Nat→Loc) {ev ev':Operand→AV} (op:Op) (h:∀ x∈op.operands,ev x=ev' x):aval c ev own op=aval c ev' own op:=by
 cases op with
 | move x=>simp only [aval];rw [h x (by simp [Op.operands])]
 | assign x=>simp only [aval];rw [h x (by simp [Op.operands])]
 | pick p x y=>dsimp only [aval];rw [h p (by simp [Op.operands]),h x (by simp [Op.operands]),h y (by simp [Op.operands])]
 | box t x=>dsimp only [aval];rw [h x (by simp [Op.operands])]
 | load t x=>dsimp only [aval];rw [h x (by simp [Op.operands])]
 | nilCheck x=>dsimp only [aval];rw [h x (by simp [Op.operands])]
 | fieldAddr s x f=>dsimp only [aval];rw [h x (by simp [Op.operands])]
 | field s x f=>dsimp only [aval];rw [h x (by simp [Op.operands])]
 | indexAddr t x i=>dsimp only [aval];rw [h x (by simp [Op.operands]),h i (by simp [Op.operands])]
 | binOp op t x y t'=>dsimp only [aval];rw [h x (by simp [Op.operands]),h y (by simp [Op.operands])]
 | unOp op t x=>dsimp only [aval];rw [h x (by simp [Op.operands])]
 | convert s d x=>dsimp only [aval];rw [h x (by simp [Op.operands])]
 | extract x i=>dsimp only [aval];rw [h x (by simp [Op.operands])]
 | makeFunc fn f cs=>dsimp only [aval];rw [evL_congr (fun x hx=>h x (by simp only [Op.operands];exact Array.mem_append.2 (.inr (Array.mem_toList_iff.1 hx))))]
 | build t ps=>
  dsimp only [aval]
  have:(ps.toList.map fun p=>(p.1,ev p.2))=ps.toList.map fun p=>(p.1,ev' p.2):=List.map_congr_left fun q hq=>by
   rw [h q.2 (by simp only [Op.operands];exact Array.mem_toList_iff.1 (by simpa using ⟨q.1,by simpa using hq⟩))]
  rw [this]
 | buildSlice t n ps=>
  dsimp only [aval]
  have:(ps.toList.map fun p=>(p.1,ev p.2))=ps.toList.map fun p=>(p.1,ev' p.2):=List.map_congr_left fun q hq=>by
   rw [h q.2 (by simp only [Op.operands];exact Array.mem_toList_iff.1 (by simpa using ⟨q.1,by simpa using hq⟩))]
  rw [this]
 | slice t x lo hi mx=>
  cases mx with
  | some m=>
   cases lo with
   | some l=>cases hi <;> rfl
   | none=>cases hi with
    | none=>rfl
    | some i=>
     dsimp only [aval]
     rw [h x (by simp [Op.operands]),h i (by simp [Op.operands]),h m (by simp [Op.operands])]
  | none=>
   dsimp only [aval]
   have h1:ev x=ev' x:=h x (by simp [Op.operands])
   have h2:lo.map ev=lo.map ev':=by cases lo with|none=>rfl|some z=>simp only [Option.map_some];rw [h z (by simp [Op.operands])]
   have h3:hi.map ev=hi.map ev':=by cases hi with|none=>rfl|some z=>simp only [Option.map_some];rw [h z (by simp [Op.operands])]
   rw [h1,h2,h3]
 | call cl=>
  dsimp only [aval]
  have h1:evL ev cl.args.toList=evL ev' cl.args.toList:=evL_congr fun x hx=>h x (by simp only [Op.operands,Call.operands];exact Array.mem_append.2 (.inr (Array.mem_toList_iff.1 hx)))
  rw [h1]
  cases hcl:cl.callee with
  | value g=>simp only [];rw [h g (by simp [Op.operands,Call.operands,hcl])]
  | invoke r m=>rfl
  | builtin b=>cases b <;> rfl
 | _=>rfl
def readsOf (ops:List Oper) (o:Oper):List Nat:=
 (o.op.operands.toList.filterMap fun|.tmp t=>some t|_=>none) ++ (match o.guard with|some (j,_)=>((ops[j]?).bind (·.dst)).toList|none=>[])
theorem evA_congr {slots slots':Nat→AV} {x:Operand} (h:∀ t,x=.tmp t→slots t=slots' t):evA slots x=evA slots' x:=by
 cases x with
 | tmp t=>exact h t rfl
 | _=>rfl
theorem St.put_slots (σ:St) (d:Option Nat) (x:AV) (t:Nat) (h:d≠some t):(σ.put d x).slots t=σ.slots t:=by
 cases d with
 | none=>rfl
 | some d=>exact upd_ne _ _ (fun e=>h (by rw [e]))
theorem St.put_own (σ:St) (d:Option Nat) (x:AV):(σ.put d x).own=σ.own:=by cases d <;> rfl
theorem upd_comm {α:Type} (f:Nat→α) {s t:Nat} (x y:α) (h:s≠t):upd (upd f s x) t y=upd (upd f t y) s x:=by
 funext n
 rw [upd_get,upd_get,upd_get,upd_get]
 by_cases h1:n=s
 ·by_cases h2:n=t
  ·exact absurd (h1.symm.trans h2) h
  ·rw [if_neg h2,if_pos h1,if_pos h1]
 ·by_cases h2:n=t
  ·rw [if_pos h2,if_neg h1,if_pos h2]
  ·rw [if_neg h2,if_neg h1,if_neg h1,if_neg h2]
theorem aeff_congr (c:Cfg) (o:Oper) (own:Nat→Loc) {ev ev':Operand→AV} (h:∀ x∈o.op.operands,ev x=ev' x):aeff c o ev own=aeff c o ev' own:=by
 have hL:∀ (ps:Array (Nat × Operand)),(∀ q∈ps.toList,ev q.2=ev' q.2)→(ps.toList.map fun p=>(p.1,ev p.2))=ps.toList.map fun p=>(p.1,ev' p.2):=fun ps hp=>List.map_congr_left fun q hq=>by rw [hp q hq]
 unfold aeff
 split
 ·rfl
 ·rename_i t x d ho hd
  rw [h x (by rw [ho];simp [Op.operands])]
 ·rename_i t len parts d ho hd
  rw [hL parts fun q hq=>h q.2 (by rw [ho];simp only [Op.operands];exact Array.mem_toList_iff.1 (by simpa using ⟨q.1,by simpa using hq⟩))]
 ·rename_i t len cap d ho hd
  rw [h len (by rw [ho];simp [Op.operands]),h cap (by rw [ho];simp [Op.operands])]
 ·rename_i t x z ho hd
  rw [h x (by rw [ho];simp [Op.operands]),h z (by rw [ho];simp [Op.operands])]
 ·rename_i t x hi d ho hd
  rw [h x (by rw [ho];simp [Op.operands]),h hi (by rw [ho];simp [Op.operands])]
 ·rename_i t x lo d ho hd
  rw [h x (by rw [ho];simp [Op.operands]),h lo (by rw [ho];simp [Op.operands])]
 ·rename_i cl d ho hd
  have h1:evL ev cl.args.toList=evL ev' cl.args.toList:=evL_congr fun x hx=>h x (by rw [ho];simp only [Op.operands,Call.operands];exact Array.mem_append.2 (.inr (Array.mem_toList_iff.1 hx)))
  rw [h1]
  cases hcl:cl.callee with
  | value g=>simp only [];rw [h g (by rw [ho];simp [Op.operands,Call.operands,hcl])]
  | invoke r m=>rfl
  | builtin b=>cases b <;> rfl
 ·rename_i cl ho hd
  have h1:evL ev cl.args.toList=evL ev' cl.args.toList:=evL_congr fun x hx=>h x (by rw [ho];simp only [Op.operands,Call.operands];exact Array.mem_append.2 (.inr (Array.mem_toList_iff.1 hx)))
  rw [h1]
 ·rfl
theorem viewC_d {f:Nat→Bool} {own own':Nat→Loc} (ha:∀ l,f l=true→own l=own' l):∀ (x:Cell),dOnlyC f x=true→viewC own x=viewC own' x
 | .d _,_=>rfl
 | .own l v,h=>by
  have e:=ha l h
  show viewL v (own l)=viewL v (own' l)
  rw [e]
 | .ptr ..,_=>rfl
 | .sub l v off n,h=>by
  have e:=ha l h
  show viewI v off (own l)=viewI v off (own' l)
  rw [e]
theorem viewCs_d {f:Nat→Bool} {own own':Nat→Loc} (ha:∀ l,f l=true→own l=own' l):∀ (cs:List Cell),dOnlyCs f cs=true→viewCs own cs=viewCs own' cs
 | [],_=>rfl
 | x :: cs,h=>by
  unfold dOnlyCs at h
  simp only [Bool.and_eq_true] at h
  unfold viewCs
  rw [viewC_d ha x h.1,viewCs_d ha cs h.2]
theorem view_d {f:Nat→Bool} {own own':Nat→Loc} (ha:∀ l,f l=true→own l=own' l) (x:AV) (h:dOnly f x=true):view own x=view own' x:=by
 cases x with
 | one c=>unfold view;simp only [];rw [viewC_d ha c h]
 | agg cs=>unfold view;simp only [];rw [viewCs_d ha cs h]
 | tup xs=>rfl
 | junk=>rfl
theorem views_d {f:Nat→Bool} {own own':Nat→Loc} (ha:∀ l,f l=true→own l=own' l):∀ (xs:List AV),(∀ x∈xs,dOnly f x=true)→views own xs=views own' xs
 | [],_=>rfl
 | x :: xs,h=>by
  unfold views
  rw [view_d ha x (h x (by simp)),views_d ha xs (fun y hy=>h y (by simp [hy]))]
theorem aval_own (c:Cfg) {f:Nat→Bool} {own own':Nat→Loc} (ha:∀ l,f l=true→own l=own' l) {ev:Operand→AV} (op:Op) (h:freeOp op=true∨∀ x∈op.operands,dOnly f (ev x)=true):aval c ev own op=aval c ev own' op:=by
  cases op with
  | load t x=>
    have hx:=(h.resolve_left (by simp [freeOp])) x (by simp [Op.operands])
    dsimp only [aval]
    generalize ev x=z at hx
    cases z with
    | one z=>cases z with
      | d z=>cases c.ty t <;> cases z <;> rfl
      | own l v=>cases c.ty t <;> rfl
      | ptr l v i j=>cases c.ty t with
        | none=>rfl
        | some q=>simp only [ha l hx]
      | sub l v i j=>cases c.ty t <;> rfl
    | _=>cases c.ty t <;> rfl
  | nilCheck x=>
    have hx:=(h.resolve_left (by simp [freeOp])) x (by simp [Op.operands])
    dsimp only [aval]
    generalize ev x=z at hx
    cases z with
    | one z=>cases z with
      | d z=>cases z <;> rfl
      | own l v=>rfl
      | ptr l v i j=>simp only [ha l hx]
      | sub l v i j=>rfl
    | _=>rfl
  | fieldAddr s x fi=>
    have hx:=(h.resolve_left (by simp [freeOp])) x (by simp [Op.operands])
    dsimp only [aval]
    generalize ev x=z at hx
    cases z with
    | one z=>cases z with
      | d z=>cases z <;> rfl
      | own l v=>rfl
      | ptr l v i j=>simp only [ha l hx]
      | sub l v i j=>rfl
    | _=>rfl
  | indexAddr t x i=>
    have hx:=(h.resolve_left (by simp [freeOp])) x (by simp [Op.operands])
    dsimp only [aval]
    generalize ev x=z at hx
    cases z with
    | one z=>cases z with
      | d z=>
        generalize ev i=q
        cases q with
        | one q=>cases q with
          | d q=>cases z <;> cases q <;> rfl
          | _=>cases z <;> rfl
        | _=>cases z <;> rfl
      | own l v=>
        have e:=ha l hx
        generalize ev i=q
        rcases c.ty t with _|⟨_,_,kd⟩
        · rfl
        · cases kd <;> try rfl
          cases q with
          | one q=>cases q with
            | d q=>cases q <;> first|rfl|simp only [e]
            | _=>rfl
          | _=>rfl
      | ptr l v i j=>rfl
      | sub l v o m=>
        have e:=ha l hx
        generalize ev i=q
        rcases c.ty t with _|⟨_,_,kd⟩
        · rfl
        · cases kd <;> try rfl
          cases q with
          | one q=>cases q with
            | d q=>cases q <;> first|rfl|simp only [e]
            | _=>rfl
          | _=>rfl
    | _=>rfl
  | call cl=>
    have hx:=(h.resolve_left (by simp [freeOp]))
    have hargs:∀ x∈evL ev cl.args.toList,dOnly f x=true:=fun x hxm=>by
      unfold evL at hxm
      obtain ⟨z,hz,rfl⟩:=List.mem_map.1 hxm
      exact hx z (by simp only [Op.operands,Call.operands];exact Array.mem_append.2 (.inr (Array.mem_toList_iff.1 hz)))
    dsimp only [aval]
    cases hcl:cl.callee with
    | invoke r m=>rfl
    | builtin b=>
      cases b <;> first
        | rfl
        | (simp only []
           generalize evL ev cl.args.toList=zs at hargs
           split
           · split
             · split
               · rfl
               · rfl
               · rename_i l v
                 have hl:f l=true:=hargs _ (List.mem_singleton.2 rfl)
                 simp only [ha l hl]
               · rename_i l v o n
                 have hl:f l=true:=hargs _ (List.mem_singleton.2 rfl)
                 simp only [ha l hl]
               · rfl
             · rfl
           · rfl)
    | value g=>
      simp only []
      split
      · rename_i g0 caps hg
        have:acall c own g0 (evL ev cl.args.toList ++ capsOf caps)=acall c own' g0 (evL ev cl.args.toList ++ capsOf caps):=by
          unfold acall
          rw [views_d ha (evL ev cl.args.toList ++ capsOf caps) (fun x hxm=>by
            rcases List.mem_append.1 hxm with hxm|hxm
            · exact hargs x hxm
            · obtain ⟨j,hj⟩:=List.getElem?_of_mem hxm
              rw [capsOf_get] at hj
              cases hc:caps[j]? with
              | none=>rw [hc] at hj;cases hj
              | some d=>rw [hc] at hj;simp only [Option.map_some,Option.some.injEq] at hj;subst hj;rfl)]
        rw [this]
      · rfl
  | slice t x lo hi mx=>
    cases mx with
    | some m=>cases lo <;> cases hi <;> rfl
    | none=>
      have hx:=(h.resolve_left (by simp [freeOp])) x (by simp [Op.operands])
      dsimp only [aval]
      generalize ev x=z at hx
      cases z with
      | one z=>cases z with
        | d z=>cases c.ty t <;> cases z <;> rfl
        | own l v=>simp only [ha l hx]
        | ptr l v i j=>cases c.ty t <;> rfl
        | sub l v i j=>cases c.ty t <;> rfl
      | _=>cases c.ty t <;> rfl
  | binOp op t x y t'=>
    dsimp only [aval]
    cases hn:nilOp y with
    | false=>rfl
    | true=>
      have hx:=(h.resolve_left (by simp [freeOp,hn])) x (by simp [Op.operands])
      simp only
      cases hq:ownNil (ev x) (ev y) with
      | none=>rfl
      | some q=>
        rw [(ownNil_some hq).1] at hx
        simp only [ha q.1 hx]
  | _=>rfl
theorem dOnlyL_all {f:Nat→Bool}:∀ {xs:List AV},dOnlyL f xs=true→∀ x∈xs,dOnly f x=true
 | [],_,x,hx=>by simp at hx
 | y :: ys,h,x,hx=>by
  unfold dOnlyL at h
  simp only [Bool.and_eq_true] at h
  rcases List.mem_cons.1 hx with rfl|hx
  ·exact h.1
  ·exact dOnlyL_all h.2 x hx
def freeB (c:Cfg) (o:Oper):Bool:=!isEff c o && (freeOp o.op || isFr c o)
def lookB (c:Cfg) (o:Oper):Bool:=!isEff c o && !isFr c o && isSp c o
def newB' (c:Cfg) (o:Oper):Bool:=(match o.dst with|some d=>((c.fr d && c.wr d) && !c.dp d) && !c.sw d|none=>false) && match o.op with
 | .alloc _|.box ..|.buildSlice ..|.makeSlice ..=>true
 | .call cl=>match cl.callee with
  | .value (.func f)=>match c.conw f with
   | none=>true
   | some _=>false
  | _=>false
 | _=>false
theorem new_own {c:Cfg} {o:Oper} (h:newB' c o=true) {slots:Nat→AV} {own:Nat→Loc} {p:Prop} {r:AV × (Nat→Loc)} (hr:aeff c o (evA slots) own=.ok p r):∀ l,fixPl c l=true→r.2 l=own l:=by
 unfold newB' at h
 simp only [Bool.and_eq_true] at h
 obtain ⟨hd,hop⟩:=h
 cases hdst:o.dst with
 | none=>rw [hdst] at hd;cases hd
 | some d=>
  rw [hdst] at hd
  simp only [Bool.and_eq_true] at hd
  have hd:(c.fr d && c.wr d)=true:=by simp [hd.1.1]
  have key:∀ {L:Loc} {y:AV} {q:Prop},(VR.ok q (y,upd own d L):VR (AV × (Nat→Loc)))=.ok p r→∀ l,fixPl c l=true→r.2 l=own l:=fun e l hl=>by
   injection e with _ e
   subst e
   refine upd_ne _ _ (fun (e':l=d)=>?_)
   have h0:fixPl c d=false:=by unfold fixPl;rw [hd];rfl
   rw [e',h0] at hl
   cases hl
  unfold aeff at hr
  simp only [hdst] at hr
  split at hop
  ·rename_i t ho
   simp only [ho] at hr
   split at hr
   ·exact key hr
   ·cases hr
  ·rename_i t x ho
   simp only [ho] at hr
   split at hr
   ·exact key hr
   ·cases hr
  ·rename_i t len parts ho
   simp only [ho] at hr
   split at hr
   ·split at hr
    ·exact key hr
    ·cases hr
   ·cases hr
  ·rename_i t len cap ho
   simp only [ho] at hr
   split at hr
   ·split at hr
    ·exact key hr
    ·cases hr
   ·cases hr
  ·rename_i cl ho
   simp only [ho] at hr
   split at hop
   ·rename_i f hcl
    split at hop
    ·rename_i hcw
     have hW:∀ args,acallW c own f args=.no:=fun args=>by unfold acallW;rw [hcw]
     simp only [hcl] at hr
     rw [show evA slots (.func f)=.one (.d (.clo f [])) from rfl] at hr
     simp only [hW] at hr
     split at hr
     ·cases hr
     ·split at hr
      ·exact key hr
      ·exact key hr
    ·cases hop
   ·cases hop
  ·cases hop
theorem aeffD_congr (c:Cfg) (o:Oper) (own:Nat→Loc) {ev ev':Operand→AV} (h:∀ x∈o.op.operands,ev x=ev' x):aeffD c o ev own=aeffD c o ev' own:=by
 unfold aeffD
 split
 ·rename_i t len parts d ho hd
  split
  ·rfl
  ·rename_i sz z0 ty e b z x hty hp
   rw [h x (by rw [ho];simp only [Op.operands];exact Array.mem_toList_iff.1 (by simp [hp]))]
  ·rfl
 ·rename_i t a x ho hd
  rw [h a (by rw [ho];simp [Op.operands]),h x (by rw [ho];simp [Op.operands])]
 ·rename_i t len cap d ho hd
  rw [h len (by rw [ho];simp [Op.operands]),h cap (by rw [ho];simp [Op.operands])]
 ·rename_i cl d ho hd
  have h1:evL ev cl.args.toList=evL ev' cl.args.toList:=evL_congr fun x hx=>h x (by rw [ho];simp only [Op.operands,Call.operands];exact Array.mem_append.2 (.inr (Array.mem_toList_iff.1 hx)))
  rw [h1]
  cases hcl:cl.callee with
  | value g=>simp only [];rw [h g (by rw [ho];simp [Op.operands,Call.operands,hcl])]
  | invoke r m=>rfl
  | builtin b=>cases b <;> rfl
 ·rfl
theorem aeffS_congr (c:Cfg) (o:Oper) (own:Nat→Loc) {ev ev':Operand→AV} (h:∀ x∈o.op.operands,ev x=ev' x):aeffS c o ev own=aeffS c o ev' own:=by
 have e:stP c o ev=stP c o ev':=by
  unfold stP
  split
  ·rename_i t x z ho
   rw [h x (by rw [ho];simp [Op.operands])]
  ·rfl
 unfold aeffS
 rw [aeff_congr c o own h,aeffD_congr c o own h,e]
theorem newS {c:Cfg} {o:Oper} (h:newB' c o=true):isSw c o=false:=by
 unfold newB' at h
 simp only [Bool.and_eq_true] at h
 have hd:=h.1
 unfold isSw
 split
 ·rename_i hdst
  rw [hdst] at hd
  simp only [Bool.and_eq_true,Bool.not_eq_true'] at hd
  exact hd.2
 ·rename_i hdst
  rw [hdst] at hd
  simp only [Bool.and_eq_true,Bool.not_eq_true'] at hd
  exact hd.2
 ·rfl
theorem newD' {c:Cfg} {o:Oper} (h:newB' c o=true):isDp c o=false:=by
 unfold newB' at h
 simp only [Bool.and_eq_true] at h
 have hd:=h.1
 unfold isDp
 split
 ·rename_i hdst
  rw [hdst] at hd
  simp only [Bool.and_eq_true,Bool.not_eq_true'] at hd
  exact hd.1.2
 ·rename_i hdst
  rw [hdst] at hd
  simp only [Bool.and_eq_true,Bool.not_eq_true'] at hd
  exact hd.1.2
 ·rename_i hdst
  rw [hdst] at hd
  simp only [Bool.and_eq_true,Bool.not_eq_true'] at hd
  exact hd.1.2
 ·rename_i hdst
  rw [hdst] at hd
  cases hd
 ·rfl
def curB (c:Cfg) (o:Oper):Bool:=match o.op,o.dst with
 | .call cl,some d=>(c.dp d && (c.fr d && c.wr d)) && match cl.callee with
  | .value (.func f)=>match c.conw f,c.cond f with
   | none,some con=>match con.kind with
    | .deep=>false
    | .box|.mk=>true
   | _,_=>false
  | _=>false
 | _,_=>false
theorem cur_own {c:Cfg} {o:Oper} (h:curB c o=true) {slots:Nat→AV} {own:Nat→Loc} {p:Prop} {r:AV × (Nat→Loc)} (hr:aeffS c o (evA slots) own=.ok p r) (hp:p):∀ l,fixPl c l=true→r.2 l=own l:=by
 unfold curB at h
 split at h
 ·rename_i cl d ho hdst
  simp only [Bool.and_eq_true] at h
  obtain ⟨⟨h1,h2,h3⟩,h⟩:=h
  have hne:∀ l m,(c.fr m && c.wr m)=true→fixPl c l=true→l≠m:=fun l m hm hl e=>by
   subst e
   unfold fixPl at hl
   rw [hm] at hl
   cases hl
  have hd:(c.fr d && c.wr d)=true:=by rw [h2,h3];rfl
  split at h
  ·rename_i f hcl
   split at h
   ·rename_i con hcw hcon
    unfold aeffS at hr
    have e:isDp c o=true:=by unfold isDp;rw [ho,hdst];exact h1
    rw [e] at hr
    simp only at hr
    unfold aeffD at hr
    simp only [ho,hdst,hcl] at hr
    rw [show evA slots (.func f)=.one (.d (.clo f [])) from rfl] at hr
    have hI:∀ args,acallI c own f args=.no:=fun args=>by unfold acallI;rw [hcw]
    have hD:∀ args,acallD c own f args=.no:=fun args=>by
     unfold acallD
     rw [hcon]
     simp only
     cases hk:con.kind with
     | deep=>rw [hk] at h;cases h
     | box=>rfl
     | mk=>rfl
    simp only [hI,hD] at hr
    split at hr
    ·rename_i p' r' hB
     injection hr with e1 e2
     subst e1;subst e2
     unfold acallB at hB
     rw [hcon] at hB
     simp only at hB
     split at hB
     ·cases hB
     ·cases hB
     split at hB
     ·cases hB
     split at hB
     ·cases hB
     split at hB
     ·split at hB
      ·cases hB
      split at hB
      ·injection hB with e1 e2
       subst e1;subst e2
       exact fun l hl=>upd_ne _ _ (hne l _ hp.2.2.1 hl)
      ·cases hB
     ·cases hB
    ·split at hr
     ·rename_i p' r' hB
      injection hr with e1 e2
      subst e1;subst e2
      unfold acallN at hB
      rw [hcon] at hB
      simp only at hB
      split at hB
      ·cases hB
      ·cases hB
      split at hB
      ·injection hB with e1 e2
       subst e1;subst e2
       exact fun l hl=>upd_ne _ _ (hne l _ hd hl)
      ·cases hB
     ·split at hr
      ·split at hr
       ·injection hr with e1 e2
        subst e1;subst e2
        exact fun l hl=>upd_ne _ _ (hne l _ hd hl)
       ·cases hr
      ·cases hr
   ·cases h
  ·cases h
 ·cases h
theorem newSt {c:Cfg} {o:Oper} (h:newB' c o=true):isSt c o=false:=by
 unfold isSt
 split
 ·rename_i ho hd
  unfold newB' at h
  rw [hd] at h
  cases h
 ·rfl
theorem st_own {c:Cfg} {o:Oper} (h:isSt c o=true) {slots:Nat→AV} {own:Nat→Loc} {p:Prop} {r:AV × (Nat→Loc)} (hr:aeffS c o (evA slots) own=.ok p r) (hp:p):∀ l,fixPl c l=true→r.2 l=own l:=by
 unfold aeffS at hr
 have hh:=h
 unfold isSt at h
 split at h
 ·rename_i t s z ho hdst
  have e1:isDp c o=false:=by
   simp only [Bool.and_eq_true,Bool.not_eq_true'] at h
   unfold isDp;rw [ho,hdst];exact h.2
  have e2:isSw c o=false:=by unfold isSw;rw [ho]
  rw [e1,e2,hh] at hr
  simp only at hr
  cases hv:aeff c o (evA slots) own with
  | no=>rw [hv] at hr;cases hr
  | ok p0 r0=>
   rw [hv] at hr
   simp only [VR.bind] at hr
   injection hr with e1 e2
   subst e1;subst e2
   obtain ⟨-,hq⟩:=hp
   unfold stP at hq
   rw [ho] at hq
   simp only at hq
   unfold aeff at hv
   simp only [ho,hdst] at hv
   split at hq
   ·rename_i l ver i j hx
    have key:∀ {L:Loc} {y:AV} {q:Prop},(VR.ok q (y,upd own l L):VR (AV × (Nat→Loc)))=.ok p0 r0→∀ m,fixPl c m=true→r0.2 m=own m:=fun e m hm=>by
     injection e with _ e
     subst e
     refine upd_ne _ _ (fun (e':m=l)=>?_)
     have h0:fixPl c l=false:=by unfold fixPl;rw [hq];rfl
     rw [e',h0] at hm
     cases hm
    rw [hx] at hv
    repeat' split at hv
    all_goals first
     | (cases hv;done)
     | (have he:=‹AV.one (Cell.ptr l ver i j)=AV.one (Cell.ptr _ _ _ _)›;injection he with he;injection he with he1 he2 he3 he4;subst he1;exact key hv)
     | exact key hv
   ·exact hq.elim
 ·cases h
def newX (c:Cfg) (o:Oper):Bool:=(newB' c o || curB c o) || isSt c o
theorem new_ownS {c:Cfg} {o:Oper} (h:newX c o=true) {slots:Nat→AV} {own:Nat→Loc} {p:Prop} {r:AV × (Nat→Loc)} (hr:aeffS c o (evA slots) own=.ok p r) (hp:p):∀ l,fixPl c l=true→r.2 l=own l:=by
 unfold newX at h
 simp only [Bool.or_eq_true] at h
 rcases h with (h|h)|h
 ·unfold aeffS at hr
  rw [newD' h,newS h,newSt h] at hr
  exact new_own h hr
 ·exact cur_own h hr hp
 ·exact st_own h hr hp
theorem gen_fn {c:Cfg} {ops:List Oper} {o:Oper} {σ:St} {K:St→Prop} (h:run1 c ops o σ K) :
  ∃ x own',K ⟨(σ.put o.dst x).slots,own'⟩∧(isEff c o=false→own'=σ.own) ∧
   (∀ (σ2:St) (K':St→Prop),σ2.own=σ.own→(∀ t∈readsOf ops o,σ2.slots t=σ.slots t)→K' ⟨(σ2.put o.dst x).slots,own'⟩→run1 c ops o σ2 K') ∧
   (freeB c o=true→∀ (σ2:St) (K':St→Prop),(∀ t∈readsOf ops o,σ2.slots t=σ.slots t)→K' ⟨(σ2.put o.dst x).slots,σ2.own⟩→run1 c ops o σ2 K') ∧
   (lookB c o=true→∀ (σ2:St) (K':St→Prop),(∀ t∈readsOf ops o,σ2.slots t=σ.slots t)→(∀ l,fixPl c l=true→σ2.own l=σ.own l)→K' ⟨(σ2.put o.dst x).slots,σ2.own⟩→run1 c ops o σ2 K') ∧
   (newX c o=true→∀ l,fixPl c l=true→own' l=σ.own l):=by
 obtain ⟨wd,hwd,hw⟩:=guard_ok h
 have hw2:∀ σ2:St,(∀ t∈readsOf ops o,σ2.slots t=σ.slots t)→(o.guard=none∧wd=true)∨∃ j want oj d v,o.guard=some (j,want)∧ops[j]?=some oj∧oj.dst=some d∧σ2.slots d=v∧WantV v want wd:=by
  intro σ2 hs
  refine hw.imp id ?_
  rintro ⟨j,want,oj,d,b,h1,h2,h3,h4,h5⟩
  refine ⟨j,want,oj,d,b,h1,h2,h3,?_,h5⟩
  rw [hs d (by unfold readsOf;rw [h1];simp [h2,h3]),h4]
 have hev:∀ σ2:St,(∀ t∈readsOf ops o,σ2.slots t=σ.slots t)→∀ x∈o.op.operands,evA σ2.slots x=evA σ.slots x:=fun σ2 hs x hx=>evA_congr fun t e=>hs t (by
  unfold readsOf
  refine List.mem_append.2 (.inl (List.mem_filterMap.2 ⟨x,Array.mem_toList_iff.2 hx,?_⟩))
  rw [e])
 have eta:∀ (σ2:St) (x:AV),(⟨(σ2.put o.dst x).slots,σ2.own⟩:St)=σ2.put o.dst x:=fun σ2 x=>by cases o.dst <;> rfl
 cases wd with
 | false=>
  simp only at hwd
  rw [← eta] at hwd
  exact ⟨.tup [],σ.own,hwd,fun _=>rfl,fun σ2 K' ho hs hK'=>guard_mk (wd:=false) (by show K' _;rw [← eta,ho];exact hK') (hw2 σ2 hs),fun _ σ2 K' hs hK'=>guard_mk (wd:=false) (by show K' _;rw [← eta];exact hK') (hw2 σ2 hs),fun _ σ2 K' hs _ hK'=>guard_mk (wd:=false) (by show K' _;rw [← eta];exact hK') (hw2 σ2 hs),fun _ _ _=>rfl⟩
 | true=>
  simp only at hwd
  unfold aop at hwd
  cases heff:isEff c o with
  | true=>
   rw [heff] at hwd
   simp only at hwd
   unfold VR.run at hwd
   split at hwd
   ·cases hwd
   ·rename_i p r hv
    refine ⟨r.1,r.2,hwd.2,(fun h=>by cases h),fun σ2 K' ho hs hK'=>guard_mk (wd:=true) ?_ (hw2 σ2 hs),fun hfr=>?_,fun hfr=>?_,fun hnb=>new_ownS hnb hv hwd.1⟩
    ·show aop c o σ2 K'
     unfold aop
     rw [heff]
     simp only
     rw [ho,aeffS_congr c o σ.own (hev σ2 hs),hv]
     exact ⟨hwd.1,hK'⟩
    ·unfold freeB at hfr
     rw [heff] at hfr
     cases hfr
    ·unfold lookB at hfr
     rw [heff] at hfr
     cases hfr
  | false=>
   rw [heff] at hwd
   simp only at hwd
   have hval:∃ p x,aval c (evA σ.slots) σ.own o.op=.ok p x∧p∧K (σ.put o.dst x)∧(isFr c o=true→dOnlyL noPl (evL (evA σ.slots) o.op.operands.toList)=true)∧(isFr c o=false→isSp c o=true→dOnlyL (fixPl c) (evL (evA σ.slots) o.op.operands.toList)=true):=by
    split at hwd
    ·rename_i hf
     obtain ⟨h1,h2⟩:=hwd
     unfold VR.run at h2
     split at h2
     ·cases h2
     ·rename_i p x hv
      exact ⟨p,x,hv,h2.1,h2.2,fun _=>h1,fun h=>by rw [hf] at h;cases h⟩
    ·rename_i hf
     split at hwd
     ·rename_i hsp
      obtain ⟨h1,h2⟩:=hwd
      unfold VR.run at h2
      split at h2
      ·cases h2
      ·rename_i p x hv
       exact ⟨p,x,hv,h2.1,h2.2,(fun h=>by rw [hf] at h;cases h),fun _ _=>h1⟩
     ·rename_i hsp
      unfold VR.run at hwd
      split at hwd
      ·cases hwd
      ·rename_i p x hv
       exact ⟨p,x,hv,hwd.1,hwd.2,(fun h=>by rw [hf] at h;cases h),fun _ h=>by rw [hsp] at h;cases h⟩
   obtain ⟨p,x,hv,hp,hK,hdo,hdo2⟩:=hval
   rw [← eta] at hK
   have mk:∀ (σ2:St) (K':St→Prop),(∀ t∈readsOf ops o,σ2.slots t=σ.slots t)→aval c (evA σ2.slots) σ2.own o.op=.ok p x→K' (σ2.put o.dst x)→run1 c ops o σ2 K':=fun σ2 K' hs hv2 hK'=>by
    refine guard_mk (wd:=true) ?_ (hw2 σ2 hs)
    show aop c o σ2 K'
    unfold aop
    rw [heff]
    simp only
    split
    ·rename_i hf
     refine ⟨?_,by rw [hv2];exact ⟨hp,hK'⟩⟩
     rw [evL_congr (ev':=evA σ.slots) (fun x hx=>hev σ2 hs x (Array.mem_toList_iff.1 hx))]
     exact hdo hf
    ·rename_i hf
     split
     ·rename_i hsp
      refine ⟨?_,by rw [hv2];exact ⟨hp,hK'⟩⟩
      rw [evL_congr (ev':=evA σ.slots) (fun x hx=>hev σ2 hs x (Array.mem_toList_iff.1 hx))]
      exact hdo2 hf hsp
     ·rw [hv2];exact ⟨hp,hK'⟩
   refine ⟨x,σ.own,hK,fun _=>rfl,fun σ2 K' ho hs hK'=>mk σ2 K' hs ?_ (by rw [← eta,ho];exact hK'),fun hfr σ2 K' hs hK'=>mk σ2 K' hs ?_ (by rw [← eta];exact hK'),fun hlk σ2 K' hs ho hK'=>mk σ2 K' hs ?_ (by rw [← eta];exact hK'),fun _ _ _=>rfl⟩
   ·rw [ho,aval_congr c σ.own o.op (hev σ2 hs),hv]
   rotate_left
   ·rw [aval_congr c σ2.own o.op (hev σ2 hs),← hv]
    unfold lookB at hlk
    simp only [Bool.and_eq_true,Bool.not_eq_true'] at hlk
    refine aval_own c (f:=fixPl c) (fun l hl=>ho l hl) o.op (.inr fun x hx=>?_)
    exact dOnlyL_all (hdo2 hlk.1.2 hlk.2) _ (by unfold evL;exact List.mem_map.2 ⟨x,Array.mem_toList_iff.2 hx,rfl⟩)
   ·rw [aval_congr c σ2.own o.op (hev σ2 hs),← hv]
    refine aval_own c (f:=noPl) (fun l hl=>by cases hl) o.op ?_
    unfold freeB at hfr
    rw [heff] at hfr
    simp only [Bool.not_false,Bool.true_and,Bool.or_eq_true] at hfr
    refine hfr.imp id fun hf x hx=>?_
    exact dOnlyL_all (hdo hf) _ (by unfold evL;exact List.mem_map.2 ⟨x,Array.mem_toList_iff.2 hx,rfl⟩)
def apartB (ops:List Oper) (x y:Oper):Bool:=
 (match x.dst with|some d=>!(readsOf ops y).contains d && !(y.dst == some d)|none=>true) && (match y.dst with|some d=>!(readsOf ops x).contains d|none=>true)
theorem apart_spec {ops:List Oper} {x y:Oper} (h:apartB ops x y=true):(∀ d,x.dst=some d→d ∉ readsOf ops y∧y.dst≠some d)∧(∀ d,y.dst=some d→d ∉ readsOf ops x):=by
 unfold apartB at h
 simp only [Bool.and_eq_true] at h
 refine ⟨fun d hd=>?_,fun d hd=>?_⟩
 ·have h1:=h.1
  rw [hd] at h1
  simp only [Bool.and_eq_true,Bool.not_eq_true'] at h1
  refine ⟨fun hm=>?_,fun e=>?_⟩
  ·have h2:=h1.1
   rw [List.contains_iff_mem.2 hm] at h2
   cases h2
  ·have h2:=h1.2
   rw [e] at h2
   simp at h2
 ·have h1:=h.2
  rw [hd] at h1
  simp only [Bool.not_eq_true'] at h1
  exact fun hm=>by rw [List.contains_iff_mem.2 hm] at h1;cases h1
def allocB (o:Oper):Bool:=match o.op,o.dst,o.guard with
 | .alloc _,some _,none=>true
 | _,_,_=>false
theorem allocB_spec {o:Oper} (h:allocB o=true):∃ t d,o.op=.alloc t∧o.dst=some d∧o.guard=none:=by
 unfold allocB at h
 split at h
 ·rename_i t d h1 h2 h3;exact ⟨t,d,h1,h2,h3⟩
 ·cases h
theorem run_alloc {c:Cfg} {ops:List Oper} {o:Oper} {t:TypeId} {d:Nat} (h1:o.op=.alloc t) (h2:o.dst=some d) (h3:o.guard=none) (σ:St) (K:St→Prop) :
  run1 c ops o σ K↔∃ i,c.ty t=some i∧deadIf (c.fr d) (σ.own d)∧K ⟨upd σ.slots d (.one (.ptr d ((σ.own d).ver + 1) 0 0)),upd σ.own d ⟨(σ.own d).ver + 1,.box t (i.zero.map ZK.c)⟩⟩:=by
 unfold run1 aguard
 simp only [h3]
 unfold aop isEff aeffS isDp isSw isSt aeff
 simp only [h1,h2]
 cases c.ty t with
 | none=>simp [VR.run]
 | some i=>simp [VR.run,St.put]
def allocD (c:Cfg) (o:Oper):Bool:=allocB o && match o.dst with|some d=>c.fr d|none=>false
theorem allocD_spec {c:Cfg} {o:Oper} (h:allocD c o=true):∃ t d,o.op=.alloc t∧o.dst=some d∧o.guard=none∧c.fr d=true:=by
 unfold allocD at h
 simp only [Bool.and_eq_true] at h
 obtain ⟨t,d,h1,h2,h3⟩:=allocB_spec h.1
 exact ⟨t,d,h1,h2,h3,by have:=h.2;rw [h2] at this;exact this⟩
def tailB (c:Cfg) (o:Oper):Bool:=match o.op,o.dst,o.guard with
 | .slice _ _ (some _) none none,some d,none=>c.wr d
 | _,_,_=>false
def tail2 (c:Cfg) (x y:Oper):Bool:=match x.dst,y.dst with
 | some dx,some dy=>(tailB c x && tailB c y) && (List.range 1024).all fun l=>!(tailF c dx l && tailF c dy l)
 | _,_=>false
theorem tailB_spec {c:Cfg} {o:Oper} (h:tailB c o=true):∃ t x lo d,o.op=.slice t x (some lo) none none∧o.dst=some d∧o.guard=none∧c.wr d=true:=by
 unfold tailB at h
 split at h
 ·rename_i t x lo d h1 h2 h3;exact ⟨t,x,lo,d,h1,h2,h3,h⟩
 ·cases h
theorem tail_run {c:Cfg} {ops:List Oper} {o:Oper} (h:tailB c o=true) (σ:St) (K:St→Prop):run1 c ops o σ K↔(aeff c o (evA σ.slots) σ.own).run fun r=>K ⟨(σ.put o.dst r.1).slots,r.2⟩:=by
 obtain ⟨t,x,lo,d,h1,h2,h3,h4⟩:=tailB_spec h
 have e1:isEff c o=true:=by unfold isEff;rw [h1,h2];exact h4
 have e2:isSw c o=false:=by unfold isSw;rw [h1]
 have e3:isDp c o=false:=by unfold isDp;rw [h1]
 have e4:isSt c o=false:=by unfold isSt;rw [h1]
 unfold run1 aguard
 simp only [h3]
 unfold aop aeffS
 rw [e1,e3,e2,e4]
theorem tail_spec {c:Cfg} {o:Oper} {d:Nat} (h:tailB c o=true) (hd:o.dst=some d) {ev:Operand→AV} {own:Nat→Loc} {p:Prop} {r:AV × (Nat→Loc)} (hr:aeff c o ev own=.ok p r) (hp:p) :
  ∃ l ver ob,r.2=upd own l ⟨ver,ob⟩∧tailF c d l=true∧∀ own2:Nat→Loc,own2 l=own l→aeff c o ev own2=.ok p (r.1,upd own2 l ⟨ver,ob⟩):=by
 obtain ⟨t,x,lo,d',h1,h2,h3,h4⟩:=tailB_spec h
 obtain rfl:d'=d:=Option.some.inj (h2.symm.trans hd)
 unfold aeff at hr ⊢
 simp only [h1,h2] at hr ⊢
 split at hr
 ·rename_i sz z0 e k' b z l ver ki hh hty hx hlo
  split at hr
  ·rename_i ver' ty k xs hl
   split at hr
   ·rename_i hk
    injection hr with e1 e2
    subst e1;subst e2
    obtain ⟨-,hf,-⟩:=hp
    exact ⟨l,_,_,rfl,hf,fun own2 ho=>by rw [hl] at ho;simp only [ho,hk]⟩
   ·cases hr
  ·rename_i ver' ty k xs hl
   split at hr
   ·rename_i hk
    injection hr with e1 e2
    subst e1;subst e2
    obtain ⟨-,hf,-⟩:=hp
    exact ⟨l,_,_,rfl,hf,fun own2 ho=>by rw [hl] at ho;simp only [ho,hk]⟩
   ·cases hr
  ·cases hr
 ·cases hr
def mayB (c:Cfg) (ops:List Oper) (x y:Oper):Bool:=((!isEff c x && !isEff c y) || freeB c x || freeB c y || (allocB x && allocB y) || (allocD c y && !isEff c x) || (newX c x && lookB c y) || (newX c y && lookB c x) || ((allocD c y && isEff c x) && !isDp c x) || tail2 c x y) && apartB ops x y
theorem viewC_alive {own:Nat→Loc} {d:Nat} {L:Loc} (hd:(own d).obj=.dead) {x:Cell} {p:Prop} {y:Cell × Bool} (h:viewC own x=.ok p y):viewC (upd own d L) x=.ok p y:=by
 cases x with
 | d x=>exact h
 | ptr l v i j=>cases h
 | sub l v i j=>
  have hne:l≠d:=fun e=>by
   subst e
   have h:viewI v i (own l)=.ok p y:=h
   rcases ho:own l with ⟨v',ob⟩
   rw [ho] at hd
   simp only at hd
   subst hd
   rw [ho] at h
   cases h
  show viewI v i (upd own d L l)=.ok p y
  rw [upd_ne _ _ hne]
  exact h
 | own l v=>
  have hne:l≠d:=fun e=>by
   subst e
   have h:viewL v (own l)=.ok p y:=h
   rcases ho:own l with ⟨v',ob⟩
   rw [ho] at hd
   simp only at hd
   subst hd
   rw [ho] at h
   cases h
  show viewL v (upd own d L l)=.ok p y
  rw [upd_ne _ _ hne]
  exact h
theorem viewCs_alive {own:Nat→Loc} {d:Nat} {L:Loc} (hd:(own d).obj=.dead):∀ {cs:List Cell} {p:Prop} {y:List Cell × Bool},viewCs own cs=.ok p y→viewCs (upd own d L) cs=.ok p y
 | [],p,y,h=>h
 | c :: cs,p,y,h=>by
  unfold viewCs at h ⊢
  cases h1:viewC own c with
  | no=>rw [h1] at h;cases h
  | ok q z=>
   cases h2:viewCs own cs with
   | no=>rw [h1,h2] at h;cases h
   | ok q' z'=>
    rw [h1,h2] at h
    rw [viewC_alive hd h1,viewCs_alive hd h2]
    exact h
theorem view_alive {own:Nat→Loc} {d:Nat} {L:Loc} (hd:(own d).obj=.dead) {x:AV} {p:Prop} {y:AV × Bool} (h:view own x=.ok p y):view (upd own d L) x=.ok p y:=by
 cases x with
 | one c=>
  unfold view at h ⊢
  cases h1:viewC own c with
  | no=>simp only [h1] at h;cases h
  | ok q z=>simp only [h1] at h;simp only [viewC_alive hd h1];exact h
 | agg cs=>
  unfold view at h ⊢
  cases h1:viewCs own cs with
  | no=>simp only [h1] at h;cases h
  | ok q z=>simp only [h1] at h;simp only [viewCs_alive hd h1];exact h
 | tup xs=>cases h
 | junk=>cases h
theorem views_alive {own:Nat→Loc} {d:Nat} {L:Loc} (hd:(own d).obj=.dead):∀ {xs:List AV} {p:Prop} {y:List AV × Bool},views own xs=.ok p y→views (upd own d L) xs=.ok p y
 | [],p,y,h=>h
 | c :: cs,p,y,h=>by
  unfold views at h ⊢
  cases h1:view own c with
  | no=>rw [h1] at h;cases h
  | ok q z=>
   cases h2:views own cs with
   | no=>rw [h1,h2] at h;cases h
   | ok q' z'=>
    rw [h1,h2] at h
    rw [view_alive hd h1,views_alive hd h2]
    exact h
theorem own_alive {α:Type} {own:Nat→Loc} {d l:Nat} {L:Loc} (hd:(own d).obj=.dead) {f:Loc→VR α} (hf:∀ v,f ⟨v,.dead⟩=.no) {p:Prop} {y:α} (h:f (own l)=.ok p y):f (upd own d L l)=.ok p y:=by
 have hne:l≠d:=fun e=>by
  subst e
  rcases ho:own l with ⟨v',ob⟩
  rw [ho] at hd
  simp only at hd
  subst hd
  rw [ho,hf] at h
  cases h
 rw [upd_ne _ _ hne]
 exact h
theorem aval_alive {c:Cfg} {ev:Operand→AV} {own:Nat→Loc} {d:Nat} {L:Loc} (hd:(own d).obj=.dead) {op:Op} {p:Prop} {y:AV} (h:aval c ev own op=.ok p y):aval c ev (upd own d L) op=.ok p y:=by
 cases op with
 | load t x=>
  revert h
  dsimp only [aval]
  cases c.ty t with
  | none=>exact id
  | some i=>
   generalize ev x=q
   cases q with
   | one q=>cases q with
    | d z=>cases z <;> exact id
    | own l v=>exact id
    | ptr l v ix j=>
     intro h
     (try simp only at h ⊢)
     by_cases e:l=d
     ·subst e
      rcases ho:own l with ⟨v',ob⟩
      rw [ho] at h hd
      simp only at hd
      subst hd
      cases h
     ·rw [upd_ne _ _ e];exact h
    | sub l v i j=>exact id
   | _=>exact id
 | nilCheck x=>
  revert h
  dsimp only [aval]
  generalize ev x=q
  cases q with
  | one q=>cases q with
   | d z=>cases z <;> exact id
   | own l v=>exact id
   | ptr l v ix j=>
    intro h
    (try simp only at h ⊢)
    by_cases e:l=d
    ·subst e
     rcases ho:own l with ⟨v',ob⟩
     rw [ho] at h hd
     simp only at hd
     subst hd
     cases h
    ·rw [upd_ne _ _ e];exact h
   | sub l v i j=>exact id
  | _=>exact id
 | fieldAddr s x f=>
  revert h
  dsimp only [aval]
  generalize c.ty s=ti
  rcases ti with _|⟨sz,z,kind⟩
  ·exact id
  ·cases kind <;> try exact id
   rename_i fs b
   simp only
   generalize fs[f]?=fo
   rcases fo with _|⟨off,sz',ag⟩
   ·exact id
   ·simp only
    generalize Nat.beq sz' 0=bz
    cases bz with
    | true=>exact id
    | false=>
     generalize ev x=q
     cases q with
     | one q=>cases q with
      | d z=>cases z <;> exact id
      | own l v=>exact id
      | ptr l v ix j=>
       intro h
       (try simp only at h ⊢)
       by_cases e:l=d
       ·subst e
        rcases ho:own l with ⟨v',ob⟩
        rw [ho] at h hd
        simp only at hd
        subst hd
        cases h
       ·rw [upd_ne _ _ e];exact h
      | sub l v i j=>exact id
     | _=>exact id
 | indexAddr t x i=>
  revert h
  dsimp only [aval]
  generalize c.ty t=ti
  rcases ti with _|⟨sz,z,kind⟩
  ·exact id
  ·cases kind <;> try exact id
   rename_i e k b z'
   simp only
   generalize ev x=q
   generalize ev i=r
   cases q with
   | one q=>cases q with
    | d z=>
     cases r with
     | one r=>cases r with
      | d r=>cases z <;> cases r <;> exact id
      | _=>cases z <;> exact id
     | _=>cases z <;> exact id
    | own l v=>
     cases r with
     | one r=>cases r with
      | d r=>cases r with
       | int k0 n=>
        intro h
        (try simp only at h ⊢)
        by_cases e:l=d
        ·subst e
         rcases ho:own l with ⟨v',ob⟩
         rw [ho] at h hd
         simp only at hd
         subst hd
         cases h
        ·rw [upd_ne _ _ e];exact h
       | _=>exact id
      | _=>exact id
     | _=>exact id
    | ptr l v ix j=>
     cases r with
     | one r=>cases r with
      | d r=>cases r <;> exact id
      | _=>exact id
     | _=>exact id
    | sub l v off m=>
     cases r with
     | one r=>cases r with
      | d r=>cases r with
       | int k0 n=>
        intro h
        (try simp only at h ⊢)
        by_cases e:l=d
        ·subst e
         rcases ho:own l with ⟨v',ob⟩
         rw [ho] at h hd
         simp only at hd
         subst hd
         cases h
        ·rw [upd_ne _ _ e];exact h
       | _=>exact id
      | _=>exact id
     | _=>exact id
   | _=>
    cases r with
    | one r=>cases r with
     | d r=>cases r <;> exact id
     | _=>exact id
    | _=>exact id
 | call cl=>
  revert h
  dsimp only [aval]
  cases hcl:cl.callee with
  | invoke r m=>exact id
  | builtin b=>
   cases b <;> try exact id
   simp only
   generalize cl.argTypes.toList=ts
   cases ts with
   | nil=>exact id
   | cons t ts=>
    simp only
    generalize c.ty t=ti
    rcases ti with _|⟨sz,z,kind⟩
    ·exact id
    ·cases kind <;> try exact id
     simp only
     generalize evL ev cl.args.toList=zs
     rcases zs with _|⟨q,_|⟨q',r⟩⟩
     ·exact id
     ·cases q with
      | one q=>cases q with
       | d z=>cases z <;> exact id
       | own l v=>
        intro h
        (try simp only at h ⊢)
        by_cases e:l=d
        ·subst e
         rcases ho:own l with ⟨v',ob⟩
         rw [ho] at h hd
         simp only at hd
         subst hd
         cases h
        ·rw [upd_ne _ _ e];exact h
       | ptr l v i j=>exact id
       | sub l v off n=>
        intro h
        (try simp only at h ⊢)
        by_cases e:l=d
        ·subst e
         rcases ho:own l with ⟨v',ob⟩
         rw [ho] at h hd
         simp only at hd
         subst hd
         cases h
        ·rw [upd_ne _ _ e];exact h
      | _=>exact id
     ·cases q with
      | one q=>cases q with
       | d z=>cases z <;> exact id
       | _=>exact id
      | _=>exact id
  | value g=>
   intro h
   simp only at h ⊢
   split at h <;> try cases h
   rename_i f caps hg
   have key:∀ {q:Prop} {r:RV},acall c own f (evL ev cl.args.toList ++ capsOf caps)=.ok q r→acall c (upd own d L) f (evL ev cl.args.toList ++ capsOf caps)=.ok q r:=fun {q r} h=>by
    unfold acall at h ⊢
    split at h <;> try cases h
    rename_i con hcon
    cases hv:views own (evL ev cl.args.toList ++ capsOf caps) with
    | no=>rw [hv] at h;cases h
    | ok q z=>rw [hv] at h;simp only [views_alive hd hv];exact h
   cases hr:acall c own f (evL ev cl.args.toList ++ capsOf caps) with
   | no=>rw [hr] at h;cases h
   | ok q r=>rw [hr] at h;rw [key hr];exact h
 | slice t x lo hi mx=>
  cases mx with
  | some m=>cases lo <;> cases hi <;> exact h
  | none=>
   revert h
   dsimp only [aval]
   generalize c.ty t=ti
   rcases ti with _|⟨sz,z,kind⟩
   ·exact id
   ·cases kind <;> try exact id
    rename_i e k b z'
    generalize hq:asSl (ev x)=q
    cases q with
    | some q=>exact id
    | none=>
     clear hq
     generalize ev x=q
     cases q with
     | one q=>cases q with
      | own l v=>
       intro h
       (try simp only at h ⊢)
       by_cases e:l=d
       ·subst e
        rcases ho:own l with ⟨v',ob⟩
        rw [ho] at h hd
        simp only at hd
        subst hd
        cases h
       ·rw [upd_ne _ _ e];exact h
      | _=>exact id
     | _=>exact id
 | binOp op t x y t'=>
  revert h
  dsimp only [aval]
  cases nilOp y with
  | false=>exact id
  | true=>
   simp only
   cases ownNil (ev x) (ev y) with
   | none=>exact id
   | some q=>exact own_alive (f:=nilAt (c.ty t) op q.2) hd (fun _=>rfl)
 | _=>exact h
theorem aop_alive {c:Cfg} {o:Oper} {σ:St} {K:St→Prop} {d:Nat} {L:Loc} {v:AV} (he:isEff c o=false) (hd:(σ.own d).obj=.dead) (hr:∀ x∈o.op.operands,x≠.tmp d)
  (h:aop c o σ fun σ'=>K ⟨upd σ'.slots d v,upd σ'.own d L⟩) (hdst:o.dst≠some d):aop c o ⟨upd σ.slots d v,upd σ.own d L⟩ K:=by
 have hev:∀ x∈o.op.operands,evA (upd σ.slots d v) x=evA σ.slots x:=fun x hx=>evA_congr fun t e=>upd_ne _ _ fun e'=>hr x hx (by rw [e,e'])
 have hcomm:∀ x,(St.put ⟨upd σ.slots d v,upd σ.own d L⟩ o.dst x)=⟨upd (σ.put o.dst x).slots d v,upd (σ.put o.dst x).own d L⟩:=fun x=>by
  cases ho:o.dst with
  | none=>rfl
  | some e=>
   have hne:e≠d:=fun e'=>hdst (by rw [ho,e'])
   simp only [St.put]
   rw [upd_comm _ _ _ hne]
 unfold aop at h ⊢
 rw [he] at h ⊢
 simp only at h ⊢
 rw [aval_congr c (upd σ.own d L) o.op hev,evL_congr (ev':=evA σ.slots) (fun x hx=>hev x (Array.mem_toList_iff.1 hx))]
 have key:∀ {K':St→Prop},(aval c (evA σ.slots) σ.own o.op).run (fun x=>K ⟨upd (σ.put o.dst x).slots d v,upd (σ.put o.dst x).own d L⟩)→(aval c (evA σ.slots) (upd σ.own d L) o.op).run fun x=>K (St.put ⟨upd σ.slots d v,upd σ.own d L⟩ o.dst x):=fun {K'} hrun=>by
  cases hv:aval c (evA σ.slots) σ.own o.op with
  | no=>rw [hv] at hrun;exact hrun.elim
  | ok p x=>
   rw [hv] at hrun
   rw [aval_alive hd hv]
   refine ⟨hrun.1,?_⟩
   show K (St.put _ _ _)
   rw [hcomm]
   exact hrun.2
 revert h
 cases isFr c o with
 | true=>exact fun h=>⟨h.1,key (K':=K) h.2⟩
 | false=>cases isSp c o with
  | true=>exact fun h=>⟨h.1,key (K':=K) h.2⟩
  | false=>exact fun h=>key (K':=K) h
theorem aop_own {c:Cfg} {o:Oper} {σ:St} {K K':St→Prop} (he:isEff c o=false) (hK:∀ σ',σ'.own=σ.own→K σ'→K' σ') (h:aop c o σ K):aop c o σ K':=by
 unfold aop at h ⊢
 rw [he] at h ⊢
 simp only at h ⊢
 have key:(aval c (evA σ.slots) σ.own o.op).run (fun x=>K (σ.put o.dst x))→(aval c (evA σ.slots) σ.own o.op).run fun x=>K' (σ.put o.dst x):=fun hr=>by
  cases hv:aval c (evA σ.slots) σ.own o.op with
  | no=>rw [hv] at hr;exact hr.elim
  | ok p x=>rw [hv] at hr;exact ⟨hr.1,hK _ (St.put_own _ _ _) hr.2⟩
 revert h
 cases isFr c o with
 | true=>exact fun h=>⟨h.1,key h.2⟩
 | false=>cases isSp c o with
  | true=>exact fun h=>⟨h.1,key h.2⟩
  | false=>exact fun h=>key h
theorem St.put_comm' (s:Nat→AV) (o1 o2:Nat→Loc) (d e:Option Nat) (x y:AV) (h:∀ t,d=some t→e≠some t):(St.put ⟨(St.put ⟨s,o1⟩ d x).slots,o2⟩ e y).slots=(St.put ⟨(St.put ⟨s,o1⟩ e y).slots,o2⟩ d x).slots:=by
 cases d with
 | none=>cases e <;> rfl
 | some d=>
  cases e with
  | none=>rfl
  | some e=>
   have:d≠e:=fun he=>h d rfl (by rw [he])
   simp only [St.put]
   rw [upd_comm _ _ _ this]
theorem put_sl (s:Nat→AV) (o1 o2:Nat→Loc) (d:Option Nat) (x:AV):(St.put ⟨s,o1⟩ d x).slots=(St.put ⟨s,o2⟩ d x).slots:=by cases d <;> rfl
theorem readOf_alive {own:Nat→Loc} {d:Nat} {L:Loc} (hd:(own d).obj=.dead) {x:AV} {q:Prop} {k:ElK} {ys:List k.T} (h:readOf own x=.ok q k ys):readOf (upd own d L) x=.ok q k ys:=by
 have up:∀ l v ty k xs,own l=⟨v,.row ty k xs⟩→upd own d L l=⟨v,.row ty k xs⟩:=fun l v ty k xs e=>by
  rw [upd_ne,e]
  intro e'
  rw [← e',e] at hd
  cases hd
 unfold readOf at h ⊢
 split at h
 ·exact h
 ·split at h
  ·rename_i v ty k xs e
   simp only [up _ _ _ _ _ e]
   exact h
  ·cases h
 ·split at h
  ·rename_i v ty k xs e
   simp only [up _ _ _ _ _ e]
   exact h
  ·cases h
 ·cases h
theorem acallW_alive {c:Cfg} {own:Nat→Loc} {d:Nat} {L:Loc} (hd:(own d).obj=.dead) {f:FuncId} {xs:List AV} {p:Prop} {l ver:Nat} {ty:TypeId} {k:ElK} {ys:List k.T} {tr:Bool} {av:AV} (h:acallW c own f xs=.ok p l ver ty k ys tr av) :
  acallW c (upd own d L) f xs=.ok p l ver ty k ys tr av:=by
 have up:∀ l v ty k xs,own l=⟨v,.row ty k xs⟩→upd own d L l=⟨v,.row ty k xs⟩:=fun l v ty k xs e=>by
  rw [upd_ne,e]
  intro e'
  rw [← e',e] at hd
  cases hd
 unfold acallW at h ⊢
 split at h
 ·cases h
 ·rename_i con hc
  try rw [hc]
  try simp only
  split at h
  ·cases h
  ·rename_i a ha
   try rw [ha]
   try simp only
   split at h
   ·cases h
   ·rename_i l' v' ho
    try rw [ho]
    try simp only
    split at h
    ·rename_i v ty k xs e
     simp only [up _ _ _ _ _ e]
     exact h
    ·cases h
theorem acall_alive {c:Cfg} {own:Nat→Loc} {d:Nat} {L:Loc} (hd:(own d).obj=.dead) {f:FuncId} {xs:List AV} {p:Prop} {r:RV} (h:acall c own f xs=.ok p r):acall c (upd own d L) f xs=.ok p r:=by
 unfold acall at h ⊢
 cases hc:c.con f with
 | none=>rw [hc] at h;cases h
 | some con=>
  rw [hc] at h
  simp only at h ⊢
  cases hv:views own xs with
  | no=>rw [hv] at h;cases h
  | ok q y=>rw [views_alive hd hv];rw [hv] at h;exact h
theorem viewC_live {own:Nat→Loc} {l v:Nat} {p:Prop} {y:Cell × Bool} (h:viewC own (.own l v)=.ok p y):(own l).obj≠.dead:=by
 intro hd
 have h:viewL v (own l)=.ok p y:=h
 rcases ho:own l with ⟨v',ob⟩
 rw [ho] at hd
 simp only at hd
 subst hd
 rw [ho] at h
 cases h
theorem view_live {own:Nat→Loc} {a:AV} {l v:Nat} (ha:ownCell a=some (l,v)) {p:Prop} {y:AV × Bool} (h:view own a=.ok p y):(own l).obj≠.dead:=by
 unfold ownCell at ha
 split at ha
 ·injection ha with ha
  injection ha with e1 e2
  subst e1
  subst e2
  unfold view at h
  simp only at h
  split at h
  ·rename_i hv;exact viewC_live hv
  ·cases h
 ·injection ha with ha
  injection ha with e1 e2
  subst e1
  subst e2
  unfold view viewCs at h
  simp only at h
  split at h
  ·rename_i hv
   split at hv
   ·rename_i h1 h2;exact viewC_live h1
   ·cases hv
  ·cases h
 ·cases ha
theorem views_live {own:Nat→Loc} {l v:Nat}:∀ {xs:List AV} {i:Nat} {a:AV} {p:Prop} {y:List AV × Bool},nthA xs i=some a→ownCell a=some (l,v)→views own xs=.ok p y→(own l).obj≠.dead
 | [],_,_,_,_,h,_,_=>by cases h
 | x :: xs,0,a,p,y,h,ha,hv=>by
  injection h with h
  subst h
  unfold views at hv
  split at hv
  ·rename_i h1 h2;exact view_live ha h1
  ·cases hv
 | x :: xs,i + 1,a,p,y,h,ha,hv=>by
  unfold views at hv
  split at hv
  ·rename_i h1 h2;exact views_live (i:=i) h ha h2
  ·cases hv
theorem acallW_no {c:Cfg} {own:Nat→Loc} {d:Nat} {L:Loc} (hd:(own d).obj=.dead) {f:FuncId} {xs:List AV} {p:Prop} {r:RV} (h:acall c own f xs=.ok p r) (hW:acallW c own f xs=.no):acallW c (upd own d L) f xs=.no:=by
 have hv:∃ q y,views own xs=.ok q y:=by
  unfold acall at h
  split at h
  ·cases h
  ·split at h
   ·cases h
   ·rename_i hv;exact ⟨_,_,hv⟩
 obtain ⟨q,y,hv⟩:=hv
 unfold acallW at hW ⊢
 cases hc:c.conw f with
 | none=>rfl
 | some con=>
  rw [hc] at hW
  simp only at hW ⊢
  cases ha:nthA xs con.wi with
  | none=>rfl
  | some a=>
   rw [ha] at hW
   simp only at hW ⊢
   cases ho:ownCell a with
   | none=>rfl
   | some lv=>
    obtain ⟨l,ver⟩:=lv
    rw [ho] at hW
    simp only at hW ⊢
    rw [upd_ne _ _ (fun (e:l=d)=>views_live ha ho hv (by rw [e];exact hd))]
    exact hW
theorem eff_alive {c:Cfg} {o:Oper} {ev:Operand→AV} {own:Nat→Loc} {d:Nat} {L:Loc} {p:Prop} {r:AV × (Nat→Loc)} (h:aeff c o ev own=.ok p r) (hdst:o.dst≠some d) (hd:(r.2 d).obj=.dead) :
  (own d).obj=.dead∧r.2 d=own d∧aeff c o ev (upd own d L)=.ok p (r.1,upd r.2 d L):=by
 have fin:∀ {l:Nat} {v:Nat} {ob:Own} {x:AV} {q:Prop},(VR.ok q (x,upd own l ⟨v,ob⟩):VR (AV × (Nat→Loc)))=.ok p r→ob.live=true→((own d).obj=.dead→l≠d→aeff c o ev (upd own d L)=.ok q (x,upd (upd own d L) l ⟨v,ob⟩)) →
   (own d).obj=.dead∧r.2 d=own d∧aeff c o ev (upd own d L)=.ok p (r.1,upd r.2 d L):=by
  intro l v ob x q e hl hk
  injection e with e1 e2
  subst e1
  subst e2
  have hne:l≠d:=fun e'=>by
   subst e'
   simp only [upd_eq] at hd
   rw [hd] at hl
   cases hl
  have h1:upd own l ⟨v,ob⟩ d=own d:=upd_ne _ _ (Ne.symm hne)
  have h2:(own d).obj=.dead:=by rw [← h1];exact hd
  refine ⟨h2,h1,?_⟩
  rw [hk h2 hne,upd_comm _ _ _ hne]
 have up:∀ l,l≠d→upd own d L l=own l:=fun l h=>upd_ne _ _ h
 have h0:=h
 unfold aeff at h
 split at h
 ·-- alloc
  rename_i t dd ho hdd
  have hne:dd≠d:=fun e=>hdst (by rw [hdd,e])
  split at h
  ·rename_i i hi
   refine fin h rfl fun _ _=>?_
   unfold aeff
   simp only [ho,hdd,hi,up _ hne]
  ·cases h
 ·rename_i t x dd ho hdd
  have hne:dd≠d:=fun e=>hdst (by rw [hdd,e])
  split at h
  ·rename_i cs hcs
   refine fin h rfl fun _ _=>?_
   unfold aeff
   simp only [ho,hdd,hcs,up _ hne]
  ·cases h
 ·rename_i t len parts dd ho hdd
  have hne:dd≠d:=fun e=>hdst (by rw [hdd,e])
  split at h
  ·rename_i hty
   split at h
   ·rename_i xs h1 h2
    refine fin h rfl fun _ _=>?_
    unfold aeff
    simp only [ho,hdd,hty,h1,h2,up _ hne]
   ·cases h
  ·cases h
 ·rename_i t len cap dd ho hdd
  have hne:dd≠d:=fun e=>hdst (by rw [hdd,e])
  split at h
  ·rename_i hty h1 h2
   split at h
   ·rename_i z hz
    refine fin h rfl fun _ _=>?_
    unfold aeff
    simp only [ho,hdd,hty,h1,h2,hz,up _ hne]
   ·cases h
  ·cases h
 ·-- store
  rename_i t a x ho hdd
  split at h
  ·rename_i l ver i j cs ti h1 h2 h3
   split at h
   ·rename_i ver' ty cs' h4 h5
    refine fin h rfl fun hdead hne=>?_
    unfold aeff
    simp only [ho,hdd,h1,h2,h3,h4,up _ hne,h5]
   ·rename_i ver' ty k xs h4 h5
    split at h
    ·rename_i xs' h6
     refine fin h rfl fun hdead hne=>?_
     unfold aeff
     simp only [ho,hdd,h1,h2,h3,h4,up _ hne,h5,h6]
    ·cases h
   ·cases h
  ·cases h
 ·-- truncated
  rename_i t x hi dd ho hdd
  split at h
  ·rename_i l ver kk hh h1 h2 h3
   split at h
   ·rename_i ver' ty k xs h5
    split at h
    ·rename_i h6
     refine fin h rfl fun hdead hne=>?_
     unfold aeff
     simp only [ho,hdd,h1,h2,h3,up _ hne,h5,h6]
    ·cases h
   ·cases h
  ·cases h
 ·-- from an element on
  rename_i t x lo dd ho hdd
  split at h
  ·rename_i l ver kk hh h1 h2 h3
   split at h
   ·rename_i ver' ty k xs h5
    split at h
    ·rename_i h6
     refine fin h rfl fun hdead hne=>?_
     unfold aeff
     simp only [ho,hdd,h1,h2,h3,up _ hne,h5,h6]
    ·cases h
   ·rename_i ver' ty k xs h5
    split at h
    ·rename_i h6
     refine fin h rfl fun hdead hne=>?_
     unfold aeff
     simp only [ho,hdd,h1,h2,h3,up _ hne,h5,h6]
    ·cases h
   ·cases h
  ·cases h
 ·-- a call
  rename_i cl dd ho hdd
  have hdn:dd≠d:=fun e=>hdst (by rw [hdd,e])
  split at h
  ·-- append
   rename_i hcl
   split at h
   ·rename_i s x t t' ha hat
    split at h
    ·rename_i e k b z h1 h2
     split at h
     ·cases h
     ·rename_i pv xv bv hview
      split at h
      ·cases h
      ·rename_i ys hys
       split at h
       ·rename_i l ver hs
        split at h
        ·rename_i ver' ty k' xs hl
         split at h
         ·rename_i xs' hc
          refine fin h rfl fun hdead hne=>?_
          unfold aeff
          simp only [ho,hdd,hcl,ha,hat,h1,h2,view_alive hdead hview,hys,up _ hne,hl,hc]
         ·cases h
        ·rename_i ver' ty k' xs hl
         split at h
         ·rename_i xs' hc
          refine fin h rfl fun hdead hne=>?_
          unfold aeff
          simp only [ho,hdd,hcl,ha,hat,h1,h2,view_alive hdead hview,hys,up _ hne,hl,hc]
         ·cases h
        ·cases h
       ·rename_i k' xs
        split at h
        ·rename_i xs' hc
         refine fin h rfl fun hdead hne=>?_
         unfold aeff
         simp only [ho,hdd,hcl,ha,hat,h1,h2,view_alive hdead hview,hys,up _ hne,hc]
        ·cases h
       ·refine fin h rfl fun hdead hne=>?_
        unfold aeff
        simp only [ho,hdd,hcl,ha,hat,h1,h2,view_alive hdead hview,hys,up _ hne]
       ·cases h
    ·cases h
   ·cases h
  ·-- a function
   rename_i g hcl
   split at h
   ·rename_i f caps hg
    split at h
    ·rename_i q l ver ty k ys av hc
     refine fin h rfl fun hdead hne=>?_
     unfold aeff
     simp only [ho,hdd,hcl,hg,acallW_alive hdead hc]
    ·rename_i q l ver ty k ys av hc
     refine fin h rfl fun hdead hne=>?_
     unfold aeff
     simp only [ho,hdd,hcl,hg,acallW_alive hdead hc]
    ·rename_i hno
     split at h
     ·cases h
     ·rename_i q r' hc
      split at h
      ·rename_i R hR
       refine fin h rfl fun hdead hne=>?_
       unfold aeff
       simp only [ho,hdd,hcl,hg,acallW_no hdead hc hno,acall_alive hdead hc,hR,up _ hne]
      ·rename_i hR
       injection h with e1 e2
       subst e1
       subst e2
       have hk:(own d).obj=.dead:=by
        have h9:=hd
        simp only at h9
        rw [upd_ne _ _ (Ne.symm hdn)] at h9
        exact h9
       refine ⟨hk,upd_ne _ _ (Ne.symm hdn),?_⟩
       unfold aeff
       simp only [ho,hdd,hcl,hg,acallW_no hk hc hno,acall_alive hk hc,hR,up _ hdn]
       rw [upd_comm _ _ _ hdn]
   ·cases h
  ·-- copy
   rename_i hcl
   split at h
   ·rename_i x s t t' ha hat
    split at h
    ·rename_i k b z l ver off n h1
     split at h
     ·rename_i ver' ty k' xs hl
      split at h
      ·rename_i q k'' ys hr
       split at h
       ·rename_i ys' hc
        refine fin h rfl fun hdead hne=>?_
        unfold aeff
        simp only [ho,hdd,hcl,ha,hat,h1,up _ hne,hl,readOf_alive hdead hr,hc]
       ·cases h
      ·cases h
     ·cases h
    ·rename_i k b z l ver h1
     split at h
     ·rename_i ver' ty k' xs hl
      split at h
      ·rename_i q k'' ys hr
       split at h
       ·rename_i ys' hc
        refine fin h rfl fun hdead hne=>?_
        unfold aeff
        simp only [ho,hdd,hcl,ha,hat,h1,up _ hne,hl,readOf_alive hdead hr,hc]
       ·cases h
      ·cases h
     ·cases h
    ·cases h
   ·cases h
  ·cases h
 ·-- clear
  rename_i cl ho hdd
  split at h
  ·rename_i hcl
   split at h
   ·rename_i x t ha hat
    split at h
    ·rename_i k b z l ver off n h1
     split at h
     ·rename_i ver' ty k' xs hl
      split at h
      ·rename_i zv hz
       refine fin h rfl fun hdead hne=>?_
       unfold aeff
       simp only [ho,hdd,hcl,ha,hat,h1,up _ hne,hl,hz]
      ·cases h
     ·cases h
    ·cases h
   ·cases h
  ·cases h
 ·cases h
theorem effS_alive {c:Cfg} {o:Oper} {ev:Operand→AV} {own:Nat→Loc} {d:Nat} {L:Loc} {p:Prop} {r:AV × (Nat→Loc)} (h:aeffS c o ev own=.ok p r) (hp:p) (hdp:isDp c o=false) (hfr:c.fr d=true) (hdst:o.dst≠some d) (hd:(r.2 d).obj=.dead) :
  (own d).obj=.dead∧r.2 d=own d∧aeffS c o ev (upd own d L)=.ok p (r.1,upd r.2 d L):=by
 unfold aeffS at h ⊢
 rw [hdp] at h ⊢
 simp only at h ⊢
 split at h
 ·cases hv:aeff c o ev own with
  | no=>rw [hv] at h;cases h
  | ok p0 r0=>
   rw [hv] at h
   cases hf:frzR c r0 with
   | no=>simp only [VR.bind,hf] at h;cases h
   | ok q r'=>
    simp only [VR.bind,hf] at h
    injection h with e1 e2
    subst e1
    subst e2
    obtain ⟨hp0,hq⟩:=hp
    obtain ⟨x,own1⟩:=r0
    unfold frzR at hf
    split at hf
    ·rename_i l ver own2 hr
     injection hr with e1 e2
     subst e1
     subst e2
     split at hf
     ·rename_i ver' ty k xs hl
      injection hf with e1 e2
      subst e1
      subst e2
      have hne:l≠d:=fun e=>by rw [e,hfr] at hq;cases hq.2
      simp only at hd
      rw [upd_ne _ _ (Ne.symm hne)] at hd
      obtain ⟨g1,g2,g3⟩:=eff_alive (L:=L) hv hdst hd
      simp only at g2 g3
      refine ⟨g1,by simp only;rw [upd_ne _ _ (Ne.symm hne),g2],?_⟩
      rw [g3]
      simp only [VR.bind,frzR,upd_ne _ _ hne,hl]
      rw [upd_comm _ _ _ hne]
     ·cases hf
    ·cases hf
 split at h
 ·cases hv:aeff c o ev own with
  | no=>rw [hv] at h;cases h
  | ok p0 r0=>
   rw [hv] at h
   simp only [VR.bind] at h
   injection h with e1 e2
   subst e1
   subst e2
   obtain ⟨g1,g2,g3⟩:=eff_alive (L:=L) hv hdst hd
   exact ⟨g1,g2,by rw [g3];rfl⟩
 ·obtain ⟨g1,g2,g3⟩:=eff_alive (L:=L) h hdst hd
  exact ⟨g1,g2,g3⟩
theorem swap1 {c:Cfg} {ops:List Oper} {x y:Oper} {σ:St} {K:St→Prop} (hm:mayB c ops x y=true) (h:run1 c ops x σ (fun σ'=>run1 c ops y σ' K)) :
  run1 c ops y σ (fun σ'=>run1 c ops x σ' K):=by
 unfold mayB at hm
 simp only [Bool.and_eq_true,Bool.or_eq_true,Bool.not_eq_true'] at hm
 obtain ⟨hm,hap⟩:=hm
 obtain ⟨h1,h2⟩:=apart_spec hap
 obtain ⟨s,ow⟩:=σ
 obtain ⟨vx,ox,hx1,hxe,hx2,hx3,hx4,hx5⟩:=gen_fn h
 obtain ⟨vy,oy,hy1,hye,hy2,hy3,hy4,hy5⟩:=gen_fn hx1
 have ry:∀ (o':Nat→Loc),∀ t∈readsOf ops y,(⟨s,o'⟩:St).slots t=(⟨(St.put ⟨s,ow⟩ x.dst vx).slots,ox⟩:St).slots t:=fun o' t ht=>(St.put_slots ⟨s,ow⟩ _ _ _ (fun e=>(h1 t e).1 ht)).symm
 have rx:∀ (o':Nat→Loc) (v:AV),∀ t∈readsOf ops x,(⟨(St.put ⟨s,ow⟩ y.dst v).slots,o'⟩:St).slots t=(⟨s,ow⟩:St).slots t:=fun o' v t ht=>St.put_slots ⟨s,ow⟩ _ _ _ (fun e=>h2 t e ht)
 have hcomm:=fun o1 o2=>St.put_comm' s o1 o2 x.dst y.dst vx vy (fun t e=>(h1 t e).2)
 rcases hm with (((((((⟨e1,e2⟩|hfx)|hfy)|⟨hax,hay⟩)|⟨hay,hex⟩)|⟨hnx,hly⟩)|⟨hny,hlx⟩)|⟨⟨hay,hex⟩,hdpx⟩)|ht2
 ·have e3:=hxe e1
  have e4:=hye e2
  simp only at e3 e4
  subst e3
  subst e4
  refine hy2 ⟨s,_⟩ _ rfl (ry _) (hx2 _ _ rfl (rx _ vy) ?_)
  show K ⟨_,_⟩
  rw [← hcomm]
  exact hy1
 ·-- x is free
  have e3:ox=ow:=hxe (by unfold freeB at hfx;simp only [Bool.and_eq_true,Bool.not_eq_true'] at hfx;exact hfx.1)
  subst e3
  refine hy2 ⟨s,_⟩ _ rfl (ry _) (hx3 hfx _ _ (rx oy vy) ?_)
  show K ⟨_,oy⟩
  rw [put_sl (St.put ⟨s,_⟩ y.dst vy).slots oy ox x.dst vx,← hcomm]
  exact hy1
 ·have e4:oy=ox:=hye (by unfold freeB at hfy;simp only [Bool.and_eq_true,Bool.not_eq_true'] at hfy;exact hfy.1)
  subst e4
  refine hy3 hfy ⟨s,ow⟩ _ (ry ow) (hx2 _ _ rfl (rx ow vy) ?_)
  show K ⟨_,_⟩
  rw [put_sl (St.put ⟨s,ow⟩ y.dst vy).slots ow oy x.dst vx,← hcomm]
  exact hy1
 ·-- both make a new box
  obtain ⟨tx,dx,x1,x2,x3⟩:=allocB_spec hax
  obtain ⟨ty,dy,y1,y2,y3⟩:=allocB_spec hay
  have hne:dx≠dy:=fun e=>(h1 dx x2).2 (by rw [y2,e])
  rw [run_alloc x1 x2 x3] at h
  obtain ⟨ix,hix,hdx,h⟩:=h
  rw [run_alloc y1 y2 y3] at h
  obtain ⟨iy,hiy,hdy,h⟩:=h
  rw [run_alloc y1 y2 y3]
  simp only [upd_ne _ _ (Ne.symm hne)] at h hdy
  refine ⟨iy,hiy,hdy,?_⟩
  rw [run_alloc x1 x2 x3]
  refine ⟨ix,hix,by simp only [upd_ne _ _ hne];exact hdx,?_⟩
  simp only [upd_ne _ _ hne] at h ⊢
  rw [upd_comm _ _ _ hne,upd_comm _ _ _ hne] at h
  exact h
 ·-- a new box at a dead place,and one that only looks
  obtain ⟨ty,dy,y1,y2,y3,hfd⟩:=allocD_spec hay
  have hxr:dy ∉ readsOf ops x:=h2 dy y2
  have hxd:x.dst≠some dy:=fun e=>(h1 dy e).2 y2
  have e3:=hxe hex
  simp only at e3
  subst e3
  have hs:=h
  rw [run_alloc y1 y2 y3]
  have hy1':=hx1
  rw [run_alloc y1 y2 y3] at hy1'
  obtain ⟨iy,hiy,hdy,hK⟩:=hy1'
  simp only at hdy hK
  refine ⟨iy,hiy,hdy,?_⟩
  have hdead:(ox dy).obj=.dead:=by rw [hfd] at hdy;exact deadIf_true hdy
  obtain ⟨wd,hwd,hw⟩:=guard_ok h
  refine guard_mk (wd:=wd) ?_ (hw.imp id ?_)
  ·cases wd with
   | true=>
    refine aop_alive (σ:=⟨s,ox⟩) hex hdead (fun z hz e=>hxr ?_) ?_ hxd
    ·unfold readsOf
     refine List.mem_append.2 (.inl (List.mem_filterMap.2 ⟨z,Array.mem_toList_iff.2 hz,?_⟩))
     rw [e]
    ·have hwd:aop c x ⟨s,ox⟩ _:=hwd
     refine aop_own hex (fun σ' ho hr=>?_) hwd
     rw [run_alloc y1 y2 y3] at hr
     obtain ⟨iy',hiy',_,hK'⟩:=hr
     have:iy'=iy:=Option.some.inj (hiy'.symm.trans hiy)
     subst this
     have ho:σ'.own=ox:=ho
     rw [ho] at hK' ⊢
     exact hK'
   | false=>
    have hwd:run1 c ops y (St.put ⟨s,ox⟩ x.dst (.tup [])) K:=hwd
    rw [run_alloc y1 y2 y3] at hwd
    obtain ⟨iy',hiy',_,hK'⟩:=hwd
    have:iy'=iy:=Option.some.inj (hiy'.symm.trans hiy)
    subst this
    show K (St.put _ _ _)
    have:∀ (x':Option Nat),x'≠some dy→(St.put ⟨upd s dy (.one (.ptr dy ((ox dy).ver + 1) 0 0)),upd ox dy ⟨(ox dy).ver + 1,.box ty (iy'.zero.map ZK.c)⟩⟩ x' (.tup []))=⟨upd (St.put ⟨s,ox⟩ x' (.tup [])).slots dy (.one (.ptr dy ((ox dy).ver + 1) 0 0)),upd ox dy ⟨(ox dy).ver + 1,.box ty (iy'.zero.map ZK.c)⟩⟩:=fun x' hx'=>by
     cases x' with
     | none=>rfl
     | some e=>
      have hne:e≠dy:=fun e'=>hx' (by rw [e'])
      simp only [St.put]
      rw [upd_comm _ _ _ hne]
    rw [this _ hxd]
    rw [St.put_own] at hK'
    exact hK'
  ·rintro ⟨j,want,oj,e,b,g1,g2,g3,g4,g5⟩
   refine ⟨j,want,oj,e,b,g1,g2,g3,?_,g5⟩
   have hne:e≠dy:=fun e'=>hxr (by unfold readsOf;rw [g1];simp [g2,g3,e'])
   simp only [upd_ne _ _ hne]
   exact g4
 ·-- x makes a new thing,y looks elsewhere
  have e4:oy=ox:=hye (by unfold lookB at hly;simp only [Bool.and_eq_true,Bool.not_eq_true'] at hly;exact hly.1.1)
  subst e4
  refine hy4 hly ⟨s,ow⟩ _ (ry ow) (fun l hl=>(hx5 hnx l hl).symm) (hx2 _ _ rfl (rx ow vy) ?_)
  show K ⟨_,_⟩
  rw [put_sl (St.put ⟨s,_⟩ y.dst vy).slots ow oy x.dst vx,← hcomm]
  exact hy1
 ·-- y makes a new thing,x looks elsewhere
  have e3:ox=ow:=hxe (by unfold lookB at hlx;simp only [Bool.and_eq_true,Bool.not_eq_true'] at hlx;exact hlx.1.1)
  subst e3
  refine hy2 ⟨s,_⟩ _ rfl (ry _) (hx4 hlx _ _ (rx oy vy) (fun l hl=>hy5 hny l hl) ?_)
  show K ⟨_,oy⟩
  rw [put_sl (St.put ⟨s,_⟩ y.dst vy).slots oy ox x.dst vx,← hcomm]
  exact hy1
 ·-- x writes,y makes a new box at a dead place
  obtain ⟨ty,dy,y1,y2,y3,hfd⟩:=allocD_spec hay
  have hxr:dy ∉ readsOf ops x:=h2 dy y2
  have hxd:x.dst≠some dy:=fun e=>(h1 dy e).2 y2
  have hev:∀ z∈x.op.operands,∀ (v:AV),evA (upd s dy v) z=evA s z:=fun z hz v=>evA_congr fun t e=>upd_ne _ _ fun e'=>hxr (by
   subst e'
   unfold readsOf
   exact List.mem_append.2 (.inl (List.mem_filterMap.2 ⟨z,Array.mem_toList_iff.2 hz,by rw [e]⟩)))
  have comm:∀ (e:Option Nat) (u v:AV) (o1 o2:Nat→Loc),e≠some dy→(St.put ⟨upd s dy v,o1⟩ e u).slots=upd (St.put ⟨s,o2⟩ e u).slots dy v:=fun e u v o1 o2 he=>by
   cases e with
   | none=>rfl
   | some e=>
    have hne:e≠dy:=fun e'=>he (by rw [e'])
    simp only [St.put]
    rw [upd_comm _ _ _ hne]
  obtain ⟨wd,hwd,hw⟩:=guard_ok h
  have hg:∀ v,(x.guard=none∧wd=true)∨∃ j want oj e b,x.guard=some (j,want)∧ops[j]?=some oj∧oj.dst=some e∧upd s dy v e=b∧WantV b want wd:=fun v=>hw.imp id (by
   rintro ⟨j,want,oj,e,b,g1,g2,g3,g4,g5⟩
   refine ⟨j,want,oj,e,b,g1,g2,g3,?_,g5⟩
   have hne:e≠dy:=fun e'=>hxr (by unfold readsOf;rw [g1];simp [g2,g3,e'])
   rw [upd_ne _ _ hne]
   exact g4)
  rw [run_alloc y1 y2 y3]
  cases wd with
  | false=>
   have hwd:run1 c ops y (St.put ⟨s,ow⟩ x.dst (.tup [])) K:=hwd
   rw [run_alloc y1 y2 y3] at hwd
   obtain ⟨iy,hiy,hdy,hK⟩:=hwd
   rw [St.put_own] at hdy hK
   refine ⟨iy,hiy,hdy,guard_mk (wd:=false) ?_ (hg _)⟩
   show K (St.put _ _ _)
   have e:=comm x.dst (.tup []) (.one (.ptr dy ((ow dy).ver + 1) 0 0)) (upd ow dy ⟨(ow dy).ver + 1,.box ty (iy.zero.map ZK.c)⟩) ow hxd
   have e2:St.put ⟨upd s dy (.one (.ptr dy ((ow dy).ver + 1) 0 0)),upd ow dy ⟨(ow dy).ver + 1,.box ty (iy.zero.map ZK.c)⟩⟩ x.dst (.tup [])=⟨upd (St.put ⟨s,ow⟩ x.dst (.tup [])).slots dy (.one (.ptr dy ((ow dy).ver + 1) 0 0)),upd ow dy ⟨(ow dy).ver + 1,.box ty (iy.zero.map ZK.c)⟩⟩:=by
    rw [← e]
    cases x.dst <;> rfl
   rw [e2]
   exact hK
  | true=>
   have hwd:aop c x ⟨s,ow⟩ (fun σ'=>run1 c ops y σ' K):=hwd
   unfold aop at hwd
   rw [hex] at hwd
   simp only at hwd
   cases hv:aeffS c x (evA s) ow with
   | no=>rw [hv] at hwd;exact hwd.elim
   | ok p r=>
    rw [hv] at hwd
    obtain ⟨hp,hr⟩:=hwd
    rw [run_alloc y1 y2 y3] at hr
    obtain ⟨iy,hiy,hdy,hK⟩:=hr
    simp only at hdy hK
    rw [hfd] at hdy
    obtain ⟨hdead,hsame,hal⟩:=effS_alive (L:=⟨(ow dy).ver + 1,.box ty (iy.zero.map ZK.c)⟩) hv hp hdpx hfd hxd (deadIf_true hdy)
    refine ⟨iy,hiy,deadIf_of hdead,guard_mk (wd:=true) ?_ (hg _)⟩
    show aop c x _ K
    unfold aop
    rw [hex]
    simp only
    rw [aeffS_congr c x _ (fun z hz=>hev z hz _),hal]
    refine ⟨hp,?_⟩
    simp only
    rw [hsame] at hK
    have e:=comm x.dst r.1 (.one (.ptr dy ((ow dy).ver + 1) 0 0)) (upd ow dy ⟨(ow dy).ver + 1,.box ty (iy.zero.map ZK.c)⟩) ow hxd
    rw [e]
    exact hK
 ·-- two tails
  unfold tail2 at ht2
  split at ht2
  ·rename_i dx dy hdx hdy
   simp only [Bool.and_eq_true] at ht2
   obtain ⟨⟨tx,ty⟩,hall⟩:=ht2
   rw [tail_run tx] at h
   cases hv:aeff c x (evA s) ow with
   | no=>simp only [hv] at h;exact h.elim
   | ok p r=>
    simp only [hv] at h
    obtain ⟨hp,hk⟩:=h
    rw [tail_run ty] at hk
    have hevy:∀ z∈y.op.operands,evA (St.put ⟨s,ow⟩ x.dst r.1).slots z=evA s z:=fun z hz=>evA_congr fun t e=>St.put_slots ⟨s,ow⟩ _ _ _ (fun e'=>(h1 t e').1 (by
     unfold readsOf
     exact List.mem_append.2 (.inl (List.mem_filterMap.2 ⟨z,Array.mem_toList_iff.2 hz,by rw [e]⟩))))
    simp only at hk
    rw [aeff_congr c y r.2 hevy] at hk
    cases hw:aeff c y (evA s) r.2 with
    | no=>rw [hw] at hk;exact hk.elim
    | ok p' r'=>
     rw [hw] at hk
     obtain ⟨hp',hK⟩:=hk
     obtain ⟨l,v,ob,g1,g2,g3⟩:=tail_spec tx hdx hv hp
     obtain ⟨l',v',ob',k1,k2,k3⟩:=tail_spec ty hdy hw hp'
     have hne:l≠l':=fun e=>by
      subst e
      have hlt:l < 1024:=by
       unfold tailF at g2
       rw [Bool.and_eq_true] at g2
       exact Nat.le_of_ble_eq_true g2.1
      have:=List.all_eq_true.1 hall l (List.mem_range.2 hlt)
      rw [g2,k2] at this
      cases this
     have hy0:=k3 ow (by rw [g1,upd_ne _ _ (Ne.symm hne)])
     rw [tail_run ty]
     simp only [hy0]
     refine ⟨hp',?_⟩
     show run1 c ops x ⟨(St.put ⟨s,ow⟩ y.dst r'.1).slots,upd ow l' ⟨v',ob'⟩⟩ K
     rw [tail_run tx]
     have hevx:∀ z∈x.op.operands,evA (St.put ⟨s,ow⟩ y.dst r'.1).slots z=evA s z:=fun z hz=>evA_congr fun t e=>St.put_slots ⟨s,ow⟩ _ _ _ (fun e'=>h2 t e' (by
      unfold readsOf
      exact List.mem_append.2 (.inl (List.mem_filterMap.2 ⟨z,Array.mem_toList_iff.2 hz,by rw [e]⟩))))
     simp only
     rw [aeff_congr c x _ hevx,g3 (upd ow l' ⟨v',ob'⟩) (upd_ne _ _ hne)]
     refine ⟨hp,?_⟩
     have e1:(St.put ⟨(St.put ⟨s,ow⟩ x.dst r.1).slots,r.2⟩ y.dst r'.1).slots=(St.put ⟨(St.put ⟨s,ow⟩ y.dst r'.1).slots,upd ow l' ⟨v',ob'⟩⟩ x.dst r.1).slots:=by
      rw [St.put_comm' s ow r.2 x.dst y.dst r.1 r'.1 (fun t e=>(h1 t e).2)]
      exact put_sl _ _ _ _ _
     have e2:r'.2=upd (upd ow l' ⟨v',ob'⟩) l ⟨v,ob⟩:=by rw [k1,g1,upd_comm _ _ _ hne]
     rw [e1,e2] at hK
     exact hK
  ·cases ht2
theorem front {c:Cfg} {ops:List Oper} {y:Oper}:∀ (pre post:List Oper) (σ:St) (K:St→Prop),(∀ x∈pre,mayB c ops x y=true) →
  arun c ops (pre ++ y :: post) σ K→run1 c ops y σ (fun σ'=>arun c ops (pre ++ post) σ' K)
 | [],post,σ,K,_,h=>h
 | x :: pre,post,σ,K,hp,h=>by
  rw [List.cons_append,arun_cons] at h
  have h':run1 c ops x σ (fun σ'=>run1 c ops y σ' fun σ''=>arun c ops (pre ++ post) σ'' K):=by
   obtain ⟨v,ow,k1,_,k2,_⟩:=gen_fn h
   exact k2 σ _ rfl (fun _ _=>rfl) (front pre post _ K (fun z hz=>hp z (by simp [hz])) k1)
  exact swap1 (hp x (by simp)) h'
def depB (M:Array Nat) (i j:Nat):Bool:=(M.getD i 0).testBit j
def consB (M:Array Nat) (ops:Array Oper):Bool:=
 (List.range ops.size).all fun i=>(List.range ops.size).all fun j=>!depB M i j || match ops[i]? with
  | some o=>o.after.any fun e=>Region.binds .any e && decide (e.on < i) && (e.on == j || depB M e.on j)
  | none=>false
def edgesB (ops:Array Oper):Bool:=
 (List.range ops.size).all fun i=>match ops[i]? with|some o=>o.after.all fun e=>!Region.binds .any e || decide (e.on < i)|none=>true
def orderB (c:Cfg) (M:Array Nat) (ops:Array Oper):Bool:=
 (List.range ops.size).all fun i=>(List.range i).all fun j=>depB M i j || match ops[i]?,ops[j]? with
  | some oi,some oj=>mayB c ops.toList oj oi
  | _,_=>true
def drawB (c:Cfg) (ops:Array Oper):Bool:=let M:=Region.before ops;consB M ops && edgesB ops && orderB c M ops
section
variable {P : Program} {c : Cfg} {w0 : World} {N F0 : Nat → Prop} {ρ0 : Nat → Value} {own0 : Nat → Loc} {n : Nat}
def Closed (ops:Array Oper) (listed:Array Bool):Prop:=∀ (i:Nat) o,ops[i]?=some o→listed.getD i false=true→∀ e∈o.after,Region.binds .any e=true→listed.getD e.on false=true
theorem dep_listed {M:Array Nat} {ops:Array Oper} (hc:consB M ops=true) {listed:Array Bool} (hcl:Closed ops listed):∀ (i j:Nat) (o:Oper),ops[i]?=some o→j < ops.size→depB M i j=true→(∀ e∈o.after,Region.binds .any e=true→listed.getD e.on false=true)→listed.getD j false=true:=by
 intro i
 induction i using Nat.strongRecOn with
 | _ i ih=>
  intro j o ho hj hd hall
  have hlt:i < ops.size:=(Array.getElem?_eq_some_iff.1 ho).1
  have h1:=List.all_eq_true.1 (List.all_eq_true.1 hc i (List.mem_range.2 hlt)) j (List.mem_range.2 hj)
  rw [hd,ho] at h1
  simp only [Bool.not_true,Bool.false_or] at h1
  obtain ⟨e,he,h2⟩:=Array.any_eq_true'.1 h1
  simp only [Bool.and_eq_true,Bool.or_eq_true,decide_eq_true_eq,beq_iff_eq] at h2
  obtain ⟨⟨hb,hlt'⟩,h3⟩:=h2
  have hl:=hall e he hb
  rcases h3 with h3|h3
  ·rw [← h3];exact hl
  ·have hel:e.on < ops.size:=by omega
   have hoe:ops[e.on]?=some ops[e.on]:=by simp [hel]
   exact ih e.on hlt' j _ hoe hj h3 (hcl e.on _ hoe hl)
def pendI (ops:Array Oper) (listed:Array Bool):List Nat:=(List.range ops.size).filter fun i=>!listed.getD i false
def pend (ops:Array Oper) (listed:Array Bool):List Oper:=(pendI ops listed).filterMap fun i=>ops[i]?
theorem wpAny_run {ops:Array Oper} (hN:∀ b,w0.heap.size≤b→N b) (hd:∀ (i:Nat) o d,ops[i]?=some o→o.dst=some d→d < n) (hB:drawB c ops=true) {K:St→Prop} {Q:Exit→Act→World→Prop} (hK:∀ σ' a' w',K σ'→Good P c w0 N F0 ρ0 own0 n σ' a' w'→Q .normal a' w') :
  ∀ (fuel:Nat) (listed:Array Bool) (σ:St) (a:Act) (w:World),listed.size=ops.size→(pendI ops listed).length≤fuel→Closed ops listed→Good P c w0 N F0 ρ0 own0 n σ a w→arun c ops.toList (pend ops listed) σ K→wpAny P .any ops Q fuel listed a w:=by
 unfold drawB at hB
 simp only [Bool.and_eq_true] at hB
 obtain ⟨⟨hcons,hedge⟩,hord⟩:=hB
 have hnone:∀ listed:Array Bool,listed.size=ops.size→Region.ready .any ops listed=[]→pendI ops listed=[]:=by
  intro listed hs hr
  rcases hp:pendI ops listed with _|⟨i,r⟩
  ·rfl
  ·exfalso
   have hsorted:(pendI ops listed).Pairwise (· < ·):=List.Pairwise.filter _ List.pairwise_lt_range
   have hi:i∈pendI ops listed:=by rw [hp];simp
   unfold pendI at hi
   obtain ⟨hi1,hi2⟩:=List.mem_filter.1 hi
   have hlt:=List.mem_range.1 hi1
   have hun:listed.getD i false=false:=by simpa using hi2
   have:i∈Region.ready .any ops listed:=by
    refine mem_ready.2 ⟨by simp [hs,hlt] at hun ⊢;exact hun,ops[i],by simp [hlt],fun e he hb=>?_⟩
    have h1:=List.all_eq_true.1 hedge i hi1
    have ho:ops[i]?=some ops[i]:=by simp [hlt]
    rw [ho] at h1
    have h2:=Array.all_eq_true_iff_forall_mem.1 h1 e he
    rw [hb] at h2
    simp only [Bool.not_true,Bool.false_or,decide_eq_true_eq] at h2
    cases hl:listed.getD e.on false with
    | true=>rfl
    | false=>
     exfalso
     have hin:e.on∈pendI ops listed:=List.mem_filter.2 ⟨List.mem_range.2 (by omega),by rw [hl];rfl⟩
     rw [hp] at hin hsorted
     rcases List.mem_cons.1 hin with h|h
     ·omega
     ·have:=(List.pairwise_cons.1 hsorted).1 _ h
      omega
   rw [hr] at this
   cases this
 intro fuel
 induction fuel with
 | zero=>
  intro listed σ a w hs hf hcl hg h
  have hp:pendI ops listed=[]:=List.eq_nil_of_length_eq_zero (by omega)
  refine ⟨?_,?_⟩
  ·cases hr:Region.ready .any ops listed with
   | nil=>rfl
   | cons i r=>
    exfalso
    have hi:i∈Region.ready .any ops listed:=by rw [hr];simp
    obtain ⟨h0,o,ho,_⟩:=mem_ready.1 hi
    have hlt:=(Array.getElem?_eq_some_iff.1 ho).1
    have:i∈pendI ops listed:=List.mem_filter.2 ⟨List.mem_range.2 hlt,by simp [hs,hlt] at h0 ⊢;exact h0⟩
    rw [hp] at this
    cases this
  ·unfold pend at h
   rw [hp] at h
   exact hK σ a w h hg
 | succ fuel ih=>
  intro listed σ a w hs hf hcl hg h
  refine ⟨fun hr=>?_,fun i hi=>?_⟩
  ·unfold pend at h
   rw [hnone listed hs hr] at h
   exact hK σ a w h hg
  ·obtain ⟨h0,o,ho,hall⟩:=mem_ready.1 hi
   have hlt:=(Array.getElem?_eq_some_iff.1 ho).1
   have hun:listed.getD i false=false:=by simp [hs,hlt] at h0 ⊢;exact h0
   have hsorted:(pendI ops listed).Pairwise (· < ·):=List.Pairwise.filter _ List.pairwise_lt_range
   have hin:i∈pendI ops listed:=List.mem_filter.2 ⟨List.mem_range.2 hlt,by rw [hun];rfl⟩
   obtain ⟨pre,post,hsplit⟩:=List.append_of_mem hin
   rw [hsplit] at hsorted
   have hpre:∀ j∈pre,j < i∧listed.getD j false=false:=fun j hj=>by
    refine ⟨(List.pairwise_append.1 hsorted).2.2 j hj i (by simp),?_⟩
    have:j∈pendI ops listed:=by rw [hsplit];simp [hj]
    simpa using (List.mem_filter.1 this).2
   have hpost:∀ j∈post,i < j:=fun j hj=>(List.pairwise_cons.1 (List.pairwise_append.1 hsorted).2.1).1 j hj
   have hp:pend ops listed=(pre.filterMap fun i=>ops[i]?) ++ o :: (post.filterMap fun i=>ops[i]?):=by
    unfold pend
    rw [hsplit,List.filterMap_append,List.filterMap_cons,ho]
   have hset:pendI ops (listed.setIfInBounds i true)=pre ++ post:=by
    have hnin:i ∉ pre ++ post:=fun hm=>by
     rcases List.mem_append.1 hm with h|h
     ·have:=(hpre i h).1;omega
     ·have:=hpost i h;omega
    have:pendI ops (listed.setIfInBounds i true)=(pendI ops listed).filter (fun j=>!(j == i)):=by
     unfold pendI
     rw [List.filter_filter]
     apply List.filter_congr
     intro j hj
     by_cases hji:j=i
     ·subst hji
      simp [hs,hlt]
     ·rw [getD_set_ne false (Ne.symm hji)]
      simp [hji]
    rw [this,hsplit,List.filter_append,List.filter_cons_of_neg (by simp)]
    have hall':∀ j∈pre ++ post,(!(j == i))=true:=fun j hj=>by
     simp;rintro rfl;exact hnin hj
    rw [List.filter_eq_self.2 fun j hj=>hall' j (by simp [hj]),List.filter_eq_self.2 fun j hj=>hall' j (by simp [hj])]
   have hrun:run1 c ops.toList o σ (fun σ'=>arun c ops.toList (pend ops (listed.setIfInBounds i true)) σ' K):=by
    have hp2:pend ops (listed.setIfInBounds i true)=(pre.filterMap fun i=>ops[i]?) ++ (post.filterMap fun i=>ops[i]?):=by
     unfold pend;rw [hset,List.filterMap_append]
    rw [hp2]
    rw [hp] at h
    refine front _ _ σ K (fun x hx=>?_) h
    obtain ⟨j,hj,hoj⟩:=List.mem_filterMap.1 hx
    obtain ⟨hji,hjun⟩:=hpre j hj
    have h1:=List.all_eq_true.1 (List.all_eq_true.1 hord i (List.mem_range.2 hlt)) j (List.mem_range.2 hji)
    simp only [Bool.or_eq_true] at h1
    rcases h1 with h1|h1
    ·have:=dep_listed hcons hcl i j o ho (by omega) h1 hall
     rw [hjun] at this;cases this
    ·rw [ho,hoj] at h1
     exact h1
   refine step1 ho hN (fun d hdd=>hd i o d ho hdd) hg hrun fun σ' a' w' h1 h2=>?_
   refine ih _ σ' a' w' (by simp [hs]) ?_ ?_ h2 h1
   ·have hl:(pendI ops listed).length=pre.length + (post.length + 1):=by rw [hsplit];simp
    rw [hset,List.length_append];omega
   ·intro j oj hoj hl e he hb
    by_cases hji:i=j
    ·subst hji
     have:oj=o:=Option.some.inj (hoj.symm.trans ho)
     subst this
     exact getD_set_true (hall e he hb)
    ·rw [getD_set_ne false hji] at hl
     exact getD_set_true (hcl j oj hoj hl e he hb)
theorem fm_range {ops:Array Oper}:∀ (m s:Nat),s + m=ops.size→(List.range' s m).filterMap (fun i=>ops[i]?)=ops.toList.drop s
 | 0,s,h=>by
  rw [List.drop_eq_nil_of_le (by simp;omega)]
  rfl
 | m + 1,s,h=>by
  have hlt:s < ops.size:=by omega
  rw [List.range'_succ,List.drop_eq_getElem_cons (by simpa using hlt),List.filterMap_cons]
  have:ops[s]?=some ops[s]:=by simp [hlt]
  rw [this,fm_range m (s + 1) (by omega)]
  simp
theorem wp_region_run {id:Nat} {ops:Array Oper} {draw:Bool} (hm:P.follows .mixedOrders=true) (hN:∀ b,w0.heap.size≤b→N b) (hd:∀ (i:Nat) o d,ops[i]?=some o→o.dst=some d→d < n) (hB:draw=true→drawB c ops=true)
  {K:St→Prop} {Q:Exit→Act→World→Prop} (hK:∀ σ' a' w',K σ'→Good P c w0 N F0 ρ0 own0 n σ' a' w'→Q .normal a' w') {σ:St} {a:Act} {w:World} (hg:Good P c w0 N F0 ρ0 own0 n σ a w) (h:arun c ops.toList ops.toList σ K) :
  (Code.region id ops draw).wp P Q a w:=by
 cases draw with
 | false=>
  refine wp_region ?_
  rw [List.range_eq_range']
  exact wp_text hN hd hK ops.size 0 σ a w (by omega) hg h
 | true=>
  refine wp_region_any hm ?_
  have hp0:pendI ops (Array.replicate ops.size false)=List.range ops.size:=by
   unfold pendI
   apply List.filter_eq_self.2
   intro i hi
   have:=List.mem_range.1 hi
   simp [this]
  refine wpAny_run hN hd (hB rfl) hK ops.size _ σ a _ (by simp) (by rw [hp0];simp) (fun i o ho hl e he hb=>?_) hg.drew ?_
  ·exfalso
   have hlt:=(Array.getElem?_eq_some_iff.1 ho).1
   simp [hlt] at hl
  ·have:pend ops (Array.replicate ops.size false)=ops.toList:=by
    unfold pend
    rw [hp0]
    rw [List.range_eq_range',fm_range ops.size 0 (by omega),List.drop_zero]
   rw [this]
   exact h
end
def opsB (c:Cfg) (n:Nat) (ops:Array Oper) (draw:Bool):Bool:=ops.all (fun o=>match o.dst with|some d=>decide (d < n)|none=>true) && (!draw || drawB c ops)
def codeB (c:Cfg) (n:Nat):Code→Bool
 | .region _ ops draw=>opsB c n ops draw
 | .seq x y=>codeB c n x && codeB c n y
 | .cond _ x y=>codeB c n x && codeB c n y
 | .block _ x=>codeB c n x
 | .loop x=>codeB c n x
 | _=>true
section
variable {P : Program} {c : Cfg} {w0 : World} {N F0 : Nat → Prop} {ρ0 : Nat → Value} {own0 : Nat → Loc} {n : Nat}
theorem opsB_dst {ops:Array Oper} {draw:Bool} (h:opsB c n ops draw=true):∀ (i:Nat) o d,ops[i]?=some o→o.dst=some d→d < n:=by
 intro i o d hi hd
 unfold opsB at h
 simp only [Bool.and_eq_true] at h
 obtain ⟨hlt,he⟩:=Array.getElem?_eq_some_iff.1 hi
 have:=Array.all_eq_true.1 h.1 i hlt
 rw [he,hd] at this
 simpa using this
theorem Good.wk {σ σ':St} {a:Act} {w:World} (hk:Wk c σ σ') (h:Good P c w0 N F0 ρ0 own0 n σ a w):Good P c w0 N F0 ρ0 own0 n σ' a w:=by
 obtain ⟨F,ρ,H,hx,h1,h2,h3,h4,h5⟩:=h
 obtain ⟨F',g1,g2,g3⟩:=Here.wk hk H
 exact ⟨F',ρ,g1,hx.trans (ext_sub g2),h1,fun b hb=>(g3 b hb).elim (h2 b) .inr,h3,h4,fun l=>by rw [(hk.choose_spec.2 l).1];exact h5 l⟩
theorem Good.tl {σ σ':St} {a:Act} {w:World} (hk:Tl σ σ') (h:Good P c w0 N F0 ρ0 own0 n σ a w):Good P c w0 N F0 ρ0 own0 n σ' a w:=by
 obtain ⟨F,ρ,H,hx,h1,h2,h3,h4,h5⟩:=h
 refine ⟨F,ρ,Here.tl hk H,hx,h1,h2,h3,h4,fun l=>?_⟩
 obtain ⟨l',ty,k,xs,hne,hl,rfl⟩:=hk
 have e:(upd σ.own l' ⟨(σ.own l').ver,.tail ty k xs⟩ l).ver=(σ.own l).ver:=by
  by_cases e:l=l'
  ·subst e;rw [upd_eq]
  ·rw [upd_ne _ _ e]
 show (own0 l).ver≤(upd σ.own l' ⟨(σ.own l').ver,.tail ty k xs⟩ l).ver∧_
 rw [e]
 exact h5 l
theorem Good.wks {σ σ':St} {a:Act} {w:World} (hk:Wks c σ σ') (h:Good P c w0 N F0 ρ0 own0 n σ a w):Good P c w0 N F0 ρ0 own0 n σ' a w:=by
 induction hk with
 | refl σ=>exact h
 | step h1 _ ih=>exact ih (h.wk h1)
 | tail h1 _ ih=>exact ih (h.tl h1)
theorem Good.mv {σ σ' : St} {a : Act} {w : World} (hk : Mv σ σ') (h : Good P c w0 N F0 ρ0 own0 n σ a w) : Good P c w0 N F0 ρ0 own0 n σ' a w := by
  rcases hk with rfl | ⟨l, l', ty, k, xs, hne, hl, hs, hl', hl0, ho⟩
  · exact h
  obtain ⟨F, ρ, H, hx, h1, h2, h3, h4, h5⟩ := h
  have hcell : ∀ x y v, MvC l (σ.own l).ver l' ((σ.own l').ver + 1) x y → CellC w F ρ σ.own x v → CellC w F (upd ρ (pl l') (ρ (pl l))) σ'.own y v := by
    intro x y v hf hc
    rcases hf with rfl | ⟨rfl, rfl⟩
    · have kind : ∀ m, m ≠ l' → ((σ'.own m).ver = (σ.own m).ver ∧ ((σ'.own m).obj = .dead ∨ ∃ R, RelO R (σ.own m).obj (σ'.own m).obj)) := fun m hm => by
        by_cases e : m = l
        · subst e; rw [hl0]; exact ⟨rfl, .inl rfl⟩
        · exact ⟨(ho m e hm).1, .inr ⟨_, (ho m e hm).2⟩⟩
      cases y with
      | d x => exact hc
      | own m ver =>
        obtain ⟨g1, g2, g3⟩ := hc
        by_cases hm : m = l'
        · subst hm
          refine ⟨g1, by rw [hl']; exact Nat.le_succ_of_le g2, ?_⟩
          rintro ⟨e, -⟩
          rw [hl'] at e
          simp only at e
          omega
        · obtain ⟨e1, e2⟩ := kind m hm
          refine ⟨g1, by rw [e1]; exact g2, ?_⟩
          rintro ⟨e, hr⟩
          rw [upd_ne _ _ (pl_ne hm)]
          rcases e2 with e2 | ⟨R, e2⟩
          · rw [e2] at hr; exact hr.elim
          · refine g3 ⟨by rw [← e1, e], ?_⟩
            generalize (σ.own m).obj = q at e2 ⊢
            generalize (σ'.own m).obj = q' at e2 hr
            cases q <;> cases q' <;> first | trivial | (cases e2; done) | exact hr.elim
      | ptr m ver i j =>
        obtain ⟨g1, g2, g3⟩ := hc
        by_cases hm : m = l'
        · subst hm
          refine ⟨g1, by rw [hl']; exact Nat.le_succ_of_le g2, fun e => ?_⟩
          rw [hl'] at e
          simp only at e
          omega
        · obtain ⟨e1, e2⟩ := kind m hm
          refine ⟨g1, by rw [e1]; exact g2, fun e => ?_⟩
          have g3 := g3 (by rw [← e1]; exact e)
          rw [upd_ne _ _ (pl_ne hm)]
          rcases e2 with e2 | ⟨R, e2⟩
          · rw [e2]; trivial
          · generalize (σ.own m).obj = q at e2 g3
            generalize (σ'.own m).obj = q' at e2
            cases q with
            | dead => have e2 : Own.dead = q' := by cases q' <;> exact e2
                      subst e2; trivial
            | box ty cs => cases q' with
              | box ty' cs' => exact g3
              | _ => cases e2
            | row ty k xs => have e2 : Own.row ty k xs = q' := by cases q' <;> exact e2
                             subst e2; exact g3
            | tail ty k xs => have e2 : Own.tail ty k xs = q' := by cases q' <;> exact e2
                              subst e2; exact g3
            | deep ty ety el xs gg =>
              have e2 : Own.deep ty ety el xs gg = q' := by cases q' <;> exact e2
              subst e2
              cases j with
              | zero => exact g3
              | succ j => simp only at g3 ⊢; rw [upd_ne _ _ (inn_pl _ _ _)]; exact g3
      | sub m ver off q =>
        obtain ⟨g1, g2, g3⟩ := hc
        by_cases hm : m = l'
        · subst hm
          refine ⟨g1, by rw [hl']; exact Nat.le_succ_of_le g2, fun e => ?_⟩
          rw [hl'] at e
          simp only at e
          omega
        · obtain ⟨e1, e2⟩ := kind m hm
          refine ⟨g1, by rw [e1]; exact g2, fun e => ?_⟩
          rw [upd_ne _ _ (pl_ne hm), upd_ne _ _ (inn_pl _ _ _)]
          rcases e2 with e2 | ⟨R, e2⟩
          · rw [e2]; exact ⟨fun _ _ _ hr => (by cases hr), fun _ _ _ _ _ _ hr => (by cases hr)⟩
          · have g3 := g3 (by rw [← e1]; exact e)
            refine ⟨fun ty k xs hr => g3.1 ty k xs ?_, fun ty ety ee xs gg x hr => g3.2 ty ety ee xs gg x ?_⟩
            · rw [hr] at e2
              generalize (σ.own m).obj = q at e2
              cases q <;> first | (cases e2; done) | exact e2
            · rw [hr] at e2
              generalize (σ.own m).obj = q at e2
              cases q <;> first | (cases e2; done) | exact e2
    · obtain ⟨g1, g2, g3⟩ := hc
      refine ⟨g1, by rw [hl']; exact Nat.le_refl _, fun _ => ?_⟩
      rw [upd_eq]
      exact g3 ⟨rfl, by rw [hl]; trivial⟩
  refine ⟨F, upd ρ (pl l') (ρ (pl l)), ⟨H.cfg, fun t => (hs t).ok (fun _ => .inl rfl) hcell (H.sl t), ⟨fun m => ?_, fun m m' b hne2 a1 a2 b1 b2 => ?_, H.mem.fin⟩⟩, hx, h1, h2, h3, h4, fun m => ?_⟩
  · by_cases hm : m = l'
    · subst hm
      rw [hl']
      have hok := H.mem.ok l
      rw [hl] at hok
      obtain ⟨vs, hw, hr, hn⟩ := hok
      exact ⟨vs, by rw [upd_eq]; exact hw, hr, fun b hb => hn b (by rw [upd_eq] at hb; exact hb)⟩
    · by_cases hm2 : m = l
      · subst hm2; rw [hl0]; trivial
      · obtain ⟨e1, e2⟩ := ho m hm2 hm
        have hok := H.mem.ok m
        generalize (σ.own m).obj = q at e2 hok
        generalize (σ'.own m).obj = q' at e2
        cases q with
        | dead => have e2 : Own.dead = q' := by cases q' <;> exact e2
                  subst e2; trivial
        | box ty cs => cases q' with
          | box ty' cs' =>
            obtain ⟨rfl, hfl⟩ := e2
            obtain ⟨b, vs, r1, r2, r3, r4⟩ := hok
            exact ⟨b, vs, by rw [upd_ne _ _ (pl_ne hm)]; exact r1, r2, hfl.cells hcell r3, r4⟩
          | _ => cases e2
        | row ty k xs =>
          have e2 : Own.row ty k xs = q' := by cases q' <;> exact e2
          subst e2
          obtain ⟨vs, hw, hr, hn⟩ := hok
          exact ⟨vs, by rw [upd_ne _ _ (pl_ne hm)]; exact hw, hr, fun b hb => hn b (by rw [upd_ne _ _ (pl_ne hm)] at hb; exact hb)⟩
        | tail ty k xs =>
          have e2 : Own.tail ty k xs = q' := by cases q' <;> exact e2
          subst e2
          obtain ⟨vs, hw, hr, hn⟩ := hok
          exact ⟨vs, by rw [upd_ne _ _ (pl_ne hm)]; exact hw, hr, fun b hb => hn b (by rw [upd_ne _ _ (pl_ne hm)] at hb; exact hb)⟩
        | deep ty ety el xs gg =>
          have e2 : Own.deep ty ety el xs gg = q' := by cases q' <;> exact e2
          subst e2
          obtain ⟨vs, hw, h1, hn, hin⟩ := hok
          have hi : ∀ i, upd ρ (pl l') (ρ (pl l)) (inn m i) = ρ (inn m i) := fun i => upd_ne _ _ (inn_pl _ _ _)
          have hp : upd ρ (pl l') (ρ (pl l)) (pl m) = ρ (pl m) := upd_ne _ _ (pl_ne hm)
          refine ⟨vs, by rw [hp]; exact hw, h1, fun b hb => hn b (by rw [hp] at hb; exact hb), fun i x hx => ?_⟩
          have := hin i x hx
          simp only [hi, hp]
          exact this
  · -- what lived where
    have src : ∀ m, (σ'.own m).obj.live = true → ∃ m0, (σ.own m0).obj.live = true ∧ upd ρ (pl l') (ρ (pl l)) (pl m) = ρ (pl m0) ∧ ((m = l' ∧ m0 = l) ∨ (m ≠ l' ∧ m ≠ l ∧ m0 = m)) := fun m h => by
      by_cases hm : m = l'
      · subst hm; exact ⟨l, by rw [hl]; rfl, upd_eq _ _ _, .inl ⟨rfl, rfl⟩⟩
      · by_cases hm2 : m = l
        · subst hm2; rw [hl0] at h; cases h
        · refine ⟨m, ?_, upd_ne _ _ (pl_ne hm), .inr ⟨hm, hm2, rfl⟩⟩
          obtain ⟨e1, e2⟩ := ho m hm2 hm
          generalize (σ.own m).obj = q at e2
          generalize (σ'.own m).obj = q' at e2 h
          cases q with
          | dead => have e2 : Own.dead = q' := by cases q' <;> exact e2
                    subst e2; exact h
          | _ => rfl
    have hol : ∀ m m0, (σ'.own m).obj.live = true → upd ρ (pl l') (ρ (pl l)) (pl m) = ρ (pl m0) → ((m = l' ∧ m0 = l) ∨ (m ≠ l' ∧ m ≠ l ∧ m0 = m)) →
        holds (upd ρ (pl l') (ρ (pl l))) m (σ'.own m).obj b → holds ρ m0 (σ.own m0).obj b := by
      intro m m0 hlv c2 c3 b1
      rcases c3 with ⟨q1, q2⟩ | ⟨q1, q2, q3⟩
      · subst q1 q2
        rw [hl'] at b1
        have b1 : blk (upd ρ (pl m) (ρ (pl m0)) (pl m)) = some b := b1
        rw [c2] at b1
        exact holds_of b1
      · subst q3
        obtain ⟨e1, e2⟩ := ho m0 q2 q1
        have b1 := holds_step c2 (fun i => upd_ne _ _ (inn_pl _ _ _)) b1
        generalize (σ.own m0).obj = q at e2 ⊢
        generalize (σ'.own m0).obj = q' at e2 b1 hlv
        cases q with
        | box ty cs => cases q' with
          | box ty' cs' => exact b1
          | _ => cases e2
        | dead => have e2 : Own.dead = q' := by cases q' <;> exact e2
                  subst e2; exact b1
        | row ty k xs => have e2 : Own.row ty k xs = q' := by cases q' <;> exact e2
                         subst e2; exact b1
        | tail ty k xs => have e2 : Own.tail ty k xs = q' := by cases q' <;> exact e2
                          subst e2; exact b1
        | deep ty ety el xs gg => have e2 : Own.deep ty ety el xs gg = q' := by cases q' <;> exact e2
                                  subst e2; exact b1
    obtain ⟨m0, c1, c2, c3⟩ := src m a1
    obtain ⟨m1, d1, d2, d3⟩ := src m' a2
    have b1 := hol m m0 a1 c2 c3 b1
    have b2 := hol m' m1 a2 d2 d3 b2
    refine H.mem.apart m0 m1 b (fun e => ?_) c1 d1 b1 b2
    rcases c3 with ⟨c3, c4⟩ | ⟨c3, c4, c5⟩ <;> rcases d3 with ⟨d3, d4⟩ | ⟨d3, d4, d5⟩
    · exact hne2 (by rw [c3, d3])
    · exact d4 (by rw [← d5, ← e, c4])
    · exact c4 (by rw [← c5, e, d4])
    · exact hne2 (by rw [← c5, ← d5, e])
  · by_cases hm : m = l'
    · subst hm
      rw [hl']
      have := (h5 m).1
      exact ⟨by simp only; omega, fun e => by simp only at e; omega⟩
    · rw [upd_ne _ _ (pl_ne hm)]
      have hin : ∀ i, upd ρ (pl l') (ρ (pl l)) (inn m i) = ρ (inn m i) := fun i => upd_ne _ _ (inn_pl _ _ _)
      by_cases hm2 : m = l
      · subst hm2; rw [hl0]; exact h5 m
      · rw [(ho m hm2 hm).1]; exact h5 m
theorem wp_loop_st {x:Code} {Q:Exit→Act→World→Prop} (J:Nat→Act→World→Prop) (round:∀ m a w,J m a w→x.wp P (Exit.then (fun a' w'=>∃ m',m' < m∧J m' a' w') Q) a w) {m:Nat} {a:Act} {w:World} (h0:J m a w):(Code.loop x).wp P Q a w:=by
 intro b k cs
 have key:∀ m a w,J m a w→∃ e a' w',Q e a' w'∧Arrives P (lone (b.at a (.code x :: .inLoop x :: k)) cs w) b k cs e a' w':=by
  intro m
  induction m using Nat.strongRecOn with
  | _ m ih=>
   intro a w hJ
   obtain ⟨e,a₁,w₁,hq,harr⟩:=round m a w hJ b (.inLoop x :: k) cs
   cases e with
   | normal=>
    obtain ⟨m',hlt,hJ₁⟩:=hq
    obtain ⟨e₂,a₂,w₂,hq₂,harr₂⟩:=ih m' hlt a₁ w₁ hJ₁
    exact ⟨e₂,a₂,w₂,hq₂,.of_steps (Steps.trans harr (.one step_inLoop)) harr₂⟩
   | exit id=>exact ⟨_,a₁,w₁,hq,.pass (x:=.inLoop x) rfl (fun _ _=>.inl (by simp)) harr⟩
   | goto l=>exact ⟨_,a₁,w₁,hq,.pass (x:=.inLoop x) rfl (fun _ _=>.inl (by simp)) harr⟩
   | ret=>exact ⟨_,a₁,w₁,hq,.pass (x:=.inLoop x) rfl (fun _ _=>.inl (by simp)) harr⟩
   | panic ch=>exact ⟨_,a₁,w₁,hq,.pass (x:=.inLoop x) rfl (fun _ _=>.inl (by simp)) harr⟩
   | outgrown=>exact ⟨_,a₁,w₁,hq,.pass (x:=.inLoop x) rfl (fun _ _=>.inl (by simp)) harr⟩
 obtain ⟨e,a',w',hq,harr⟩:=key m a w h0
 exact ⟨e,a',w',hq,.of_steps (.one step_loop) harr⟩
theorem wp_code (hm:P.follows .mixedOrders=true) (hN:∀ b,w0.heap.size≤b→N b):∀ (x:Code) (Q:Exit→St→Prop) (Q':Exit→Act→World→Prop) (σ:St) (a:Act) (w:World),codeB c n x=true →
  (∀ e σ' a' w',Q e σ'→Good P c w0 N F0 ρ0 own0 n σ' a' w'→Q' e a' w')→Good P c w0 N F0 ρ0 own0 n σ a w→awp c x Q σ→x.wp P Q' a w:=by
 intro x
 induction x with
 | skip=>intro Q Q' σ a w _ hQ hg h;exact wp_skip (hQ _ _ _ _ h hg)
 | label l=>intro Q Q' σ a w _ hQ hg h;exact wp_label (hQ _ _ _ _ h hg)
 | region id ops draw=>
  intro Q Q' σ a w hB hQ hg h
  obtain ⟨σ0,hk0,h⟩:=h
  refine wp_region_run hm hN (opsB_dst hB) (fun hd=>?_) (fun σ' a' w' ⟨σ1,σ'',hk,hm,h1⟩ h2=>hQ _ _ a' w' h1 ((h2.wk hk).mv hm)) (hg.wks hk0) h
  have hB':opsB c n ops draw=true:=hB
  unfold opsB at hB'
  rw [hd] at hB'
  simp only [Bool.not_true,Bool.false_or,Bool.and_eq_true] at hB'
  exact hB'.2
 | seq x y ihx ihy=>
  intro Q Q' σ a w hB hQ hg h
  simp only [codeB,Bool.and_eq_true] at hB
  refine wp_seq (ihx _ _ σ a w hB.1 (fun e σ' a' w' h1 h2=>?_) hg h)
  cases e with
  | normal=>exact ihy Q Q' σ' a' w' hB.2 hQ h2 h1
  | exit id=>exact hQ _ σ' a' w' h1 h2
  | goto l=>exact hQ _ σ' a' w' h1 h2
  | ret=>exact hQ _ σ' a' w' h1 h2
  | panic ch=>exact hQ _ σ' a' w' h1 h2
  | outgrown=>exact hQ _ σ' a' w' h1 h2
 | cond p x y ihx ihy=>
  intro Q Q' σ a w hB hQ hg h
  simp only [codeB,Bool.and_eq_true] at hB
  simp only [awp] at h
  split at h
  ·rename_i b hb
   obtain ⟨F,ρ,H,_⟩:=id hg
   refine wp_cond_split (H.bool hb) (fun hbt=>ihx Q Q' σ a w hB.1 hQ hg (h.1 hbt)) (fun hbf=>ihy Q Q' σ a w hB.2 hQ hg (h.2 hbf))
  ·cases h
 | block id x ih=>
  intro Q Q' σ a w hB hQ hg h
  refine wp_block (ih _ _ σ a w hB (fun e σ' a' w' h1 h2=>?_) hg h)
  cases e with
  | normal=>exact hQ _ σ' a' w' h1 h2
  | exit id'=>
   show if id'=id then Q' .normal a' w' else Q' (.exit id') a' w'
   by_cases he:id'=id
   ·subst he
    rw [if_pos rfl]
    simp only [Nat.beq_refl] at h1
    exact hQ _ σ' a' w' h1 h2
   ·rw [if_neg he]
    have hb:Nat.beq id' id=false:=by
     cases hb:Nat.beq id' id
     ·rfl
     ·exact absurd (Nat.eq_of_beq_eq_true hb) he
    simp only [hb] at h1
    exact hQ _ σ' a' w' h1 h2
  | goto l=>exact hQ _ σ' a' w' h1 h2
  | ret=>exact hQ _ σ' a' w' h1 h2
  | panic ch=>exact hQ _ σ' a' w' h1 h2
  | outgrown=>exact hQ _ σ' a' w' h1 h2
 | loop x ih=>
  intro Q Q' σ a w hB hQ hg h
  obtain ⟨σ0,I,μ,hks,h0,hr⟩:=h
  refine wp_loop_st (fun m a w=>∃ σ,I σ∧μ σ=m∧Good P c w0 N F0 ρ0 own0 n σ a w) (fun m a w hJ=>?_) (m:=μ σ0) ⟨σ0,h0,rfl,hg.wks hks⟩
  obtain ⟨σ1,h1,rfl,hg1⟩:=hJ
  refine ih _ _ σ1 a w hB (fun e σ' a' w' h2 h3=>?_) hg1 (hr σ1 h1)
  cases e with
  | normal=>exact ⟨μ σ',h2.2,σ',h2.1,rfl,h3⟩
  | exit id=>exact hQ _ σ' a' w' h2 h3
  | goto l=>exact hQ _ σ' a' w' h2 h3
  | ret=>exact hQ _ σ' a' w' h2 h3
  | panic ch=>exact hQ _ σ' a' w' h2 h3
  | outgrown=>exact hQ _ σ' a' w' h2 h3
 | exit id=>intro Q Q' σ a w _ hQ hg h;exact wp_exit (hQ _ _ _ _ h hg)
 | ret=>intro Q Q' σ a w _ hQ hg h;exact wp_ret (hQ _ _ _ _ h hg)
 | goto l=>intro Q Q' σ a w _ hQ hg h;cases h
 | _=>intros;contradiction
end
inductive Ty where
 | int|bool|pt|wall|tri|room
 | sl (k:ElK)
 | rpt|rint
 | rsl (k:ElK)
 | clo
 | cur
@[reducible] def Ty.T:Ty→Type
 | .int=>Int
 | .bool=>Bool
 | .pt=>Int × Int
 | .wall=>(Int × Int) × (Int × Int)
 | .tri=>Int × Int × Int
 | .room=>List (Int × Int)
 | .sl k=>List k.T
 | .rpt=>Int × Int
 | .rint=>Int
 | .rsl k=>List k.T
 | .clo=>FuncId × List D
 | .cur=>List Int × Int × Int
def Ty.enc:(t:Ty)→t.T→AV
 | .int,n=>.one (.d (.int .i64 n))
 | .bool,b=>.one (.d (.bool b))
 | .pt,p=>.agg [.d (.int .i64 p.1),.d (.int .i64 p.2)]
 | .wall,p=>.agg [.d (.int .i64 p.1.1),.d (.int .i64 p.1.2),.d (.int .i64 p.2.1),.d (.int .i64 p.2.2)]
 | .tri,p=>.agg [.d (.int .i64 p.1),.d (.int .i64 p.2.1),.d (.int .i64 p.2.2)]
 | .room,ps=>.agg [.d (.sl none (.b .pt) ps)]
 | .sl k,xs=>.one (.d (.sl none k xs))
 | .rpt,p=>.one (.d (.ptr [.int .i64 p.1,.int .i64 p.2]))
 | .rint,n=>.one (.d (.ptr [.int .i64 n]))
 | .rsl k,xs=>.one (.d (.ptr [.sl none k xs]))
 | .clo,x=>.one (.d (.clo x.1 x.2))
 | .cur,x=>.one (.d (.ptr [.sl none (.b .u8) x.1,.int .i64 x.2.1,.int .i64 x.2.2]))
def curD:List D→Option (List Int × Int × Int)
 | [.sl _ (.b .u8) bs,.int .i64 i,.int .i64 h]=>some (bs,i,h)
 | _=>none
def Ty.dec:(t:Ty)→AV→Option t.T
 | .int,.one (.d (.int .i64 n))=>some n
 | .bool,.one (.d (.bool b))=>some b
 | .pt,.agg [.d (.int .i64 x),.d (.int .i64 y)]=>some (x,y)
 | .wall,.agg [.d (.int .i64 x),.d (.int .i64 y),.d (.int .i64 z),.d (.int .i64 u)]=>some ((x,y),(z,u))
 | .tri,.agg [.d (.int .i64 x),.d (.int .i64 y),.d (.int .i64 z)]=>some (x,y,z)
 | .room,.agg [.d (.sl _ (.b .pt) ps)]=>some ps
 | .room,.agg [.d .nil]=>some []
 | .sl k,.one (.d (.sl _ k' xs))=>castL k k' xs
 | .sl _,.one (.d .nil)=>some []
 | .rpt,.one (.d (.ptr [.int .i64 x,.int .i64 y]))=>some (x,y)
 | .rint,.one (.d (.ptr [.int .i64 x]))=>some x
 | .rsl k,.one (.d (.ptr [.sl _ k' xs]))=>castL k k' xs
 | .clo,.one (.d (.clo f caps))=>some (f,caps)
 | .cur,.one (.d (.ptr ds))=>curD ds
 | _,_=>none
@[reducible] def Args:List Ty→Type
 | []=>Unit
 | t :: ts=>t.T × Args ts
def encs:(ts:List Ty)→Args ts→List AV
 | [],_=>[]
 | t :: ts,x=>t.enc x.1 :: encs ts x.2
def decs:(ts:List Ty)→List AV→Option (Args ts)
 | [],[]=>some ()
 | t :: ts,x :: xs=>match t.dec x,decs ts xs with
  | some a,some b=>some (a,b)
  | _,_=>none
 | _,_=>none
def mkCon (ts:List Ty) (pre:Args ts→Prop) (res:Args ts→RV):Con:=⟨Args ts,decs ts,pre,res,none⟩
theorem encs_len:∀ (ts:List Ty) (x:Args ts),(encs ts x).length=ts.length
 | [],_=>rfl
 | _ :: ts,x=>by simp [encs,encs_len ts x.2]
section
variable {w : World} {F : Nat → Prop} {ρ : Nat → Value} {own : Nat → Loc}
theorem dc_weak {k:ElK} {xs:List k.T} {v:Value} (h:SLK w F k xs v):DC w F (.sl none k xs) v:=DC.sl (fun b hb=>by cases hb) h
theorem dec_weak {t:Ty} {x:AV} {v:t.T} {u:Value} (h:t.dec x=some v) (hx:AVC w F ρ own x u):AVC w F ρ own (t.enc v) u:=by
 unfold Ty.dec at h
 split at h
 ·injection h with h;subst h;exact hx
 ·injection h with h;subst h;exact hx
 ·injection h with h;subst h;exact hx
 ·injection h with h;subst h;exact hx
 ·injection h with h;subst h;exact hx
 ·injection h with h
  subst h
  obtain ⟨vs,hv,hc⟩:=hx
  obtain ⟨v,vs',rfl,h0,hc'⟩:=CellsC.uncons hc
  have h0:DC w F _ v:=h0
  cases h0 with|sl _ hs=>exact ⟨_,hv,CellsC.cons (dc_weak hs) hc'⟩
 ·injection h with h
  subst h
  obtain ⟨vs,hv,hc⟩:=hx
  obtain ⟨v,vs',rfl,h0,hc'⟩:=CellsC.uncons hc
  exact ⟨_,hv,CellsC.cons (dc_weak (.inl ⟨nilD h0,rfl⟩)) hc'⟩
 ·rename_i k nl k' xs
  obtain ⟨e,he⟩:=castL_ok h
  subst e
  subst he
  have h0:DC w F _ u:=hx
  cases h0 with|sl _ hs=>exact dc_weak hs
 ·injection h with h
  subst h
  exact dc_weak (.inl ⟨nilD hx,rfl⟩)
 ·injection h with h;subst h;exact hx
 ·injection h with h;subst h;exact hx
 ·rename_i k nl k' xs
  obtain ⟨e,he⟩:=castL_ok h
  subst e
  subst he
  have h0:DC w F _ u:=hx
  cases h0 with
  | ptr ad us hl hF h1 h2=>
   refine DC.ptr ad us hl hF h1 (fun j x v hj hv=>?_)
   cases j with
   | zero=>
    simp at hj
    subst hj
    have:=h2 0 _ v rfl hv
    cases this with|sl _ hs=>exact dc_weak hs
   | succ j=>simp at hj
 ·injection h with h;subst h;exact hx
 ·unfold curD at h
  split at h
  ·injection h with h
   subst h
   have h0:DC w F _ u:=hx
   cases h0 with
   | ptr ad us hl hF h1 h2=>
    refine DC.ptr ad us hl hF h1 (fun j x v hj hv=>?_)
    cases j with
    | zero=>
     simp at hj
     subst hj
     have:=h2 0 _ v rfl hv
     cases this with|sl _ hs=>exact dc_weak (k:=.b .u8) hs
    | succ j=>exact h2 (j + 1) x v (by simpa using hj) hv
  ·cases h
 ·cases h
theorem decs_weak:∀ {ts:List Ty} {xs:List AV} {v:Args ts} {us:List Value},decs ts xs=some v→(∀ (j:Nat) x u,xs[j]?=some x→us[j]?=some u→AVC w F ρ own x u) →
  xs.length=ts.length∧∀ (j:Nat) x u,(encs ts v)[j]?=some x→us[j]?=some u→AVC w F ρ own x u
 | [],[],v,us,_,h=>⟨rfl,fun j x u hx=>by simp [encs] at hx⟩
 | [],_ :: _,v,us,hd,h=>by cases hd
 | _ :: _,[],v,us,hd,h=>by cases hd
 | t :: ts,x :: xs,v,us,hd,h=>by
  unfold decs at hd
  split at hd
  ·rename_i a b h1 h2
   injection hd with hd
   subst hd
   obtain ⟨g1,g2⟩:=decs_weak (us:=us.drop 1) h2 (fun j x u hx hu=>h (j + 1) x u (by simpa using hx) (by rw [List.getElem?_drop,Nat.add_comm] at hu;exact hu))
   refine ⟨by simp [g1],fun j z u hz hu=>?_⟩
   cases j with
   | zero=>
    simp [encs] at hz
    subst hz
    exact dec_weak h1 (h 0 x u rfl hu)
   | succ j=>
    simp [encs] at hz
    exact g2 j z u hz (by rw [List.getElem?_drop,Nat.add_comm];exact hu)
  ·cases hd
end
def resL (c:Cfg) (σ:St):List ResultVar→VR (List AV)
 | []=>.ok True []
 | .tmp t :: r=>match resL c σ r with
  | .ok p xs=>.ok p (σ.slots t :: xs)
  | .no=>.no
 | .cell s t :: r=>match aval c (evA σ.slots) σ.own (.load t (.tmp s)),resL c σ r with
  | .ok p x,.ok q xs=>.ok (p∧q) (x :: xs)
  | _,_=>.no
def sums:List AV→Option (List (Cell ⊕ List Cell))
 | []=>some []
 | .one c :: r=>match sums r with|some l=>some (.inl c :: l)|none=>none
 | .agg cs :: r=>match sums r with|some l=>some (.inr cs :: l)|none=>none
 | _ :: _=>none
def resV (c:Cfg) (σ:St) (rs:List ResultVar):VR AV:=
 match resL c σ rs with
 | .no=>.no
 | .ok p [x]=>.ok p x
 | .ok p xs=>match sums xs with
  | some l=>.ok p (.tup l)
  | none=>.no
def firstC:List Cell→Option (Nat × Nat)
 | []=>none
 | .own l ver :: _=>some (l,ver)
 | _ :: r=>firstC r
def firstS:List (Cell ⊕ List Cell)→Option (Nat × Nat)
 | []=>none
 | .inl (.own l ver) :: _=>some (l,ver)
 | .inl _ :: r=>firstS r
 | .inr cs :: r=>match firstC cs with|some x=>some x|none=>firstS r
def firstOwn:AV→Option (Nat × Nat)
 | .one c=>firstC [c]
 | .agg cs=>firstC cs
 | .tup xs=>firstS xs
 | .junk=>none
def Own.isRow:Own→Prop
 | .row ..=>True
 | _=>False
theorem isRow_live {x:Own} (h:x.isRow):x.live=true:=by cases x <;> first|rfl|exact h.elim
def cellIs (own:Nat→Loc) (row:Bool) (src:Option (Nat × Nat)):Cell→Cell→Prop
 | .d (.int k n),.d (.int k' n')=>k=k'∧n=n'
 | .d (.bool b),.d (.bool b')=>b=b'
 | .d (.sl nl k xs),.d (.sl nl' k' ys)=>castL k' k xs=some ys∧(nl'=none∨nl'=nl)
 | .d .nil,.d (.sl nl' _ ys)=>ys=[]∧(nl'=none∨nl'=some true)
 | .d .nil,.d .nil=>True
 | .own l ver,.own _ _=>row=true∧src=some (l,ver)
 | .d .nil,.own _ _=>row=true∧src=none
 | .own l ver,.d (.sl nl' k' ys)=>match own l with
  | ⟨ver',.row _ k xs⟩=>row=false∧ver=ver'∧castL k' k xs=some ys∧(nl'=none∨(nl'=some false∧ys≠[]))
  | _=>False
 | _,_=>False
def cellsIs (own:Nat→Loc) (row:Bool) (src:Option (Nat × Nat)):List Cell→List Cell→Prop
 | [],[]=>True
 | x :: xs,y :: ys=>cellIs own row src x y∧cellsIs own row src xs ys
 | _,_=>False
def sumsIs (own:Nat→Loc) (row:Bool) (src:Option (Nat × Nat)):List (Cell ⊕ List Cell)→List (Cell ⊕ List Cell)→Prop
 | [],[]=>True
 | .inl x :: xs,.inl y :: ys=>cellIs own row src x y∧sumsIs own row src xs ys
 | .inr x :: xs,.inr y :: ys=>cellsIs own row src x y∧sumsIs own row src xs ys
 | _,_=>False
def avIs (own:Nat→Loc) (row:Bool) (src:Option (Nat × Nat)):AV→AV→Prop
 | .one x,.one y=>cellIs own row src x y
 | .agg xs,.agg ys=>cellsIs own row src xs ys
 | .tup xs,.tup ys=>sumsIs own row src xs ys
 | _,_=>False
def srcIs (own:Nat→Loc) (R:RowR):Option (Nat × Nat)→Prop
 | some (l,ver)=>match own l with
  | ⟨ver',.row ty k xs⟩=>ver=ver'∧ty=R.ty∧castL R.k k xs=some R.xs∧(R.nl=none∨(R.nl=some false∧R.xs≠[]))
  | _=>False
 | none=>R.xs=[]∧(R.nl=none∨R.nl=some true)
def RetIs (own:Nat→Loc) (x:AV) (r:RV):Prop:=
 match r.row with
 | none=>avIs own false none x r.av
 | some R=>srcIs own R (firstOwn x)∧avIs own true (firstOwn x) x r.av
def Fin (c:Cfg) (rs:List ResultVar) (r:RV):Exit→St→Prop
 | .normal,σ|.ret,σ=>(resV c σ rs).run fun x=>RetIs σ.own x r
 | _,_=>False
def initS (args:List AV):Nat→AV:=fun t=>(args[t]?).getD .junk
section
variable {P : Program} {c : Cfg} {w : World} {N F : Nat → Prop} {ρ : Nat → Value} {own : Nat → Loc} {slots : Nat → AV} {a : Act}
def rv1 (tmps:Array Value):ResultVar→Sem Value
 | .tmp t=>pure (tmps.getD t undef)
 | .cell s t=>do loadVar t (← asAddr (tmps.getD s undef))
theorem results_eq (fn:Func) (tmps:Array Value):results fn tmps=(do
  let vs ← fn.results.mapM (rv1 tmps)
  pure (if h:vs.size=1 then vs[0] else .tuple vs)):=by
 unfold results
 have:(fun r:ResultVar=>match r with|.tmp t=>(pure (tmps.getD t undef):Sem Value)|.cell a t=>do loadVar t (← asAddr (tmps.getD a undef)))=rv1 tmps:=by
  funext r
  cases r <;> rfl
 rw [← this]
 rfl
theorem res_ok (H:Here P c N F ρ own slots a w):∀ (rs:List ResultVar) {p:Prop} {xs:List AV},resL c ⟨slots,own⟩ rs=.ok p xs→p →
  ∃ vs:List Value,(rs.mapM (rv1 a.tmps)).run P w=.ok vs w∧vs.length=xs.length∧∀ (j:Nat) x v,xs[j]?=some x→vs[j]?=some v→AVC w F ρ own x v
 | [],p,xs,h,hp=>by
  simp only [resL] at h
  injection h with h1 h2
  subst h2
  exact ⟨[],by simp,rfl,fun j x v hx=>by simp at hx⟩
 | .tmp t :: rs,p,xs,h,hp=>by
  unfold resL at h
  split at h
  ·rename_i q ys hr
   injection h with h1 h2
   subst h1;subst h2
   obtain ⟨vs,r1,r2,r3⟩:=res_ok H rs hr hp
   refine ⟨a.tmps.getD t undef :: vs,?_,by simp [r2],fun j x v hx hv=>?_⟩
   ·simp only [List.mapM_cons,rv1,Sem.run_bind,Sem.run_pure,Result.andThen_ok,r1]
   ·cases j with
    | zero=>simp at hx hv;subst hx;subst hv;have:=H.sl t;simpa using this
    | succ j=>simp at hx hv;exact r3 j x v hx hv
  ·cases h
 | .cell s t :: rs,p,xs,h,hp=>by
  unfold resL at h
  split at h
  ·rename_i p1 x1 q ys h1 hr
   injection h with e1 e2
   subst e1;subst e2
   obtain ⟨u,ad,he,hl,hy⟩:=load_val H h1 hp.1
   obtain ⟨vs,r1,r2,r3⟩:=res_ok H rs hr hp.2
   have he':a.tmps.getD s undef=.pointer (some ad):=he
   have hl':(loadVar t ad).run P w=.ok u w:=by
    simpa [Instr.loadAt,Instr.sureAddr] using hl
   refine ⟨u :: vs,?_,by simp [r2],fun j x v hx hv=>?_⟩
   ·simp only [List.mapM_cons,rv1,Sem.run_bind,he',asAddr,Sem.run_pure,Result.andThen_ok,hl',r1]
   ·cases j with
    | zero=>simp at hx hv;subst hx;subst hv;exact hy
    | succ j=>simp at hx hv;exact r3 j x v hx hv
  ·cases h
theorem sums_ok:∀ {xs:List AV} {l:List (Cell ⊕ List Cell)},sums xs=some l→l.length=xs.length∧∀ (j:Nat) s,l[j]?=some s→∃ x,xs[j]?=some x∧((∃ c,s=.inl c∧x=.one c)∨∃ cs,s=.inr cs∧x=.agg cs)
 | [],l,h=>by simp only [sums,Option.some.injEq] at h;subst h;exact ⟨rfl,fun j s hs=>by simp at hs⟩
 | .one c :: r,l,h=>by
  unfold sums at h
  split at h
  ·rename_i l' hl
   injection h with h
   subst h
   obtain ⟨h1,h2⟩:=sums_ok hl
   refine ⟨by simp [h1],fun j s hs=>?_⟩
   cases j with
   | zero=>simp at hs;subst hs;exact ⟨_,rfl,.inl ⟨c,rfl,rfl⟩⟩
   | succ j=>simp at hs;simpa using h2 j s hs
  ·cases h
 | .agg cs :: r,l,h=>by
  unfold sums at h
  split at h
  ·rename_i l' hl
   injection h with h
   subst h
   obtain ⟨h1,h2⟩:=sums_ok hl
   refine ⟨by simp [h1],fun j s hs=>?_⟩
   cases j with
   | zero=>simp at hs;subst hs;exact ⟨_,rfl,.inr ⟨cs,rfl,rfl⟩⟩
   | succ j=>simp at hs;simpa using h2 j s hs
  ·cases h
 | .tup _ :: r,l,h=>by simp [sums] at h
 | .junk :: r,l,h=>by simp [sums] at h
theorem resV_ok (H:Here P c N F ρ own slots a w) {fn:Func} {p:Prop} {x:AV} (h:resV c ⟨slots,own⟩ fn.results.toList=.ok p x) (hp:p) :
  ∃ v,(results fn a.tmps).run P w=.ok v w∧AVC w F ρ own x v:=by
 unfold resV at h
 have hres:∀ vs:List Value,(fn.results.toList.mapM (rv1 a.tmps)).run P w=.ok vs w →
   (results fn a.tmps).run P w=.ok (if h:vs.toArray.size=1 then vs.toArray[0] else .tuple vs.toArray) w:=by
  intro vs hvs
  rw [results_eq]
  simp only [Array.mapM_eq_mapM_toList,Sem.run_bind,Sem.run_map,hvs,Result.andThen_ok,Sem.run_pure]
 split at h
 ·cases h
 ·rename_i q y hr
  injection h with h1 h2
  subst h1;subst h2
  obtain ⟨vs,r1,r2,r3⟩:=res_ok H _ hr hp
  match vs,r2 with
  | [v],_=>exact ⟨v,by rw [hres _ r1];simp,r3 0 y v rfl rfl⟩
 ·rename_i q ys hne hr
  split at h
  ·rename_i l hl
   injection h with h1 h2
   subst h1;subst h2
   obtain ⟨vs,r1,r2,r3⟩:=res_ok H _ hr hp
   obtain ⟨s1,s2⟩:=sums_ok hl
   refine ⟨.tuple vs.toArray,?_,vs,rfl,by rw [r2,s1],fun j s u hs hu=>?_⟩
   ·rw [hres _ r1,dif_neg]
    intro he
    match ys,r2 with
    | [y],_=>exact hne y rfl
    | [],h0=>simp at h0;subst h0;simp at he
    | _ :: _ :: _,h0=>simp at h0 he;omega
   ·obtain ⟨x,hx,hsx⟩:=s2 j s hs
    have:=r3 j x u hx hu
    rcases hsx with ⟨c,rfl,rfl⟩|⟨cs,rfl,rfl⟩
    ·exact this
    ·exact this
  ·cases h
theorem nil_or {w:World} {F:Nat→Prop} {k:ElK} {xs:List k.T} {v:Value} {nl:Option Bool} (h:SLK w F k xs v) (hn:nl=none∨(nl=some false∧xs≠[])):nilOk nl v:=by
 rintro b rfl
 rcases hn with hn|⟨hn,hx⟩
 ·cases hn
 ·injection hn with hn
  subst hn
  rcases h with ⟨_,h⟩|⟨ad,cap,rfl,_⟩
  ·exact absurd h hx
  ·simp
theorem cellIs_ok (m:Mem w N F ρ own) {row:Bool} {src:Option (Nat × Nat)} {s:Value} {G:Nat→Prop} (hFG:∀ b,F b→G b) (hown:row=false→∀ l b,(own l).obj.isRow→blk (ρ (pl l))=some b→G b)
  (hs:row=true→match src with|some (l,ver)=>(own l).ver=ver∧(own l).obj.rowy∧s=ρ (pl l)|none=>s=.slice none 0 0)
  {x y:Cell} {v:Value} (h:cellIs own row src x y) (hx:CellC w F ρ own x v):RetCell w G (if row then some s else none) y v:=by
 unfold cellIs at h
 split at h
 ·obtain ⟨rfl,rfl⟩:=h;exact DC.mono (ext_sub hFG) hx
 ·subst h;exact DC.mono (ext_sub hFG) hx
 ·rename_i nl k xs nl' k' ys
  obtain ⟨hc,hn⟩:=h
  obtain ⟨e,he⟩:=castL_ok hc
  subst e
  subst he
  have hd:DC w F (.sl nl k xs) v:=hx
  cases hd with
  | sl hn' hs'=>
   refine DC.sl ?_ (SLK.mono (ext_sub hFG) hs')
   rcases hn with rfl|rfl
   ·intro b hb;cases hb
   ·exact hn'
 ·rename_i nl' k' ys
  obtain ⟨rfl,hn⟩:=h
  have hv:=nilD hx
  refine DC.sl ?_ (.inl ⟨hv,rfl⟩)
  rcases hn with rfl|rfl
  ·intro b hb;cases hb
  ·intro b hb;injection hb with hb;subst hb;simp [hv]
 ·exact DC.mono (ext_sub hFG) hx
 ·rename_i l ver _ _
  obtain ⟨rfl,rfl⟩:=h
  have:=hs rfl
  simp only at this
  obtain ⟨h1,h2,h3⟩:=this
  show (some s:Option Value)=some v
  rw [h3,hx.2.2 ⟨h1,h2⟩]
 ·obtain ⟨rfl,rfl⟩:=h
  have:=hs rfl
  simp only at this
  show (some s:Option Value)=some v
  rw [this,nilD hx]
 ·rename_i l ver nl' k' ys
  split at h
  ·rename_i ver' ty k xs hl
   obtain ⟨hr,rfl,hc,hn⟩:=h
   obtain ⟨e,he⟩:=castL_ok hc
   subst e
   subst he
   have hv:=hx.2.2 ⟨by rw [hl],by rw [hl];trivial⟩
   subst hv
   have hok:=m.ok l
   rw [hl] at hok
   obtain ⟨vs,hw,hrow,_⟩:=hok
   have hsl:=row_data (G:=G) hw hrow hFG (fun b hb=>hown hr l b (by rw [hl];trivial) hb)
   exact DC.sl (nil_or hsl hn) hsl
  ·cases h
 ·cases h
theorem cellsIs_ok (m:Mem w N F ρ own) {row:Bool} {src:Option (Nat × Nat)} {s:Value} {G:Nat→Prop} (hFG:∀ b,F b→G b) (hown:row=false→∀ l b,(own l).obj.isRow→blk (ρ (pl l))=some b→G b)
  (hs:row=true→match src with|some (l,ver)=>(own l).ver=ver∧(own l).obj.rowy∧s=ρ (pl l)|none=>s=.slice none 0 0) :
  ∀ {xs ys:List Cell} {vs:List Value},cellsIs own row src xs ys→CellsC w F ρ own xs vs→CellsG (RetCell w G (if row then some s else none)) ys vs
 | [],[],vs,_,hx=>⟨hx.1,fun j c v hc=>by simp at hc⟩
 | [],_ :: _,_,h,_=>by cases h
 | _ :: _,[],_,h,_=>by cases h
 | x :: xs,y :: ys,vs,h,hx=>by
  obtain ⟨v,vs',rfl,h0,hx'⟩:=hx.uncons
  have ih:=cellsIs_ok m hFG hown hs h.2 hx'
  refine ⟨by simp [ih.1],fun j c u hc hu=>?_⟩
  cases j with
  | zero=>simp at hc hu;subst hc;subst hu;exact cellIs_ok m hFG hown hs h.1 h0
  | succ j=>simp at hc hu;exact ih.2 j c u hc hu
theorem avIs_ok (m:Mem w N F ρ own) {row:Bool} {src:Option (Nat × Nat)} {s:Value} {G:Nat→Prop} (hFG:∀ b,F b→G b) (hown:row=false→∀ l b,(own l).obj.isRow→blk (ρ (pl l))=some b→G b)
  (hs:row=true→match src with|some (l,ver)=>(own l).ver=ver∧(own l).obj.rowy∧s=ρ (pl l)|none=>s=.slice none 0 0)
  {x y:AV} {v:Value} (h:avIs own row src x y) (hx:AVC w F ρ own x v):AVG (RetCell w G (if row then some s else none)) y v:=by
 unfold avIs at h
 split at h
 ·exact cellIs_ok m hFG hown hs h hx
 ·obtain ⟨vs,hv,hc⟩:=hx
  exact ⟨vs,hv,cellsIs_ok m hFG hown hs h hc⟩
 ·rename_i xs ys
  obtain ⟨vs,hv,hl,hc⟩:=hx
  have key:∀ (xs ys:List (Cell ⊕ List Cell)) (vs:List Value),sumsIs own row src xs ys→vs.length=xs.length→(∀ (j:Nat) x u,xs[j]?=some x→vs[j]?=some u→SumG (CellC w F ρ own) x u) →
    vs.length=ys.length∧∀ (j:Nat) y u,ys[j]?=some y→vs[j]?=some u→SumG (RetCell w G (if row then some s else none)) y u:=by
   intro xs
   induction xs with
   | nil=>
    intro ys vs h hl hc
    cases ys with
    | nil=>exact ⟨hl,fun j y u hy=>by simp at hy⟩
    | cons y ys=>cases h
   | cons x xs ih=>
    intro ys vs h hl hc
    match vs,hl with
    | v :: vs,hl=>
     cases ys with
     | nil=>cases x <;> cases h
     | cons y ys=>
      cases x with
      | inl x=>
       cases y with
       | inr y=>cases h
       | inl y=>
        obtain ⟨h1,h2⟩:=h
        obtain ⟨g1,g2⟩:=ih ys vs h2 (by simpa using hl) (fun j x u hx hu=>hc (j + 1) x u (by simpa using hx) (by simpa using hu))
        refine ⟨by simp [g1],fun j z u hz hu=>?_⟩
        cases j with
        | zero=>simp at hz hu;subst hz;subst hu;exact cellIs_ok m hFG hown hs h1 (hc 0 _ v rfl rfl)
        | succ j=>simp at hz hu;exact g2 j z u hz hu
      | inr x=>
       cases y with
       | inl y=>cases h
       | inr y=>
        obtain ⟨h1,h2⟩:=h
        obtain ⟨g1,g2⟩:=ih ys vs h2 (by simpa using hl) (fun j x u hx hu=>hc (j + 1) x u (by simpa using hx) (by simpa using hu))
        refine ⟨by simp [g1],fun j z u hz hu=>?_⟩
        cases j with
        | zero=>
         simp at hz hu;subst hz;subst hu
         obtain ⟨us,hus,hcs⟩:=hc 0 _ v rfl rfl
         exact ⟨us,hus,cellsIs_ok m hFG hown hs h1 hcs⟩
        | succ j=>simp at hz hu;exact g2 j z u hz hu
  obtain ⟨g1,g2⟩:=key xs ys vs h hl hc
  exact ⟨vs,hv,g1,g2⟩
 ·cases h
theorem sound_of_run {f:FuncId} {fn:Func} {body:Code} {ts:List Ty} {pre:Args ts→Prop} {res:Args ts→RV} (hm:P.follows .mixedOrders=true) (hc:CfgOk P c) (hf:P.funcs[f]?=some fn) (hb:fn.body=some body)
  (hn:ts.length≤fn.ntmps) (hcode:codeB c fn.ntmps body=true) (hrun:∀ x,pre x→awp c body (Fin c fn.results.toList (res x)) ⟨initS (encs ts x),deadOwn⟩):Sound P f (mkCon ts pre res):=by
 intro w F args vs x hpat hpre hF hlen hargs
 obtain ⟨hl,henc⟩:=decs_weak hpat hargs
 refine calls_of_wp hf hb ?_
 have hinit:Good P c w (fun b=>w.heap.size≤b) F noRho deadOwn fn.ntmps ⟨initS (encs ts x),deadOwn⟩ { tmps:=vs.toArray ++ Array.replicate (fn.ntmps - vs.toArray.size) undef,defers:=[] } w:=by
  refine ⟨F,noRho,⟨hc,fun t=>?_,⟨fun l=>trivial,(fun l l' b _ h=>by cases h),hF⟩⟩,Ext.refl w F,fun _ _ _=>rfl,fun b h=>.inl h,?_,rfl,fun l=>⟨Nat.le_refl _,fun _=>rfl⟩⟩
  ·show AVC w F noRho deadOwn (initS (encs ts x) t) _
   unfold initS
   cases ht:(encs ts x)[t]? with
   | none=>trivial
   | some y=>
    have hlt:t < vs.length:=by
     have:=(List.getElem?_eq_some_iff.1 ht).1
     have he:(encs ts x).length=ts.length:=encs_len ts x
     omega
    have hv:vs[t]?=some vs[t]:=List.getElem?_eq_getElem hlt
    have:=henc t y _ ht hv
    simp only [Option.getD_some]
    have hg:(vs.toArray ++ Array.replicate (fn.ntmps - vs.toArray.size) undef).getD t undef=vs[t]:=by
     simp [hlt,Array.getElem?_append]
    rw [hg]
    exact this
  ·simp;omega
 refine wp_code hm (w0:=w) (N:=fun b=>w.heap.size≤b) (fun b h=>h) body _ _ _ _ _ hcode (fun e σ' a' w' h1 h2=>?_) hinit (hrun x hpre)
 have hfin:∀ {σ':St} {a':Act} {w':World},Good P c w (fun b=>w.heap.size≤b) F noRho deadOwn fn.ntmps σ' a' w'→((resV c σ' fn.results.toList).run fun y=>RetIs σ'.own y (res x))→a'.defers=[]∧∃ v,(results fn a'.tmps).run P w'=.ok v w'∧(∃ v',(Ending.returned v)=.returned v'∧Below w.heap.size w w'∧RetC w w' F (res x) v'):=by
  intro σ' a' w' hg h
  obtain ⟨F',ρ,H,hext,hfr,hnew,hsz,hdf⟩:=hg
  unfold VR.run at h
  split at h
  ·cases h
  ·rename_i p y hv
   obtain ⟨hp,h⟩:=h
   obtain ⟨v,r1,r2⟩:=resV_ok H hv hp
   refine ⟨hdf.1,v,r1,v,rfl,⟨hext.os,hext.tape,hext.output,hext.size,fun b hb=>hfr b hb (by omega)⟩,?_⟩
   have hnb:∀ l b,(σ'.own l).obj.live=true→blk (ρ (pl l))=some b→w.heap.size≤b∧b < w'.heap.size:=fun l b hl hb=>by
    obtain ⟨g1,g2,_⟩:=blk_lt H.mem hl (holds_of hb)
    exact ⟨g2,g1⟩
   have hFn:∀ b,F' b→F b∨(w.heap.size≤b∧b < w'.heap.size):=fun b hb=>(hnew b hb).imp id (fun h=>⟨h,H.mem.fin b hb⟩)
   unfold RetIs at h
   unfold RetC
   split at h
   ·rename_i hrow
    simp only [hrow]
    have:=avIs_ok H.mem (row:=false) (s:=.bool false) (G:=fun b=>F b∨(w.heap.size≤b∧b < w'.heap.size)) hFn (fun _ l b h1 h2=>.inr (hnb l b (isRow_live h1) h2)) (fun h=>by cases h) h r2
    exact this
   ·rename_i R hrow
    simp only [hrow]
    obtain ⟨hsrc,hav⟩:=h
    have hfinal:∀ s vs,w'.ownsRow w.heap.size R.ty R.k.size s R.xs.length vs→RowC w' (newB w w' F s) R.k R.xs vs→nilOk R.nl s→(∀ b,F' b→newB w w' F s b) →
      (match firstOwn y with|some (l,ver)=>(σ'.own l).ver=ver∧(σ'.own l).obj.rowy∧s=ρ (pl l)|none=>s=.slice none 0 0) →
      ∃ s vs,w'.ownsRow w.heap.size R.ty R.k.size s R.xs.length vs∧RowC w' (newB w w' F s) R.k R.xs vs∧nilOk R.nl s∧AVG (RetCell w' (newB w w' F s) (some s)) (res x).av v:=by
     intro s vs g1 g2 g3 g4 g5
     exact ⟨s,vs,g1,g2,g3,avIs_ok H.mem (row:=true) (s:=s) g4 (fun h=>by cases h) (fun _=>g5) hav r2⟩
    unfold srcIs at hsrc
    split at hsrc
    ·rename_i l ver hfo
     split at hsrc
     ·rename_i ver' ty k xs hl
      obtain ⟨rfl,rfl,hcast,hnl⟩:=hsrc
      obtain ⟨e,he⟩:=castL_ok hcast
      obtain ⟨Rty,Rnl,Rk,Rxs⟩:=R
      simp only at e he hcast hnl hfinal ⊢
      subst e
      simp only at he
      subst he
      have hok:=H.mem.ok l
      rw [hl] at hok
      obtain ⟨vs,hw,hrow',hn'⟩:=hok
      have hge:∀ b,blk (ρ (pl l))=some b→w.heap.size≤b:=fun b hb=>(hn' b hb).1
      refine hfinal (ρ (pl l)) vs ⟨hw.1,hw.2.imp id ?_⟩ ?_ ?_ ?_ ?_
      ·rintro ⟨g,cap,cur,e1,_,e2⟩
       exact ⟨g,cap,cur,e1,hge g (by rw [e1];rfl),e2⟩
      ·exact hrow'.mono (ext_sub fun b hb=>⟨hFn b hb,fun e=>(hn' b e).2 hb⟩)
      ·exact nil_or (row_data (G:=fun _=>True) hw hrow' (fun _ _=>trivial) (fun _ _=>trivial)) hnl
      ·exact fun b hb=>⟨hFn b hb,fun e=>(hn' b e).2 hb⟩
      ·rw [hfo]
       exact ⟨by rw [hl],by rw [hl];trivial,rfl⟩
     ·cases hsrc
    ·rename_i hfo
     obtain ⟨hxs,hnl⟩:=hsrc
     obtain ⟨Rty,Rnl,Rk,Rxs⟩:=R
     simp only at hxs hnl hfinal ⊢
     subst hxs
     refine hfinal (.slice none 0 0) [] (World.ownsRow_nil _ _ _ _) ⟨fun v hv=>by simp at hv,fun i x hx=>by simp at hx⟩ ?_ (fun b hb=>⟨hFn b hb,by simp [blk]⟩) (by rw [hfo])
     rintro b rfl
     rcases hnl with h|h
     ·cases h
     ·injection h with h;subst h;simp
 cases e with
 | normal=>exact hfin h2 h1
 | ret=>exact hfin h2 h1
 | exit id=>exact h1
 | goto l=>exact h1
 | panic ch=>exact h1.elim
 | outgrown=>exact h1.elim
theorem decs_atT:∀ {ts:List Ty} {zs:List AV} {v:Args ts},decs ts zs=some v→zs.length=ts.length∧∀ (j:Nat) y,zs[j]?=some y→∃ (t:Ty) (u:t.T),ts[j]?=some t∧(encs ts v)[j]?=some (t.enc u)∧t.dec y=some u
 | [],[],v,_=>⟨rfl,fun j y h=>by simp at h⟩
 | [],_ :: _,v,hd=>by cases hd
 | _ :: _,[],v,hd=>by cases hd
 | t :: ts,z :: zs,v,hd=>by
  unfold decs at hd
  split at hd
  ·rename_i a b h1 h2
   injection hd with hd
   subst hd
   obtain ⟨g1,g2⟩:=decs_atT h2
   refine ⟨by simp [g1],fun j y hy=>?_⟩
   cases j with
   | zero=>simp at hy;subst hy;exact ⟨t,a,rfl,rfl,h1⟩
   | succ j=>simp at hy;simpa [encs] using g2 j y hy
  ·cases hd
theorem decs_at {ts:List Ty} {zs:List AV} {v:Args ts} (h:decs ts zs=some v):zs.length=ts.length∧∀ (j:Nat) y,zs[j]?=some y→∃ (t:Ty) (u:t.T),(encs ts v)[j]?=some (t.enc u)∧t.dec y=some u:=
 ⟨(decs_atT h).1,fun j y hy=>let ⟨t,u,_,h1,h2⟩:=(decs_atT h).2 j y hy;⟨t,u,h1,h2⟩⟩
def toOwn:AV→AV
 | .one (.d (.sl _ _ _))=>.one (.own 1000 0)
 | .agg [.d (.sl _ _ _)]=>.agg [.own 1000 0]
 | y=>y
def rowOf (ty:TypeId):AV→Own
 | .one (.d (.sl _ k xs))=>.row ty k xs
 | .agg [.d (.sl _ k xs)]=>.row ty k xs
 | _=>.dead
theorem dec_own {a:AV} {l ver:Nat} (ho:ownCell a=some (l,ver)) {k:ElK} {xs:List k.T} {t:Ty} {u:t.T} (h:t.dec (ownAs a (.d (.sl none k xs)))=some u) (ty:TypeId) :
  toOwn (t.enc u)=ownAs a (.own 1000 0)∧rowOf ty (t.enc u)=.row ty k xs:=by
 unfold ownCell at ho
 split at ho
 ·simp only [ownAs] at h ⊢
  cases t <;> simp only [Ty.dec] at h <;> first|(cases h;done)|skip
  obtain ⟨e,he⟩:=castL_ok h
  subst e
  subst he
  exact ⟨rfl,rfl⟩
 ·simp only [ownAs] at h ⊢
  cases t <;> unfold Ty.dec at h <;> simp only at h <;> first|(cases h;done)|skip
  rcases k with k|k <;> cases k <;> first|(cases h;done)|skip
  injection h with h
  subst h
  exact ⟨rfl,rfl⟩
 ·cases ho
def encW (wi:Nat) (ts:List Ty) (x:Args ts):List AV:=match nthA (encs ts x) wi with
 | some y=>setA (encs ts x) wi (toOwn y)
 | none=>encs ts x
def ownW (wi:Nat) (ty:TypeId) (ts:List Ty) (x:Args ts):Nat→Loc:=match nthA (encs ts x) wi with
 | some y=>upd deadOwn 1000 ⟨0,rowOf ty y⟩
 | none=>deadOwn
def mkConW (ts:List Ty) (wi:Nat) (ty:TypeId) (pre:Args ts→Prop) (av:Args ts→AV) (out:Args ts→WR):ConW:=⟨Args ts,decs ts,pre,wi,ty,av,out⟩
theorem setA_eq:∀ (xs:List AV) (i:Nat) (y:AV),setA xs i y=xs.set i y
 | [],_,_=>rfl
 | _ :: _,0,_=>rfl
 | x :: r,i + 1,y=>by simp [setA,setA_eq r i y]
def FinW (c:Cfg) (rs:List ResultVar) (ty:TypeId) (av:AV) (r:WR):Exit→St→Prop
 | .normal,σ|.ret,σ=>(resV c σ rs).run fun y=>match σ.own 1000 with
  | ⟨ver,.row ty' k zs⟩=>ty'=ty∧castL r.k k zs=some r.ys∧match r.trunc with
   | true=>y=.one (.own 1000 ver)
   | false=>ver=0∧flat av=true∧avIs σ.own false none y av
  | _=>False
 | _,_=>False
theorem sound_of_runW {f:FuncId} {fn:Func} {body:Code} {ts:List Ty} {wi:Nat} {ty:TypeId} {pre:Args ts→Prop} {av:Args ts→AV} {out:Args ts→WR} (hm:P.follows .mixedOrders=true) (hc:CfgOk P c) (hf:P.funcs[f]?=some fn) (hb:fn.body=some body)
  (hn:ts.length≤fn.ntmps) (hcode:codeB c fn.ntmps body=true) (hrun:∀ x,pre x→awp c body (FinW c fn.results.toList ty (av x) (out x)) ⟨initS (encW wi ts x),ownW wi ty ts x⟩):SoundW P f (mkConW ts wi ty pre av out):=by
 intro w F args vs a l ver (x:Args ts) s k xs ys cells ha hoc hoth hpat hpre hcast hF hlen hargs hw hrow hs hone
 have hpat:decs ts (setA args wi (ownAs a (.d (.sl none k xs))))=some x:=hpat
 have ha:nthA args wi=some a:=ha
 rw [setA_eq] at hpat
 rw [nthA_eq] at ha
 obtain ⟨hl,hat⟩:=decs_at hpat
 have hwi:wi < args.length:=(List.getElem?_eq_some_iff.1 ha).1
 obtain ⟨t0,u0,he0,hd0⟩:=hat wi (ownAs a (.d (.sl none k xs))) (by rw [List.getElem?_set_self hwi])
 obtain ⟨hto,hrw⟩:=dec_own hoc hd0 ty
 have hencW:encW wi ts x=(encs ts x).set wi (ownAs a (.own 1000 0)):=by unfold encW;rw [nthA_eq,he0];simp only [setA_eq,hto]
 have hownW:ownW wi ty ts x=upd deadOwn 1000 ⟨0,.row ty k xs⟩:=by unfold ownW;rw [nthA_eq,he0];simp only [hrw]
 have hrun:=hrun x hpre
 rw [hencW,hownW] at hrun
 refine calls_of_wp hf hb ?_
 have hel:(encs ts x).length=args.length:=by have h0:(encs ts x).length=ts.length:=encs_len ts x;rw [h0,← hl];simp
 have hinit:Good P c w (fun b=>w.heap.size≤b∨blk s=some b) F (upd noRho (pl 1000) s) (upd deadOwn 1000 ⟨0,.row ty k xs⟩) fn.ntmps ⟨initS ((encs ts x).set wi (ownAs a (.own 1000 0))),upd deadOwn 1000 ⟨0,.row ty k xs⟩⟩
   { tmps:=vs.toArray ++ Array.replicate (fn.ntmps - vs.toArray.size) undef,defers:=[] } w:=by
  refine ⟨F,upd noRho (pl 1000) s,⟨hc,fun t=>?_,⟨fun l=>?_,fun l l' b hne h1 h2=>?_,hF⟩⟩,Ext.refl w F,fun _ _ _=>rfl,fun b h=>.inl h,?_,rfl,fun l=>⟨Nat.le_refl _,fun _=>rfl⟩⟩
  ·show AVC w F _ _ (initS _ t) _
   unfold initS
   cases ht:((encs ts x).set wi (ownAs a (.own 1000 0)))[t]? with
   | none=>trivial
   | some y=>
    have hlt:t < vs.length:=by
     have:=(List.getElem?_eq_some_iff.1 ht).1
     rw [List.length_set] at this
     omega
    have hv:vs[t]?=some vs[t]:=List.getElem?_eq_getElem hlt
    simp only [Option.getD_some]
    have hg:(vs.toArray ++ Array.replicate (fn.ntmps - vs.toArray.size) undef).getD t undef=vs[t]:=by
     simp [hlt,Array.getElem?_append]
    rw [hg]
    by_cases htw:t=wi
    ·subst htw
     rw [List.getElem?_set_self (by omega)] at ht
     injection ht with ht
     subst ht
     have h1:=hargs t a _ ha hv
     have hcell:∀ v,v=s→CellC w F (upd noRho (pl 1000) s) (upd deadOwn 1000 ⟨0,.row ty k xs⟩) (.own 1000 0) v:=fun v e=>by
      subst e
      exact ⟨hone,by rw [upd_eq];exact Nat.le_refl _,fun _=>(upd_eq _ _ _).symm⟩
     unfold ownCell at hoc
     split at hoc
     ·exact hcell _ h1
     ·obtain ⟨us,hus,hc1⟩:=h1
      refine ⟨us,hus,by rw [hc1.1];rfl,fun j z v hz hv=>?_⟩
      cases j with
      | zero=>simp at hz;subst hz;exact hcell v (hc1.2 0 _ v rfl hv)
      | succ j=>simp at hz
     ·cases hoc
    ·rw [List.getElem?_set_ne (Ne.symm htw)] at ht
     have hta:t < args.length:=by omega
     have hya:args[t]?=some args[t]:=List.getElem?_eq_getElem hta
     obtain ⟨t1,u1,he1,hd1⟩:=hat t args[t] (by rw [List.getElem?_set_ne (Ne.symm htw),hya])
     rw [ht] at he1
     injection he1 with he1
     subst he1
     have hst:=othersD_get hoth t _ htw hya
     refine dec_weak hd1 ?_
     have h1:=hargs t _ _ hya hv
     revert h1 hst
     generalize args[t]=y
     intro hst h1
     match y,hst with
     | .one (.d z),_=>exact h1
     | .agg cs,hst=>
      obtain ⟨us,hus,hc1⟩:=h1
      refine ⟨us,hus,hc1.imp fun z u hz hc=>?_⟩
      have:=List.all_eq_true.1 hst z hz
      cases z with
      | d x=>exact hc
      | own _ _=>cases this
      | ptr _ _ _ _=>cases this
      | sub _ _ _ _=>cases this
  ·by_cases h:l=1000
   ·subst h
    show OwnOk _ _ _ _ _ _ (upd deadOwn 1000 _ 1000).obj
    rw [upd_eq]
    exact ⟨cells,by rw [upd_eq];exact hw,hrow,fun b hb=>by rw [upd_eq] at hb;exact ⟨.inr hb,(hs b hb).2⟩⟩
   ·show OwnOk _ _ _ _ _ _ (upd deadOwn 1000 _ l).obj
    rw [upd_ne _ _ h]
    trivial
  ·have key:∀ l,(upd deadOwn 1000 ⟨0,.row ty k xs⟩ l).obj.live=true→l=1000:=fun l h=>by
    by_cases h':l=1000
    ·exact h'
    ·rw [upd_ne _ _ h'] at h;cases h
   exact fun _ _=>hne (by rw [key l h1,key l' h2])
  ·have:args.length=ts.length:=by rw [← hl];simp
   simp;omega
 refine wp_code hm (w0:=w) (N:=fun b=>w.heap.size≤b∨blk s=some b) (fun b h=>.inl h) body _ _ _ _ _ hcode (fun e σ' a' w' h1 h2=>?_) hinit hrun
 have hfin:∀ {σ':St} {a':Act} {w':World},Good P c w (fun b=>w.heap.size≤b∨blk s=some b) F (upd noRho (pl 1000) s) (upd deadOwn 1000 ⟨0,.row ty k xs⟩) fn.ntmps σ' a' w'→FinW c fn.results.toList ty (av x) (out x) .ret σ'→a'.defers=[]∧∃ v,(results fn a'.tmps).run P w'=.ok v w' ∧
   (∃ v' s' cells',∃ F':Nat→Prop,(Ending.returned v)=.returned v'∧w.grownBy w' (blk s)∧((∀ b,F b→F' b)∧(∀ b,F' b→F b∨w.heap.size≤b∨blk s=some b)∧∀ b,F' b→b < w'.heap.size)∧(∀ b,blk s'=some b→(blk s=some b∨w.heap.size≤b)∧¬ F' b)∧w'.ownsRow 0 ty k.size s' ys.length cells'∧RowC w' F' k ys cells'∧s'.oneCell'=true ∧
    match (out x).trunc with
    | true=>v'=s'
    | false=>s'=s∧AVG (RetCell w' (fun _=>False) none) (av x) v'):=by
  intro σ' a' w' hg h
  obtain ⟨F',ρ,H,hext,hfr,hnew,hsz,hdf⟩:=hg
  have h:(resV c σ' fn.results.toList).run _:=h
  unfold VR.run at h
  split at h
  ·cases h
  ·rename_i p y hv
   obtain ⟨hp,h⟩:=h
   obtain ⟨v,r1,r2⟩:=resV_ok H hv hp
   refine ⟨hdf.1,v,r1,v,ρ (pl 1000),?_⟩
   have hcast:castL k (out x).k (out x).ys=some ys:=hcast
   generalize hr:out x=r at h hcast ⊢
   obtain ⟨rk,rys,tr⟩:=r
   simp only at h hcast ⊢
   split at h
   ·rename_i ver' ty' k' zs hl1
    obtain ⟨rfl,hc1,h⟩:=h
    obtain ⟨e1,e2⟩:=castL_ok hc1
    subst e1
    subst e2
    obtain ⟨e1,e2⟩:=castL_ok hcast
    subst e1
    subst e2
    have hok:=H.mem.ok 1000
    rw [hl1] at hok
    obtain ⟨cells',hw',hrow',hn'⟩:=hok
    have hone':(ρ (pl 1000)).oneCell'=true:=by rcases hw'.2 with ⟨e,_⟩|⟨g',cap,cur,e,_⟩ <;> rw [e] <;> rfl
    have hver:(σ'.own 1000).ver=ver':=by rw [hl1]
    refine ⟨cells',F',by trivial,⟨hext.os,hext.tape,hext.output,hext.size,fun b hb hne=>hfr b hb fun hN=>?_⟩,⟨hext.sub,fun b hb=>hnew b hb,H.mem.fin⟩,fun b hb=>⟨((hn' b hb).1).elim .inr .inl,(hn' b hb).2⟩,hw',hrow',hone',?_⟩
    ·rcases hN with h|h
     ·omega
     ·exact hne h.symm
    ·cases tr with
     | true=>
      simp only at h ⊢
      subst h
      exact r2.2.2 ⟨hver,by rw [hl1];trivial⟩
     | false=>
      simp only at h ⊢
      obtain ⟨hv0,hfl,hav⟩:=h
      subst hv0
      refine ⟨?_,?_⟩
      ·rw [(hdf.2 1000).2 (by rw [upd_eq,hver]),upd_eq]
      ·have:=avIs_ok H.mem (row:=false) (s:=.bool false) (G:=fun _=>True) (fun _ _=>trivial) (fun _ _ _ _ _=>trivial) (fun h=>by cases h) hav r2
       exact flat_any (fun z v h1 h2=>retCell_flat h1 h2) hfl this
   ·cases h
 cases e with
 | normal=>exact hfin h2 h1
 | ret=>exact hfin h2 h1
 | exit id=>exact h1
 | goto l=>exact h1
 | panic ch=>exact h1.elim
 | outgrown=>exact h1.elim
end
def srcIsD (own:Nat→Loc) (R:RowR) (ety:TypeId):Option (Nat × Nat)→Prop
 | some (l,ver)=>match own l with
  | ⟨ver',.deep ty ety' e xs g⟩=>ver=ver'∧ty=R.ty∧ety'=ety∧allG g xs.length∧castL R.k (.s e) xs=some R.xs∧(R.nl=none∨(R.nl=some false∧R.xs≠[]))
  | _=>False
 | none=>R.xs=[]∧R.k.base=false∧(R.nl=none∨R.nl=some true)
def RetIsD (own:Nat→Loc) (x:AV) (r:RV) (ety:TypeId):Prop:=
 match r.row with
 | none=>False
 | some R=>srcIsD own R ety (firstOwn x)∧avIs own true (firstOwn x) x r.av
def FinD (c:Cfg) (rs:List ResultVar) (ety:TypeId) (r:RV):Exit→St→Prop
 | .normal,σ|.ret,σ=>(resV c σ rs).run fun x=>RetIsD σ.own x r ety
 | _,_=>False
def mkConD (ts:List Ty) (pre:Args ts→Prop) (res:Args ts→RV) (ety:TypeId):Con:=⟨Args ts,decs ts,pre,res,some ety⟩
def rowOfD (ty ety:TypeId):AV→Own
 | .one (.d (.sl _ (.s .int) xs))=>.deep ty ety .int xs noG
 | _=>.dead
def ownDW (wi:Nat) (ty ety:TypeId) (ts:List Ty) (x:Args ts):Nat→Loc:=match nthA (encs ts x) wi with
 | some y=>upd deadOwn 1000 ⟨0,rowOfD ty ety y⟩
 | none=>deadOwn
def mkConDW (ts:List Ty) (wi:Nat) (ty ety:TypeId) (pre:Args ts→Prop) (av:Args ts→AV) (out:Args ts→List (List Int)):ConD:=⟨Args ts,decs ts,pre,wi,ty,ety,av,out,.deep,fun _=>[]⟩
def FinDW (c:Cfg) (rs:List ResultVar) (ty ety:TypeId) (av:AV) (ys:List (List Int)):Exit→St→Prop
 | .normal,σ|.ret,σ=>(resV c σ rs).run fun y=>match σ.own 1000 with
  | ⟨ver,.deep ty' ety' .int zs g⟩=>ver=0∧ty'=ty∧ety'=ety∧zs=ys∧allG g zs.length∧flat av=true∧avIs σ.own false none y av
  | _=>False
 | _,_=>False
theorem dec_ownD {a:AV} {l ver:Nat} (ho:ownCell a=some (l,ver)) {xs:List (List Int)} {t:Ty} {u:t.T} (h:t.dec (ownAs a (.d (.sl none (.s .int) xs)))=some u) (ty ety:TypeId) :
  toOwn (t.enc u)=ownAs a (.own 1000 0)∧rowOfD ty ety (t.enc u)=.deep ty ety .int xs noG:=by
 unfold ownCell at ho
 split at ho
 ·simp only [ownAs] at h ⊢
  cases t <;> simp only [Ty.dec] at h <;> first|(cases h;done)|skip
  obtain ⟨e,he⟩:=castL_ok h
  subst e
  subst he
  exact ⟨rfl,rfl⟩
 ·simp only [ownAs] at h ⊢
  cases t <;> unfold Ty.dec at h <;> simp only at h <;> first|(cases h;done)|skip
 ·cases ho
section
variable {P : Program} {c : Cfg} {w : World} {N F : Nat → Prop} {ρ : Nat → Value} {own : Nat → Loc} {slots : Nat → AV} {a : Act}
theorem sound_of_runD {f:FuncId} {fn:Func} {body:Code} {ts:List Ty} {pre:Args ts→Prop} {res:Args ts→RV} {ety:TypeId} (hm:P.follows .mixedOrders=true) (hc:CfgOk P c) (hf:P.funcs[f]?=some fn) (hb:fn.body=some body)
  (hn:ts.length≤fn.ntmps) (hcode:codeB c fn.ntmps body=true) (hrun:∀ x,pre x→awp c body (FinD c fn.results.toList ety (res x)) ⟨initS (encs ts x),deadOwn⟩):Sound P f (mkConD ts pre res ety):=by
 intro w F args vs x hpat hpre hF hlen hargs
 obtain ⟨hl,henc⟩:=decs_weak hpat hargs
 refine calls_of_wp hf hb ?_
 have hinit:Good P c w (fun b=>w.heap.size≤b) F noRho deadOwn fn.ntmps ⟨initS (encs ts x),deadOwn⟩ { tmps:=vs.toArray ++ Array.replicate (fn.ntmps - vs.toArray.size) undef,defers:=[] } w:=by
  refine ⟨F,noRho,⟨hc,fun t=>?_,⟨fun l=>trivial,(fun l l' b _ h=>by cases h),hF⟩⟩,Ext.refl w F,fun _ _ _=>rfl,fun b h=>.inl h,?_,rfl,fun l=>⟨Nat.le_refl _,fun _=>rfl⟩⟩
  ·show AVC w F noRho deadOwn (initS (encs ts x) t) _
   unfold initS
   cases ht:(encs ts x)[t]? with
   | none=>trivial
   | some y=>
    have hlt:t < vs.length:=by
     have:=(List.getElem?_eq_some_iff.1 ht).1
     have he:(encs ts x).length=ts.length:=encs_len ts x
     omega
    have hv:vs[t]?=some vs[t]:=List.getElem?_eq_getElem hlt
    have:=henc t y _ ht hv
    simp only [Option.getD_some]
    have hg:(vs.toArray ++ Array.replicate (fn.ntmps - vs.toArray.size) undef).getD t undef=vs[t]:=by
     simp [hlt,Array.getElem?_append]
    rw [hg]
    exact this
  ·simp;omega
 refine wp_code hm (w0:=w) (N:=fun b=>w.heap.size≤b) (fun b h=>h) body _ _ _ _ _ hcode (fun e σ' a' w' h1 h2=>?_) hinit (hrun x hpre)
 have hfin:∀ {σ':St} {a':Act} {w':World},Good P c w (fun b=>w.heap.size≤b) F noRho deadOwn fn.ntmps σ' a' w'→((resV c σ' fn.results.toList).run fun y=>RetIsD σ'.own y (res x) ety)→a'.defers=[]∧∃ v,(results fn a'.tmps).run P w'=.ok v w'∧(∃ v',(Ending.returned v)=.returned v'∧Below w.heap.size w w'∧RetX w w' F (some ety) (res x) v'):=by
  intro σ' a' w' hg h
  obtain ⟨F',ρ,H,hext,hfr,hnew,hsz,hdf⟩:=hg
  unfold VR.run at h
  split at h
  ·cases h
  ·rename_i p y hv
   obtain ⟨hp,h⟩:=h
   obtain ⟨v,r1,r2⟩:=resV_ok H hv hp
   refine ⟨hdf.1,v,r1,v,rfl,⟨hext.os,hext.tape,hext.output,hext.size,fun b hb=>hfr b hb (by omega)⟩,?_⟩
   have hnb:∀ l b,(σ'.own l).obj.live=true→blk (ρ (pl l))=some b→w.heap.size≤b∧b < w'.heap.size:=fun l b hl hb=>by
    obtain ⟨g1,g2,_⟩:=blk_lt H.mem hl (holds_of hb)
    exact ⟨g2,g1⟩
   have hFn:∀ b,F' b→F b∨(w.heap.size≤b∧b < w'.heap.size):=fun b hb=>(hnew b hb).imp id (fun h=>⟨h,H.mem.fin b hb⟩)
   unfold RetIsD at h
   split at h
   ·cases h
   ·rename_i R hrow
    obtain ⟨hsrc,hav⟩:=h
    have hfinal:∀ (ty:TypeId) (nl:Option Bool) (e:ElB) (xs:List (List e.T)) (s:Value) (inner:Nat→Value),(res x).row=some ⟨ty,nl,.s e,xs⟩→DeepAt w' (fun b=>w.heap.size≤b) (fun _=>False) ty ety e xs s inner→nilOk nl s→(∀ b,F' b→newD w w' F s inner xs.length b) →
      (match firstOwn y with|some (l,ver)=>(σ'.own l).ver=ver∧(σ'.own l).obj.rowy∧s=ρ (pl l)|none=>s=.slice none 0 0)→RetX w w' F (some ety) (res x) v:=by
     intro ty nl e xs s inner g0 g1 g2 g4 g5
     unfold RetX RetD
     simp only [g0]
     exact ⟨s,inner,g1,g2,avIs_ok H.mem (row:=true) (s:=s) g4 (fun h=>by cases h) (fun _=>g5) hav r2⟩
    unfold srcIsD at hsrc
    split at hsrc
    ·rename_i l ver hfo
     split at hsrc
     ·rename_i ver' ty ety' e xs g hl
      obtain ⟨rfl,rfl,rfl,hg,hcast,hnl⟩:=hsrc
      obtain ⟨e',he⟩:=castL_ok hcast
      obtain ⟨Rty,Rnl,Rk,Rxs⟩:=R
      simp only at e' he hcast hnl hfinal ⊢
      subst e'
      simp only at he
      subst he
      obtain ⟨vs,hw,h1,hn,hin⟩:=deep_at H hl hg
      refine hfinal _ _ _ _ (ρ (pl l)) (fun i=>ρ (inn l i)) hrow ⟨vs,hw,h1,fun b hb=>(hn b hb).1.1,fun i x hx=>?_⟩ ?_ (fun b hb=>⟨hFn b hb,fun e=>(hn b e).1.2 hb,fun i hi e=>?_⟩) ?_
      ·obtain ⟨q1,q2,q3⟩:=hin i x hx
       exact ⟨q1,q2,fun b hb=>⟨(q3 b hb).1.1.1,(q3 b hb).2⟩⟩
      ·have hok:=H.mem.ok l
       rw [hl] at hok
       exact nil_or (deep_data hok hg) hnl
      ·exact ((hin i _ (List.getElem?_eq_getElem hi)).2.2 b e).1.1.2 hb
      ·rw [hfo]
       exact ⟨by rw [hl],by rw [hl];trivial,rfl⟩
     ·cases hsrc
    ·rename_i hfo
     obtain ⟨hxs,hkb,hnl⟩:=hsrc
     obtain ⟨Rty,Rnl,Rk,Rxs⟩:=R
     cases Rk with
     | b e=>cases hkb
     | s e=>
      simp only at hxs hnl hfinal ⊢
      subst hxs
      refine hfinal _ _ _ _ (.slice none 0 0) (fun _=>undef) hrow ⟨[],World.ownsRow_nil _ _ _ _,fun v hv=>by simp at hv,fun b hb=>by simp [blk] at hb,fun i x hx=>by simp at hx⟩ ?_ (fun b hb=>⟨hFn b hb,by simp [blk],fun i hi=>by simp at hi⟩) (by rw [hfo])
      rintro b rfl
      rcases hnl with h|h
      ·cases h
      ·injection h with h;subst h;simp
 cases e with
 | normal=>exact hfin h2 h1
 | ret=>exact hfin h2 h1
 | exit id=>exact h1
 | goto l=>exact h1
 | panic ch=>exact h1.elim
 | outgrown=>exact h1.elim
theorem sound_of_runDW {f:FuncId} {fn:Func} {body:Code} {ts:List Ty} {wi:Nat} {ty ety:TypeId} {pre:Args ts→Prop} {av:Args ts→AV} {out:Args ts→List (List Int)} (hm:P.follows .mixedOrders=true) (hc:CfgOk P c) (hf:P.funcs[f]?=some fn) (hb:fn.body=some body)
  (hn:ts.length≤fn.ntmps) (hcode:codeB c fn.ntmps body=true) (hrun:∀ x,pre x→awp c body (FinDW c fn.results.toList ty ety (av x) (out x)) ⟨initS (encW wi ts x),ownDW wi ty ety ts x⟩):SoundD P f (mkConDW ts wi ty ety pre av out):=by
 show SoundDD P f _
 intro w F args vs a l ver (x:Args ts) s xs inner ha hoc hoth hpat hpre hout hF hlen hargs hdp hone
 have hpat:decs ts (setA args wi (ownAs a (.d (.sl none (.s .int) xs))))=some x:=hpat
 have ha:nthA args wi=some a:=ha
 rw [setA_eq] at hpat
 rw [nthA_eq] at ha
 obtain ⟨hl,hat⟩:=decs_at hpat
 have hwi:wi < args.length:=(List.getElem?_eq_some_iff.1 ha).1
 obtain ⟨t0,u0,he0,hd0⟩:=hat wi (ownAs a (.d (.sl none (.s .int) xs))) (by rw [List.getElem?_set_self hwi])
 obtain ⟨hto,hrw⟩:=dec_ownD hoc hd0 ty ety
 have hencW:encW wi ts x=(encs ts x).set wi (ownAs a (.own 1000 0)):=by unfold encW;rw [nthA_eq,he0];simp only [setA_eq,hto]
 have hownW:ownDW wi ty ety ts x=upd deadOwn 1000 ⟨0,.deep ty ety .int xs noG⟩:=by unfold ownDW;rw [nthA_eq,he0];simp only [hrw]
 have hrun:=hrun x hpre
 rw [hencW,hownW] at hrun
 refine calls_of_wp hf hb ?_
 have hel:(encs ts x).length=args.length:=by have h0:(encs ts x).length=ts.length:=encs_len ts x;rw [h0,← hl];simp
 have hinit:Good P c w (fun b=>w.heap.size≤b∨blk s=some b∨∃ i,i < xs.length∧blk (inner i)=some b) F (setD noRho 1000 s inner) (upd deadOwn 1000 ⟨0,.deep ty ety .int xs noG⟩) fn.ntmps ⟨initS ((encs ts x).set wi (ownAs a (.own 1000 0))),upd deadOwn 1000 ⟨0,.deep ty ety .int xs noG⟩⟩
   { tmps:=vs.toArray ++ Array.replicate (fn.ntmps - vs.toArray.size) undef,defers:=[] } w:=by
  refine ⟨F,setD noRho 1000 s inner,⟨hc,fun t=>?_,⟨fun l=>?_,fun l l' b hne h1 h2=>?_,hF⟩⟩,Ext.refl w F,fun _ _ _=>rfl,fun b h=>.inl h,?_,rfl,fun l=>⟨Nat.le_refl _,fun _=>rfl⟩⟩
  ·show AVC w F _ _ (initS _ t) _
   unfold initS
   cases ht:((encs ts x).set wi (ownAs a (.own 1000 0)))[t]? with
   | none=>trivial
   | some y=>
    have hlt:t < vs.length:=by
     have:=(List.getElem?_eq_some_iff.1 ht).1
     rw [List.length_set] at this
     omega
    have hv:vs[t]?=some vs[t]:=List.getElem?_eq_getElem hlt
    simp only [Option.getD_some]
    have hg:(vs.toArray ++ Array.replicate (fn.ntmps - vs.toArray.size) undef).getD t undef=vs[t]:=by
     simp [hlt,Array.getElem?_append]
    rw [hg]
    by_cases htw:t=wi
    ·subst htw
     rw [List.getElem?_set_self (by omega)] at ht
     injection ht with ht
     subst ht
     have h1:=hargs t a _ ha hv
     have hcell:∀ v,v=s→CellC w F (setD noRho 1000 s inner) (upd deadOwn 1000 ⟨0,.deep ty ety .int xs noG⟩) (.own 1000 0) v:=fun v e=>by
      subst e
      exact ⟨hone,by rw [upd_eq];exact Nat.le_refl _,fun _=>(setD_pl _ _ _ _).symm⟩
     unfold ownCell at hoc
     split at hoc
     ·exact hcell _ h1
     ·obtain ⟨us,hus,hc1⟩:=h1
      refine ⟨us,hus,by rw [hc1.1];rfl,fun j z v hz hv=>?_⟩
      cases j with
      | zero=>simp at hz;subst hz;exact hcell v (hc1.2 0 _ v rfl hv)
      | succ j=>simp at hz
     ·cases hoc
    ·rw [List.getElem?_set_ne (Ne.symm htw)] at ht
     have hta:t < args.length:=by omega
     have hya:args[t]?=some args[t]:=List.getElem?_eq_getElem hta
     obtain ⟨t1,u1,he1,hd1⟩:=hat t args[t] (by rw [List.getElem?_set_ne (Ne.symm htw),hya])
     rw [ht] at he1
     injection he1 with he1
     subst he1
     have hst:=othersD_get hoth t _ htw hya
     refine dec_weak hd1 ?_
     have h1:=hargs t _ _ hya hv
     revert h1 hst
     generalize args[t]=y
     intro hst h1
     match y,hst with
     | .one (.d z),_=>exact h1
     | .agg cs,hst=>
      obtain ⟨us,hus,hc1⟩:=h1
      refine ⟨us,hus,hc1.imp fun z u hz hc=>?_⟩
      have:=List.all_eq_true.1 hst z hz
      cases z with
      | d x=>exact hc
      | own _ _=>cases this
      | ptr _ _ _ _=>cases this
      | sub _ _ _ _=>cases this
  ·by_cases h:l=1000
   ·subst h
    show OwnOk _ _ _ _ _ _ (upd deadOwn 1000 _ 1000).obj
    rw [upd_eq]
    obtain ⟨vs0,hw,h1,hn0,hin⟩:=hdp
    refine ⟨vs0,by rw [setD_pl];exact hw,h1,fun b hb=>by rw [setD_pl] at hb;exact ⟨.inr (.inl hb),(hn0 b hb).2⟩,fun i y hy _=>?_⟩
    obtain ⟨q1,⟨us,hu,hr⟩,q3⟩:=hin i y hy
    rw [setD_inn,setD_pl]
    exact ⟨q1,⟨us,hu,rowCb hr⟩,fun b hb=>⟨.inr (.inr ⟨i,(List.getElem?_eq_some_iff.1 hy).1,hb⟩),(q3 b hb).1.2,(q3 b hb).2.1,fun j z hj hz _=>by rw [setD_inn];exact (q3 b hb).2.2 j z hj hz⟩⟩
   ·show OwnOk _ _ _ _ _ _ (upd deadOwn 1000 _ l).obj
    rw [upd_ne _ _ h]
    trivial
  ·have key:∀ l,(upd deadOwn 1000 ⟨0,.deep ty ety .int xs noG⟩ l).obj.live=true→l=1000:=fun l h=>by
    by_cases h':l=1000
    ·exact h'
    ·rw [upd_ne _ _ h'] at h;cases h
   exact fun _ _=>hne (by rw [key l h1,key l' h2])
  ·have:args.length=ts.length:=by rw [← hl];simp
   simp;omega
 refine wp_code hm (w0:=w) (N:=fun b=>w.heap.size≤b∨blk s=some b∨∃ i,i < xs.length∧blk (inner i)=some b) (fun b h=>.inl h) body _ _ _ _ _ hcode (fun e σ' a' w' h1 h2=>?_) hinit hrun
 have hfin:∀ {σ':St} {a':Act} {w':World},Good P c w (fun b=>w.heap.size≤b∨blk s=some b∨∃ i,i < xs.length∧blk (inner i)=some b) F (setD noRho 1000 s inner) (upd deadOwn 1000 ⟨0,.deep ty ety .int xs noG⟩) fn.ntmps σ' a' w'→FinDW c fn.results.toList ty ety (av x) (out x) .ret σ'→a'.defers=[]∧∃ v,(results fn a'.tmps).run P w'=.ok v w' ∧
   (∃ v' inner',(Ending.returned v)=.returned v'∧w'.os=w.os∧w'.tape=w.tape∧w'.output=w.output∧w.heap.size≤w'.heap.size ∧
    (∀ b,b < w.heap.size→blk s≠some b→(∀ i,i < xs.length→blk (inner i)≠some b)→w'.heap[b]?=w.heap[b]?) ∧
    DeepAt w' (fun _=>True) (fun _=>False) ty ety .int (out x) s inner' ∧
    (∀ i b,i < xs.length→blk (inner' i)=some b→w.heap.size≤b∨∃ j,j < xs.length∧blk (inner j)=some b)∧AVG (RetCell w' (fun _=>False) none) (av x) v'):=by
  intro σ' a' w' hg h
  obtain ⟨F',ρ,H,hext,hfr,hnew,hsz,hdf⟩:=hg
  have h:(resV c σ' fn.results.toList).run _:=h
  unfold VR.run at h
  split at h
  ·cases h
  ·rename_i p y hv
   obtain ⟨hp,h⟩:=h
   obtain ⟨v,r1,r2⟩:=resV_ok H hv hp
   refine ⟨hdf.1,v,r1,v,?_⟩
   split at h
   ·rename_i ver' ty' ety' zs g hl1
    obtain ⟨rfl,rfl,rfl,hzs,hgg,hfl,hav⟩:=h
    have hver:(σ'.own 1000).ver=0:=by rw [hl1]
    have k1:=(hdf.2 1000).2 (by rw [upd_eq,hver])
    rw [setD_pl] at k1
    obtain ⟨vs',hw',h1',hn',hin'⟩:=deep_at H hl1 hgg
    rw [k1] at hw' hn'
    have hout:(out x).length=xs.length:=hout
    refine ⟨fun i=>ρ (inn 1000 i),by trivial,hext.os,hext.tape,hext.output,hext.size,fun b hb hne hni=>hfr b hb fun hN=>?_,⟨vs',by show World.ownsRow _ _ _ _ _ (out x).length _;rw [← hzs];exact hw',h1',fun b hb=>trivial,fun i y hy=>?_⟩,fun i b hi hb=>?_,?_⟩
    ·rcases hN with h|h|⟨i,hi,h⟩
     ·omega
     ·exact hne h
     ·exact hni i hi h
    ·have hy:(out x)[i]?=some y:=hy
     rw [← hzs] at hy
     obtain ⟨q1,q2,q3⟩:=hin' i y hy
     refine ⟨q1,q2,fun b hb=>⟨trivial,by rw [← k1];exact (q3 b hb).2.1,fun j z hj hz=>?_⟩⟩
     have hz:(out x)[j]?=some z:=hz
     rw [← hzs] at hz
     exact (q3 b hb).2.2 j z hj hz
    ·have hil:i < zs.length:=by rw [hzs,hout];exact hi
     obtain ⟨q1,q2,q3⟩:=hin' i _ (List.getElem?_eq_getElem hil)
     have hNb:=(q3 b hb).1.1.1
     rcases hNb with h|h|⟨j,hj,h⟩
     ·exact .inl h
     ·exact absurd (by rw [k1];exact h) (q3 b hb).2.1
     ·exact .inr ⟨j,hj,h⟩
    ·have:=avIs_ok H.mem (row:=false) (s:=.bool false) (G:=fun _=>True) (fun _ _=>trivial) (fun _ _ _ _ _=>trivial) (fun h=>by cases h) hav r2
     exact flat_any (fun z v h1 h2=>retCell_flat h1 h2) hfl this
   ·cases h
 cases e with
 | normal=>exact hfin h2 h1
 | ret=>exact hfin h2 h1
 | exit id=>exact h1
 | goto l=>exact h1
 | panic ch=>exact h1.elim
 | outgrown=>exact h1.elim
theorem BoxAt.cur {w:World} {F:Nat→Prop} {ty:TypeId} {nl:Option Bool} {bs:List Int} {xs:List D} {b:Nat} (h:BoxAt w F ty (.sl nl (.b .u8) bs :: xs) b):BoxAt w F ty (.sl none (.b .u8) bs :: xs) b:=by
 obtain ⟨us,h1,h2,h3,h4⟩:=h
 refine ⟨us,h1,h2,h3,fun j x u hx hu=>?_⟩
 cases j with
 | zero=>
  simp only [List.getElem?_cons_zero,Option.some.injEq] at hx
  subst hx
  have:=h4 0 _ u rfl hu
  cases this with|sl _ hs=>exact dc_weak (k:=.b .u8) hs
 | succ j=>exact h4 (j + 1) x u hx hu
end
theorem eqOk_of {P:Program} {t tf:TypeId} {f0 f1:Field} (hg:P.eqGuardType P.depth t=false) (hs:P.stoodInHeld t=false) (hu:P.underlying t=some (.struct #[f0,f1]))
  (h0 : (f0.name, f0.type, f0.offset) = ("X", tf, 0)) (h1 : (f1.name, f1.type, f1.offset) = ("Y", tf, 1)) (hi : P.underlying tf = some (.int .i64)) : EqOk P t := by
 intro w x y a1 a2 b1 b2
 simp only [Prod.mk.injEq] at h0 h1
 obtain ⟨n0,t0,o0⟩:=h0
 obtain ⟨n1,t1,o1⟩:=h1
 have hag:aggB P tf=false:=by simp [aggB,hi]
 have hisS:(P.underlying tf).isSome=true:=by simp [hi]
 have hint:∀ (d:Nat) (a b:Int) (w:World),(Op.equalIn (d + 1) tf (.int .i64 a) (.int .i64 b)).run P w=.ok (a == b) w:=fun d a b w=>by simp [Op.equalIn,run_und hi]
 have hpart0:∀ (a b:Int) (w:World),(part tf #[.int .i64 a,.int .i64 b] 0).run P w=.ok (.int .i64 a) w:=fun a b w=>by
  unfold part
  simp [run_isAgg hisS,hag]
 have hpart1:∀ (a b:Int) (w:World),(part tf #[.int .i64 a,.int .i64 b] 1).run P w=.ok (.int .i64 b) w:=fun a b w=>by
  unfold part
  simp [run_isAgg hisS,hag]
 have hfo:P.fieldsOf t=#[f0,f1]:=by simp [Program.fieldsOf,hu]
 refine ⟨?_,?_,?_⟩
 ·unfold eqGuard;simp [hg]
 ·unfold eqGuard;simp [hg]
 ·have hX : (("X" : String) = "_") = False := by simp
  have hY : (("Y" : String) = "_") = False := by simp
  unfold Op.equal Op.maxDepth
  rw [run_equalIn_struct w 9999 t _ _ (by rw [hu,hfo]) hs,hfo]
  simp only [Op.eqFields,n0,n1,t0,t1,o0,o1,ne_eq,hX,hY,not_false_eq_true,if_true,Sem.run_bind,hpart0,Result.andThen_ok,hint 9998]
  by_cases e1:a1=b1
  ·subst e1
   by_cases e2:a2=b2
   ·subst e2;simp [hpart1,hint 9998]
   ·simp [hpart1,hint 9998,e2]
  ·simp [e1]
theorem bif_some {α:Type _} {b:Bool} {x i:α} {y:Option α} (h:(bif b then some x else y)=some i):(b=true∧x=i)∨(b=false∧y=some i):=by
 cases b with
 | true=>injection h with h;exact .inl ⟨rfl,h⟩
 | false=>exact .inr ⟨rfl,h⟩
def tInt:TI:=⟨1,[.int .i64],.int .i64⟩
def tBool:TI:=⟨1,[.bool],.bool⟩
def tPt:TI:=⟨2,[.int .i64,.int .i64],.struct [(0,1,false),(1,1,false)] true⟩
def tWall:TI:=⟨4,[.int .i64,.int .i64,.int .i64,.int .i64],.struct [(0,2,true),(2,2,true)] false⟩
def tRoom:TI:=⟨1,[.nil],.struct [(0,1,false)] false⟩
def tSlI (e:TypeId):TI:=⟨1,[.nil],.slice e (.b .int) 8 [.int .i64]⟩
def tSlP (e:TypeId):TI:=⟨1,[.nil],.slice e (.b .pt) 16 [.int .i64,.int .i64]⟩
def tSlW (e:TypeId):TI:=⟨1,[.nil],.slice e (.b .wall) 32 [.int .i64,.int .i64,.int .i64,.int .i64]⟩
def tU8:TI:=⟨1,[.int .u8],.int .u8⟩
def tSlU (e:TypeId):TI:=⟨1,[.nil],.slice e (.b .u8) 1 [.int .u8]⟩
def tCur:TI:=⟨3,[.nil,.int .i64,.int .i64],.struct [(0,1,false),(1,1,false),(2,1,false)] false⟩
def tSlII (e:TypeId):TI:=⟨1,[.nil],.slice e (.s .int) 24 [.nil]⟩
def look {α:Type _}:List (Nat × α)→Nat→Option α
 | [],_=>none
 | (k,x) :: r,n=>bif Nat.beq n k then some x else look r n
def memB:List Nat→Nat→Bool
 | [],_=>false
 | k :: r,n=>bif Nat.beq n k then true else memB r n
def TysOk (P:Program):List (TypeId × TI)→Prop
 | []=>True
 | x :: r=>TIok P x.1 x.2∧TysOk P r
structure Good1 (P:Program) (f:FuncId) (c:Con):Prop where
 snd:Sound P f c
 has : ∃ fn, P.funcs[f]? = some fn ∧ (fn.name == "runtime.NumGoroutine") = false ∧ fn.body.isNone = false
def EnvOk (P:Program):List (FuncId × Con)→Prop
 | []=>True
 | x :: r=>Good1 P x.1 x.2∧EnvOk P r
structure GoodW (P:Program) (f:FuncId) (c:ConW):Prop where
 snd:SoundW P f c
 has : ∃ fn, P.funcs[f]? = some fn ∧ (fn.name == "runtime.NumGoroutine") = false ∧ fn.body.isNone = false
def EnvWOk (P:Program):List (FuncId × ConW)→Prop
 | []=>True
 | x :: r=>GoodW P x.1 x.2∧EnvWOk P r
theorem look_envw {P : Program} : ∀ {l : List (FuncId × ConW)}, EnvWOk P l → ∀ f k, look l f = some k → SoundW P f k ∧ (∃ fn, P.funcs[f]? = some fn ∧ (fn.name == "runtime.NumGoroutine") = false ∧ fn.body.isNone = false)
 | [],_,t,i,h=>by cases h
 | x :: r,hl,t,i,h=>by
  unfold look at h
  rcases bif_some h with ⟨hb,rfl⟩|⟨_,h⟩
  ·rw [Nat.eq_of_beq_eq_true hb];exact ⟨hl.1.snd,hl.1.has⟩
  ·exact look_envw hl.2 t i h
theorem look_ty {P:Program}:∀ {l:List (TypeId × TI)},TysOk P l→∀ t i,look l t=some i→TIok P t i
 | [],_,t,i,h=>by cases h
 | x :: r,hl,t,i,h=>by
  unfold look at h
  rcases bif_some h with ⟨hb,rfl⟩|⟨_,h⟩
  ·rw [Nat.eq_of_beq_eq_true hb];exact hl.1
  ·exact look_ty hl.2 t i h
theorem look_env {P : Program} : ∀ {l : List (FuncId × Con)}, EnvOk P l → ∀ f k, look l f = some k → Sound P f k ∧ (∃ fn, P.funcs[f]? = some fn ∧ (fn.name == "runtime.NumGoroutine") = false ∧ fn.body.isNone = false)
 | [],_,t,i,h=>by cases h
 | x :: r,hl,t,i,h=>by
  unfold look at h
  rcases bif_some h with ⟨hb,rfl⟩|⟨_,h⟩
  ·rw [Nat.eq_of_beq_eq_true hb];exact ⟨hl.1.snd,hl.1.has⟩
  ·exact look_env hl.2 t i h
structure GoodD (P:Program) (f:FuncId) (c:ConD):Prop where
 snd:SoundD P f c
 has : ∃ fn, P.funcs[f]? = some fn ∧ (fn.name == "runtime.NumGoroutine") = false ∧ fn.body.isNone = false
def EnvDOk (P:Program):List (FuncId × ConD)→Prop
 | []=>True
 | x :: r=>GoodD P x.1 x.2∧EnvDOk P r
theorem look_envd {P : Program} : ∀ {l : List (FuncId × ConD)}, EnvDOk P l → ∀ f k, look l f = some k → SoundD P f k ∧ (∃ fn, P.funcs[f]? = some fn ∧ (fn.name == "runtime.NumGoroutine") = false ∧ fn.body.isNone = false)
 | [],_,t,i,h=>by cases h
 | x :: r,hl,t,i,h=>by
  unfold look at h
  rcases bif_some h with ⟨hb,rfl⟩|⟨_,h⟩
  ·rw [Nat.eq_of_beq_eq_true hb];exact ⟨hl.1.snd,hl.1.has⟩
  ·exact look_envd hl.2 t i h
@[reducible] def mkCfg (tys:List (TypeId × TI)) (env:List (FuncId × Con)) (envw:List (FuncId × ConW)) (wr fr sp sw dp:List Nat) (envd:List (FuncId × ConD)) (pure:Bool):Cfg:=⟨look tys,look env,memB wr,memB fr,look envw,memB sp,pure,memB sw,memB dp,look envd⟩
section
variable {P : Program} {f : FuncId} {fn : Func} {body : Code} {tys : List (TypeId × TI)} {env : List (FuncId × Con)} {envw : List (FuncId × ConW)} {envd : List (FuncId × ConD)} {ts : List Ty} {wi : Nat} {ty ety : TypeId} {pre : Args ts → Prop} {res : Args ts → RV} {av : Args ts → AV} {out : Args ts → WR} {outD : Args ts → List (List Int)}
theorem good_of_run (wr fr sp sw dp:List Nat) (hm:P.follows .mixedOrders=true) (ht:TysOk P tys) (he:EnvOk P env) (hew:EnvWOk P envw) (hed:EnvDOk P envd)
  (hf : P.funcs[f]? = some fn) (hb : fn.body = some body) (hname : (fn.name == "runtime.NumGoroutine") = false) (hn : ts.length ≤ fn.ntmps) (hcode : codeB (mkCfg tys env envw wr fr sp sw dp envd true) fn.ntmps body = true)
  (hrun:∀ x,pre x→awp (mkCfg tys env envw wr fr sp sw dp envd true) body (Fin (mkCfg tys env envw wr fr sp sw dp envd true) fn.results.toList (res x)) ⟨initS (encs ts x),deadOwn⟩):Good1 P f (mkCon ts pre res):=
 ⟨sound_of_run hm ⟨look_ty ht,look_env he,look_envw hew,look_envd hed⟩ hf hb hn hcode hrun,fn,hf,hname,by rw [hb];rfl⟩
theorem good_of_runD (wr fr sp sw dp:List Nat) (hm:P.follows .mixedOrders=true) (ht:TysOk P tys) (he:EnvOk P env) (hew:EnvWOk P envw) (hed:EnvDOk P envd)
  (hf : P.funcs[f]? = some fn) (hb : fn.body = some body) (hname : (fn.name == "runtime.NumGoroutine") = false) (hn : ts.length ≤ fn.ntmps) (hcode : codeB (mkCfg tys env envw wr fr sp sw dp envd true) fn.ntmps body = true)
  (hrun:∀ x,pre x→awp (mkCfg tys env envw wr fr sp sw dp envd true) body (FinD (mkCfg tys env envw wr fr sp sw dp envd true) fn.results.toList ety (res x)) ⟨initS (encs ts x),deadOwn⟩):Good1 P f (mkConD ts pre res ety):=
 ⟨sound_of_runD hm ⟨look_ty ht,look_env he,look_envw hew,look_envd hed⟩ hf hb hn hcode hrun,fn,hf,hname,by rw [hb];rfl⟩
theorem good_of_runW (wr fr sp sw dp:List Nat) (hm:P.follows .mixedOrders=true) (ht:TysOk P tys) (he:EnvOk P env) (hew:EnvWOk P envw) (hed:EnvDOk P envd)
  (hf : P.funcs[f]? = some fn) (hb : fn.body = some body) (hname : (fn.name == "runtime.NumGoroutine") = false) (hn : ts.length ≤ fn.ntmps) (hcode : codeB (mkCfg tys env envw wr fr sp sw dp envd false) fn.ntmps body = true)
  (hrun:∀ x,pre x→awp (mkCfg tys env envw wr fr sp sw dp envd false) body (FinW (mkCfg tys env envw wr fr sp sw dp envd false) fn.results.toList ty (av x) (out x)) ⟨initS (encW wi ts x),ownW wi ty ts x⟩):GoodW P f (mkConW ts wi ty pre av out):=
 ⟨sound_of_runW hm ⟨look_ty ht,look_env he,look_envw hew,look_envd hed⟩ hf hb hn hcode hrun,fn,hf,hname,by rw [hb];rfl⟩
theorem good_of_runDW (wr fr sp sw dp:List Nat) (hm:P.follows .mixedOrders=true) (ht:TysOk P tys) (he:EnvOk P env) (hew:EnvWOk P envw) (hed:EnvDOk P envd)
  (hf : P.funcs[f]? = some fn) (hb : fn.body = some body) (hname : (fn.name == "runtime.NumGoroutine") = false) (hn : ts.length ≤ fn.ntmps) (hcode : codeB (mkCfg tys env envw wr fr sp sw dp envd false) fn.ntmps body = true)
  (hrun:∀ x,pre x→awp (mkCfg tys env envw wr fr sp sw dp envd false) body (FinDW (mkCfg tys env envw wr fr sp sw dp envd false) fn.results.toList ty ety (av x) (outD x)) ⟨initS (encW wi ts x),ownDW wi ty ety ts x⟩):GoodD P f (mkConDW ts wi ty ety pre av outD):=
 ⟨sound_of_runDW hm ⟨look_ty ht,look_env he,look_envw hew,look_envd hed⟩ hf hb hn hcode hrun,fn,hf,hname,by rw [hb];rfl⟩
end
end Go.Proofs.YtpafacebfogkmaaGreat
namespace Go.Proofs.YtpafacebfogkmaaGreat
open Go.RowKit Go.Proofs.YtpafacebfogkmaaGreat.Nm
def tUint:TI:=⟨1,[.int .u64],.int .u64⟩
theorem ty_int:TIok Tryz.prog t_int tInt:=⟨by kernel_rfl,by kernel_rfl,by kernel_rfl,by kernel_rfl,Tryz.underlying3⟩
theorem ty_bool:TIok Tryz.prog t_bool tBool:=⟨by kernel_rfl,by kernel_rfl,by kernel_rfl,by kernel_rfl,Tryz.underlying4⟩
theorem ty_ipt:TIok Tryz.prog t_impl_Point tPt:=⟨by kernel_rfl,by kernel_rfl,by kernel_rfl,by kernel_rfl,by kernel_rfl,fun _=>eqOk_of (by kernel_rfl) (by kernel_rfl) Tryz.underlying60 rfl rfl (by kernel_rfl)⟩
theorem ty_lpt:TIok Tryz.prog t_laws_Point tPt:=⟨by kernel_rfl,by kernel_rfl,by kernel_rfl,by kernel_rfl,by kernel_rfl,fun _=>eqOk_of (by kernel_rfl) (by kernel_rfl) Tryz.underlying93 rfl rfl (by kernel_rfl)⟩
theorem ty_wall:TIok Tryz.prog t_impl_Wall tWall:=⟨by kernel_rfl,by kernel_rfl,by kernel_rfl,by kernel_rfl,by kernel_rfl,fun h=>by cases h⟩
theorem ty_iroom:TIok Tryz.prog t_impl_Room tRoom:=⟨by kernel_rfl,by kernel_rfl,by kernel_rfl,by kernel_rfl,by kernel_rfl,fun h=>by cases h⟩
theorem ty_lroom:TIok Tryz.prog t_laws_Room tRoom:=⟨by kernel_rfl,by kernel_rfl,by kernel_rfl,by kernel_rfl,by kernel_rfl,fun h=>by cases h⟩
theorem ty_sip:TIok Tryz.prog t_sl_impl_Point (tSlP t_impl_Point):=⟨by kernel_rfl,by kernel_rfl,by kernel_rfl,by kernel_rfl,by kernel_rfl,by kernel_rfl,by kernel_rfl,by kernel_rfl⟩
theorem ty_slp:TIok Tryz.prog t_sl_laws_Point (tSlP t_laws_Point):=⟨by kernel_rfl,by kernel_rfl,by kernel_rfl,by kernel_rfl,by kernel_rfl,by kernel_rfl,by kernel_rfl,by kernel_rfl⟩
theorem ty_sw:TIok Tryz.prog t_sl_impl_Wall (tSlW t_impl_Wall):=⟨by kernel_rfl,by kernel_rfl,by kernel_rfl,by kernel_rfl,by kernel_rfl,by kernel_rfl,by kernel_rfl,by kernel_rfl⟩
theorem ty_si:TIok Tryz.prog t_sl_int (tSlI t_int):=⟨by kernel_rfl,by kernel_rfl,by kernel_rfl,by kernel_rfl,by kernel_rfl,by kernel_rfl,by kernel_rfl,by kernel_rfl⟩
theorem ty_sii:TIok Tryz.prog t_sl_sl_int (tSlII t_sl_int):=⟨by kernel_rfl,by kernel_rfl,by kernel_rfl,by kernel_rfl,by kernel_rfl,by kernel_rfl,by kernel_rfl,by kernel_rfl⟩
theorem ty_uint:TIok Tryz.prog t_uint tUint:=⟨by kernel_rfl,by kernel_rfl,by kernel_rfl,by kernel_rfl,Tryz.underlying82⟩
theorem ty_u8:TIok Tryz.prog t_uint8 tU8:=⟨by kernel_rfl,by kernel_rfl,by kernel_rfl,by kernel_rfl,Tryz.underlying5⟩
theorem ty_su8:TIok Tryz.prog t_sl_uint8 (tSlU t_uint8):=⟨by kernel_rfl,by kernel_rfl,by kernel_rfl,by kernel_rfl,by kernel_rfl,by kernel_rfl,by kernel_rfl,by kernel_rfl⟩
theorem ty_cur:TIok Tryz.prog t_spec_l01Cur tCur:=⟨by kernel_rfl,by kernel_rfl,by kernel_rfl,by kernel_rfl,by kernel_rfl,fun h=>by cases h⟩
def tyL:List (TypeId × TI):=[(t_int,tInt),(t_bool,tBool),(t_impl_Point,tPt),(t_impl_Wall,tWall),(t_impl_Room,tRoom),(t_sl_impl_Point,tSlP t_impl_Point),(t_sl_impl_Wall,tSlW t_impl_Wall)
 ,(t_laws_Point,tPt)
 ,(t_laws_Room,tRoom)
 ,(t_sl_laws_Point,tSlP t_laws_Point)
 ,(t_sl_int,tSlI t_int)
 ,(t_sl_sl_int,tSlII t_sl_int)
 ,(t_uint,tUint)
 ,(t_uint8,tU8)
 ,(t_sl_uint8,tSlU t_uint8)
 ,(t_spec_l01Cur,tCur)
 ]
theorem tys:TysOk Tryz.prog tyL:=⟨ty_int,ty_bool,ty_ipt,ty_wall,ty_iroom,ty_sip,ty_sw
 ,ty_lpt
 ,ty_lroom
 ,ty_slp
 ,ty_si
 ,ty_sii
 ,ty_uint
 ,ty_u8
 ,ty_su8
 ,ty_cur
 ,trivial⟩
theorem mixed:Tryz.prog.follows .mixedOrders=true:=by kernel_rfl
end Go.Proofs.YtpafacebfogkmaaGreat
namespace Go.Proofs.YtpafacebfogkmaaGreat
open Go.RowKit
theorem vr_mono {α:Type} {r:VR α} {K K':α→Prop} (h:∀ x,K x→K' x) (hr:r.run K):r.run K':=by
 cases r with
 | no=>exact hr
 | ok p x=>exact ⟨hr.1,h _ hr.2⟩
theorem aop_mono {c:Cfg} {o:Oper} {σ:St} {K K':St→Prop} (h:∀ x,K x→K' x) (hr:aop c o σ K):aop c o σ K':=by
 unfold aop at *
 cases h1:isEff c o <;> rw [h1] at hr <;> simp only at *
 ·cases h2:isFr c o <;> rw [h2] at hr <;> simp only at *
  ·cases h3:isSp c o <;> rw [h3] at hr <;> simp only at *
   ·exact vr_mono (fun _=>h _) hr
   ·exact ⟨hr.1,vr_mono (fun _=>h _) hr.2⟩
  ·exact ⟨hr.1,vr_mono (fun _=>h _) hr.2⟩
 ·exact vr_mono (fun _=>h _) hr
theorem aguard_mono {ops:List Oper} {o:Oper} {σ:St} {K K':Bool→St→Prop} (h:∀ b x,K b x→K' b x) (hr:aguard ops o σ K):aguard ops o σ K':=by
 unfold aguard at *
 split at hr
 ·exact h _ _ hr
 ·split at hr
  ·split at hr
   ·split at hr
    ·exact ⟨fun e=>h _ _ (hr.1 e),fun e=>h _ _ (hr.2 e)⟩
    ·exact h _ _ hr
    ·exact hr
   ·exact hr
  ·exact hr
theorem arun_mono {c:Cfg} {ops:List Oper}:∀ {l:List Oper} {σ:St} {K K':St→Prop},(∀ x,K x→K' x)→arun c ops l σ K→arun c ops l σ K'
 | [],σ,K,K',h,hr=>h _ hr
 | o :: rest,σ,K,K',h,hr=>by
  unfold arun at *
  refine aguard_mono (fun b x hb=>?_) hr
  cases b with
  | true=>exact aop_mono (fun _=>arun_mono h) hb
  | false=>exact arun_mono h hb
theorem awp_mono {c:Cfg}:∀ {x:Code} {Q Q':Exit→St→Prop} {σ:St},(∀ e s,Q e s→Q' e s)→awp c x Q σ→awp c x Q' σ:=by
 intro x
 induction x with
 | skip=>intro Q Q' σ h hr;exact h _ _ hr
 | label _=>intro Q Q' σ h hr;exact h _ _ hr
 | region _ ops _=>
  intro Q Q' σ h hr
  obtain ⟨σ0,h0,hr⟩:=hr
  exact ⟨σ0,h0,arun_mono (fun _ ⟨D,E,hk,hm,hD⟩=>⟨D,E,hk,hm,h _ _ hD⟩) hr⟩
 | seq a b iha ihb=>
  intro Q Q' σ h hr
  refine iha (fun e s hs=>?_) hr
  cases e with
  | normal=>exact ihb h hs
  | _=>exact h _ _ hs
 | cond p a b iha ihb=>
  intro Q Q' σ h hr
  simp only [awp] at hr ⊢
  split at hr
  ·exact ⟨fun e=>iha h (hr.1 e),fun e=>ihb h (hr.2 e)⟩
  ·exact hr
 | block id a iha=>
  intro Q Q' σ h hr
  refine iha (fun e s hs=>?_) hr
  cases e with
  | exit i=>
   simp only at hs ⊢
   cases hb:Nat.beq i id <;> rw [hb] at hs <;> exact h _ _ hs
  | _=>exact h _ _ hs
 | loop a iha=>
  intro Q Q' σ h hr
  obtain ⟨σ0,I,μ,hk,h0,h1⟩:=hr
  refine ⟨σ0,I,μ,hk,h0,fun s hs=>iha (fun e t ht=>?_) (h1 s hs)⟩
  cases e with
  | normal=>exact ht
  | _=>exact h _ _ ht
 | exit id=>intro Q Q' σ h hr;exact h _ _ hr
 | ret=>intro Q Q' σ h hr;exact h _ _ hr
 | _=>intro Q Q' σ h hr;exact hr
def D.fc1 (x:D) (K:D→Prop):Prop:=match x with
 | .int k n=>K (.int k n)|.bool b=>K (.bool b)|.nil=>K .nil|.sl nl k xs=>K (.sl nl k xs)|.full k xs=>K (.full k xs)|.ptr cs=>K (.ptr cs)|.clo f caps=>K (.clo f caps)
def fcDs:List D→(List D→Prop)→Prop
 | [],K=>K []
 | x :: xs,K=>x.fc1 fun x=>fcDs xs fun xs=>K (x :: xs)
def D.fc (x:D) (K:D→Prop):Prop:=match x with
 | .int k n=>K (.int k n)|.bool b=>K (.bool b)|.nil=>K .nil|.sl nl k xs=>K (.sl nl k xs)|.full k xs=>K (.full k xs)|.ptr cs=>fcDs cs fun cs=>K (.ptr cs)|.clo f caps=>fcDs caps fun caps=>K (.clo f caps)
def Cell.fc (x:Cell) (K:Cell→Prop):Prop:=match x with
 | .d x=>x.fc fun x=>K (.d x)|.own l v=>K (.own l v)|.ptr l v i j=>K (.ptr l v i j)|.sub l v i j=>K (.sub l v i j)
def fcCs:List Cell→(List Cell→Prop)→Prop
 | [],K=>K []
 | x :: xs,K=>x.fc fun x=>fcCs xs fun xs=>K (x :: xs)
def fcSs:List (Cell ⊕ List Cell)→(List (Cell ⊕ List Cell)→Prop)→Prop
 | [],K=>K []
 | .inl x :: xs,K=>x.fc fun x=>fcSs xs fun xs=>K (.inl x :: xs)
 | .inr x :: xs,K=>fcCs x fun x=>fcSs xs fun xs=>K (.inr x :: xs)
def AV.fc (x:AV) (K:AV→Prop):Prop:=match x with
 | .one c=>c.fc fun c=>K (.one c)|.agg cs=>fcCs cs fun cs=>K (.agg cs)|.tup xs=>fcSs xs fun xs=>K (.tup xs)|.junk=>K .junk
def Own.fc (x:Own) (K:Own→Prop):Prop:=match x with
 | .dead=>K .dead|.box ty cs=>fcCs cs fun cs=>K (.box ty cs)|.row ty k xs=>K (.row ty k xs)|.tail ty k xs=>K (.tail ty k xs)|.deep ty ety e xs g=>K (.deep ty ety e xs g)
theorem D.fc1_eq (x:D) (K:D→Prop):x.fc1 K=K x:=by cases x <;> rfl
theorem fcDs_eq:∀ (xs:List D) (K:List D→Prop),fcDs xs K=K xs
 | [],_=>rfl
 | x :: xs,K=>by unfold fcDs;rw [D.fc1_eq,fcDs_eq xs]
theorem D.fc_eq (x:D) (K:D→Prop):x.fc K=K x:=by
 cases x with
 | ptr cs=>exact fcDs_eq cs fun x=>K (.ptr x)
 | clo f cs=>exact fcDs_eq cs fun x=>K (.clo f x)
 | _=>rfl
theorem Cell.fc_eq (x:Cell) (K:Cell→Prop):x.fc K=K x:=by
 cases x with
 | d x=>exact D.fc_eq x fun x=>K (.d x)
 | _=>rfl
theorem fcCs_eq:∀ (xs:List Cell) (K:List Cell→Prop),fcCs xs K=K xs
 | [],_=>rfl
 | x :: xs,K=>by unfold fcCs;rw [Cell.fc_eq,fcCs_eq xs]
theorem fcSs_eq:∀ (xs:List (Cell ⊕ List Cell)) (K:List (Cell ⊕ List Cell)→Prop),fcSs xs K=K xs
 | [],_=>rfl
 | .inl x :: xs,K=>by unfold fcSs;rw [Cell.fc_eq,fcSs_eq xs]
 | .inr x :: xs,K=>by unfold fcSs;rw [fcCs_eq,fcSs_eq xs]
theorem AV.fc_eq (x:AV) (K:AV→Prop):x.fc K=K x:=by
 cases x with
 | one c=>exact Cell.fc_eq c fun x=>K (.one x)
 | agg cs=>exact fcCs_eq cs fun x=>K (.agg x)
 | tup cs=>exact fcSs_eq cs fun x=>K (.tup x)
 | junk=>rfl
theorem Own.fc_eq (x:Own) (K:Own→Prop):x.fc K=K x:=by
 cases x with
 | box ty cs=>exact fcCs_eq cs fun x=>K (.box ty x)
 | _=>rfl
abbrev Sl:=Nat→AV
abbrev Ow:=Nat→Loc
def aput (s:Sl) (dst:Option Tmp) (x:AV) (K:Sl→Prop):Prop:=match dst with
 | some d=>K (upd s d x)
 | none=>K s
theorem aput_eq (σ:St) (dst:Option Tmp) (x:AV) (K:Sl→Prop):aput σ.slots dst x K=K (σ.put dst x).slots:=by cases dst <;> rfl
def verOf (own:Nat→Loc) (d:Nat) (K:Nat→VR (AV × Nat × Loc)):VR (AV × Nat × Loc):=match own d with|⟨v,_⟩=>K (v + 1)
def aeffV (c:Cfg) (o:Oper) (ev:Operand→AV) (own:Nat→Loc):VR (AV × Nat × Loc):=
 match o.op,o.dst with
 | .alloc t,some d=>match c.ty t with
  | some i=>verOf own d fun v_=>.ok (deadIf (c.fr d) (own d)) (.one (.ptr d v_ 0 0),d,⟨v_,.box t (i.zero.map ZK.c)⟩)
  | none=>.no
 | .box t x,some d=>match cells (ev x) with
  | some cs=>verOf own d fun v_=>.ok True (.one (.ptr d v_ 0 0),d,⟨v_,.box t cs⟩)
  | none=>.no
 | .buildSlice t len parts,some d=>match c.ty t with
  | some ⟨_,_,.slice e k _ z⟩=>match Nat.ble len 1024,elems k (z.map ZK.c) (parts.toList.map fun p=>(p.1,ev p.2)) len with
   | true,some xs=>verOf own d fun v_=>.ok True (.one (.own d v_),d,⟨v_,.row e k xs⟩)
   | _,_=>.no
  | _=>.no
 | .makeSlice t len cap,some d=>match c.ty t,ev len,ev cap with
  | some ⟨_,_,.slice e k b z⟩,.one (.d (.int .i64 n)),.one (.d (.int .i64 n'))=>match k.dec (z.map ZK.c) with
   | some z=>verOf own d fun v_=>.ok (n'=n∧0≤n∧n≤1073741824∧b≤4096) (.one (.own d v_),d,⟨v_,.row e k (List.replicate n.toNat z)⟩)
   | none=>.no
  | _,_,_=>.no
 | .store t a x,none=>match ev a,cells (ev x),c.ty t with
  | .one (.ptr l ver i j),some cs,some ti=>match Nat.beq cs.length ti.size,own l with
   | true,⟨ver',.box ty cs'⟩=>.ok (ver=ver'∧j + cs.length≤cs'.length) (.junk,l,⟨ver,.box ty (putCells cs' j cs)⟩)
   | true,⟨ver',.row ty k xs⟩=>match setElem k xs i j cs with
    | some xs'=>.ok (ver=ver'∧j + cs.length≤k.size∧i < xs.length) (.junk,l,⟨ver,.row ty k xs'⟩)
    | none=>.no
   | _,_=>.no
  | _,_,_=>.no
 | .slice t x none (some hi) none,some _=>match c.ty t,ev x,ev hi with
  | some ⟨_,_,.slice _ k' _ _⟩,.one (.own l ver),.one (.d (.int _ h))=>match own l with
   | ⟨ver',.row ty k xs⟩=>match ElK.beq k' k with
    | true=>.ok (ver=ver'∧(0≤h∧h≤(xs.length:Int))) (.one (.own l (ver + 1)),l,⟨ver + 1,.row ty k (xs.take h.toNat)⟩)
    | false=>.no
   | _=>.no
  | _,_,_=>.no
 | .slice t x (some lo) none none,some d=>match c.ty t,ev x,ev lo with
  | some ⟨_,_,.slice _ k' _ _⟩,.one (.own l ver),.one (.d (.int _ h))=>match own l with
   | ⟨ver',.row ty k xs⟩=>match ElK.beq k' k with
    | true=>.ok (ver=ver'∧tailF c d l=true∧0 < xs.length∧(0≤h∧h≤(xs.length:Int))) (.one (.own l (ver + 1)),l,⟨ver + 1,.tail ty k (xs.drop h.toNat)⟩)
    | false=>.no
   | ⟨ver',.tail ty k xs⟩=>match ElK.beq k' k with
    | true=>.ok (ver=ver'∧tailF c d l=true∧(0≤h∧h≤(xs.length:Int))) (.one (.own l (ver + 1)),l,⟨ver + 1,.tail ty k (xs.drop h.toNat)⟩)
    | false=>.no
   | _=>.no
  | _,_,_=>.no
 | .call cl,some d=>match cl.callee with
  | .builtin .append=>match evL ev cl.args.toList,cl.argTypes.toList with
   | [s,x],[t,t']=>match Nat.beq t t',c.ty t with
    | true,some ⟨_,_,.slice e k b _⟩=>match view own x with
     | .no=>.no
     | .ok p (x',bv)=>match asYs k x' with
      | none=>.no
      | some ys=>match s with
       | .one (.own l ver)=>match own l with
        | ⟨ver',.row ty k' xs⟩=>match castL k k' xs with
         | some xs=>.ok (p∧(bv && !k.base)=false∧ver=ver'∧ty=e∧xs.length + ys.length≤1073741824∧b≤4096) (.one (.own l (ver' + 1)),l,⟨ver' + 1,.row e k (xs ++ ys)⟩)
         | none=>.no
        | ⟨ver',.tail ty k' xs⟩=>match castL k k' xs with
         | some xs=>.ok (p∧(bv && !k.base)=false∧ver=ver'∧ty=e∧0 < ys.length∧xs.length + ys.length≤1073741824∧b≤4096) (.one (.own l (ver' + 1)),l,⟨ver' + 1,.tail e k (xs ++ ys)⟩)
         | none=>.no
        | _=>.no
       | .one (.d (.full k' xs))=>match castL k k' xs with
        | some xs=>verOf own d fun v_=>.ok (p∧(bv && !k.base)=false∧0 < ys.length∧xs.length + ys.length≤1073741824∧b≤4096) (.one (.own d v_),d,⟨v_,.row e k (xs ++ ys)⟩)
        | none=>.no
       | .one (.d .nil)=>verOf own d fun v_=>.ok (p∧(bv && !k.base)=false∧ys.length≤1073741824∧b≤4096) (.one (.own d v_),d,⟨v_,.row e k ys⟩)
       | _=>.no
    | _,_=>.no
   | _,_=>.no
  | .value g=>match ev g with
   | .one (.d (.clo f caps))=>match acallW c own f (evL ev cl.args.toList ++ capsOf caps) with
    | .ok p l ver ty k ys true _=>.ok p (.one (.own l (ver + 1)),l,⟨ver + 1,.row ty k ys⟩)
    | .ok p l ver ty k ys false av=>.ok p (av,l,⟨ver,.row ty k ys⟩)
    | .no=>match acall c own f (evL ev cl.args.toList ++ capsOf caps) with
     | .no=>.no
     | .ok p r=>match r.row with
      | some R=>verOf own d fun v_=>.ok p (ren (.own d v_) r.av,d,⟨v_,.row R.ty R.k R.xs⟩)
      | none=>.ok p (r.data,d,own d)
   | _=>.no
  | .builtin .copy=>match evL ev cl.args.toList,cl.argTypes.toList with
   | [x,s],[t,_]=>match c.ty t,x with
    | some ⟨_,_,.slice _ k _ _⟩,.one (.sub l ver off n)=>match own l with
     | ⟨ver',.row ty k' xs⟩=>match readOf own s with
      | .ok q k'' ys=>match castL k' k'' ys with
       | some ys=>.ok (q∧0 < ys.length∧ver=ver'∧k'=.b .int∧k=.b .int∧off + n≤xs.length) (.one (.d (.int .i64 ((min ys.length n:Nat):Int))),l,⟨ver,.row ty k' (putL xs off (ys.take n))⟩)
       | none=>.no
      | .no=>.no
     | _=>.no
    | some ⟨_,_,.slice _ k _ _⟩,.one (.own l ver)=>match own l with
     | ⟨ver',.row ty k' xs⟩=>match readOf own s with
      | .ok q k'' ys=>match castL k' k'' ys with
       | some ys=>.ok (q∧0 < ys.length∧ver=ver'∧k'=.b .int∧k=.b .int∧0 < xs.length) (.one (.d (.int .i64 ((min ys.length xs.length:Nat):Int))),l,⟨ver,.row ty k' (putL xs 0 (ys.take xs.length))⟩)
       | none=>.no
      | .no=>.no
     | _=>.no
    | _,_=>.no
   | _,_=>.no
  | _=>.no
 | .call cl,none=>match cl.callee with
  | .builtin .clear=>match evL ev cl.args.toList,cl.argTypes.toList with
   | [x],[t]=>match c.ty t,x with
    | some ⟨_,_,.slice _ k _ z⟩,.one (.sub l ver off n)=>match own l with
     | ⟨ver',.row ty k' xs⟩=>match k'.dec (z.map ZK.c) with
      | some zv=>.ok (ver=ver'∧k'=k∧off + n≤xs.length) (.junk,l,⟨ver,.row ty k' (putL xs off (List.replicate n zv))⟩)
      | none=>.no
     | _=>.no
    | _,_=>.no
   | _,_=>.no
  | _=>.no
 | _,_=>.no
def toEff (own:Nat→Loc):VR (AV × Nat × Loc)→VR (AV × (Nat→Loc))
 | .no=>.no
 | .ok p x=>.ok p (x.1,upd own x.2.1 x.2.2)
theorem aeffV_eq (c:Cfg) (o:Oper) (ev:Operand→AV) (own:Nat→Loc):toEff own (aeffV c o ev own)=aeff c o ev own:=by
  unfold aeff aeffV
  cases ho:o.op <;> cases hd:o.dst <;> try rfl
  case alloc.some t d=>simp only;cases c.ty t <;> rfl
  case box.some t x d=>simp only;cases cells (ev x) <;> rfl
  case buildSlice.some t len parts d=>
    simp only
    rcases c.ty t with _|⟨sz,z,kind⟩
    · rfl
    · cases kind <;> try rfl
      simp only
      cases Nat.ble len 1024 <;> try rfl
      generalize elems _ _ _ _=y
      cases y <;> rfl
  case makeSlice.some t len cap d=>
    simp only
    rcases c.ty t with _|⟨sz,z,kind⟩
    · rfl
    · cases kind <;> try rfl
      rcases ev len with (⟨_|_|_|_|_|_|_⟩|_|_|_)|_|_|_ <;> try rfl
      rename_i k n
      cases k <;> try rfl
      rcases ev cap with (⟨_|_|_|_|_|_|_⟩|_|_|_)|_|_|_ <;> try rfl
      rename_i k n
      cases k <;> try rfl
      simp only
      generalize ElK.dec _ _=y
      cases y <;> rfl
  case store.none t a x=>
    simp only
    rcases ev a with (_|_|⟨l,ver,i,j⟩|_)|_|_|_ <;> try rfl
    rcases cells (ev x) with _|cs <;> try rfl
    rcases c.ty t with _|ti <;> try rfl
    simp only
    generalize Nat.beq _ _=y
    generalize own l=z
    rcases z with ⟨ver',ob⟩
    cases y <;> cases ob <;> try rfl
    simp only
    generalize setElem _ _ _ _ _=y
    cases y <;> rfl
  case slice.some t x lo hi mx d=>
    cases lo <;> cases hi <;> cases mx <;> try rfl
    · simp only
      rcases c.ty t with _|⟨sz,z,kind⟩
      · rfl
      · cases kind <;> try rfl
        rcases ev x with (_|⟨l,ver⟩|_|_)|_|_|_ <;> try rfl
        rename_i hi _ _ _ _
        rcases ev hi with (⟨_|_|_|_|_|_|_⟩|_|_|_)|_|_|_ <;> try rfl
        simp only
        generalize own l=z
        rcases z with ⟨ver',ob⟩
        cases ob <;> try rfl
        all_goals (simp only;generalize ElK.beq _ _=y;cases y <;> rfl)
    · simp only
      rcases c.ty t with _|⟨sz,z,kind⟩
      · rfl
      · cases kind <;> try rfl
        rcases ev x with (_|⟨l,ver⟩|_|_)|_|_|_ <;> try rfl
        rename_i lo _ _ _ _
        rcases ev lo with (⟨_|_|_|_|_|_|_⟩|_|_|_)|_|_|_ <;> try rfl
        simp only
        generalize own l=z
        rcases z with ⟨ver',ob⟩
        cases ob <;> try rfl
        all_goals (simp only;generalize ElK.beq _ _=y;cases y <;> rfl)
  case slice.none t x lo hi mx=>cases lo <;> cases hi <;> cases mx <;> rfl
  case call.some cl d=>
    simp only
    rcases cl.callee with g|_|b
    · simp only
      rcases ev g with (⟨_|_|_|_|_|_|⟨f,caps⟩⟩|_|_|_)|_|_|_ <;> try rfl
      simp only
      generalize acallW _ _ _ _=z
      rcases z with _|⟨p,l,ver,ty,k,ys,trunc,av⟩
      · simp only
        generalize acall _ _ _ _=y
        rcases y with _|⟨p,av,row⟩
        · rfl
        · cases row <;> rfl
      · cases trunc <;> rfl
    · rfl
    · cases b <;> try rfl
      case append=>
       simp only
       generalize evL ev cl.args.toList=as_
       generalize cl.argTypes.toList=ts
       rcases as_ with _|⟨s,_|⟨x,_|_⟩⟩ <;> try rfl
       rcases ts with _|⟨t,_|⟨t',_|_⟩⟩ <;> try rfl
       simp only
       generalize Nat.beq _ _=y
       rcases c.ty t with _|⟨sz,z,kind⟩ <;> cases y <;> try rfl
       cases kind <;> try rfl
       simp only
       generalize view own x=y
       rcases y with _|⟨p,x',bv⟩ <;> try rfl
       simp only
       generalize asYs _ _=y
       cases y <;> try rfl
       simp only
       rcases s with (⟨_|_|_|_|_|_|_⟩|⟨l,ver⟩|_|_)|_|_|_ <;> try rfl
       · simp only
         generalize castL _ _ _=y
         cases y <;> rfl
       · simp only
         generalize own l=z
         rcases z with ⟨ver',ob⟩
         cases ob <;> try rfl
         all_goals (simp only;generalize castL _ _ _=y;cases y <;> rfl)
      case copy=>
       simp only
       generalize evL ev cl.args.toList=as_
       generalize cl.argTypes.toList=ts
       rcases as_ with _|⟨x,_|⟨s,_|_⟩⟩ <;> try rfl
       rcases ts with _|⟨t,_|⟨t',_|_⟩⟩ <;> try rfl
       simp only
       rcases c.ty t with _|⟨sz,z,kind⟩
       · rfl
       · cases kind <;> try rfl
         rcases x with (⟨_|_|_|_|_|_|_⟩|⟨l,ver⟩|_|⟨l,ver,off,n⟩)|_|_|_ <;> try rfl
         · simp only
           generalize own l=z
           rcases z with ⟨ver',ob⟩
           cases ob <;> try rfl
           simp only
           generalize readOf own s=y
           cases y <;> try rfl
           simp only
           generalize castL _ _ _=y
           cases y <;> rfl
         · simp only
           generalize own l=z
           rcases z with ⟨ver',ob⟩
           cases ob <;> try rfl
           simp only
           generalize readOf own s=y
           cases y <;> try rfl
           simp only
           generalize castL _ _ _=y
           cases y <;> rfl
  case call.none cl=>
    simp only
    rcases cl.callee with g|_|b
    · rfl
    · rfl
    · cases b <;> try rfl
      simp only
      generalize evL ev cl.args.toList=as_
      generalize cl.argTypes.toList=ts
      rcases as_ with _|⟨x,_|_⟩ <;> try rfl
      rcases ts with _|⟨t,_|_⟩ <;> try rfl
      simp only
      rcases c.ty t with _|⟨sz,z,kind⟩
      · rfl
      · cases kind <;> try rfl
        rcases x with (⟨_|_|_|_|_|_|_⟩|⟨l,ver⟩|_|⟨l,ver,off,n⟩)|_|_|_ <;> try rfl
        simp only
        generalize own l=z
        rcases z with ⟨ver',ob⟩
        cases ob <;> try rfl
        simp only
        generalize ElK.dec _ _=y
        cases y <;> rfl
def aop' (c:Cfg) (o:Oper) (s:Sl) (w:Ow) (K:Sl→Ow→Prop):Prop:=match isEff c o with
 | true=>match isDp c o with
  | true=>match aeffD c o (evA s) w with
   | .no=>False
   | .ok p (x,w')=>p∧x.fc fun x=>aput s o.dst x fun s'=>K s' w'
  | false=>match isSw c o with
   | false=>match aeffV c o (evA s) w with
    | .no=>False
    | .ok p (x,l,⟨v,ob⟩)=>(match isSt c o with|true=>p∧stP c o (evA s)|false=>p)∧x.fc fun x=>aput s o.dst x fun s'=>ob.fc fun ob=>K s' (upd w l ⟨v,ob⟩)
   | true=>match aeffV c o (evA s) w with
    | .no=>False
    | .ok p (x,l,L)=>match frzR c (x,upd w l L) with
     | .no=>False
     | .ok q (y,w')=>(p∧q)∧y.fc fun y=>aput s o.dst y fun s'=>K s' w'
 | false=>match isFr c o with
  | true=>dOnlyL noPl (evL (evA s) o.op.operands.toList)=true∧match aval c (evA s) w o.op with
   | .no=>False
   | .ok p x=>p∧x.fc fun x=>aput s o.dst x fun s'=>K s' w
  | false=>match isSp c o with
   | true=>dOnlyL (fixPl c) (evL (evA s) o.op.operands.toList)=true∧match aval c (evA s) w o.op with
    | .no=>False
    | .ok p x=>p∧x.fc fun x=>aput s o.dst x fun s'=>K s' w
   | false=>match aval c (evA s) w o.op with
    | .no=>False
    | .ok p x=>p∧x.fc fun x=>aput s o.dst x fun s'=>K s' w
def aguard' (ops:List Oper) (o:Oper) (s:Sl) (K:Bool→Sl→Prop):Prop:=match o.guard with
 | none=>K true s
 | some (j,want)=>match ops[j]? with
  | some oj=>match oj.dst with
   | some d=>match s d with
    | .one (.d (.bool b))=>(b=true→K (true == want) (upd s d (.one (.d (.bool true)))))∧(b=false→K (false == want) (upd s d (.one (.d (.bool false)))))
    | .tup []=>K false s
    | _=>False
   | none=>False
  | none=>False
def arun' (c:Cfg) (ops:List Oper):List Oper→Sl→Ow→(Sl→Ow→Prop)→Prop
 | [],s,w,K=>K s w
 | o :: rest,s,w,K=>aguard' ops o s fun wd s'=>match wd with
  | true=>aop' c o s' w fun s'' w''=>arun' c ops rest s'' w'' K
  | false=>aput s' o.dst (.tup []) fun s''=>arun' c ops rest s'' w K
def awp' (c:Cfg):Code→(Exit→Sl→Ow→Prop)→Sl→Ow→Prop
 | .skip,Q,s,w=>Q .normal s w
 | .label _,Q,s,w=>Q .normal s w
 | .region _ ops _,Q,s,w=>∃ s0 w0,Wks c ⟨s,w⟩ ⟨s0,w0⟩∧arun' c ops.toList ops.toList s0 w0 fun s w=>∃ σ1 s' w',Wk c ⟨s,w⟩ σ1∧Mv σ1 ⟨s',w'⟩∧Q .normal s' w'
 | .seq x y,Q,s,w=>awp' c x (fun e s' w'=>match e with|.normal=>awp' c y Q s' w'|e=>Q e s' w') s w
 | .cond p x y,Q,s,w=>match evA s p with
  | .one (.d (.bool b))=>(b=true→awp' c x Q s w)∧(b=false→awp' c y Q s w)
  | _=>False
 | .block id x,Q,s,w=>awp' c x (fun e s' w'=>match e with|.exit id'=>(match Nat.beq id' id with|true=>Q .normal s' w'|false=>Q (.exit id') s' w')|e=>Q e s' w') s w
 | .loop x,Q,s,w=>∃ (σ0:St) (I:St→Prop) (μ:St→Nat),Wks c ⟨s,w⟩ σ0∧I σ0∧∀ s' w',I ⟨s',w'⟩→awp' c x (fun e s'' w''=>match e with|.normal=>I ⟨s'',w''⟩∧μ ⟨s'',w''⟩ < μ ⟨s',w'⟩|e=>Q e s'' w'') s' w'
 | .exit id,Q,s,w=>Q (.exit id) s w
 | .ret,Q,s,w=>Q .ret s w
 | _,_,_,_=>False
theorem aop'_iff {c:Cfg} {o:Oper} {σ:St} {K:St→Prop}:aop' c o σ.slots σ.own (fun s w=>K ⟨s,w⟩)↔aop c o σ K:=by
 unfold aop' aop
 cases isEff c o with
 | true=>
  simp only
  unfold aeffS
  cases isDp c o with
  | true=>
   simp only
   cases aeffD c o (evA σ.slots) σ.own with
   | no=>exact Iff.rfl
   | ok p x=>simp only [AV.fc_eq,aput_eq,VR.run]
  | false=>
  simp only
  cases isSw c o with
  | false=>
   simp only
   rw [← aeffV_eq]
   cases aeffV c o (evA σ.slots) σ.own with
   | no=>cases isSt c o <;> exact Iff.rfl
   | ok p x=>cases isSt c o <;> simp only [AV.fc_eq,Own.fc_eq,aput_eq,VR.run,VR.bind,toEff]
  | true=>
   simp only
   rw [← aeffV_eq]
   cases aeffV c o (evA σ.slots) σ.own with
   | no=>exact Iff.rfl
   | ok p x=>
    simp only [toEff,VR.bind]
    cases frzR c (x.1,upd σ.own x.2.1 x.2.2) with
    | no=>exact Iff.rfl
    | ok q y=>simp only [AV.fc_eq,aput_eq,VR.run]
 | false=>
  have e:∀ x,(⟨(σ.put o.dst x).slots,σ.own⟩:St)=σ.put o.dst x:=fun x=>by cases o.dst <;> rfl
  cases isFr c o <;> cases isSp c o <;> simp only <;> cases aval c (evA σ.slots) σ.own o.op <;> simp only [AV.fc_eq,aput_eq,VR.run,e]
theorem aguard'_iff {ops:List Oper} {o:Oper} {s:Sl} {w:Ow} {K:Bool→St→Prop}:aguard' ops o s (fun b s=>K b ⟨s,w⟩)↔aguard ops o ⟨s,w⟩ K:=by
 unfold aguard' aguard
 cases o.guard with
 | none=>exact Iff.rfl
 | some q=>
  simp only
  cases ops[q.1]? with
  | none=>exact Iff.rfl
  | some oj=>
   simp only
   cases oj.dst with
   | none=>exact Iff.rfl
   | some d=>exact Iff.rfl
theorem aguard'_congr {ops:List Oper} {o:Oper} {s:Sl} {K K':Bool→Sl→Prop} (h:∀ b s,K b s↔K' b s):aguard' ops o s K↔aguard' ops o s K':=by
 have:K=K':=funext fun b=>funext fun s=>propext (h b s)
 rw [this]
theorem aop'_congr {c:Cfg} {o:Oper} {s:Sl} {w:Ow} {K K':Sl→Ow→Prop} (h:∀ s w,K s w↔K' s w):aop' c o s w K↔aop' c o s w K':=by
 have:K=K':=funext fun b=>funext fun s=>propext (h b s)
 rw [this]
theorem arun'_iff {c:Cfg} {ops:List Oper}:∀ {l:List Oper} {s:Sl} {w:Ow} {K:St→Prop},arun' c ops l s w (fun s w=>K ⟨s,w⟩)↔arun c ops l ⟨s,w⟩ K
 | [],s,w,K=>Iff.rfl
 | o :: rest,s,w,K=>by
  unfold arun' arun
  rw [← aguard'_iff]
  refine aguard'_congr fun b s'=>?_
  cases b with
  | true=>
   simp only
   rw [← aop'_iff]
   exact aop'_congr fun s w=>arun'_iff
  | false=>
   simp only
   rw [← arun'_iff]
   cases o.dst <;> exact Iff.rfl
theorem arun'_congr {c:Cfg} {ops l:List Oper} {s:Sl} {w:Ow} {K K':Sl→Ow→Prop} (h:∀ s w,K s w↔K' s w):arun' c ops l s w K↔arun' c ops l s w K':=by
 have:K=K':=funext fun b=>funext fun s=>propext (h b s)
 rw [this]
theorem wk_refl {c:Cfg} (σ:St):Wk c σ σ:=by
 have hL:∀ (xs:List Cell),RelL (FrzC (fun _=>false) σ.own) xs xs:=fun xs=>by
  induction xs with
  | nil=>trivial
  | cons x xs ih=>exact ⟨.inl rfl,ih⟩
 refine ⟨fun _=>false,fun t=>?_,fun n=>⟨rfl,.inr ⟨rfl,?_⟩⟩⟩
 ·cases σ.slots t <;> first|exact .inl rfl|exact hL _|rfl
 ·cases (σ.own n).obj <;> first|exact ⟨rfl,hL _⟩|rfl
theorem awp'_iff {c:Cfg}:∀ {x:Code} {Q:Exit→St→Prop} {s:Sl} {w:Ow},awp' c x (fun e s w=>Q e ⟨s,w⟩) s w↔awp c x Q ⟨s,w⟩:=by
 intro x
 induction x with
 | skip=>intro Q s w;exact Iff.rfl
 | label _=>intro Q s w;exact Iff.rfl
 | region _ ops _=>
  intro Q s w
  constructor
  ·rintro ⟨s0,w0,h0,h⟩
   exact ⟨⟨s0,w0⟩,h0,(arun'_iff (K:=fun σ'=>∃ σ1 σ'',Wk c σ' σ1∧Mv σ1 σ''∧Q .normal σ'')).1 ((arun'_congr fun s w=>⟨fun ⟨σ1,s',w',hk,hm,hQ⟩=>⟨σ1,⟨s',w'⟩,hk,hm,hQ⟩,fun ⟨σ1,⟨s',w'⟩,hk,hm,hQ⟩=>⟨σ1,s',w',hk,hm,hQ⟩⟩).1 h)⟩
  ·rintro ⟨⟨s0,w0⟩,h0,h⟩
   exact ⟨s0,w0,h0,(arun'_congr fun s w=>⟨fun ⟨σ1,s',w',hk,hm,hQ⟩=>⟨σ1,⟨s',w'⟩,hk,hm,hQ⟩,fun ⟨σ1,⟨s',w'⟩,hk,hm,hQ⟩=>⟨σ1,s',w',hk,hm,hQ⟩⟩).2 ((arun'_iff (K:=fun σ'=>∃ σ1 σ'',Wk c σ' σ1∧Mv σ1 σ''∧Q .normal σ'')).2 h)⟩
 | seq a b iha ihb=>
  intro Q s w
  show awp' c a _ s w↔awp c a _ ⟨s,w⟩
  rw [← iha]
  refine Iff.of_eq (congrArg (fun q=>awp' c a q s w) ?_)
  funext e s' w'
  cases e with
  | normal=>exact propext ihb
  | _=>rfl
 | cond p a b iha ihb=>
  intro Q s w
  unfold awp' awp
  split
  ·rename_i b' h
   simp only [h]
   exact and_congr (forall_congr' fun _=>iha) (forall_congr' fun _=>ihb)
  ·rename_i h
   split
   ·rename_i b' h';exact absurd h' (h b')
   ·exact Iff.rfl
 | block id a iha=>
  intro Q s w
  show awp' c a _ s w↔awp c a _ ⟨s,w⟩
  rw [← iha]
  refine Iff.of_eq (congrArg (fun q=>awp' c a q s w) ?_)
  funext e s' w'
  cases e <;> rfl
 | loop a iha=>
  intro Q s w
  show (∃ σ0 I μ,_∧_∧_)↔(∃ σ0 I μ,_∧_∧_)
  refine exists_congr fun σ0=>exists_congr fun I=>exists_congr fun μ=>and_congr Iff.rfl (and_congr Iff.rfl ?_)
  constructor
  ·rintro h ⟨s',w'⟩ hI
   refine (iha (Q:=fun e σ''=>match e with|.normal=>I σ''∧μ σ'' < μ ⟨s',w'⟩|e=>Q e σ'')).1 ?_
   have:=h s' w' hI
   refine cast (congrArg (fun q=>awp' c a q s' w') ?_) this
   funext e s'' w''
   cases e <;> rfl
  ·intro h s' w' hI
   have:=(iha (Q:=fun e σ''=>match e with|.normal=>I σ''∧μ σ'' < μ ⟨s',w'⟩|e=>Q e σ'')).2 (h ⟨s',w'⟩ hI)
   refine cast (congrArg (fun q=>awp' c a q s' w') ?_) this
   funext e s'' w''
   cases e <;> rfl
 | exit id=>intro Q s w;exact Iff.rfl
 | ret=>intro Q s w;exact Iff.rfl
 | _=>intro Q s w;exact Iff.rfl
theorem awp_loop {α:Type} {c:Cfg} {x:Code} {Q:Exit→St→Prop} {σ:St} (J:α→St→Prop) (m:α→Nat) (a0:α) (h0:J a0 σ)
  (h1:∀ a s,J a s→awp c x (fun e s'=>match e with|.normal=>∃ a',m a' < m a∧J a' s'|e=>Q e s') s):awp c (.loop x) Q σ:=by
 classical
 have least:∀ s,(∃ a,J a s)→∃ n,(∃ a,J a s∧m a=n)∧∀ a,J a s→n≤m a:=by
  intro s hs
  have:∀ n,(∃ a,J a s∧m a≤n)→∃ n,(∃ a,J a s∧m a=n)∧∀ a,J a s→n≤m a:=by
   intro n
   induction n with
   | zero=>rintro ⟨a,ha,hn⟩;exact ⟨0,⟨a,ha,by omega⟩,fun _ _=>Nat.zero_le _⟩
   | succ n ih=>
    rintro ⟨a,ha,hn⟩
    by_cases hx:∃ a,J a s∧m a≤n
    ·exact ih hx
    ·refine ⟨n + 1,⟨a,ha,?_⟩,fun b hb=>?_⟩
     ·have:¬ m a≤n:=fun h=>hx ⟨a,ha,h⟩
      omega
     ·have:¬ m b≤n:=fun h=>hx ⟨b,hb,h⟩
      omega
  obtain ⟨a,ha⟩:=hs
  exact this _ ⟨a,ha,Nat.le_refl _⟩
 refine ⟨σ,fun s=>∃ a,J a s,fun s=>if hs:∃ a,J a s then Classical.choose (least s hs) else 0,.refl σ,⟨a0,h0⟩,fun s hs=>?_⟩
 obtain ⟨⟨a,ha,hma⟩,-⟩:=Classical.choose_spec (least s hs)
 refine awp_mono (fun e s' hs'=>?_) (h1 a s ha)
 cases e with
 | normal=>
  obtain ⟨a',hlt,hj⟩:=hs'
  refine ⟨⟨a',hj⟩,?_⟩
  have hx:∃ a,J a s':=⟨a',hj⟩
  show (if hs:∃ a,J a s' then Classical.choose (least s' hs) else 0) < (if hs:∃ a,J a s then Classical.choose (least s hs) else 0)
  rw [dif_pos hs,dif_pos hx,← hma]
  exact Nat.lt_of_le_of_lt ((Classical.choose_spec (least s' hx)).2 a' hj) hlt
 | _=>exact hs'
section
variable {c : Cfg} {Q : Exit → Sl → Ow → Prop} {s : Sl} {w : Ow} {x y : Code}
def seqQ (c:Cfg) (y:Code) (Q:Exit→Sl→Ow→Prop) (e:Exit) (s:Sl) (w:Ow):Prop:=match e with
 | .normal=>awp' c y Q s w
 | e=>Q e s w
def blockQ (id:Nat) (Q:Exit→Sl→Ow→Prop) (e:Exit) (s:Sl) (w:Ow):Prop:=match e with
 | .exit id'=>(match Nat.beq id' id with|true=>Q .normal s w|false=>Q (.exit id') s w)
 | e=>Q e s w
def loopQ {α:Type} (J:α→St→Prop) (m:α→Nat) (a:α) (Q:Exit→Sl→Ow→Prop) (e:Exit) (s:Sl) (w:Ow):Prop:=match e with
 | .normal=>∃ a',m a' < m a∧J a' ⟨s,w⟩
 | e=>Q e s w
theorem zK (h:Q .normal s w):awp' c .skip Q s w:=h
theorem zR {i:Nat} {ops:Array Oper} {d:Bool} (h:∀ K:Sl→Ow→Prop,(∀ s' w',Q .normal s' w'→K s' w')→arun' c ops.toList ops.toList s w K):awp' c (.region i ops d) Q s w:=⟨s,w,.refl _,h _ fun _ _ h=>⟨_,_,_,wk_refl _,.inl rfl,h⟩⟩
theorem zQ (h:awp' c x (seqQ c y Q) s w):awp' c (.seq x y) Q s w:=h
theorem zC {p:Operand} {b:Bool} (hb:evA s p=.one (.d (.bool b))) (h1:b=true→awp' c x Q s w) (h2:b=false→awp' c y Q s w):awp' c (.cond p x y) Q s w:=by
 unfold awp'
 rw [hb]
 exact ⟨h1,h2⟩
theorem zB {i:Nat} (h:awp' c x (blockQ i Q) s w):awp' c (.block i x) Q s w:=h
theorem zX {i:Nat} (h:Q (.exit i) s w):awp' c (.exit i) Q s w:=h
theorem zT (h:Q .ret s w):awp' c .ret Q s w:=h
theorem sq_n (h:awp' c y Q s w):seqQ c y Q .normal s w:=h
theorem sq_r (h:Q .ret s w):seqQ c y Q .ret s w:=h
theorem sq_e {i:Nat} (h:Q (.exit i) s w):seqQ c y Q (.exit i) s w:=h
theorem bq_n {id:Nat} (h:Q .normal s w):blockQ id Q .normal s w:=h
theorem bq_r {id:Nat} (h:Q .ret s w):blockQ id Q .ret s w:=h
theorem bq_q {id:Nat} (h:Q .normal s w):blockQ id Q (.exit id) s w:=by
 have e:Nat.beq id id=true:=by simp
 unfold blockQ
 simp only [e]
 exact h
theorem bq_e {id i:Nat} (hi:Nat.beq i id=false) (h:Q (.exit i) s w):blockQ id Q (.exit i) s w:=by
 unfold blockQ
 simp only [hi]
 exact h
theorem lq_n {α:Type} {J:α→St→Prop} {m:α→Nat} {a:α} (h:∃ a',m a' < m a∧J a' ⟨s,w⟩):loopQ J m a Q .normal s w:=h
theorem lq_r {α:Type} {J:α→St→Prop} {m:α→Nat} {a:α} (h:Q .ret s w):loopQ J m a Q .ret s w:=h
theorem lq_e {α:Type} {J:α→St→Prop} {m:α→Nat} {a:α} {i:Nat} (h:Q (.exit i) s w):loopQ J m a Q (.exit i) s w:=h
end
theorem awp'_loop {α:Type} {c:Cfg} {x:Code} {Q:Exit→Sl→Ow→Prop} {s:Sl} {w:Ow} (J:α→St→Prop) (m:α→Nat) (a0:α) (h0:J a0 ⟨s,w⟩)
  (h1:∀ a s w,J a ⟨s,w⟩→awp' c x (loopQ J m a Q) s w):awp' c (.loop x) Q s w:=by
 refine (awp'_iff (Q:=fun e σ=>Q e σ.slots σ.own)).2 (awp_loop J m a0 h0 fun a σ hJ=>?_)
 refine awp'_iff.1 (cast (congrArg (fun q=>awp' c x q σ.slots σ.own) ?_) (h1 a σ.slots σ.own hJ))
 funext e s' w'
 cases e <;> rfl
def Fin' (c:Cfg) (rs:List ResultVar) (r:RV) (e:Exit) (s:Sl) (w:Ow):Prop:=Fin c rs r e ⟨s,w⟩
def initL:List AV→Nat→Sl
 | [],_=>fun _=>.junk
 | x :: xs,n=>upd (initL xs (n + 1)) n x
theorem initL_eq:∀ (xs:List AV) (n t:Nat),initL xs n t=bif Nat.ble n t then (xs[t - n]?).getD .junk else .junk
 | [],n,t=>by simp [initL]
 | x :: xs,n,t=>by
  unfold initL
  rw [upd_get,initL_eq xs (n + 1) t]
  by_cases h:t=n
  ·subst h;rw [if_pos rfl,show Nat.ble t t=true from (by simp),Nat.sub_self];rfl
  ·rw [if_neg h]
   rcases Nat.lt_or_ge t n with h'|h'
   ·have h1:Nat.ble (n + 1) t=false:=by rw [← Bool.not_eq_true,Nat.ble_eq];omega
    have h2:Nat.ble n t=false:=by rw [← Bool.not_eq_true,Nat.ble_eq];omega
    rw [h1,h2];rfl
   ·have h1:Nat.ble (n + 1) t=true:=by rw [Nat.ble_eq];omega
    have h2:Nat.ble n t=true:=by rw [Nat.ble_eq];omega
    rw [h1,h2,show t - n=(t - (n + 1)) + 1 by omega];rfl
theorem initS_eq (xs:List AV):initS xs=initL xs 0:=by
 funext t
 rw [initL_eq,show Nat.ble 0 t=true from by simp]
 rfl
def FinW' (c:Cfg) (rs:List ResultVar) (ty:TypeId) (av:AV) (r:WR) (e:Exit) (s:Sl) (w:Ow):Prop:=FinW c rs ty av r e ⟨s,w⟩
def FinD' (c:Cfg) (rs:List ResultVar) (ety:TypeId) (r:RV) (e:Exit) (s:Sl) (w:Ow):Prop:=FinD c rs ety r e ⟨s,w⟩
def FinDW' (c:Cfg) (rs:List ResultVar) (ty ety:TypeId) (av:AV) (ys:List (List Int)) (e:Exit) (s:Sl) (w:Ow):Prop:=FinDW c rs ty ety av ys e ⟨s,w⟩
section
variable {P : Program} {f : FuncId} {fn : Func} {body : Code} {tys : List (TypeId × TI)} {env : List (FuncId × Con)} {envw : List (FuncId × ConW)} {envd : List (FuncId × ConD)} {ts : List Ty} {wi : Nat} {ty ety : TypeId} {pre : Args ts → Prop} {res : Args ts → RV} {av : Args ts → AV} {out : Args ts → WR} {outD : Args ts → List (List Int)}
theorem good_ofG (wr fr sp sw dp:List Nat) (hm:P.follows .mixedOrders=true) (ht:TysOk P tys) (he:EnvOk P env) (hew:EnvWOk P envw) (hed:EnvDOk P envd)
  (hf : P.funcs[f]? = some fn) (hb : fn.body = some body) (hname : (fn.name == "runtime.NumGoroutine") = false) (hn : ts.length ≤ fn.ntmps) (hcode : codeB (mkCfg tys env envw wr fr sp sw dp envd true) fn.ntmps body = true)
  (hrun:∀ x,pre x→awp' (mkCfg tys env envw wr fr sp sw dp envd true) body (Fin' (mkCfg tys env envw wr fr sp sw dp envd true) fn.results.toList (res x)) (initL (encs ts x) 0) deadOwn):Good1 P f (mkCon ts pre res):=
 good_of_run wr fr sp sw dp hm ht he hew hed hf hb hname hn hcode fun x hx=>awp'_iff.1 (by rw [initS_eq];exact hrun x hx)
theorem good_ofD (wr fr sp sw dp:List Nat) (hm:P.follows .mixedOrders=true) (ht:TysOk P tys) (he:EnvOk P env) (hew:EnvWOk P envw) (hed:EnvDOk P envd)
  (hf : P.funcs[f]? = some fn) (hb : fn.body = some body) (hname : (fn.name == "runtime.NumGoroutine") = false) (hn : ts.length ≤ fn.ntmps) (hcode : codeB (mkCfg tys env envw wr fr sp sw dp envd true) fn.ntmps body = true)
  (hrun:∀ x,pre x→awp' (mkCfg tys env envw wr fr sp sw dp envd true) body (FinD' (mkCfg tys env envw wr fr sp sw dp envd true) fn.results.toList ety (res x)) (initL (encs ts x) 0) deadOwn):Good1 P f (mkConD ts pre res ety):=
 good_of_runD wr fr sp sw dp hm ht he hew hed hf hb hname hn hcode fun x hx=>awp'_iff.1 (by rw [initS_eq];exact hrun x hx)
theorem good_of (wr fr:List Nat) (hm:P.follows .mixedOrders=true) (ht:TysOk P tys) (he:EnvOk P env)
  (hf : P.funcs[f]? = some fn) (hb : fn.body = some body) (hname : (fn.name == "runtime.NumGoroutine") = false) (hn : ts.length ≤ fn.ntmps) (hcode : codeB (mkCfg tys env [] wr fr [] [] [] [] true) fn.ntmps body = true)
  (hrun:∀ x,pre x→awp' (mkCfg tys env [] wr fr [] [] [] [] true) body (Fin' (mkCfg tys env [] wr fr [] [] [] [] true) fn.results.toList (res x)) (initL (encs ts x) 0) deadOwn):Good1 P f (mkCon ts pre res):=
 good_ofG (envw:=[]) (envd:=[]) wr fr [] [] [] hm ht he trivial trivial hf hb hname hn hcode hrun
theorem good_ofW (wr fr sp sw dp:List Nat) (hm:P.follows .mixedOrders=true) (ht:TysOk P tys) (he:EnvOk P env) (hew:EnvWOk P envw) (hed:EnvDOk P envd)
  (hf : P.funcs[f]? = some fn) (hb : fn.body = some body) (hname : (fn.name == "runtime.NumGoroutine") = false) (hn : ts.length ≤ fn.ntmps) (hcode : codeB (mkCfg tys env envw wr fr sp sw dp envd false) fn.ntmps body = true)
  (hrun:∀ x,pre x→awp' (mkCfg tys env envw wr fr sp sw dp envd false) body (FinW' (mkCfg tys env envw wr fr sp sw dp envd false) fn.results.toList ty (av x) (out x)) (initL (encW wi ts x) 0) (ownW wi ty ts x)):GoodW P f (mkConW ts wi ty pre av out):=
 good_of_runW wr fr sp sw dp hm ht he hew hed hf hb hname hn hcode fun x hx=>awp'_iff.1 (by rw [initS_eq];exact hrun x hx)
theorem good_ofDW (wr fr sp sw dp:List Nat) (hm:P.follows .mixedOrders=true) (ht:TysOk P tys) (he:EnvOk P env) (hew:EnvWOk P envw) (hed:EnvDOk P envd)
  (hf : P.funcs[f]? = some fn) (hb : fn.body = some body) (hname : (fn.name == "runtime.NumGoroutine") = false) (hn : ts.length ≤ fn.ntmps) (hcode : codeB (mkCfg tys env envw wr fr sp sw dp envd false) fn.ntmps body = true)
  (hrun:∀ x,pre x→awp' (mkCfg tys env envw wr fr sp sw dp envd false) body (FinDW' (mkCfg tys env envw wr fr sp sw dp envd false) fn.results.toList ty ety (av x) (outD x)) (initL (encW wi ts x) 0) (ownDW wi ty ety ts x)):GoodD P f (mkConDW ts wi ty ety pre av outD):=
 good_of_runDW wr fr sp sw dp hm ht he hew hed hf hb hname hn hcode fun x hx=>awp'_iff.1 (by rw [initS_eq];exact hrun x hx)
end
def HasS (f:Nat→AV):List (Nat × AV)→Prop
 | []=>True
 | (t,v) :: r=>f t=v∧HasS f r
def updS (f:Nat→AV):List (Nat × AV)→Nat→AV
 | []=>f
 | (t,v) :: r=>upd (updS f r) t v
theorem hasS_eq {f:Nat→AV}:∀ {l:List (Nat × AV)},HasS f l→f=updS f l
 | [],_=>rfl
 | (t,v) :: r,h=>by
  show f=upd (updS f r) t v
  rw [← hasS_eq h.2,upd_self h.1]
def Has (σ:St) (l:List (Nat × AV)):Prop:=HasS σ.slots l
theorem has_ex {s:Sl} {w:Ow} {l:List (Nat × AV)} (h:Has ⟨s,w⟩ l):∃ g,s=updS g l:=⟨s,hasS_eq h⟩
structure Has1 (σ:St) (l:List (Nat × AV)) (t p:Nat) (ob:Own):Prop where
 s:HasS σ.slots l
 at_:σ.slots t=.one (.own p (σ.own p).ver)
 ob:(σ.own p).obj=ob
theorem has1_ex {s:Sl} {w:Ow} {l:List (Nat × AV)} {t p:Nat} {ob:Own} (h:Has1 ⟨s,w⟩ l t p ob):∃ g o v,s=upd (updS g l) t (.one (.own p v))∧w=upd o p ⟨v,ob⟩:=by
 refine ⟨s,w,(w p).ver,?_,?_⟩
 ·have h1:=h.s;have h2:=h.at_
  simp only at h1 h2
  rw [← hasS_eq h1,upd_self h2]
 ·rw [← h.ob]
  exact (upd_self rfl).symm
def HasR (σ:St):List (Nat × Nat × Bool × Own)→Prop
 | []=>True
 | (t,p,b,ob) :: r=>σ.slots t=.one (bif b then .ptr p (σ.own p).ver 0 0 else .own p (σ.own p).ver)∧(σ.own p).obj=ob∧HasR σ r
def updR (v:Nat→Nat) (f:Nat→AV):List (Nat × Nat × Bool × Own)→Nat→AV
 | []=>f
 | (t,p,b,_) :: r=>upd (updR v f r) t (.one (bif b then .ptr p (v p) 0 0 else .own p (v p)))
def updO (v:Nat→Nat) (f:Nat→Loc):List (Nat × Nat × Bool × Own)→Nat→Loc
 | []=>f
 | (_,p,_,ob) :: r=>upd (updO v f r) p ⟨v p,ob⟩
def HasX (σ:St) (l:List (Nat × AV)) (r:List (Nat × Nat × Bool × Own)):Prop:=HasS σ.slots l∧HasR σ r
theorem updR_self {σ:St}:∀ {r:List (Nat × Nat × Bool × Own)},HasR σ r→updR (fun p=>(σ.own p).ver) σ.slots r=σ.slots
 | [],_=>rfl
 | (t,p,b,ob) :: r,h=>by
  unfold updR
  rw [updR_self h.2.2,upd_self h.1]
theorem updO_self {σ:St}:∀ {r:List (Nat × Nat × Bool × Own)},HasR σ r→updO (fun p=>(σ.own p).ver) σ.own r=σ.own
 | [],_=>rfl
 | (t,p,b,ob) :: r,h=>by
  unfold updO
  rw [updO_self h.2.2,upd_self]
  have:=h.2.1
  rw [← this]
theorem hasX_ex {s:Sl} {w:Ow} {l:List (Nat × AV)} {r:List (Nat × Nat × Bool × Own)} (h:HasX ⟨s,w⟩ l r):∃ g o v,s=updR v (updS g l) r∧w=updO v o r:=
 ⟨s,w,fun p=>(w p).ver,by have:=updR_self h.2;simp only at this;rw [← hasS_eq h.1,this],(updO_self h.2).symm⟩
abbrev W (n:Int):Int:=IntKind.i64.wrap n
theorem W_in {n:Int} (h1:-9223372036854775808≤n) (h2:n≤9223372036854775807):IntKind.i64.wrap n=n:=by rw [IntKind.wrap_i64];omega
theorem W_nat {n:Nat} (h:n≤4611686018427387904):IntKind.i64.wrap ((n:Int) + 1)=((n + 1:Nat):Int):=by rw [W_in] <;> omega
theorem W_l1 (a b:Int):IntKind.i64.wrap (IntKind.i64.wrap a + b)=IntKind.i64.wrap (a + b):=by simp only [IntKind.wrap_i64];omega
theorem W_l2 (a b:Int):IntKind.i64.wrap (a + IntKind.i64.wrap b)=IntKind.i64.wrap (a + b):=by simp only [IntKind.wrap_i64];omega
theorem W_l3 (a b:Int):IntKind.i64.wrap (IntKind.i64.wrap a - b)=IntKind.i64.wrap (a - b):=by simp only [IntKind.wrap_i64];omega
theorem W_l4 (a b:Int):IntKind.i64.wrap (a - IntKind.i64.wrap b)=IntKind.i64.wrap (a - b):=by simp only [IntKind.wrap_i64];omega
theorem W_dvd {a b:Int} (k:Int) (h:a - b=18446744073709551616 * k):IntKind.i64.wrap a=IntKind.i64.wrap b:=by simp only [IntKind.wrap_i64];omega
theorem W_ex (a:Int):∃ k:Int,IntKind.i64.wrap a=a + 18446744073709551616 * k:=by
 refine ⟨-((a + 9223372036854775808) / 18446744073709551616),?_⟩
 rw [IntKind.wrap_i64];omega
theorem W_m1 (a b:Int):IntKind.i64.wrap (IntKind.i64.wrap a * b)=IntKind.i64.wrap (a * b):=by
 obtain ⟨k,hk⟩:=W_ex a
 rw [hk]
 exact W_dvd (k * b) (by rw [Int.add_mul,Int.mul_assoc];omega)
theorem W_m2 (a b:Int):IntKind.i64.wrap (a * IntKind.i64.wrap b)=IntKind.i64.wrap (a * b):=by
 rw [Int.mul_comm,W_m1,Int.mul_comm]
theorem W_w (a:Int):IntKind.i64.wrap (IntKind.i64.wrap a)=IntKind.i64.wrap a:=by simp only [IntKind.wrap_i64];omega
theorem prodEta {α β:Type} (p:α × β):(p.1,p.2)=p:=rfl
abbrev vPts (xs:List (Int × Int)):AV:=.one (.d (.sl none (.b .pt) xs))
abbrev vWalls (xs:List ((Int × Int) × (Int × Int))):AV:=.one (.d (.sl none (.b .wall) xs))
abbrev vRoom (xs:List (Int × Int)):AV:=.one (.d (.ptr [.sl none (.b .pt) xs]))
abbrev cPt (p:Int × Int):List Cell:=[.d (.int .i64 p.1),.d (.int .i64 p.2)]
abbrev cWall (w:(Int × Int) × (Int × Int)):List Cell:=[.d (.int .i64 w.1.1),.d (.int .i64 w.1.2),.d (.int .i64 w.2.1),.d (.int .i64 w.2.2)]
abbrev vInt (n:Int):AV:=.one (.d (.int .i64 n))
abbrev vBool (b:Bool):AV:=.one (.d (.bool b))
def lookL:List (Nat × List Nat)→Nat→List Nat
 | [],_=>[]
 | (k,x) :: r,n=>bif Nat.beq n k then x else lookL r n
structure Kp (l p z m:List (Nat × List Nat)):Prop where
 ok:True
theorem kpz (l p z m:List (Nat × List Nat)):Kp l p z m:=⟨trivial⟩
def Cell.fz (pl:List Nat) (w:Nat→Loc) (x:Cell) (K:Cell→Prop):Prop:=match x with
 | .d x=>K (.d x)
 | .own l ver=>match memB pl l with
  | true=>match w l with
   | ⟨ver',.row _ k xs⟩=>ver=ver'∧K (.d (.sl none k xs))
   | _=>False
  | false=>K (.own l ver)
 | .ptr l ver i j=>match memB pl l with
  | true=>match w l with
   | ⟨ver',.box _ cs⟩=>match dOf cs with
    | some ds=>(ver=ver'∧i=0∧j=0)∧K (.d (.ptr ds))
    | none=>False
   | _=>False
  | false=>K (.ptr l ver i j)
 | .sub l ver i j=>K (.sub l ver i j)
def fzCs (pl:List Nat) (w:Nat→Loc):List Cell→(List Cell→Prop)→Prop
 | [],K=>K []
 | x :: xs,K=>x.fz pl w fun x=>fzCs pl w xs fun xs=>K (x :: xs)
def AV.fz (pl:List Nat) (w:Nat→Loc) (x:AV) (K:AV→Prop):Prop:=match x with
 | .one c=>c.fz pl w fun c=>K (.one c)
 | .agg cs=>fzCs pl w cs fun cs=>K (.agg cs)
 | .tup xs=>K (.tup xs)
 | .junk=>K .junk
def Own.fz (pl:List Nat) (w:Nat→Loc) (x:Own) (K:Own→Prop):Prop:=match x with
 | .dead=>K .dead
 | .box ty cs=>fzCs pl w cs fun cs=>K (.box ty cs)
 | .row ty k xs=>K (.row ty k xs)
 | .tail ty k xs=>K (.tail ty k xs)
 | .deep ty ety e xs g=>K (.deep ty ety e xs g)
theorem Cell.fz_ex {pl:List Nat} {w:Nat→Loc} {x:Cell} {K:Cell→Prop} (h:x.fz pl w K):∃ y,FrzC (memB pl) w x y∧K y:=by
 cases x with
 | own l ver=>
  unfold Cell.fz at h
  simp only at h
  split at h
  ·rename_i hm
   split at h
   ·rename_i ver' ty k xs hw
    obtain ⟨rfl,h⟩:=h
    exact ⟨_,.inr (.inl ⟨l,ver,ty,k,xs,rfl,hm,hw,rfl⟩),h⟩
   ·exact h.elim
  ·exact ⟨_,.inl rfl,h⟩
 | ptr l ver i j=>
  unfold Cell.fz at h
  simp only at h
  split at h
  ·rename_i hm
   split at h
   ·rename_i ver' ty cs hw
    split at h
    ·rename_i ds hds
     obtain ⟨⟨rfl,rfl,rfl⟩,h⟩:=h
     exact ⟨_,.inr (.inr ⟨l,ver,ty,cs,ds,rfl,hm,hw,hds,rfl⟩),h⟩
    ·exact h.elim
   ·exact h.elim
  ·exact ⟨_,.inl rfl,h⟩
 | _=>exact ⟨_,.inl rfl,h⟩
theorem fzCs_ex {pl:List Nat} {w:Nat→Loc}:∀ {xs:List Cell} {K:List Cell→Prop},fzCs pl w xs K→∃ ys,RelL (FrzC (memB pl) w) xs ys∧K ys
 | [],_,h=>⟨[],trivial,h⟩
 | _ :: _,_,h=>by
  obtain ⟨y,h1,h2⟩:=Cell.fz_ex h
  obtain ⟨ys,h3,h4⟩:=fzCs_ex h2
  exact ⟨_ :: _,⟨h1,h3⟩,h4⟩
theorem AV.fz_ex {pl:List Nat} {w:Nat→Loc} {x:AV} {K:AV→Prop} (h:x.fz pl w K):∃ y,RelA (FrzC (memB pl) w) x y∧K y:=by
 cases x with
 | one c=>
  have h:c.fz pl w (fun c=>K (.one c)):=h
  obtain ⟨y,h1,h2⟩:=Cell.fz_ex h
  exact ⟨.one y,h1,h2⟩
 | agg cs=>
  have h:fzCs pl w cs (fun cs=>K (.agg cs)):=h
  obtain ⟨y,h1,h2⟩:=fzCs_ex h
  exact ⟨.agg y,h1,h2⟩
 | tup xs=>exact ⟨_,rfl,h⟩
 | junk=>exact ⟨_,rfl,h⟩
theorem Own.fz_ex {pl:List Nat} {w:Nat→Loc} {x:Own} {K:Own→Prop} (h:x.fz pl w K):∃ y,RelO (FrzC (memB pl) w) x y∧K y:=by
 cases x with
 | box ty cs=>
  have h:fzCs pl w cs (fun cs=>K (.box ty cs)):=h
  obtain ⟨y,h1,h2⟩:=fzCs_ex h
  exact ⟨.box ty y,⟨rfl,h1⟩,h2⟩
 | _=>exact ⟨_,rfl,h⟩
theorem relL_refl {R:Cell→Cell→Prop} (h:∀ x,R x x):∀ (xs:List Cell),RelL R xs xs
 | []=>trivial
 | x :: xs=>⟨h x,relL_refl h xs⟩
theorem relA_refl {R:Cell→Cell→Prop} (h:∀ x,R x x) (x:AV):RelA R x x:=by cases x <;> first|exact h _|exact relL_refl h _|rfl
theorem relO_refl {R:Cell→Cell→Prop} (h:∀ x,R x x) (x:Own):RelO R x x:=by cases x <;> first|exact ⟨rfl,relL_refl h _⟩|rfl
def fcKeep (pl:List Nat) (w:Ow):List Nat→Sl→Sl→(Sl→Prop)→Prop
 | [],_,g,k=>k g
 | t :: ts,s,g,k=>(s t).fz pl w fun v=>v.fc fun v=>fcKeep pl w ts s g fun f=>k (upd f t v)
theorem fcKeep_ex {pl:List Nat} {w:Ow} {s:Sl}:∀ {ts:List Nat} {k:Sl→Prop},fcKeep pl w ts s s k→∃ s',(∀ t,RelA (FrzC (memB pl) w) (s t) (s' t))∧k s'
 | [],_,h=>⟨s,fun t=>relA_refl (fun _=>.inl rfl) _,h⟩
 | t :: ts,k,h=>by
  unfold fcKeep at h
  obtain ⟨v,h1,h2⟩:=AV.fz_ex h
  rw [AV.fc_eq] at h2
  obtain ⟨s',h3,h4⟩:=fcKeep_ex h2
  refine ⟨_,fun t'=>?_,h4⟩
  rw [upd_get]
  by_cases e:t'=t
  ·subst e;rw [if_pos rfl];exact h1
  ·rw [if_neg e];exact h3 t'
def fcKeepW (pl:List Nat):List Nat→Ow→Ow→(Ow→Prop)→Prop
 | [],_,g,k=>k g
 | p :: ps,w,g,k=>match memB pl p with
  | true=>fcKeepW pl ps w g k
  | false=>match w p with|⟨v,ob⟩=>ob.fz pl w fun ob=>ob.fc fun ob=>fcKeepW pl ps w g fun f=>k (upd f p ⟨v,ob⟩)
section
variable {c : Cfg} {Q : Exit → Sl → Ow → Prop} {s : Sl} {w : Ow} {x y : Code}
theorem arun'_mono {ops l:List Oper} {K K':Sl→Ow→Prop} (h:∀ s w,K s w→K' s w) (hr:arun' c ops l s w K):arun' c ops l s w K':=
 (arun'_iff (K:=fun σ=>K' σ.slots σ.own)).2 (arun_mono (K:=fun σ=>K σ.slots σ.own) (fun _=>h _ _) ((arun'_iff (K:=fun σ=>K σ.slots σ.own)).1 hr))
def deadW (g:Ow):Ow:=fun n=>match g n with|⟨v,_⟩=>⟨v,.dead⟩
theorem fcKeepW_ex {pl:List Nat} {w:Ow}:∀ {ts:List Nat} {k:Ow→Prop},fcKeepW pl ts w (deadW w) k→∃ w',(∀ n,(w' n).ver=(w n).ver∧((w' n).obj=.dead∨(memB pl n=false∧RelO (FrzC (memB pl) w) (w n).obj (w' n).obj)))∧k w'
 | [],_,h=>⟨deadW w,fun n=>⟨by unfold deadW;cases w n;rfl,.inl (by unfold deadW;cases w n;rfl)⟩,h⟩
 | p :: ps,k,h=>by
  unfold fcKeepW at h
  split at h
  ·exact fcKeepW_ex h
  ·rename_i hm
   rcases hw:w p with ⟨v,ob⟩
   rw [hw] at h
   simp only at h
   obtain ⟨y,h1,h2⟩:=Own.fz_ex h
   rw [Own.fc_eq] at h2
   obtain ⟨w',h3,h4⟩:=fcKeepW_ex h2
   refine ⟨_,fun n=>?_,h4⟩
   rw [upd_get]
   by_cases e:n=p
   ·subst e;rw [if_pos rfl,hw];exact ⟨rfl,.inr ⟨hm,h1⟩⟩
   ·rw [if_neg e];exact h3 n
def Cell.mv (l v l' v':Nat) (x:Cell) (K:Cell→Prop):Prop:=match x with
 | .d x=>K (.d x)
 | .own a ver=>match Nat.beq a l with
  | true=>ver=v∧K (.own l' v')
  | false=>K (.own a ver)
 | .ptr a ver i j=>K (.ptr a ver i j)
 | .sub a ver i j=>K (.sub a ver i j)
def mvCs (l v l' v':Nat):List Cell→(List Cell→Prop)→Prop
 | [],K=>K []
 | x :: xs,K=>x.mv l v l' v' fun x=>mvCs l v l' v' xs fun xs=>K (x :: xs)
def AV.mv (l v l' v':Nat) (x:AV) (K:AV→Prop):Prop:=match x with
 | .one c=>c.mv l v l' v' fun c=>K (.one c)
 | .agg cs=>mvCs l v l' v' cs fun cs=>K (.agg cs)
 | .tup xs=>K (.tup xs)
 | .junk=>K .junk
def Own.mv (l v l' v':Nat) (x:Own) (K:Own→Prop):Prop:=match x with
 | .dead=>K .dead
 | .box ty cs=>mvCs l v l' v' cs fun cs=>K (.box ty cs)
 | .row ty k xs=>K (.row ty k xs)
 | .tail ty k xs=>K (.tail ty k xs)
 | .deep ty ety e xs g=>K (.deep ty ety e xs g)
theorem Cell.mv_ex {l v l' v':Nat} {x:Cell} {K:Cell→Prop} (h:x.mv l v l' v' K):∃ y,MvC l v l' v' x y∧K y:=by
 cases x with
 | own a ver=>
  unfold Cell.mv at h
  simp only at h
  split at h
  ·rename_i hm
   obtain ⟨rfl,h⟩:=h
   have:=Nat.eq_of_beq_eq_true hm
   subst this
   exact ⟨_,.inr ⟨rfl,rfl⟩,h⟩
  ·exact ⟨_,.inl rfl,h⟩
 | _=>exact ⟨_,.inl rfl,h⟩
theorem mvCs_ex {l v l' v':Nat}:∀ {xs:List Cell} {K:List Cell→Prop},mvCs l v l' v' xs K→∃ ys,RelL (MvC l v l' v') xs ys∧K ys
 | [],_,h=>⟨[],trivial,h⟩
 | _ :: _,_,h=>by
  obtain ⟨y,h1,h2⟩:=Cell.mv_ex h
  obtain ⟨ys,h3,h4⟩:=mvCs_ex h2
  exact ⟨_ :: _,⟨h1,h3⟩,h4⟩
theorem AV.mv_ex {l v l' v':Nat} {x:AV} {K:AV→Prop} (h:x.mv l v l' v' K):∃ y,RelA (MvC l v l' v') x y∧K y:=by
 cases x with
 | one c=>
  have h:c.mv l v l' v' (fun c=>K (.one c)):=h
  obtain ⟨y,h1,h2⟩:=Cell.mv_ex h
  exact ⟨.one y,h1,h2⟩
 | agg cs=>
  have h:mvCs l v l' v' cs (fun cs=>K (.agg cs)):=h
  obtain ⟨y,h1,h2⟩:=mvCs_ex h
  exact ⟨.agg y,h1,h2⟩
 | tup xs=>exact ⟨_,rfl,h⟩
 | junk=>exact ⟨_,rfl,h⟩
theorem Own.mv_ex {l v l' v':Nat} {x:Own} {K:Own→Prop} (h:x.mv l v l' v' K):∃ y,RelO (MvC l v l' v') x y∧K y:=by
 cases x with
 | box ty cs=>
  have h:mvCs l v l' v' cs (fun cs=>K (.box ty cs)):=h
  obtain ⟨y,h1,h2⟩:=mvCs_ex h
  exact ⟨.box ty y,⟨rfl,h1⟩,h2⟩
 | _=>exact ⟨_,rfl,h⟩
def mvS (l v l' v':Nat):List Nat→Sl→(Sl→Prop)→Prop
 | [],s,k=>k s
 | t :: ts,s,k=>(s t).mv l v l' v' fun x=>mvS l v l' v' ts s fun f=>k (upd f t x)
def mvW (l v l' v':Nat):List Nat→Ow→(Ow→Prop)→Prop
 | [],w,k=>k w
 | p :: ps,w,k=>match w p with|⟨u,ob⟩=>ob.mv l v l' v' fun ob=>mvW l v l' v' ps w fun f=>k (upd f p ⟨u,ob⟩)
theorem mvS_ex {l v l' v':Nat} {s:Sl}:∀ {ts:List Nat} {k:Sl→Prop},mvS l v l' v' ts s k→∃ s',(∀ t,RelA (MvC l v l' v') (s t) (s' t))∧k s'
 | [],_,h=>⟨s,fun t=>relA_refl (fun _=>.inl rfl) _,h⟩
 | t :: ts,k,h=>by
  unfold mvS at h
  obtain ⟨x,h1,h2⟩:=AV.mv_ex h
  obtain ⟨s',h3,h4⟩:=mvS_ex h2
  refine ⟨_,fun t'=>?_,h4⟩
  rw [upd_get]
  by_cases e:t'=t
  ·subst e;rw [if_pos rfl];exact h1
  ·rw [if_neg e];exact h3 t'
theorem mvW_ex {l v l' v':Nat} {w:Ow}:∀ {ts:List Nat} {k:Ow→Prop},mvW l v l' v' ts w k→∃ w',(∀ n,(w' n).ver=(w n).ver∧RelO (MvC l v l' v') (w n).obj (w' n).obj)∧k w'
 | [],_,h=>⟨w,fun n=>⟨rfl,relO_refl (fun _=>.inl rfl) _⟩,h⟩
 | p :: ps,k,h=>by
  unfold mvW at h
  rcases hw:w p with ⟨u,ob⟩
  rw [hw] at h
  simp only at h
  obtain ⟨y,h1,h2⟩:=Own.mv_ex h
  obtain ⟨w',h3,h4⟩:=mvW_ex h2
  refine ⟨_,fun n=>?_,h4⟩
  rw [upd_get]
  by_cases e:n=p
  ·subst e;rw [if_pos rfl,hw];exact ⟨rfl,h1⟩
  ·rw [if_neg e];exact h3 n
def mvK (m ts ps:List Nat) (s:Sl) (w:Ow) (K:Sl→Ow→Prop):Prop:=match m with
 | [l,l']=>match w l with
  | ⟨v,.row ty k xs⟩=>match w l' with
   | ⟨v',_⟩=>Nat.beq l l'=false∧mvS l v l' (v' + 1) ts s fun s'=>mvW l v l' (v' + 1) ps w fun w'=>K s' (upd (upd w' l ⟨v,.dead⟩) l' ⟨v' + 1,.row ty k xs⟩)
  | _=>False
 | _=>K s w
theorem mvK_ex {m ts ps:List Nat} {s:Sl} {w:Ow} {K:Sl→Ow→Prop} (h:mvK m ts ps s w K):∃ s' w',Mv ⟨s,w⟩ ⟨s',w'⟩∧K s' w':=by
 unfold mvK at h
 split at h
 ·rename_i l l'
  split at h
  ·rename_i v ty k xs hl
   rcases hl':w l' with ⟨v',ob'⟩
   rw [hl'] at h
   simp only at h
   obtain ⟨hne,h⟩:=h
   have hne:l≠l':=fun e=>by subst e;simp at hne
   obtain ⟨s',h1,h2⟩:=mvS_ex h
   obtain ⟨w',h3,h4⟩:=mvW_ex h2
   have e1:(w l).ver=v:=by rw [hl]
   have e2:(w l').ver=v':=by rw [hl']
   subst e1
   subst e2
   refine ⟨s',_,.inr ⟨l,l',ty,k,xs,hne,congrArg Loc.obj hl,h1,upd_eq _ _ _,(upd_ne _ _ hne).trans (upd_eq _ _ _),fun n hn hn'=>?_⟩,h4⟩
   have e:upd (upd w' l ⟨(w l).ver,.dead⟩) l' ⟨(w l').ver + 1,.row ty k xs⟩ n=w' n:=by rw [upd_ne _ _ hn',upd_ne _ _ hn]
   show (upd (upd w' l ⟨(w l).ver,.dead⟩) l' ⟨(w l').ver + 1,.row ty k xs⟩ n).ver=_∧RelO _ _ (upd (upd w' l ⟨(w l).ver,.dead⟩) l' ⟨(w l').ver + 1,.row ty k xs⟩ n).obj
   rw [e]
   exact h3 n
  ·exact h.elim
 ·exact ⟨s,w,.inl rfl,h⟩
def startF (z l p:List (Nat × List Nat)) (i:Nat) (s:Sl) (w:Ow) (k:Sl→Ow→Prop):Prop:=match lookL z (i + 100000) with
 | []=>k s w
 | q :: qs=>fcKeep (q :: qs) w (lookL l (i + 100000)) s s fun s0=>fcKeepW (q :: qs) (lookL p (i + 100000)) w (deadW w) fun w0=>k s0 w0
theorem startF_ex {z l p:List (Nat × List Nat)} {i:Nat} {k:Sl→Ow→Prop} (h:startF z l p i s w k):∃ s0 w0,Wks c ⟨s,w⟩ ⟨s0,w0⟩∧k s0 w0:=by
 unfold startF at h
 split at h
 ·exact ⟨s,w,.refl _,h⟩
 ·rename_i q qs _
  obtain ⟨s',h1,h2⟩:=fcKeep_ex h
  obtain ⟨w',h3,h4⟩:=fcKeepW_ex h2
  exact ⟨s',w',.step ⟨memB (q :: qs),h1,h3⟩ (.refl _),h4⟩
theorem zG {l p z m:List (Nat × List Nat)} (_:Kp l p z m) {i:Nat} {ops:Array Oper} {d:Bool}
  (h:∀ K:Sl→Ow→Prop,(∀ s' w',Q .normal s' w'→K s' w')→startF z l p i s w fun s w=>arun' c ops.toList ops.toList s w fun s' w'=>∀ g:Sl,∀ o:Ow,(fcKeep (lookL z i) w' (lookL l i) s' g fun s''=>fcKeepW (lookL z i) (lookL p i) w' (deadW o) fun w''=>mvK (lookL m i) (lookL l i) (lookL p i) s'' w'' fun s3 w3=>K s3 w3)):awp' c (.region i ops d) Q s w:=by
 obtain ⟨s0,w0,hk0,h⟩:=startF_ex (c:=c) (h _ fun _ _ h=>h)
 exact ⟨s0,w0,hk0,arun'_mono (fun s' w' h2=>by
  have:=h2 s' w'
  generalize lookL z i=pl at this
  have h5:=this
  obtain ⟨s'',h6,h7⟩:=fcKeep_ex h5
  obtain ⟨w'',h8,h9⟩:=fcKeepW_ex h7
  obtain ⟨s3,w3,h10,h11⟩:=mvK_ex h9
  exact ⟨⟨s'',w''⟩,s3,w3,⟨memB pl,h6,h8⟩,h10,h11⟩) h⟩
end
def HasW (w:Ow):List (Nat × Loc)→Prop
 | []=>True
 | (p,x) :: r=>w p=x∧HasW w r
def updW (f:Ow):List (Nat × Loc)→Ow
 | []=>f
 | (p,x) :: r=>upd (updW f r) p x
theorem hasW_eq {f:Ow}:∀ {l:List (Nat × Loc)},HasW f l→f=updW f l
 | [],_=>rfl
 | (t,v) :: r,h=>by
  show f=upd (updW f r) t v
  rw [← hasW_eq h.2,upd_self h.1]
def fcR:List Nat→Sl→(List (Nat × AV)→Prop)→Prop
 | [],_,k=>k []
 | t :: ts,s,k=>(s t).fc fun v=>fcR ts s fun r=>k ((t,v) :: r)
theorem fcR_eq:∀ (ts:List Nat) (s:Sl) (k:List (Nat × AV)→Prop),fcR ts s k=k (ts.map fun t=>(t,s t))
 | [],_,_=>rfl
 | t :: ts,s,k=>by unfold fcR;rw [AV.fc_eq,fcR_eq ts];rfl
def fcW:List Nat→Ow→(List (Nat × Loc)→Prop)→Prop
 | [],_,k=>k []
 | p :: ps,w,k=>match w p with|⟨v,ob⟩=>ob.fc fun ob=>fcW ps w fun r=>k ((p,⟨v,ob⟩) :: r)
theorem fcW_eq:∀ (ps:List Nat) (w:Ow) (k:List (Nat × Loc)→Prop),fcW ps w k=k (ps.map fun p=>(p,w p))
 | [],_,_=>rfl
 | p :: ps,w,k=>by unfold fcW;simp only [Own.fc_eq,fcW_eq ps];rfl
theorem hasS_map (s:Sl):∀ ts:List Nat,HasS s (ts.map fun t=>(t,s t))
 | []=>trivial
 | _ :: ts=>⟨rfl,hasS_map s ts⟩
theorem hasW_map (w:Ow):∀ ts:List Nat,HasW w (ts.map fun t=>(t,w t))
 | []=>trivial
 | _ :: ts=>⟨rfl,hasW_map w ts⟩
theorem hasW_app {w:Ow}:∀ {l r:List (Nat × Loc)},HasW w l→HasW w r→HasW w (l ++ r)
 | [],_,_,h=>h
 | _ :: _,_,h,k=>⟨h.1,hasW_app h.2 k⟩
theorem hasS_app {s:Sl}:∀ {l r:List (Nat × AV)},HasS s l→HasS s r→HasS s (l ++ r)
 | [],_,_,h=>h
 | _ :: _,_,h,k=>⟨h.1,hasS_app h.2 k⟩
structure Head (s:Sl) (w:Ow) (L:List (Nat × AV)) (O:List (Nat × Nat × Bool × Own)) (R:List (Nat × AV)) (RW:List (Nat × Loc)):Prop where
 l:HasS s L
 o:HasR ⟨s,w⟩ O
 r:HasS s R
 rw:HasW w RW
def verF (w:Ow) (p:Nat):Nat:=match w p with|⟨v,_⟩=>v
def loopGQ {α:Type} (L:α→(Nat→Nat)→List (Nat × AV)) (O:α→(Nat→Nat)→List (Nat × Nat × Bool × Own)) (P:α→Prop) (m:α→Nat) (R:List (Nat × AV)) (V:α→(Nat→Nat)→List (Nat × Loc)) (RW:List (Nat × Loc)) (a:α) (Q:Exit→Sl→Ow→Prop) (e:Exit) (s:Sl) (w:Ow):Prop:=match e with
 | .normal=>∃ a',m a' < m a∧P a'∧Head s w (L a' (verF w)) (O a' (verF w)) R (V a' (verF w) ++ RW)
 | e=>Q e s w
section
variable {c : Cfg} {Q : Exit → Sl → Ow → Prop} {s : Sl} {w : Ow} {x y : Code} {α : Type} {L : α → (Nat → Nat) → List (Nat × AV)} {O : α → (Nat → Nat) → List (Nat × Nat × Bool × Own)} {V : α → (Nat → Nat) → List (Nat × Loc)} {P : α → Prop} {m : α → Nat} {R : List (Nat × AV)} {RW : List (Nat × Loc)} {a : α}
theorem gq_n (h:∃ a',m a' < m a∧P a'∧Head s w (L a' (verF w)) (O a' (verF w)) R (V a' (verF w) ++ RW)):loopGQ L O P m R V RW a Q .normal s w:=h
theorem gq_r (h:Q .ret s w):loopGQ L O P m R V RW a Q .ret s w:=h
theorem gq_e {i:Nat} (h:Q (.exit i) s w):loopGQ L O P m R V RW a Q (.exit i) s w:=h
theorem awp'_loopG (L:α→(Nat→Nat)→List (Nat × AV)) (O:α→(Nat→Nat)→List (Nat × Nat × Bool × Own)) (V:α→(Nat→Nat)→List (Nat × Loc)) (P:α→Prop) (m:α→Nat) (ts ps:List Nat) (a0:α)
  (h:fcR ts s fun R=>fcW ps w fun RW=>(P a0∧HasS s (L a0 (verF w))∧HasR ⟨s,w⟩ (O a0 (verF w))∧HasW w (V a0 (verF w))) ∧
   ∀ a g o v,P a→awp' c x (loopGQ L O P m R V RW a Q) (updR v (updS g (L a v ++ R)) (O a v)) (updO v (updW o (V a v ++ RW)) (O a v))):awp' c (.loop x) Q s w:=by
 rw [fcR_eq,fcW_eq] at h
 obtain ⟨⟨h1,h2,h3,h3'⟩,h⟩:=h
 refine awp'_loop (fun a σ=>P a∧Head σ.slots σ.own (L a (verF σ.own)) (O a (verF σ.own)) (ts.map fun t=>(t,s t)) (V a (verF σ.own) ++ ps.map fun p=>(p,w p))) m a0 ⟨h1,h2,h3,hasS_map s ts,hasW_app h3' (hasW_map w ps)⟩ ?_
 rintro a s' w' ⟨hP,hl,ho,hr,hw⟩
 have h4:=h a s' w' (verF w') hP
 have e1:updS s' (L a (verF w') ++ ts.map fun t=>(t,s t))=s':=(hasS_eq (hasS_app hl hr)).symm
 have e2:updW w' (V a (verF w') ++ ps.map fun p=>(p,w p))=w':=(hasW_eq hw).symm
 have e3:updR (verF w') s' (O a (verF w'))=s':=updR_self ho
 have e4:updO (verF w') w' (O a (verF w'))=w':=updO_self ho
 rw [e1,e2,e3,e4] at h4
 refine cast (congrArg (fun q=>awp' c x q s' w') ?_) h4
 funext e s'' w''
 cases e <;> rfl
end
theorem vInt_s {n:Nat} (h:n≤4611686018427387904):vInt (IntKind.i64.wrap ((n:Int) + 1))=vInt ((n + 1:Nat):Int):=congrArg vInt (W_nat h)
end Go.Proofs.YtpafacebfogkmaaGreat
namespace Go.Proofs.YtpafacebfogkmaaGreat
open Go.RowKit
open Go.ChangeShapes (trod_struct1 trod_struct2)
def IntT (P:Program) (t:TypeId):Prop:=P.underlying t=some (.int .i64)∧P.cellsOf t=1
def PtT (P:Program) (t:TypeId):Prop:=P.cellsOf t=2∧∃ f0 f1:Field,P.underlying t=some (.struct #[f0,f1])∧(f0.offset=0∧IntT P f0.type)∧f1.offset=1∧IntT P f1.type
def TriT (P:Program) (t:TypeId):Prop:=P.cellsOf t=3∧∃ f0 f1 f2:Field,P.underlying t=some (.struct #[f0,f1,f2])∧(f0.offset=0∧IntT P f0.type)∧(f1.offset=1∧IntT P f1.type)∧f2.offset=2∧IntT P f2.type
def SlPtT (P:Program) (t:TypeId):Prop:=P.cellsOf t=1∧∃ e,P.underlying t=some (.slice e)∧PtT P e
def SlIntT (P:Program) (t:TypeId):Prop:=P.cellsOf t=1∧∃ e,P.underlying t=some (.slice e)∧IntT P e
def U8T (P:Program) (t:TypeId):Prop:=P.underlying t=some (.int .u8)∧P.cellsOf t=1
def SlU8T (P:Program) (t:TypeId):Prop:=P.cellsOf t=1∧∃ e,P.underlying t=some (.slice e)∧U8T P e
def RoomT (P:Program) (t:TypeId):Prop:=P.cellsOf t=1∧∃ f0:Field,P.underlying t=some (.struct #[f0])∧f0.offset=0∧SlPtT P f0.type
section
variable {H : Type} {enc : TypeId × Value → H} {P : Program} {w : World} {base : Nat} {spare : Nat → Bool} {held : Bool} {fuel : Nat} {t : TypeId} {cs : List Value} {x : DataW H × List MemPlace} {F : Nat → Prop} {r : Reach}
theorem list_of {α:Type} {Q:Nat→α→Prop}:∀ {n:Nat},(∀ i,i < n→∃ x,Q i x)→∃ xs:List α,xs.length=n∧∀ (i:Nat) x,xs[i]?=some x→Q i x
 | 0,_=>⟨[],rfl,fun i x h=>by simp at h⟩
 | n + 1,h=>by
  obtain ⟨xs,hl,hx⟩:=list_of (n:=n) fun i hi=>h i (by omega)
  obtain ⟨y,hy⟩:=h n (by omega)
  refine ⟨xs ++ [y],by simp [hl],fun i x hi=>?_⟩
  rcases Nat.lt_or_ge i xs.length with h1|h1
  ·rw [List.getElem?_append_left h1] at hi;exact hx i x hi
  ·rw [List.getElem?_append_right h1] at hi
   have:i - xs.length=0:=by
    rcases Nat.eq_zero_or_pos (i - xs.length) with h2|h2
    ·exact h2
    ·rw [List.getElem?_eq_none (by simp;omega)] at hi;cases hi
   rw [this] at hi
   simp at hi
   subst hi
   rw [show i=n by omega]
   exact hy
theorem int_cells (ht:IntT P t) (h:DataW.trod enc P w base spare held fuel t cs=some x):∃ n:Int,cs=[.int .i64 n]:=by
 obtain ⟨n,h1,_⟩:=DataW.trod_int ht.1 h
 exact ⟨n,h1⟩
theorem u8_cells (ht:U8T P t) (h:DataW.trod enc P w base spare held fuel t cs=some x):∃ n:Int,cs=[.int .u8 n]:=by
 obtain ⟨n,h1,_⟩:=DataW.trod_int ht.1 h
 exact ⟨n,h1⟩
theorem one_of {cs:List Value} {j:Nat} {v:Value} (h:(cs.drop j).take 1=[v]):cs[j]?=some v:=by
 have:=congrArg (·[0]?) h
 simpa [List.getElem?_take,List.getElem?_drop] using this
theorem pt_cells (ht:PtT P t) (h:DataW.trod enc P w base spare held fuel t cs=some x):∃ p:Int × Int,cs=ElB.pt.encV p:=by
 obtain ⟨h2,f0,f1,hu,⟨h3,h4⟩,h5,h6⟩:=ht
 obtain ⟨y0,y1,n,_,hl,e0,e1⟩:=trod_struct2 hu h
 rw [h4.2,h3] at e0
 rw [h6.2,h5] at e1
 obtain ⟨a,ha⟩:=int_cells h4 e0
 obtain ⟨b,hb⟩:=int_cells h6 e1
 have ha:=one_of ha
 have hb:=one_of hb
 rw [h2] at hl
 match cs,hl with
 | [u,v],_=>
  simp at ha hb
  exact ⟨(a,b),by simp [ElB.encV,ha,hb]⟩
theorem tri_cells (ht:TriT P t) (h:DataW.trod enc P w base spare held fuel t cs=some x):∃ p:Int × Int × Int,cs=ElB.tri.encV p:=by
 obtain ⟨h2,f0,f1,f2,hu,⟨h3,h4⟩,⟨h5,h6⟩,h7,h8⟩:=ht
 obtain ⟨y0,y1,y2,n,_,hl,e0,e1,e2⟩:=Go.Deep.trod_struct3 hu h
 rw [h4.2,h3] at e0
 rw [h6.2,h5] at e1
 rw [h8.2,h7] at e2
 obtain ⟨a,ha⟩:=int_cells h4 e0
 obtain ⟨b,hb⟩:=int_cells h6 e1
 obtain ⟨c,hc⟩:=int_cells h8 e2
 have ha:=one_of ha
 have hb:=one_of hb
 have hc:=one_of hc
 rw [h2] at hl
 match cs,hl with
 | [u,v,z],_=>
  simp at ha hb hc
  exact ⟨(a,b,c),by simp [ElB.encV,ha,hb,hc]⟩
theorem sl_cells {e:TypeId} {k:ElB} (hu:P.underlying t=some (.slice e)) (hs:P.cellsOf e=k.size) (hel:∀ {n:Nat} {cs:List Value} {x:DataW H × List MemPlace},DataW.trod enc P w base spare held n e cs=some x→∃ y:k.T,cs=k.encV y)
  (hF:∀ a l c,cs=[.slice (some a) l c]→l=0∨F a.block) (h:DataW.trod enc P w base spare held fuel t cs=some x) :
  ∃ (v:Value) (xs:List k.T),cs=[v]∧SLK w F (.b k) xs v∧xs.length≤9223372036854775807:=by
 rcases DataW.trod_slice hu h with ⟨rfl,_⟩|⟨a,len,cap,elems,rest,n,_,rfl,_,_,hl,hm,hlen,hE,_⟩
 ·exact ⟨_,[],rfl,.inl ⟨rfl,rfl⟩,by simp⟩
 ·have each:∀ i,i < len→∃ y:k.T,w.cells? base (a.add (i * k.size)) k.size=some (k.encV y):=by
   intro i hi
   have h1:=hE i hi
   obtain ⟨hlt⟩:i < elems.length∧True:=⟨by omega,trivial⟩
   rw [List.getElem?_eq_getElem hlt,Option.bind_eq_some_iff] at h1
   obtain ⟨us,h2,h3⟩:=h1
   obtain ⟨y,rfl⟩:=hel h3
   rw [hs] at h2
   exact ⟨y,h2⟩
  obtain ⟨xs,hxl,hxs⟩:=list_of each
  refine ⟨_,xs,rfl,.inr ⟨a,cap,by rw [hxl],by omega,(hF a len cap rfl).imp (fun e=>List.eq_nil_of_length_eq_zero (by omega)) id,fun i y hy=>?_⟩,by unfold maxLen at hm;omega⟩
  obtain ⟨_,h2,h3⟩:=World.cells?_some (hxs i y hy)
  refine ⟨k.encV y,h2,rfl,fun j u hj=>?_⟩
  have hlt:=(List.getElem?_eq_some_iff.1 hj).1
  have:=h3 j (by omega)
  rw [hj] at this
  rwa [add_add'] at this
theorem cell_lt {u:TypeId} {a:Addr} {l c:Nat} (h:Cell.okWide P w r base u (.slice (some a) l c)):a.block < w.heap.size:=by
 have h':Cell.ok P w r base u (.slice (some a) l c):=by
  unfold Cell.okWide at h
  split at h <;> first|exact h|simp_all
 unfold Cell.ok at h'
 split at h' <;> first|exact h'.elim|skip
 all_goals simp_all
 rename_i he
 obtain ⟨rfl,rfl,rfl⟩:=he
 obtain ⟨_,_,_,_,row,cells,hs,_⟩:=h'
 unfold World.shape? at hs
 rcases Nat.lt_or_ge a.block w.heap.size with h1|h1
 ·exact h1
 ·rw [Array.getElem?_eq_none h1] at hs;simp at hs
def SlSlIntT (P:Program) (t:TypeId):Prop:=P.cellsOf t=1∧∃ e,P.underlying t=some (.slice e)∧SlIntT P e
theorem slsl_cells {e:TypeId} (hu:P.underlying t=some (.slice e)) (hs:SlIntT P e)
  (hF:∀ a l c,cs=[.slice (some a) l c]→a.block < w.heap.size) (h:DataW.trod enc P w base spare held fuel t cs=some x) :
  ∃ (v:Value) (xs:List (List Int)),cs=[v]∧SLK w (fun b=>b < w.heap.size) (.s .int) xs v∧xs.length≤9223372036854775807∧∀ c∈xs,c.length≤9223372036854775807:=by
 obtain ⟨hs1,e',hue,hpe⟩:=hs
 rcases DataW.trod_slice hu h with ⟨rfl,_⟩|⟨a,len,cap,elems,rest,n,_,rfl,_,_,hl,hm,hlen,hE,_⟩
 ·exact ⟨_,[],rfl,.inl ⟨rfl,rfl⟩,by simp,by simp⟩
 ·have each:∀ i,i < len→∃ y:List Int,y.length≤9223372036854775807∧∃ v:Value,w.cells? base (a.add (i * 1)) 1=some [v]∧SLK w (fun b=>b < w.heap.size) (.b .int) y v:=by
   intro i hi
   have h1:=hE i hi
   have hlt:i < elems.length:=by omega
   rw [List.getElem?_eq_getElem hlt,Option.bind_eq_some_iff] at h1
   obtain ⟨us,h2,h3⟩:=h1
   obtain ⟨v,xs,rfl,hsl,hxl0⟩:=sl_cells (k:=.int) (F:=fun b=>b < w.heap.size) hue hpe.2 (fun h=>int_cells hpe h) (fun a' l' c' he=>by
    rcases Nat.eq_zero_or_pos l' with e|e
    ·exact .inl e
    ·refine .inr ?_
     subst he
     rcases DataW.trod_slice hue h3 with ⟨h4,_⟩|⟨a2,len2,cap2,elems2,rest2,n2,_,h4,_,_,hl2,hm2,hlen2,hE2,_⟩
     ·simp at h4
     ·simp at h4
      obtain ⟨rfl,rfl,rfl⟩:=h4
      have h5:=hE2 0 e
      rw [List.getElem?_eq_getElem (by omega),Option.bind_eq_some_iff] at h5
      obtain ⟨us2,h6,-⟩:=h5
      rw [hpe.2] at h6
      obtain ⟨_,h7,h8⟩:=World.cells?_some h6
      have hlt2:0 < us2.length:=by omega
      have h9:=h8 0 (by omega)
      rw [List.getElem?_eq_getElem hlt2] at h9
      rcases Nat.lt_or_ge a'.block w.heap.size with h10|h10
      ·exact h10
      ·exfalso
       have hb:((a'.add (0 * 1)).add 0).block=a'.block:=by rw [block_add,block_add]
       unfold World.cell? at h9
       rw [hb,Array.getElem?_eq_none h10] at h9
       simp at h9) h3
   rw [hs1] at h2
   exact ⟨xs,hxl0,v,h2,hsl⟩
  obtain ⟨xs,hxl,hxs⟩:=list_of each
  refine ⟨_,xs,rfl,.inr ⟨a,cap,by rw [hxl],by omega,.inr (hF a len cap rfl),fun i y hy=>?_⟩,by unfold maxLen at hm;omega,fun c hc=>by obtain ⟨i,hi⟩:=List.mem_iff_getElem?.1 hc;exact (hxs i c hi).1⟩
  obtain ⟨_,v,h1,h2⟩:=hxs i y hy
  obtain ⟨_,h3,h4⟩:=World.cells?_some h1
  refine ⟨[v],rfl,⟨v,rfl,?_⟩,fun j u hj=>?_⟩
  ·rcases h2 with h2|⟨ad,c,g1,g2,g3,g4⟩
   ·exact .inl h2
   ·exact .inr ⟨ad,c,g1,g2,g3,fun i x hx=>by obtain ⟨us,u1,u2,u3⟩:=g4 i x hx;exact ⟨us,u1,u2,u3⟩⟩
  ·have hlt:=(List.getElem?_eq_some_iff.1 hj).1
   have:=h4 j (by simpa using hlt)
   rw [hj] at this
   rwa [add_add'] at this
def ShT (P:Program):Ty→TypeId→Prop
 | .int,t=>IntT P t
 | .pt,t=>PtT P t
 | .tri,t=>TriT P t
 | .room,t=>RoomT P t
 | .sl (.b .pt),t=>SlPtT P t
 | .sl (.b .int),t=>SlIntT P t
 | .sl (.b .u8),t=>SlU8T P t
 | .sl (.s .int),t=>SlSlIntT P t
 | _,_=>False
def Ty.lenOk:(t:Ty)→t.T→Prop
 | .room,xs=>List.length xs≤9223372036854775807
 | .sl (.b _),xs=>List.length xs≤9223372036854775807
 | .sl (.s k),xs=>List.length xs≤9223372036854775807∧∀ c∈(xs:List (List k.T)),List.length c≤9223372036854775807
 | _,_=>True
theorem avc_agg {F:Nat→Prop} {cs:List Cell} {a:Array Value} (h:CellsC w F noRho deadOwn cs a.toList):AVC w F noRho deadOwn (.agg cs) (.agg a):=⟨a.toList,by simp,h⟩
theorem cells_nil {F:Nat→Prop}:CellsC w F noRho deadOwn [] []:=⟨rfl,fun j c v h=>by simp at h⟩
theorem open_ty {b0:Nat} {v:Value} {d:DataW H} {p:List MemPlace}:∀ {ty:Ty},ShT P ty t→Value.okWide P w r b0 t v→DataW.Trod enc P w base spare held t v d p →
  ∃ x:ty.T,ty.lenOk x∧AVC w (fun b=>b < w.heap.size) noRho deadOwn (ty.enc x) v:=by
 intro ty hs hk ⟨fuel,hf⟩
 have slice:∀ {k:ElB} {e:TypeId},P.underlying t=some (.slice e)→(∀ a l c,v=.slice (some a) l c→a.block < w.heap.size):=by
  intro k e hu a l c hv
  subst hv
  refine cell_lt (u:=t) (P:=P) (r:=r) (base:=b0) (l:=l) (c:=c) ?_
  simpa only [Value.okWide,hu] using hk
 cases ty with
 | int=>
  obtain ⟨n,rfl⟩:=Go.WideShapes.okWide_int hs.1 hk
  exact ⟨n,trivial,DC.int _ _⟩
 | pt=>
  obtain ⟨f0,f1,hu,_⟩:=hs.2
  obtain ⟨cs,rfl,_⟩:=Go.WideShapes.okWide_struct hu hk
  obtain ⟨q,hq⟩:=pt_cells hs hf
  refine ⟨q,trivial,avc_agg ?_⟩
  simp only [Value.cells] at hq
  rw [hq]
  exact CellsC.cons (DC.int _ _) (CellsC.cons (DC.int _ _) cells_nil)
 | tri=>
  obtain ⟨f0,f1,f2,hu,_⟩:=hs.2
  obtain ⟨cs,rfl,_⟩:=Go.WideShapes.okWide_struct hu hk
  obtain ⟨q,hq⟩:=tri_cells hs hf
  refine ⟨q,trivial,avc_agg ?_⟩
  simp only [Value.cells] at hq
  rw [hq]
  exact CellsC.cons (DC.int _ _) (CellsC.cons (DC.int _ _) (CellsC.cons (DC.int _ _) cells_nil))
 | room=>
  obtain ⟨h1,f0,hu,h2,h3,e,hue,hpe⟩:=hs
  have hk':=hk
  simp only [Value.okWide,hu] at hk'
  obtain ⟨cs,rfl,hsz,ts,_,_,hrow⟩:=hk'
  obtain ⟨y0,n,_,hl,e0⟩:=trod_struct1 hu hf
  rw [h3,h2] at e0
  simp only [Value.cells] at e0 hl
  rw [h1] at hl
  obtain ⟨u,hu1⟩:∃ u,cs.toList=[u]:=by
   match hc:cs.toList,hl with
   | [u],_=>exact ⟨u,rfl⟩
  rw [hu1] at e0
  obtain ⟨v,xs,hv,hsl,hlen⟩:=sl_cells (k:=.pt) (F:=fun b=>b < w.heap.size) hue hpe.1 (fun h=>pt_cells hpe h) (fun a l c he=>by
   have he:u=.slice (some a) l c:=by simpa using he
   subst he
   have h0:cs[0]?=some (.slice (some a) l c):=by rw [← Array.getElem?_toList,hu1];rfl
   obtain ⟨t',_,ht'⟩:=hrow 0 _ h0
   exact .inr (cell_lt ht')) e0
  have hv:u=v:=by simpa using hv
  subst hv
  refine ⟨xs,hlen,avc_agg ?_⟩
  rw [hu1]
  exact CellsC.cons (dc_weak (k:=.b .pt) hsl) cells_nil
 | sl k=>
  cases k with
  | b k=>
   cases k with
   | int=>
    obtain ⟨h1,e,hue,hpe⟩:=hs
    obtain ⟨a,l,c,rfl⟩:=Go.WideShapes.okWide_slice hue hk
    obtain ⟨v,xs,hv,hsl,hlen⟩:=sl_cells (k:=.int) (F:=fun b=>b < w.heap.size) hue hpe.2 (fun h=>int_cells hpe h) (fun a' l' c' he=>by
     simp [Value.cells] at he
     exact .inr (slice (k:=.int) hue a' l' c' (by rw [he.1,he.2.1,he.2.2]))) hf
    simp [Value.cells] at hv
    subst hv
    exact ⟨xs,hlen,dc_weak (k:=.b .int) hsl⟩
   | u8=>
    obtain ⟨h1,e,hue,hpe⟩:=hs
    obtain ⟨a,l,c,rfl⟩:=Go.WideShapes.okWide_slice hue hk
    obtain ⟨v,xs,hv,hsl,hlen⟩:=sl_cells (k:=.u8) (F:=fun b=>b < w.heap.size) hue hpe.2 (fun h=>u8_cells hpe h) (fun a' l' c' he=>by
     simp [Value.cells] at he
     exact .inr (slice (k:=.int) hue a' l' c' (by rw [he.1,he.2.1,he.2.2]))) hf
    simp [Value.cells] at hv
    subst hv
    exact ⟨xs,hlen,dc_weak (k:=.b .u8) hsl⟩
   | pt=>
    obtain ⟨h1,e,hue,hpe⟩:=hs
    obtain ⟨a,l,c,rfl⟩:=Go.WideShapes.okWide_slice hue hk
    obtain ⟨v,xs,hv,hsl,hlen⟩:=sl_cells (k:=.pt) (F:=fun b=>b < w.heap.size) hue hpe.1 (fun h=>pt_cells hpe h) (fun a' l' c' he=>by
     simp [Value.cells] at he
     exact .inr (slice (k:=.pt) hue a' l' c' (by rw [he.1,he.2.1,he.2.2]))) hf
    simp [Value.cells] at hv
    subst hv
    exact ⟨xs,hlen,dc_weak (k:=.b .pt) hsl⟩
   | _=>exact hs.elim
  | s k=>
   cases k with
   | int=>
    obtain ⟨h1,e,hue,hpe⟩:=hs
    obtain ⟨a,l,c,rfl⟩:=Go.WideShapes.okWide_slice hue hk
    obtain ⟨v,xs,hv,hsl,hlen,hin⟩:=slsl_cells hue hpe (fun a' l' c' he=>by
     simp [Value.cells] at he
     exact slice (k:=.int) hue a' l' c' (by rw [he.1,he.2.1,he.2.2])) hf
    simp [Value.cells] at hv
    subst hv
    exact ⟨xs,⟨hlen,hin⟩,dc_weak (k:=.s .int) hsl⟩
   | _=>exact hs.elim
 | _=>exact hs.elim
end
theorem castL_self (k:ElK) (xs:List k.T):castL k k xs=some xs:=by rcases k with k|k <;> cases k <;> rfl
theorem dec_enc:∀ (t:Ty) (x:t.T),t.dec (t.enc x)=some x
 | .sl k,xs=>castL_self k xs
 | .rsl k,xs=>castL_self k xs
 | .int,_=>rfl
 | .bool,_=>rfl
 | .pt,_=>rfl
 | .wall,_=>rfl
 | .tri,_=>rfl
 | .room,_=>rfl
 | .rpt,_=>rfl
 | .rint,_=>rfl
 | .clo,_=>rfl
 | .cur,_=>rfl
theorem decs_encs:∀ (ts:List Ty) (x:Args ts),decs ts (encs ts x)=some x
 | [],_=>rfl
 | t :: ts,x=>by
  unfold encs decs
  rw [dec_enc,decs_encs ts]
theorem law_walk {P:Program} {f:FuncId} {ts:List Ty} {pre:Args ts→Prop} (h:Good1 P f (mkCon ts pre fun _=>.val (.one (.d (.bool true))))) (x:Args ts) (hx:pre x) (w:World) (vs:List Value)
  (hl:vs.length=ts.length) (hv:∀ (j:Nat) y v,(encs ts x)[j]?=some y→vs[j]?=some v→AVC w (fun b=>b < w.heap.size) noRho deadOwn y v) :
  Calls P f vs.toArray w fun e w'=>e=.returned (.bool true)∧Below w.heap.size w w':=
 (h.snd w (fun b=>b < w.heap.size) (encs ts x) vs x (decs_encs ts x) hx (fun _ h=>h) (by rw [hl,encs_len]) hv).mono fun e w' ⟨v,he,hb,hr⟩=>by
  have:v=.bool true:=by
   have hr:DC _ _ _ v:=hr
   cases hr
   rfl
  exact ⟨by rw [he,this],hb⟩
def LensOk:(ts:List Ty)→Args ts→Prop
 | [],_=>True
 | t :: ts,x=>t.lenOk x.1∧LensOk ts x.2
def lawCon (ts:List Ty):Con:=mkCon ts (LensOk ts) fun _=>.val (.one (.d (.bool true)))
end Go.Proofs.YtpafacebfogkmaaGreat
namespace Go.Proofs.YtpafacebfogkmaaGreat
open Go.RowKit Go.Proofs.YtpafacebfogkmaaGreat.Nm
theorem aty_int:IntT Tryz.prog t_int:=⟨Tryz.underlying3,by kernel_rfl⟩
theorem aty_lpt:PtT Tryz.prog t_laws_Point:=⟨by kernel_rfl,_,_,Tryz.underlying93,⟨rfl,aty_int⟩,rfl,aty_int⟩
theorem aty_slp:SlPtT Tryz.prog t_sl_laws_Point:=⟨by kernel_rfl,_,Tryz.underlying36,aty_lpt⟩
theorem aty_si:SlIntT Tryz.prog t_sl_int:=⟨by kernel_rfl,_,Tryz.underlying33,aty_int⟩
theorem aty_sii:SlSlIntT Tryz.prog t_sl_sl_int:=⟨by kernel_rfl,_,Tryz.underlying27,aty_si⟩
theorem aty_lroom:RoomT Tryz.prog t_laws_Room:=⟨by kernel_rfl,_,Tryz.underlying38,rfl,aty_slp⟩
end Go.Proofs.YtpafacebfogkmaaGreat
namespace Go.Proofs.YtpafacebfogkmaaGreat
open Go.RowKit
abbrev Pt:=Int × Int
def btw (x lo hi:Int):Bool:=decide (lo≤x) && decide (x≤hi)
def ptOk (p:Pt):Bool:=btw p.1 (-40) 40 && btw p.2 (-40) 40
def turn (a b c:Pt):Int:=IntKind.i64.wrap ((b.1 - a.1) * (c.2 - a.2) - (b.2 - a.2) * (c.1 - a.1))
def onS (p a b:Pt):Bool:=decide (turn a b p=0) && (btw p.1 (min a.1 b.1) (max a.1 b.1) && btw p.2 (min a.2 b.2) (max a.2 b.2))
def sgn (n:Int):Int:=if 0 < n then 1 else if n < 0 then -1 else 0
def crs (a b c d:Pt):Bool:=decide (sgn (turn a b c) * sgn (turn a b d) < 0) && decide (sgn (turn c d a) * sgn (turn c d b) < 0)
def wallOk (w:Pt × Pt):Bool:=ptOk w.1 && (ptOk w.2 && !decide (w.1=w.2))
def meet (v w:Pt × Pt):Bool:=wallOk v && (wallOk w && (crs w.1 w.2 v.1 v.2 || (onS v.1 w.1 w.2 || (onS v.2 w.1 w.2 || (onS w.1 v.1 v.2 || onS w.2 v.1 v.2)))))
theorem ptEq (a b c d:Int):(a == c && b == d)=decide ((a,b)=(c,d)):=by
 rw [Bool.eq_iff_iff];simp
theorem sgn_cases (n:Int):(0 < n∧sgn n=1)∨(n < 0∧sgn n=-1)∨(n=0∧sgn n=0):=by unfold sgn;split <;> (try split) <;> omega
theorem sgn_mul (m n:Int):-1≤sgn m * sgn n∧sgn m * sgn n≤1:=by
 rcases sgn_cases m with ⟨-,h⟩|⟨-,h⟩|⟨-,h⟩ <;> rcases sgn_cases n with ⟨-,h'⟩|⟨-,h'⟩|⟨-,h'⟩ <;> rw [h,h'] <;> decide
theorem sgn_w (m n:Int):IntKind.i64.wrap (sgn m * sgn n)=sgn m * sgn n:=by have:=sgn_mul m n;exact W_in (by omega) (by omega)
theorem crs_comm (a b c d:Pt):crs a b c d=crs c d a b:=by unfold crs;rw [Bool.and_comm]
theorem btw_iff {x lo hi:Int}:btw x lo hi=true↔lo≤x∧x≤hi:=by simp [btw]
theorem ptOk_iff {p:Pt}:ptOk p=true↔-40≤p.1∧p.1≤40∧-40≤p.2∧p.2≤40:=by simp [ptOk,btw];omega
theorem getD_lt {α:Type} {xs:List α} {k:Nat} (d:α) (h:k < xs.length):xs.getD k d=xs[k]:=by simp [List.getD,h]
theorem all_succ {α:Type} {f:α→Bool} {xs:List α} {k:Nat} (d:α) (h:k < xs.length):(xs.take (k + 1)).all f=((xs.take k).all f && f (xs.getD k d)):=by
 rw [List.take_succ_eq_append_getElem h,List.all_append,getD_lt _ h];simp
theorem all_no {α:Type} {f:α→Bool} {xs:List α} {k:Nat} (d:α) (h:k < xs.length) (hf:f (xs.getD k d)=false):xs.all f=false:=by
 rw [List.all_eq_false]
 exact ⟨xs[k],List.getElem_mem h,by rw [getD_lt _ h] at hf;simp [hf]⟩
theorem take_all {α:Type} {f:α→Bool} {xs:List α} {k:Nat} (h:xs.length≤k) (hf:(xs.take k).all f=true):xs.all f=true:=by rwa [List.take_of_length_le h] at hf
theorem meet_spec (v w:Pt × Pt):meet v w=(wallOk v && (wallOk w && ((wallOk v && (wallOk w && crs w.1 w.2 v.1 v.2)) || ((wallOk v && (ptOk w.1 && onS w.1 v.1 v.2)) || ((wallOk v && (ptOk w.2 && onS w.2 v.1 v.2)) || ((wallOk w && (ptOk v.1 && onS v.1 w.1 w.2)) || (wallOk w && (ptOk v.2 && onS v.2 w.1 w.2)))))))):=by
 unfold meet
 cases hv:wallOk v with
 | false=>rfl
 | true=>
  cases hw:wallOk w with
  | false=>rfl
  | true=>
   simp only [wallOk,Bool.and_eq_true] at hv hw
   simp only [hv.1,hv.2.1,hw.1,hw.2.1,Bool.true_and]
   cases crs w.1 w.2 v.1 v.2 <;> cases onS v.1 w.1 w.2 <;> cases onS v.2 w.1 w.2 <;> cases onS w.1 v.1 v.2 <;> cases onS w.2 v.1 v.2 <;> rfl
abbrev pAt (xs:List Pt) (k:Nat):Pt:=xs.getD k (0,0)
abbrev pCy (xs:List Pt) (k:Nat):Pt:=xs.getD (k % xs.length) (0,0)
def wl (xs:List Pt) (k:Nat):Pt × Pt:=(pAt xs k,pCy xs (k + 1))
def walls (xs:List Pt):List (Pt × Pt):=(List.range xs.length).map (wl xs)
def cr (a b:Pt):Int:=a.1 * b.2 - a.2 * b.1
def dblTo (xs:List Pt):Nat→Int
 | 0=>0
 | k + 1=>dblTo xs k + cr (pAt xs k) (pCy xs (k + 1))
def dbl (xs:List Pt):Int:=dblTo xs xs.length
def okAt (xs:List Pt) (k:Nat):Bool:=!decide (turn (pAt xs k) (pCy xs (k + 1)) (pCy xs (k + 2))=0) &&
 (List.range xs.length).all fun i=>decide (i=k) || (decide ((i + 1) % xs.length=k) || (decide ((k + 1) % xs.length=i) || !meet (wl xs k) (wl xs i)))
def roomOk (xs:List Pt):Bool:=(decide (3≤xs.length) && decide (xs.length≤10)) && (xs.all ptOk && ((List.range xs.length).all (okAt xs) && decide (0 < IntKind.i64.wrap (dbl xs))))
theorem walls_len (xs:List Pt):(walls xs).length=xs.length:=by simp [walls]
theorem walls_get {xs:List Pt} {k:Nat} (h:k < xs.length) (d:Pt × Pt):(walls xs).getD k d=wl xs k:=by simp [walls,List.getD,h]
theorem walls_take {xs:List Pt} {k:Nat} (h:k < xs.length):(walls xs).take (k + 1)=(walls xs).take k ++ [wl xs k]:=by
 rw [List.take_succ_eq_append_getElem (by rw [walls_len];exact h)];simp [walls]
theorem mod_nat {k j n:Nat} (h:k + j≤4611686018427387904):Int.tmod (IntKind.i64.wrap ((k:Int) + (j:Int))) (n:Int)=(((k + j) % n:Nat):Int):=by
 rw [W_in (by omega) (by omega),← Int.natCast_add,← Int.ofNat_tmod]
theorem mod_nat1 {k n:Nat} (h:k + 1≤4611686018427387904):Int.tmod (IntKind.i64.wrap ((k:Int) + 1)) (n:Int)=(((k + 1) % n:Nat):Int):=mod_nat (j:=1) h
theorem mod_nat2 {k n:Nat} (h:k + 2≤4611686018427387904):Int.tmod (IntKind.i64.wrap ((k:Int) + 2)) (n:Int)=(((k + 2) % n:Nat):Int):=mod_nat (j:=2) h
theorem W_cr (s a b c d:Int):IntKind.i64.wrap (IntKind.i64.wrap s + IntKind.i64.wrap (IntKind.i64.wrap (a * b) - IntKind.i64.wrap (c * d)))=IntKind.i64.wrap (s + (a * b - c * d)):=by
 simp only [W_l1,W_l2,W_l3,W_l4]
theorem W_cr' (s a b c d:Int):IntKind.i64.wrap (IntKind.i64.wrap (IntKind.i64.wrap s + IntKind.i64.wrap (a * b)) - IntKind.i64.wrap (c * d))=IntKind.i64.wrap (s + (a * b - c * d)):=by
 simp only [W_l1,W_l2,W_l3,W_l4,Int.add_sub_assoc]
theorem ilo {k j n:Nat} (h:k + j≤4611686018427387904):0≤Int.tmod (IntKind.i64.wrap ((k:Int) + (j:Int))) (n:Int):=by rw [mod_nat h];omega
theorem ihi {k j n:Nat} (h:k + j≤4611686018427387904) (hn:0 < n):Int.tmod (IntKind.i64.wrap ((k:Int) + (j:Int))) (n:Int) + 1≤n:=by
 rw [mod_nat h];have:=Nat.mod_lt (k + j) hn;omega
theorem ilo1 {k n:Nat} (h:k + 1≤4611686018427387904):0≤Int.tmod (IntKind.i64.wrap ((k:Int) + 1)) (n:Int):=ilo (j:=1) h
theorem ihi1 {k n:Nat} (h:k + 1≤4611686018427387904) (hn:0 < n):Int.tmod (IntKind.i64.wrap ((k:Int) + 1)) (n:Int) + 1≤n:=ihi (j:=1) h hn
theorem ilo2 {k n:Nat} (h:k + 2≤4611686018427387904):0≤Int.tmod (IntKind.i64.wrap ((k:Int) + 2)) (n:Int):=ilo (j:=2) h
theorem ihi2 {k n:Nat} (h:k + 2≤4611686018427387904) (hn:0 < n):Int.tmod (IntKind.i64.wrap ((k:Int) + 2)) (n:Int) + 1≤n:=ihi (j:=2) h hn
theorem tm1 (k n:Nat):Int.tmod ((k:Int) + 1) (n:Int)=(((k + 1) % n:Nat):Int):=by rw [show ((k:Int) + 1)=((k + 1:Nat):Int) from rfl,← Int.ofNat_tmod]
theorem tm2 (k n:Nat):Int.tmod ((k:Int) + 2) (n:Int)=(((k + 2) % n:Nat):Int):=by rw [show ((k:Int) + 2)=((k + 2:Nat):Int) from rfl,← Int.ofNat_tmod]
theorem tmj (k j n:Nat):Int.tmod ((k:Int) + (j:Int)) (n:Int)=(((k + j) % n:Nat):Int):=by rw [← Int.natCast_add,← Int.ofNat_tmod]
theorem ptEq2 (a b:Pt):(a.1 == b.1 && a.2 == b.2)=decide (a=b):=ptEq a.1 a.2 b.1 b.2
theorem mdl {a n:Nat} (h:0 < n):((a % n:Nat):Int) + 1≤(n:Int):=by have:=Nat.mod_lt a h;omega
theorem onS_comm (p a b:Pt):onS p a b=onS p b a:=by
 have h1:turn a b p=0↔turn b a p=0:=by
  have e:∀ x y:Int,x=-y→(IntKind.i64.wrap x=0↔IntKind.i64.wrap y=0):=fun x y h=>by subst h;simp only [IntKind.wrap_i64];omega
  unfold turn
  refine e _ _ ?_
  grind
 unfold onS
 rw [Int.min_comm,Int.max_comm,Int.min_comm a.2,Int.max_comm a.2]
 simp only [h1]
theorem meet_comm (v w:Pt × Pt):meet v w=meet w v:=by
 unfold meet
 rw [crs_comm w.1 w.2 v.1 v.2]
 cases wallOk v <;> cases wallOk w <;> cases crs v.1 v.2 w.1 w.2 <;> cases onS v.1 w.1 w.2 <;> cases onS v.2 w.1 w.2 <;> cases onS w.1 v.1 v.2 <;> cases onS w.2 v.1 v.2 <;> rfl
theorem okAt_iff {xs:List Pt} {k:Nat}:okAt xs k=true↔turn (pAt xs k) (pCy xs (k + 1)) (pCy xs (k + 2))≠0 ∧
  ∀ i,i < xs.length→i≠k→(i + 1) % xs.length≠k→(k + 1) % xs.length≠i→meet (wl xs k) (wl xs i)=false:=by
 simp only [okAt,Bool.and_eq_true,Bool.not_eq_true',decide_eq_false_iff_not,List.all_eq_true,List.mem_range,Bool.or_eq_true,decide_eq_true_eq]
 refine and_congr_right fun _=>forall_congr' fun i=>forall_congr' fun _=>?_
 constructor
 ·rintro (h|h|h|h) h1 h2 h3
  ·exact absurd h h1
  ·exact absurd h h2
  ·exact absurd h h3
  ·exact h
 ·intro h
  by_cases h1:i=k
  ·exact .inl h1
  ·by_cases h2:(i + 1) % xs.length=k
   ·exact .inr (.inl h2)
   ·by_cases h3:(k + 1) % xs.length=i
    ·exact .inr (.inr (.inl h3))
    ·exact .inr (.inr (.inr (h h1 h2 h3)))
theorem roomOk_iff {xs:List Pt}:roomOk xs=true↔(3≤xs.length∧xs.length≤10)∧xs.all ptOk=true∧(∀ k,k < xs.length→okAt xs k=true)∧0 < IntKind.i64.wrap (dbl xs):=by
 simp only [roomOk,Bool.and_eq_true,decide_eq_true_eq,List.all_eq_true,List.mem_range]
theorem nb {i k n:Nat} (hi:i < n) (hk:k < n) (hik:i < k):(i + 1) % n=k↔k=i + 1:=by
 rw [Nat.mod_eq_of_lt (by omega)];omega
theorem okAt_half {xs:List Pt}:(∀ k,k < xs.length→okAt xs k=true)↔∀ i,i < xs.length→turn (pAt xs i) (pCy xs (i + 1)) (pCy xs (i + 2))≠0 ∧
  ∀ k,i + 2≤k→k < xs.length→(k + 1) % xs.length≠i→meet (wl xs i) (wl xs k)=false:=by
 constructor
 ·intro h i hi
  obtain ⟨h1,h2⟩:=okAt_iff.1 (h i hi)
  refine ⟨h1,fun k hk1 hk2 hk3=>h2 k hk2 (by omega) hk3 ?_⟩
  rw [Ne,nb hi hk2 (by omega)];omega
 ·intro h k hk
  refine okAt_iff.2 ⟨(h k hk).1,fun i hi h1 h2 h3=>?_⟩
  rcases Nat.lt_or_ge i k with hlt|hge
  ·rw [meet_comm]
   refine (h i hi).2 k ?_ hk h3
   rw [Ne,nb hi hk hlt] at h2;omega
  ·refine (h k hk).2 i ?_ hi h2
   rw [Ne,nb hk hi (by omega)] at h3;omega
end Go.Proofs.YtpafacebfogkmaaGreat
