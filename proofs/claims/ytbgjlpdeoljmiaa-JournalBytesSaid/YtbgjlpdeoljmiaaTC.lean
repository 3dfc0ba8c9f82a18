/- Several texts in one. No condition. -/
import Derived.Test.YtbgjlpdeoljmiaaTA
namespace Go.Proofs.Ytbgjlpdeoljmiaa
set_option linter.unusedSimpArgs false
set_option linter.unusedVariables false
open Go.RowKit
inductive Hint where
 | idx (i:Nat) (c:List PV)
 | at_ (i:Nat)
 | byte (i:Nat) (b:UInt8)
 | cut (lo hi:Nat)
 | fits
 | app (b:Bool)
 | nz
 | bool (b:Bool)
 | num (n:Nat)
 | ent (r:Option (Nat×PV))
 | call (v:AV) (H:Hp)
 | mset (kvs:List (PV×PV))
 | ment (v:PV) (i:Nat) (kvs:List (PV×PV))
 | mst (i:Nat) (k:PV) (w:PV)
 | look (v:PV) (b:Bool)
 | entr (j:Nat) (k v:PV)
 | bs (l:List UInt8)
 | pan (ch:List PanicEntry) (H2:Hp) (keep:List Nat) (k:Nat) (args:List AV)
 | die (ch:List PanicEntry)
 | arr (k:Nat) (q:PV)
 | arw (k:Nat)
 | apv (b:Bool) (news:List (List PV))
structure Ent where
 br:Bool
 k:Nat
 args:List AV
 H:Hp
 v:AV
 H':Hp
def Qm(P:Program)(br:Bool)(k:Nat)(args:List AV)(H:Hp)(v:AV)(H':Hp):Prop :=
 Enters P k∧(br=false→plRes v=true)∧((br=false→H=[])→∀X φ w vs,HR X φ H w→VRT w (YOf X φ) φ args vs→Calls P k vs.toArray w (Ret X φ H w [(v,H')]))
def RetX(X:Nat→Prop)(φ:Phi)(H:Hp)(w:World)(ch:List PanicEntry)(H':Hp)(e:Ending)(w':World):Prop :=
 e = .panicked ch∧∃φ',HR X φ' H' w'∧Ev φ w φ' w'∧H.length≤H'.length∧∀k,k<H.length→φ k = .fresh→φ' k = .fresh
def Qcr(P:Program)(k:Nat)(args:List AV)(H:Hp)(ch:List PanicEntry)(H':Hp):Prop :=
 Enters P k∧∀X φ w vs,HR X φ H w→VRT w (YOf X φ) φ args vs→Calls P k vs.toArray w (RetX X φ H w ch H')
def Ent.ok(P:Program)(e:Ent):Prop:=Qm P e.br e.k e.args e.H e.v e.H'
def Ent.same(a b:Ent):Prop:=a.br=b.br→a.args=b.args→a.H=b.H→a.v=b.v∧a.H'=b.H'
def lookN{α:Type}(i:Nat):List (Nat×α)→Option α
 | []=>none
 | (j,x)::r=>bif Nat.beq j i then some x else lookN i r
def intOf:AV→Option Int
 | .pl (.int _ n)=>some n
 | _=>none
def cutP:Option AV→Nat→Nat→List Prop→Option (List Prop)
 | none,k,d,cs=>some ((k=d)::cs)
 | some (.pl (.int _ n)),k,_,cs=>some ((n=(k:Int))::cs)
 | some _,_,_,_=>none
def appP(nid:Nat)(H:Hp)(te:TI)(news:List (List PV))(x:AV)(all:List Prop):Option ((AV×Hp)×List Prop) :=
 match x with
 | .pl (.sl .nil _ [])=>some ((.own nid,hput H nid (.row false te.size news)),(Qbg news.length te=true)::all)
 | .pl (.sl .zc _ [])=>some ((.own nid,hput H nid (.row false te.size news)),(Qbg news.length te=true)::all)
 | .own o=>match hget H o with
  | some (.row false sz es)=>bif Nat.beq sz te.size then some ((.own nid,hput (hset H o none) nid (.row false sz (es++news))),(Qbg (es.length+news.length) te=true)::all) else none
  | _=>none
 | .vw o off len=>match hget H o with
  | some (.row false sz es)=>bif Nat.beq sz te.size then some ((.own nid,hput (hset H o none) nid (.row false sz (es.drop off++news))),(Qbg (len+news.length) te=true)::(off+len=es.length)::all) else none
  | _=>none
 | _=>none
def look(C:Cfg)(kt e:Nat)(k:PV)(kvs:List (PV×PV)):Option (PV×Bool) :=
 bif keyV C.ty kt k then (match mfind C.ty kt k kvs 0 with
  | some (some (_,v))=>some (v,true)
  | some none=>(match zeroOf C e with | some z=>some (z,false) | none=>none)
  | none=>none) else none
def appH(C:Cfg)(nid:Nat)(H:Hp)(t:Nat)(x:AV)(news:List (List PV))(b:Bool):Option ((AV×Hp)×List Prop) :=
 match C.ty t with
 | some ti=>match ti.k with
  | .sl e=>match C.ty e with
   | some te=>bif Nat.beq te.size 0 then none else
    bif b then appP nid H te news x [news≠[],∀c∈news,c.length=te.size] else
    (match x with
     | .pl (.sl f sz es)=>some ((.pl (.sl f sz es),H),[news=[]])
     | .own o=>(match hget H o with | some (.row _ _ _)=>some ((.own o,H),[news=[]]) | _=>none)
     | .vw o a n=>(match hget H o with | some (.row _ _ _)=>some ((.vw o a n,H),[news=[]]) | _=>none)
     | _=>none)
   | none=>none
  | _=>none
 | none=>none
def appF(C:Cfg)(nid:Nat)(H:Hp)(t t1:Nat)(x y:AV):Option ((AV×Hp)×List Prop) :=
 match C.ty t,bif srcTy C t1 y then Qbf H y else none with
 | some ti,some news=>match ti.k with
  | .sl e=>match C.ty e with
   | some te=>bif !(news.all fun c=>Nat.beq c.length te.size)||Nat.beq te.size 0 then none else
    (match news with | []=>none | a::l=>appP nid H te (a::l) x [])
   | none=>none
  | _=>none
 | _,_=>none
def appDP(C:Cfg)(nid:Nat)(H:Hp)(t t1:Nat)(x y:AV)(o2 sz2:Nat)(news:List (List PV)):Option ((AV×Hp)×List Prop) :=
 match C.ty t with
 | some ti=>match ti.k with
  | .sl e=>match C.ty e with
   | some te=>bif !(Nat.beq sz2 te.size&&srcTy C t1 y)||Nat.beq te.size 0 then none else
    match news,x with
    | a::l,.pl (.sl .nil _ [])=>some ((.own nid,hput (hset H o2 none) nid (.drow sz2 (a::l))),[Qbg (a::l).length te=true])
    | a::l,.own o=>match hget H o with
     | some (.drow sz es)=>bif !(Nat.beq o o2)&&Nat.beq sz sz2 then some ((.own nid,hput (hset (hset H o none) o2 none) nid (.drow sz2 (es++a::l))),[Qbg (es.length+(a::l).length) te=true]) else none
     | _=>none
    | _,_=>none
   | none=>none
  | _=>none
 | none=>none
def absorb1P(H:Hp):AV→Option (PV×Hp×List Prop)
 | .own o=>match hget H o with | some (.row false sz es)=>some (.sl .any sz es,hset H o none,[es.all flatPL=true]) | _=>none
 | v=>(Qbp H v).map fun r=>(r.1,r.2,[])
def absorbLP(H:Hp):List AV→Option (List PV×Hp×List Prop)
 | []=>some ([],H,[])
 | v::r=>match absorb1P H v with
  | some (p,H1,cs)=>match absorbLP H1 r with
   | some (ps,H2,cs2)=>some (p::ps,H2,cs++cs2)
   | none=>none
  | none=>none
def buildDP(C:Cfg)(nid:Nat)(H:Hp)(t:Nat):Nat→List (Nat×AV)→Option ((AV×Hp)×List Prop)
 | 1,[(0,x)]=>match C.ty t with
  | some ti=>match ti.k with
   | .sl e=>match C.ty e with
    | some te=>bif Nat.ble te.size 16777216&&(!(Nat.beq te.size 0)&&x.cells.all oneA) then (match absorbLP H x.cells with
     | some (ps,H1,cs)=>bif Nat.beq ps.length te.size then some ((.own nid,hput H1 nid (.drow te.size [ps])),cs) else none
     | none=>none) else none
    | none=>none
   | _=>none
  | none=>none
 | _,_=>none
def hPure(C:Cfg)(nid:Nat)(ρ:Operand→AV)(H:Hp)(op:Op)(h:Hint):Option ((AV×Hp)×List Prop) :=
 match op,h with
 | .indexAddr t x i,.idx k c=>match C.ty t,intOf (ρ i),ρ x with
  | some ti,some n,.pl (.sl _ sz es)=>match ti.k with
   | .sl e=>match C.ty e with | some te=>bif Nat.beq sz te.size then some ((.ip c 0,H),[n=(k:Int),es[k]?=some c]) else none | none=>none
   | _=>none
  | _,_,_=>none
 | .indexAddr t x i,.at_ k=>match C.ty t,intOf (ρ i),ρ x with
  | some ti,some n,.own o=>match ti.k,hget H o with
   | .sl e,some (.row _ sz es)=>match C.ty e with | some te=>bif Nat.beq sz te.size then some ((.ep o k 0,H),[n=(k:Int),k<es.length]) else none | none=>none
   | _,_=>none
  | some ti,some n,.vw o off len=>match ti.k,hget H o with
   | .sl e,some (.row _ sz es)=>match C.ty e with | some te=>bif Nat.beq sz te.size then some ((.ep o (off+k) 0,H),[n=(k:Int),k<len,off+len≤es.length]) else none | none=>none
   | _,_=>none
  | some ti,some n,x=>match ti.k with
   | .arr m e=>match C.ty e with
    | some te=>match x with
     | .bp o off=>bif alive H o then some ((.bp o (off+k*te.size),H),[n=(k:Int),k<m]) else none
     | .ip c off=>some ((.ip c (off+k*te.size),H),[n=(k:Int),k<m])
     | .ep o j off=>bif alive H o then some ((.ep o j (off+k*te.size),H),[n=(k:Int),k<m]) else none
     | _=>none
    | none=>none
   | _=>none
  | _,_,_=>none
 | .buildSlice t n ps,.nz=>bif C.deep t then buildDP C nid H t n (ps.toList.map fun p=>(p.1,ρ p.2)) else none
 | .load t p,.idx _ c=>match C.ty t,ρ p with
  | some ti,.ep o i off=>match hget H o with
   | some (.row _ _ es)=>bif ti.k.row then (bif Nat.ble (off+ti.size) c.length then some ((.pl (.agg ((c.drop off).take ti.size)),H),[es[i]?=some c]) else none) else (match c[off]? with | some p=>some ((.pl p,H),[es[i]?=some c]) | none=>none)
   | _=>none
  | _,_=>none
 | .store t p v,.idx _ c=>match C.ty t,ρ p,plain H (ρ v) with
  | some ti,.ep o i off,some (q,H1)=>match hget H1 o with
   | some (.row false sz es)=>bif Nat.beq q.cells.length ti.size then (match putAt c off q.cells with | some c'=>some ((.tup [],hset H1 o (some (.row false sz (es.set i c')))),[es[i]?=some c]) | none=>none) else none
   | _=>none
  | _,_,_=>none
 | .index t x i,.at_ k=>match evIndex C t (ρ x) (.pl (.int .i64 (k:Int))),ρ x,ρ i with
  | some v,.pl (.agg _),.pl (.int _ n)=>some ((v,H),[n=(k:Int)])
  | _,_,_=>none
 | .index t x i,.byte k b=>match C.ty t,ρ x,intOf (ρ i) with
  | some ti,.pl (.str s),some n=>match ti.k with | .str=>some ((.pl (.int .u8 (b.toNat:Int)),H),[n=(k:Int),s.data.toList[k]?=some b]) | _=>none
  | _,_,_=>none
 | .slice t x lo hi none,.cut a b=>match C.ty t with
  | some ti=>match ti.k with
   | .arr m e=>match ρ x with
    | .bp o i=>match C.ty e,hget H o with
     | some te,some (.box _ cs)=>match arPl cs with
      | some ps=>bif Nat.beq i 0&&Nat.beq te.size 1&&Nat.beq ps.length m&&Nat.ble m maxLen then (match cutP (lo.map ρ) a 0 [a≤b,b≤m] with
       | some cs1=>match cutP (hi.map ρ) b m cs1 with
        | some cs2=>some ((.pl (.sl .any 1 (((takeO (match hi with | some _=>some b | none=>none) ps).drop a).map fun p=>[p])),hset H o none),cs2)
        | none=>none
       | none=>none) else none
      | none=>none
     | _,_=>none
    | _=>none
   | .str=>match ρ x with
    | .pl (.str s)=>match cutP (lo.map ρ) a 0 [a≤b,b≤s.size] with
     | some cs=>match cutP (hi.map ρ) b s.size cs with
      | some cs=>some ((.pl (.str ⟨((s.data.toList.take b).drop a).toArray⟩),H),cs)
      | none=>none
     | none=>none
    | _=>none
   | .sl e=>match C.ty e with
    | some te=>match ρ x with
     | .pl (.sl .any sz es)=>bif Nat.beq sz te.size then (match cutP (lo.map ρ) a 0 [a≤b,b≤es.length] with
      | some cs=>match cutP (hi.map ρ) b es.length cs with
       | some cs=>some ((.pl (.sl .any sz ((takeO (match hi with | some _=>some b | none=>none) es).drop a)),H),cs)
       | none=>none
      | none=>none) else none
     | .own o=>match hget H o with
      | some (.row _ sz es)=>bif Nat.beq sz te.size then (match cutP (lo.map ρ) a 0 [a≤b,b≤es.length] with
       | some cs=>match cutP (hi.map ρ) b es.length cs with
        | some cs=>some ((.vw o a (b-a),H),cs)
        | none=>none
       | none=>none) else none
      | _=>none
     | .vw o off len=>match hget H o with
      | some (.row _ sz es)=>bif Nat.beq sz te.size then (match cutP (lo.map ρ) a 0 [a≤b,off+b≤es.length] with
       | some cs=>match cutP (hi.map ρ) b len cs with
        | some cs=>some ((.vw o (off+a) (b-a),H),cs)
        | none=>none
       | none=>none) else none
      | _=>none
     | _=>none
    | none=>none
   | _=>none
  | none=>none
 | .call c,.fits=>match c.callee,c.argTypes.toList,c.args.toList with
  | .builtin .append,[t,t1],[x,y]=>match drowOf H (ρ y) with
   | some (o2,sz2,news)=>bif isDrow H (ρ x) then appDP C nid H t t1 (ρ x) (ρ y) o2 sz2 news else appF C nid (meltO H o2) t t1 (ρ x) (ρ y)
   | none=>appF C nid H t t1 (ρ x) (ρ y)
  | _,_,_=>none
 | .call c,.app b=>match c.callee,c.argTypes.toList,c.args.toList with
  | .builtin .append,[t,t1],[x,y]=>match C.ty t,bif srcTy C t1 (ρ y) then Qbf H (ρ y) else none with
   | some ti,some news=>match ti.k with
    | .sl e=>match C.ty e with
     | some te=>bif Nat.beq te.size 0 then none else
      bif b then appP nid H te news (ρ x) [news≠[],∀c∈news,c.length=te.size] else
      (match ρ x with
       | .pl (.sl f sz es)=>some ((.pl (.sl f sz es),H),[news=[]])
       | .own o=>(match hget H o with | some (.row _ _ _)=>some ((.own o,H),[news=[]]) | _=>none)
       | .vw o a n=>(match hget H o with | some (.row _ _ _)=>some ((.vw o a n,H),[news=[]]) | _=>none)
       | _=>none)
     | none=>none
    | _=>none
   | _,_=>none
  | _,_,_=>none
 | .call c,.nz=>match c.callee,c.argTypes.toList,c.args.toList with
  | .builtin .clear,[t],[x]=>match elemTy C t,ρ x with
   | some te,.vw o off len=>bif Nat.beq te.size 0 then none else match hget H o with
    | some (.row false sz es)=>bif Nat.beq sz te.size then some ((.tup [],hset H o (some (.row false sz (rowPut es off (List.replicate len te.zero))))),[off+len≤es.length]) else none
    | _=>none
   | _,_=>none
  | _,_,_=>none
 | .binOp op _ x y _,.nz=>match op,ρ x,ρ y with
  | .quo,.pl (.int k a),.pl (.int k' b)=>bif kindEq k k' then some ((.pl (.int k (k.wrap (a.tdiv b))),H),[b≠0]) else none
  | .rem,.pl (.int k a),.pl (.int k' b)=>bif kindEq k k' then some ((.pl (.int k (a.tmod b)),H),[b≠0]) else none
  | _,_,_=>none
 | .binOp op _ x y _,.fits=>match op,ρ x,ρ y with
  | .add,.pl (.str a),.pl (.str b)=>some ((.pl (.str ⟨(a.data.toList++b.data.toList).toArray⟩),H),[a.size+b.size≤9223372036854775807])
  | .shl,.pl (.int k a),.pl (.int _ b)=>some ((.pl (.int k (k.wrap (a*2 ^ (min b.toNat k.bits)))),H),[0≤b])
  | .shr,.pl (.int k a),.pl (.int _ b)=>some ((.pl (.int k (a.fdiv (2 ^ (min b.toNat k.bits)))),H),[0≤b])
  | _,_,_=>none
 | .binOp op t x y _,.app b=>match op,ρ x,ρ y with
  | .eql,.pl (.sl f sz es),.pl (.sl .nil _ _)=>match C.ty t with
   | some ti=>match ti.k with
    | .sl _=>some ((.pl (.bool b),H),bif b then [f = .nil] else [f = .any,es≠[]])
    | _=>none
   | none=>none
  | .neq,.pl (.sl f sz es),.pl (.sl .nil _ _)=>match C.ty t with
   | some ti=>match ti.k with
    | .sl _=>some ((.pl (.bool !b),H),bif b then [f = .nil] else [f = .any,es≠[]])
    | _=>none
   | none=>none
  | _,_,_=>none
 | .binOp op t x y _,.bool b=>match op,ρ x,ρ y with
  | .eql,.pl (.agg p),.pl (.agg q)=>(match C.ty t with | some ti=>(match ti.k with | .struct _=>some ((.pl (.bool b),H),[eqV C.ty t (.agg p) (.agg q)=some b]) | _=>none) | none=>none)
  | .neq,.pl (.agg p),.pl (.agg q)=>(match C.ty t with | some ti=>(match ti.k with | .struct _=>some ((.pl (.bool !b),H),[eqV C.ty t (.agg p) (.agg q)=some b]) | _=>none) | none=>none)
  | .eql,.own o,.pl (.sl .nil _ _)=>(match C.ty t,hget H o with | some ti,some (.row _ _ es)=>(match ti.k with | .sl _=>some ((.pl (.bool false),H),[es≠[]]) | _=>none) | _,_=>none)
  | .neq,.own o,.pl (.sl .nil _ _)=>(match C.ty t,hget H o with | some ti,some (.row _ _ es)=>(match ti.k with | .sl _=>some ((.pl (.bool true),H),[es≠[]]) | _=>none) | _,_=>none)
  | _,_,_=>none
 | .pick c a b,.bool d=>match ρ c with
  | .pl (.bool t)=>some ((bif d then ρ a else ρ b,H),[t=d])
  | _=>none
 | .makeSlice t l c,.num k=>match C.ty t,ρ l,ρ c with
  | some ti,.pl (.int _ n),.pl (.int _ m)=>match ti.k with
   | .sl e=>match C.ty e with
    | some te=>bif Nat.beq te.size 0 then none else some ((.own nid,hput H nid (.row false te.size (List.replicate k te.zero))),[n=(k:Int),m=(k:Int),Qbg k te=true])
    | none=>none
   | _=>none
  | _,_,_=>none
 | .convert s d x,.bs l=>match C.ty s,C.ty d,viewP H (ρ x) with
  | some ts,some td,.pl (.sl _ sz es)=>match td.k,ts.k with
   | .str,.sl e=>match C.ty e with
    | some te=>match te.k with
     | .int .u8=>bif Nat.beq sz 1 then some ((.pl (.str ⟨l.toArray⟩),H),[bytesOf es=some l]) else none
     | _=>none
    | none=>none
   | _,_=>none
  | _,_,_=>none
 | .convert s d x,.fits=>match C.ty s,C.ty d,ρ x with
  | some _,some td,.pl (.str b)=>match td.k with
   | .sl e=>match C.ty e with
    | some te=>match te.k with
     | .int .u8=>bif Nat.beq te.size 1 then some ((.pl (.sl .any 1 (b.data.toList.map fun c=>[.int .u8 (c.toNat:Int)])),H),[b.size≤9223372036854775807]) else none
     | _=>none
    | none=>none
   | _=>none
  | _,_,_=>none
 | .entry it,.entr j k v=>match ρ it with
  | .it i=>(match hget H i with
   | some (.iter o n seen)=>(match hget H o with
    | some (.map kvs)=>some ((.tup [.pl k,.pl v],H),[seen.getLast?=some j,kvs.length=n,kvs[j]?=some (k,v)])
    | _=>none)
   | _=>none)
  | _=>none
 | .mapUpdate t x k v,.mset kvs'=>match mapTy C t,ρ x,ρ k,plain H (ρ v) with
  | some (kt,_),.mp o,.pl k,some (v,H1)=>(match hget H1 o with
   | some (.map kvs)=>some ((.tup [],hset H1 o (some (.map kvs'))),[mset C.ty kt k v kvs=some kvs'])
   | _=>none)
  | _,_,_,_=>none
 | .insert t x k v,.mset kvs'=>match mapTy C t,ρ x,ρ k,plain H (ρ v) with
  | some (kt,_),.mp o,.pl k,some (v,H1)=>(match hget H1 o with
   | some (.map kvs)=>some ((.tup [],hset H1 o (some (.map kvs'))),[mset C.ty kt k v kvs=some kvs'])
   | _=>none)
  | _,_,_,_=>none
 | .mapEntry t x k,.ment v i kvs'=>match mapTy C t,ρ x,ρ k with
  | some (kt,e),.mp o,.pl k=>(match hget H o with
   | some (.map kvs)=>some ((.tup [.pl v,.pl (.int .i64 (i:Int))],hset H o (some (.map kvs'))),[ment C kt e k kvs=some (v,i,kvs')])
   | _=>none)
  | _,_,_=>none
 | .entryStore _ x s v,.mst i k u=>match ρ x,ρ s,plain H (ρ v) with
  | .mp o,.pl (.int _ n),some (v,H1)=>(match hget H1 o with
   | some (.map kvs)=>some ((.tup [],hset H1 o (some (.map (kvs.set i (k,v))))),[n=(i:Int),kvs[i]?=some (k,u)])
   | _=>none)
  | _,_,_=>none
 | .lookup t x k ok,.look v b=>match mapTy C t,ρ k,mapOf H (ρ x) with
  | some (kt,e),.pl k,some kvs=>some ((bif ok then .tup [.pl v,.pl (.bool b)] else .pl v,H),[look C kt e k kvs=some (v,b)])
  | _,_,_=>none
 | .lookup t x k ok,.ent r=>match mapTy C t,ρ k,mapOf H (ρ x) with
  | some (kt,e),.pl k,some kvs=>bif keyV C.ty kt k then (match r with
    | some (_,v)=>some ((bif ok then .tup [.pl v,.pl (.bool true)] else .pl v,H),[mfind C.ty kt k kvs 0=some r])
    | none=>(match zeroOf C e with | some z=>some ((bif ok then .tup [.pl z,.pl (.bool false)] else .pl z,H),[mfind C.ty kt k kvs 0=some none]) | none=>none)) else none
  | _,_,_=>none
 | .call c,.num k=>match c.callee,c.argTypes.toList,c.args.toList with
  | .builtin .copy,[t,t1],[x,y]=>match bif srcTy C t1 (ρ y) then Qbf H (ρ y) else none,elemTy C t,ρ x with
   | some src,some te,.vw o off len=>(match hget H o with
    | some (.row false sz es)=>bif Nat.beq sz te.size&&!(Nat.beq te.size 0) then some ((.pl (.int .i64 (k:Int)),hset H o (some (.row false sz (rowPut es off (src.take k))))),[k=Nat.min src.length len,off+len≤es.length,∀c∈src,c.length=te.size]) else none
    | _=>none)
   | some src,some te,.own o=>(match hget H o with
    | some (.row false sz es)=>bif Nat.beq sz te.size&&!(Nat.beq te.size 0) then some ((.pl (.int .i64 (k:Int)),hset H o (some (.row false sz (rowPut es 0 (src.take k))))),[k=Nat.min src.length es.length,∀c∈src,c.length=te.size]) else none
    | _=>none)
   | _,_,_=>none
  | _,_,_=>none
 | .load t p,.arr k q=>match C.ty t,ρ p with
  | some ti,.bp o off=>match hget H o with
   | some (.abox _ cs es)=>bif ti.k.row then none else some ((.pl q,H),[off=cs.length+k,es[k]?=some q])
   | _=>none
  | _,_=>none
 | .store t p v,.arw k=>match C.ty t,ρ p,ρ v with
  | some ti,.bp o off,.pl q=>match hget H o with
   | some (.abox bt cs es)=>bif Nat.beq ti.size 1&&oneA (.pl q) then some ((.tup [],hset H o (some (.abox bt cs (es.set k q)))),[off=cs.length+k,k<es.length]) else none
   | _=>none
  | _,_,_=>none
 | .call c,.apv b news=>match c.callee,c.argTypes.toList,c.args.toList with
  | .builtin .append,[t,t1],[x,y]=>bif srcTy C t1 (ρ y) then (match appH C nid H t (ρ x) news b with
   | some (r,cs)=>some (r,(Qbf H (ρ y)=some news)::cs)
   | none=>none) else none
  | _,_,_=>none
 | _,_=>none

theorem optNat_none:optNat none=some none:=rfl
theorem natOf_of{n:Int}{k:Nat}(h:n=(k:Int)):natOf n=some k:=by subst h; rfl
theorem Qcg{o:Option AV}{k d:Nat}{cs cs':List Prop}(h:cutP o k d cs=some cs')(hp:AllP cs'):AllP cs∧∃r,optNat o=some r∧r.getD d=k∧(o=none→r=none)∧(o≠none→r=some k):=by
 unfold cutP at h
 split at h
 ·simp only [Option.some.injEq] at h; subst h;exact ⟨hp.2,none,rfl,hp.1.symm,fun _=>rfl,fun h=>absurd rfl h⟩
 ·simp only [Option.some.injEq] at h; subst h;refine ⟨hp.2,some k,?_,rfl,(fun h=>by cases h),fun _=>rfl⟩;rw [hp.1]; rfl
 ·cases h
theorem intOf_eq{a:AV}{n:Int}(h:intOf a=some n):∃k,a = .pl (.int k n):=by
 unfold intOf at h
 split at h
 ·simp only [Option.some.injEq] at h; subst h; exact ⟨_,rfl⟩
 ·cases h
theorem ble_of{a b:Nat}(h:a≤b):Nat.ble a b=true:=by simpa using h
theorem blt_of{a b:Nat}(h:a<b):Nat.blt a b=true:=by rw [Nat.blt_eq]; exact h
section
variable {C:Cfg} {nid:Nat} {ρ:Operand→AV} {H:Hp}
theorem app_ok{te:TI}{news:List (List PV)}{x:AV}{all cs:List Prop}{r:AV×Hp}{t t1 e:Nat}{ti:TI}{y:AV}(h:appP nid H te news x all=some (r,cs))(hp:AllP cs)(hti:C.ty t=some ti)(hk:ti.k = .sl e)(hte:C.ty e=some te)
  (hs:(bif srcTy C t1 y then Qbf H y else none)=some news) (hg:(!(news.all fun c=>Nat.beq c.length te.size)||Nat.beq te.size 0)=false) (hne:news≠[]):Qbo C nid H t t1 x y=some r:=by
 unfold Qbo;simp only [hti,hs,hk,hte,hg,cond_false];cases news with
 | nil=>exact absurd rfl hne
 | cons a l =>
  unfold appP at h
  split at h
  ·simp only [Option.some.injEq,Prod.mk.injEq] at h; obtain ⟨rfl,rfl⟩:=h;simp only [hp.1,cond_true]
  ·simp only [Option.some.injEq,Prod.mk.injEq] at h; obtain ⟨rfl,rfl⟩:=h;simp only [hp.1,cond_true]
  ·split at h
   ·rename_i sz es ho;cases hb:Nat.beq sz te.size with
    | false=>simp [hb] at h
    | true =>
     simp only [hb,cond_true,Option.some.injEq,Prod.mk.injEq] at h; obtain ⟨rfl,rfl⟩:=h;simp only [ho,hp.1,hb,Bool.and_true,cond_true]
   ·cases h
  ·rename_i o off len
   split at h
   ·rename_i sz es ho;cases hb:Nat.beq sz te.size with
    | false=>simp [hb] at h
    | true =>
     simp only [hb,cond_true,Option.some.injEq,Prod.mk.injEq] at h; obtain ⟨rfl,rfl⟩:=h;have h2:=hp.2.1;have e1:Nat.ble (off+len+(a::l).length) es.length=false:=by
      rw [Bool.eq_false_iff];intro hc;have:=Nat.le_of_ble_eq_true hc;rw [List.length_cons] at this; omega
     have e2:Nat.beq (off+len) es.length=true:=by rw [h2]; simp
     simp only [ho,hp.1,hb,Bool.and_true,Bool.not_true,cond_false,cond_true,e1,e2]
   ·cases h
  ·cases h
theorem all_len{news:List (List PV)}{n:Nat}(h:∀c∈news,c.length=n):news.all (fun c=>Nat.beq c.length n)=true:=by
 rw [List.all_eq_true]; intro c hc; rw [h c hc]; simp
theorem appH_ok{t t1:Nat}{x y:AV}{news:List (List PV)}{b:Bool}{r:AV×Hp}{cs:List Prop}(h:appH C nid H t x news b=some (r,cs))(hp:AllP cs)(hs:(bif srcTy C t1 y then Qbf H y else none)=some news):Qbo C nid H t t1 x y=some r:=by
 unfold appH at h
 split at h
 ·rename_i ti hti
  split at h
  ·rename_i e hk
   split at h
   ·rename_i te hte;cases hz:Nat.beq te.size 0 with
    | true=>simp [hz] at h
    | false =>
     simp only [hz,cond_false] at h;cases b with
     | true =>
      simp only [cond_true] at h;have hcs:AllP [news≠[],∀c∈news,c.length=te.size]:=by
       unfold appP at h
       split at h
       ·simp only [Option.some.injEq,Prod.mk.injEq] at h; obtain ⟨_,rfl⟩:=h; exact hp.2
       ·simp only [Option.some.injEq,Prod.mk.injEq] at h; obtain ⟨_,rfl⟩:=h; exact hp.2
       ·split at h
        ·rename_i sz es ho;cases hb:Nat.beq sz te.size with
         | false=>simp [hb] at h
         | true=>simp only [hb,cond_true,Option.some.injEq,Prod.mk.injEq] at h; obtain ⟨_,rfl⟩:=h; exact hp.2
        ·cases h
       ·split at h
        ·rename_i sz es ho;cases hb:Nat.beq sz te.size with
         | false=>simp [hb] at h
         | true=>simp only [hb,cond_true,Option.some.injEq,Prod.mk.injEq] at h; obtain ⟨_,rfl⟩:=h; exact hp.2.2
        ·cases h
       ·cases h
      have hg:(!(news.all fun c=>Nat.beq c.length te.size)||Nat.beq te.size 0)=false:=by rw [all_len hcs.2.1,hz]; rfl
      exact app_ok h hp hti hk hte hs hg hcs.1
     | false =>
      simp only [cond_false] at h;have fin:∀r:AV×Hp,news=[]→(match (generalizing:=false) x with | .pl (.sl f sz es)=>some (AV.pl (.sl f sz es),H) | .own o=>(match hget H o with | some (.row _ _ _)=>some (.own o,H) | _=>none) | .vw o a n=>(match hget H o with | some (.row _ _ _)=>some (.vw o a n,H) | _=>none) | _=>none)=some r→Qbo C nid H t t1 x y=some r:=fun r hn hr=>by
       subst hn;unfold Qbo;simp only [hti,hs,hk,hte,List.all_nil,Bool.not_true,Bool.false_or,hz,cond_false];exact hr
      split at h
      ·rename_i f sz es;simp only [Option.some.injEq,Prod.mk.injEq] at h; obtain ⟨rfl,rfl⟩:=h;exact fin _ hp.1 rfl
      ·rename_i o
       split at h
       ·rename_i ho;simp only [Option.some.injEq,Prod.mk.injEq] at h; obtain ⟨rfl,rfl⟩:=h;exact fin _ hp.1 (by simp only [ho])
       ·cases h
      ·rename_i o a n
       split at h
       ·rename_i ho;simp only [Option.some.injEq,Prod.mk.injEq] at h; obtain ⟨rfl,rfl⟩:=h;exact fin _ hp.1 (by simp only [ho])
       ·cases h
      ·cases h
   ·cases h
  ·cases h
 ·cases h
theorem appS_src{t t1:Nat}{x y:AV}{news:List (List PV)}(h:(bif srcTy C t1 y then Qbf H y else none)=some news):Qbv C nid H t t1 x y=Qbo C nid H t t1 x y:=by
 have e:drowOf H y=none:=by
  unfold drowOf
  split
  ·rename_i o
   split
   ·rename_i sz es ho;cases hs:srcTy C t1 (.own o) with
    | false=>rw [hs] at h; cases h
    | true=>rw [hs] at h; simp [Qbf,elems,ho] at h
   ·rfl
  ·rfl
 unfold Qbv;rw [e]
theorem appF_ok{t t1:Nat}{x y:AV}{r:AV×Hp}{cs:List Prop}(h:appF C nid H t t1 x y=some (r,cs))(hp:AllP cs):Qbo C nid H t t1 x y=some r∧∃news,(bif srcTy C t1 y then Qbf H y else none)=some news:=by
 unfold appF at h
 split at h
 ·rename_i ti news hti hs
  split at h
  ·rename_i e hk
   split at h
   ·rename_i te hte;cases hg:(!(news.all fun c=>Nat.beq c.length te.size)||Nat.beq te.size 0) with
    | true=>simp [hg] at h
    | false =>
     simp only [hg,cond_false] at h
     split at h
     ·cases h
     ·exact ⟨app_ok h hp hti hk hte hs hg (by simp),_,hs⟩
   ·cases h
  ·cases h
 ·cases h
theorem appDP_ok{t t1 o2 sz2:Nat}{x y:AV}{news:List (List PV)}{r:AV×Hp}{cs:List Prop}(h:appDP C nid H t t1 x y o2 sz2 news=some (r,cs))(hp:AllP cs):evAppendD C nid H t t1 x y o2 sz2 news=some r:=by
 unfold appDP at h;unfold evAppendD
 split at h
 ·rename_i ti hti
  split at h
  ·rename_i e hk
   split at h
   ·rename_i te hte;simp only [hti,hk,hte];cases hg:(!(Nat.beq sz2 te.size&&srcTy C t1 y)||Nat.beq te.size 0) with
    | true=>rw [hg] at h; cases h
    | false =>
     rw [hg,cond_false] at h;rw [cond_false]
     split at h
     ·simp only [Option.some.injEq,Prod.mk.injEq] at h; obtain ⟨rfl,rfl⟩:=h;simp only [hp.1,cond_true]
     ·split at h
      ·rename_i sz es ho;cases hb:(!(Nat.beq _ o2)&&Nat.beq sz sz2) with
       | false=>rw [hb] at h; cases h
       | true =>
        rw [hb] at h;simp only [cond_true,Option.some.injEq,Prod.mk.injEq] at h; obtain ⟨rfl,rfl⟩:=h;simp only [ho];rw [←Bool.and_assoc,hb,Bool.true_and,hp.1,cond_true]
      ·cases h
     ·cases h
   ·cases h
  ·cases h
 ·cases h
theorem absorb1P_ok{v:AV}{p:PV}{H1:Hp}{cs:List Prop}(h:absorb1P H v=some (p,H1,cs))(hp:AllP cs):Qbp H v=some (p,H1):=by
 unfold absorb1P at h
 split at h
 ·split at h
  ·rename_i sz es ho;simp only [Option.some.injEq,Prod.mk.injEq] at h; obtain ⟨rfl,rfl,rfl⟩:=h;simp only [Qbp,ho,hp.1,cond_true]
  ·cases h
 ·obtain ⟨r,h1,h2⟩:=Option.map_eq_some_iff.1 h;simp only [Prod.mk.injEq] at h2; obtain ⟨rfl,rfl,_⟩:=h2;exact h1
theorem absorbLP_ok:∀{l:List AV} {H H1:Hp} {ps:List PV} {cs:List Prop},absorbLP H l=some (ps,H1,cs)→AllP cs→Qbw H l=some (ps,H1)
 | [],H,H1,ps,cs,h,_=>by
  simp only [absorbLP,Option.some.injEq,Prod.mk.injEq] at h; obtain ⟨rfl,rfl,_⟩:=h; rfl
 | v::r,H,H1,ps,cs,h,hp=>by
  simp only [absorbLP] at h
  split at h
  ·rename_i p H2 c1 h1
   split at h
   ·rename_i ps2 H3 c2 h2;simp only [Option.some.injEq,Prod.mk.injEq] at h; obtain ⟨rfl,rfl,rfl⟩:=h;rw [Qy] at hp;simp only [Qbw,absorb1P_ok h1 hp.1,absorbLP_ok h2 hp.2]
   ·cases h
  ·cases h
theorem buildDP_ok{t n:Nat}{l:List (Nat×AV)}{r:AV×Hp}{cs:List Prop}(h:buildDP C nid H t n l=some (r,cs))(hp:AllP cs):Qcw C nid H t n l=some r:=by
 unfold buildDP at h
 split at h
 ·rename_i x;unfold Qcw
  split at h
  ·rename_i ti hti
   split at h
   ·rename_i e hk
    split at h
    ·rename_i te hte;cases hb:(Nat.ble te.size 16777216&&(!(Nat.beq te.size 0)&&x.cells.all oneA)) with
     | false=>rw [hb] at h; cases h
     | true =>
      rw [hb,cond_true] at h
      split at h
      ·rename_i ps H1 cs1 hab;cases hl:Nat.beq ps.length te.size with
       | false=>rw [hl] at h; cases h
       | true =>
        rw [hl] at h;simp only [cond_true,Option.some.injEq,Prod.mk.injEq] at h; obtain ⟨rfl,rfl⟩:=h;simp only [hti,hk,hte,hb,cond_true,absorbLP_ok hab hp,hl]
      ·cases h
    ·cases h
   ·cases h
  ·cases h
 ·cases h
theorem hPure_ok{op:Op}{hh:Hint}{r:AV×Hp}{cs:List Prop}(h:hPure C nid ρ H op hh=some (r,cs))(hp:AllP cs):Ql C nid ρ H op=some r:=by
 unfold hPure at h
 split at h
 ·-- indexAddr, idx
  split at h
  ·rename_i t x i k c ti n f sz es hti hn hx;obtain ⟨kd,hn⟩:=intOf_eq hn
   split at h
   ·rename_i e hk
    split at h
    ·rename_i te hte;cases hb:Nat.beq sz te.size with
     | false=>simp [hb] at h
     | true =>
      simp only [hb,cond_true,Option.some.injEq,Prod.mk.injEq] at h; obtain ⟨rfl,rfl⟩:=h;simp only [Ql,Qae,hti,hn,natOf_of hp.1,hk,hte,hx,hb,cond_true,hp.2.1,Option.map_some]
    ·cases h
   ·cases h
  ·cases h
 ·-- indexAddr, at
  split at h
  ·rename_i t x i k ti n o hti hn hx;obtain ⟨kd,hn⟩:=intOf_eq hn
   split at h
   ·rename_i e sz es hk ho
    split at h
    ·rename_i te hte;cases hb:Nat.beq sz te.size with
     | false=>simp [hb] at h
     | true =>
      simp only [hb,cond_true,Option.some.injEq,Prod.mk.injEq] at h; obtain ⟨rfl,rfl⟩:=h;simp only [Ql,Qae,hti,hn,natOf_of hp.1,hk,hte,hx,ho,hb,blt_of hp.2.1,Bool.and_self,cond_true,Option.map_some]
    ·cases h
   ·cases h
  ·rename_i t x i k ti n o off len hti hn hx;obtain ⟨kd,hn⟩:=intOf_eq hn
   split at h
   ·rename_i e sz es hk ho
    split at h
    ·rename_i te hte;cases hb:Nat.beq sz te.size with
     | false=>simp [hb] at h
     | true =>
      simp only [hb,cond_true,Option.some.injEq,Prod.mk.injEq] at h; obtain ⟨rfl,rfl⟩:=h;simp only [Ql,Qae,hti,hn,natOf_of hp.1,hk,hte,hx,ho,hb,blt_of hp.2.1,ble_of hp.2.2.1,Bool.and_self,cond_true,Option.map_some]
    ·cases h
   ·cases h
  ·rename_i t x i k ti n hti hn _ _;obtain ⟨kd,hn⟩:=intOf_eq hn
   split at h
   ·rename_i m e hk
    split at h
    ·rename_i te hte
     split at h
     ·rename_i o off hx;cases ha:alive H o with
      | false=>simp [ha] at h
      | true =>
       simp only [ha,cond_true,Option.some.injEq,Prod.mk.injEq] at h; obtain ⟨rfl,rfl⟩:=h;simp only [Ql,Qae,hti,hn,natOf_of hp.1,hk,hte,hx,ha,blt_of hp.2.1,cond_true,Option.map_some]
     ·rename_i c off hx;simp only [Option.some.injEq,Prod.mk.injEq] at h; obtain ⟨rfl,rfl⟩:=h;simp only [Ql,Qae,hti,hn,natOf_of hp.1,hk,hte,hx,blt_of hp.2.1,cond_true,Option.map_some]
     ·rename_i o j off hx;cases ha:alive H o with
      | false=>simp [ha] at h
      | true =>
       simp only [ha,cond_true,Option.some.injEq,Prod.mk.injEq] at h; obtain ⟨rfl,rfl⟩:=h;simp only [Ql,Qae,hti,hn,natOf_of hp.1,hk,hte,hx,ha,blt_of hp.2.1,cond_true,Option.map_some]
     ·cases h
    ·cases h
   ·cases h
  ·cases h
 ·-- buildSlice
  rename_i t n ps;cases hd:C.deep t with
  | false=>rw [hd] at h; cases h
  | true =>
   rw [hd,cond_true] at h;simp only [Ql,evBuildS,hd,cond_true,buildDP_ok h hp]
 ·-- load
  rename_i t p _ c
  split at h
  ·rename_i ti o i off hti hpx
   split at h
   ·rename_i fz sz es ho;cases hr:ti.k.row with
    | true =>
     simp only [hr,cond_true] at h;cases hb:Nat.ble (off+ti.size) c.length with
     | false=>simp [hb] at h
     | true =>
      simp only [hb,cond_true,Option.some.injEq,Prod.mk.injEq] at h; obtain ⟨rfl,rfl⟩:=h;simp only [Ql,evLoad,hti,hpx,ho,hp.1,hr,hb,cond_true,Option.map_some]
    | false =>
     simp only [hr,cond_false] at h
     split at h
     ·rename_i q hq;simp only [Option.some.injEq,Prod.mk.injEq] at h; obtain ⟨rfl,rfl⟩:=h;simp only [Ql,evLoad,hti,hpx,ho,hp.1,hr,cond_false,hq,Option.map_some]
     ·cases h
   ·cases h
  ·cases h
 ·-- store
  rename_i t p v _ c
  split at h
  ·rename_i ti o i off q H1 hti hpx hpl
   split at h
   ·rename_i sz es ho;cases hb:Nat.beq q.cells.length ti.size with
    | false=>simp [hb] at h
    | true =>
     simp only [hb,cond_true] at h
     split at h
     ·rename_i c' hc';simp only [Option.some.injEq,Prod.mk.injEq] at h; obtain ⟨rfl,rfl⟩:=h;simp only [Ql,evStore,hti,hpx,hpl,ho,hp.1,hb,cond_true,hc',Option.map_some]
     ·cases h
   ·cases h
  ·cases h
 ·-- index of an array
  split at h
  ·rename_i t x i k o1 o2 o3 v cs kd n hv hx hi;simp only [Option.some.injEq,Prod.mk.injEq] at h; obtain ⟨rfl,rfl⟩:=h;have hn:n=(k:Int):=hp.1;rw [hx] at hv;have e:evIndex C t (.pl (.agg cs)) (.pl (.int kd n))=evIndex C t (.pl (.agg cs)) (.pl (.int .i64 (k:Int))):=by rw [hn]; unfold evIndex; cases C.ty t<;>rfl
   simp only [Ql,hx,hi,e,hv,Option.map_some]
  ·cases h
 ·-- index of a string
  split at h
  ·rename_i t x i k b ti s n hti hx hn;obtain ⟨kd,hn⟩:=intOf_eq hn
   split at h
   ·rename_i hk;simp only [Option.some.injEq,Prod.mk.injEq] at h; obtain ⟨rfl,rfl⟩:=h;simp only [Ql,evIndex,hti,hx,hn,hk,natOf_of hp.1,hp.2.1,Option.map_some]
   ·cases h
  ·cases h
 ·-- slice
  rename_i t x lo hi a b
  split at h
  ·rename_i ti hti
   split at h
   ·rename_i m e hk
    split at h
    ·rename_i o i hx
     split at h
     ·rename_i te bt cs hte ho
      split at h
      ·rename_i ps hps;cases hb:(Nat.beq i 0&&Nat.beq te.size 1&&Nat.beq ps.length m&&Nat.ble m maxLen) with
       | false=>rw [hb] at h; cases h
       | true =>
        rw [hb,cond_true] at h
        split at h
        ·rename_i cs1 hc1
         split at h
         ·rename_i cs2 hc2;simp only [Option.some.injEq,Prod.mk.injEq] at h; obtain ⟨rfl,rfl⟩:=h;obtain ⟨hp1,rh,h1,h2,h3,h4⟩:=Qcg hc2 hp;obtain ⟨hp2,rl,k1,k2,_,_⟩:=Qcg hc1 hp1;simp only [Ql,isBp,cond_true,evSliceA,hx,Option.map_none,hti,k1,h1,ho,hk,hte,hps,hb,k2,h2,ble_of hp2.1,ble_of hp2.2.1,Bool.true_and,Bool.and_self];cases hi with
          | none=>rw [h3 rfl]
          | some q=>rw [h4 (by simp)]
         ·cases h
        ·cases h
      ·cases h
     ·cases h
    ·cases h
   ·rename_i hk
    split at h
    ·rename_i s hx
     split at h
     ·rename_i cs1 hc1
      split at h
      ·rename_i cs2 hc2;simp only [Option.some.injEq,Prod.mk.injEq] at h; obtain ⟨rfl,rfl⟩:=h;obtain ⟨hp1,rh,h1,h2,_,_⟩:=Qcg hc2 hp;obtain ⟨hp2,rl,k1,k2,_,_⟩:=Qcg hc1 hp1;simp only [Ql,isBp,cond_false,evSlice,hti,k1,h1,Option.map_none,optNat_none,hk,hx,k2,h2,ble_of hp2.1,ble_of hp2.2.1,Bool.and_self,cond_true,Option.map_some]
      ·cases h
     ·cases h
    ·cases h
   ·rename_i e hk
    split at h
    ·rename_i te hte
     split at h
     ·rename_i sz es hx;cases hb:Nat.beq sz te.size with
      | false=>simp [hb] at h
      | true =>
       simp only [hb,cond_true] at h
       split at h
       ·rename_i cs1 hc1
        split at h
        ·rename_i cs2 hc2;simp only [Option.some.injEq,Prod.mk.injEq] at h; obtain ⟨rfl,rfl⟩:=h;obtain ⟨hp1,rh,h1,h2,h3,h4⟩:=Qcg hc2 hp;obtain ⟨hp2,rl,k1,k2,_,_⟩:=Qcg hc1 hp1;simp only [Ql,isBp,cond_false,evSlice,hti,k1,h1,Option.map_none,optNat_none,hk,hte,hx,hb,k2,h2,ble_of hp2.1,ble_of hp2.2.1,Bool.not_true,cond_false,Bool.and_self,cond_true,Option.map_some];cases hi with
         | none=>rw [h3 rfl]
         | some q=>rw [h4 (by simp)]
        ·cases h
       ·cases h
     ·rename_i o hx
      split at h
      ·rename_i fz sz es ho;cases hb:Nat.beq sz te.size with
       | false=>simp [hb] at h
       | true =>
        simp only [hb,cond_true] at h
        split at h
        ·rename_i cs1 hc1
         split at h
         ·rename_i cs2 hc2;simp only [Option.some.injEq,Prod.mk.injEq] at h; obtain ⟨rfl,rfl⟩:=h;obtain ⟨hp1,rh,h1,h2,h3,h4⟩:=Qcg hc2 hp;obtain ⟨hp2,rl,k1,k2,_,_⟩:=Qcg hc1 hp1;simp only [Ql,isBp,cond_false,evSlice,hti,k1,h1,Option.map_none,optNat_none,hk,hte,hx,ho,hb,vwOf,k2,h2,ble_of hp2.1,ble_of hp2.2.1,Bool.and_self,cond_true,Option.map_some,Nat.zero_add]
         ·cases h
        ·cases h
      ·cases h
     ·rename_i o off len hx
      split at h
      ·rename_i fz sz es ho;cases hb:Nat.beq sz te.size with
       | false=>simp [hb] at h
       | true =>
        simp only [hb,cond_true] at h
        split at h
        ·rename_i cs1 hc1
         split at h
         ·rename_i cs2 hc2;simp only [Option.some.injEq,Prod.mk.injEq] at h; obtain ⟨rfl,rfl⟩:=h;obtain ⟨hp1,rh,h1,h2,h3,h4⟩:=Qcg hc2 hp;obtain ⟨hp2,rl,k1,k2,_,_⟩:=Qcg hc1 hp1;have e1:Nat.ble off es.length=true:=ble_of (by have:=hp2.2.1; omega);have e2:Nat.ble b (es.length-off)=true:=ble_of (by have:=hp2.2.1; omega);simp only [Ql,isBp,cond_false,evSlice,hti,k1,h1,Option.map_none,optNat_none,hk,hte,hx,ho,hb,vwOf,k2,h2,ble_of hp2.1,e1,e2,Bool.and_self,cond_true,Option.map_some]
         ·cases h
        ·cases h
      ·cases h
     ·cases h
    ·cases h
   ·cases h
  ·cases h
 ·-- append of values
  rename_i c
  split at h
  ·rename_i t t1 x y hcal hts has
   split at h
   ·rename_i o2 sz2 news hd;cases hi:isDrow H (ρ x) with
    | true =>
     rw [hi,cond_true] at h;have:Qbv C nid H t t1 (ρ x) (ρ y)=some r:=by
      unfold Qbv;simp only [hd,hi,cond_true];exact appDP_ok h hp
     simp only [Ql,hcal,hts,has,List.map_cons,List.map_nil,Qax,this]
    | false =>
     rw [hi,cond_false] at h;have:Qbv C nid H t t1 (ρ x) (ρ y)=some r:=by
      unfold Qbv;simp only [hd,hi,cond_false];exact (appF_ok h hp).1
     simp only [Ql,hcal,hts,has,List.map_cons,List.map_nil,Qax,this]
   ·rename_i hd;have:Qbv C nid H t t1 (ρ x) (ρ y)=some r:=by
     unfold Qbv;simp only [hd];exact (appF_ok h hp).1
    simp only [Ql,hcal,hts,has,List.map_cons,List.map_nil,Qax,this]
  ·cases h
 ·-- append of a list
  rename_i c b
  split at h
  ·rename_i t t1 x y hcal hts has
   split at h
   ·rename_i ti news hti hs
    split at h
    ·rename_i e hk
     split at h
     ·rename_i te hte;cases hz:Nat.beq te.size 0 with
      | true=>simp [hz] at h
      | false =>
       simp only [hz,cond_false] at h;cases b with
       | true =>
        simp only [cond_true] at h;have hcs:AllP [news≠[],∀c∈news,c.length=te.size]:=by
         unfold appP at h
         split at h
         ·simp only [Option.some.injEq,Prod.mk.injEq] at h; obtain ⟨_,rfl⟩:=h; exact hp.2
         ·simp only [Option.some.injEq,Prod.mk.injEq] at h; obtain ⟨_,rfl⟩:=h; exact hp.2
         ·split at h
          ·rename_i sz es ho;cases hb:Nat.beq sz te.size with
           | false=>simp [hb] at h
           | true=>simp only [hb,cond_true,Option.some.injEq,Prod.mk.injEq] at h; obtain ⟨_,rfl⟩:=h; exact hp.2
          ·cases h
         ·split at h
          ·rename_i sz es ho;cases hb:Nat.beq sz te.size with
           | false=>simp [hb] at h
           | true=>simp only [hb,cond_true,Option.some.injEq,Prod.mk.injEq] at h; obtain ⟨_,rfl⟩:=h; exact hp.2.2
          ·cases h
         ·cases h
        have hg:(!(news.all fun c=>Nat.beq c.length te.size)||Nat.beq te.size 0)=false:=by rw [all_len hcs.2.1,hz]; rfl
        have:=app_ok h hp hti hk hte hs hg hcs.1;rw [←appS_src hs] at this;simp only [Ql,hcal,hts,has,List.map_cons,List.map_nil,Qax,this]
       | false =>
        simp only [cond_false] at h;have fin:∀r:AV×Hp,news=[]→(match ρ x with | .pl (.sl f sz es)=>some (AV.pl (.sl f sz es),H) | .own o=>(match hget H o with | some (.row _ _ _)=>some (.own o,H) | _=>none) | .vw o a n=>(match hget H o with | some (.row _ _ _)=>some (.vw o a n,H) | _=>none) | _=>none)=some r→Ql C nid ρ H (.call c)=some r:=fun r hn hr=>by
         subst hn;have:Qbo C nid H t t1 (ρ x) (ρ y)=some r:=by
          unfold Qbo;simp only [hti,hs,hk,hte,List.all_nil,Bool.not_true,Bool.false_or,hz,cond_false];exact hr
         rw [←appS_src hs] at this;simp only [Ql,hcal,hts,has,List.map_cons,List.map_nil,Qax,this]
        split at h
        ·rename_i f sz es hx;simp only [Option.some.injEq,Prod.mk.injEq] at h; obtain ⟨rfl,rfl⟩:=h;exact fin _ hp.1 (by simp only [hx])
        ·rename_i o hx
         split at h
         ·rename_i ho;simp only [Option.some.injEq,Prod.mk.injEq] at h; obtain ⟨rfl,rfl⟩:=h;exact fin _ hp.1 (by simp only [hx,ho])
         ·cases h
        ·rename_i o a n hx
         split at h
         ·rename_i ho;simp only [Option.some.injEq,Prod.mk.injEq] at h; obtain ⟨rfl,rfl⟩:=h;exact fin _ hp.1 (by simp only [hx,ho])
         ·cases h
        ·cases h
     ·cases h
    ·cases h
   ·cases h
  ·cases h
 ·-- clear
  rename_i c
  split at h
  ·rename_i t x hcal hts has
   split at h
   ·rename_i te o off len hte hx;cases hz:Nat.beq te.size 0 with
    | true=>simp [hz] at h
    | false =>
     simp only [hz,cond_false] at h
     split at h
     ·rename_i sz es ho;cases hb:Nat.beq sz te.size with
      | false=>simp [hb] at h
      | true =>
       simp only [hb,cond_true,Option.some.injEq,Prod.mk.injEq] at h; obtain ⟨rfl,rfl⟩:=h;have e1:Nat.ble (off+len) es.length=true:=by simpa using hp.1
       have:evClear C H t (ρ x)=some (.tup [],hset H o (some (.row false sz (rowPut es off (List.replicate len te.zero))))):=by
        unfold evClear;simp only [hte,hz,cond_false,hx,rowOf,ho,e1,hb,cond_true]
       simp only [Ql,hcal,hts,has,List.map_cons,List.map_nil,Qax,this]
     ·cases h
   ·cases h
  ·cases h
 ·-- division
  split at h
  ·rename_i t x y t' k a k' b hx hy;cases hb:kindEq k k' with
   | false=>simp [hb] at h
   | true =>
    simp only [hb,cond_true,Option.some.injEq,Prod.mk.injEq] at h; obtain ⟨rfl,rfl⟩:=h;have:decide (b=0)=false:=by simpa using hp.1
    simp only [Ql,evBin,hx,hy,hb,cond_true,binI,this,cond_false,Option.map_some]
  ·rename_i t x y t' k a k' b hx hy;cases hb:kindEq k k' with
   | false=>simp [hb] at h
   | true =>
    simp only [hb,cond_true,Option.some.injEq,Prod.mk.injEq] at h; obtain ⟨rfl,rfl⟩:=h;have:decide (b=0)=false:=by simpa using hp.1
    simp only [Ql,evBin,hx,hy,hb,cond_true,binI,this,cond_false,Option.map_some]
  ·cases h
 ·-- strings, shifts
  split at h
  ·rename_i t x y t' a b hx hy;simp only [Option.some.injEq,Prod.mk.injEq] at h; obtain ⟨rfl,rfl⟩:=h;simp only [Ql,evBin,hx,hy,binS,ble_of hp.1,cond_true,Option.map_some]
  ·rename_i t x y t' k a k' b hx hy;simp only [Option.some.injEq,Prod.mk.injEq] at h; obtain ⟨rfl,rfl⟩:=h;have:decide (b<0)=false:=by have:=hp.1; simp; omega
   simp only [Ql,evBin,hx,hy,shI,this,cond_false,Option.map_some]
  ·rename_i t x y t' k a k' b hx hy;simp only [Option.some.injEq,Prod.mk.injEq] at h; obtain ⟨rfl,rfl⟩:=h;have:decide (b<0)=false:=by have:=hp.1; simp; omega
   simp only [Ql,evBin,hx,hy,shI,this,cond_false,Option.map_some]
  ·cases h
 ·-- a slice held against nil, its flag known
  have key:∀(t:Nat)(f:Fl)(sz sz':Nat)(es es':List (List PV))(ti:TI)(e:Nat)(b:Bool),C.ty t=some ti→ti.k = .sl e→AllP (bif b then [f = .nil] else [f = .any,es≠[]])→evEq C H t (.pl (.sl f sz es)) (.pl (.sl .nil sz' es'))=some b:=by
   intro t f sz sz' es es' ti e b hti hk hq;cases b with
   | true =>
    have hf:f = .nil:=hq.1;subst hf;simp only [evEq,hti,hk]
   | false =>
    have hf:f = .any:=hq.1;subst hf;cases es with
    | nil=>exact absurd rfl hq.2.1
    | cons a l=>simp only [evEq,hti,hk]
  split at h
  ·rename_i t x y t' b f sz es sz' es' hx hy
   split at h
   ·rename_i ti hti
    split at h
    ·rename_i e hk;simp only [Option.some.injEq,Prod.mk.injEq] at h; obtain ⟨rfl,rfl⟩:=h;simp only [Ql,evBin,hx,hy,key _ _ _ _ _ _ _ _ _ hti hk hp,Option.map_some]
    ·cases h
   ·cases h
  ·rename_i t x y t' b f sz es sz' es' hx hy
   split at h
   ·rename_i ti hti
    split at h
    ·rename_i e hk;simp only [Option.some.injEq,Prod.mk.injEq] at h; obtain ⟨rfl,rfl⟩:=h;simp only [Ql,evBin,hx,hy,key _ _ _ _ _ _ _ _ _ hti hk hp,Option.map_some]
    ·cases h
   ·cases h
  ·cases h
 ·-- equality
  split at h
  ·rename_i t x y t' b p q hx hy
   split at h
   ·rename_i ti hti
    split at h
    ·rename_i fs hk;simp only [Option.some.injEq,Prod.mk.injEq] at h; obtain ⟨rfl,rfl⟩:=h;have h1:=hp.1;simp only [Ql,evBin,hx,hy,evEq,hti,hk,h1,Option.map_some]
    ·cases h
   ·cases h
  ·rename_i t x y t' b p q hx hy
   split at h
   ·rename_i ti hti
    split at h
    ·rename_i fs hk;simp only [Option.some.injEq,Prod.mk.injEq] at h; obtain ⟨rfl,rfl⟩:=h;have h1:=hp.1;simp only [Ql,evBin,hx,hy,evEq,hti,hk,h1,Option.map_some]
    ·cases h
   ·cases h
  ·rename_i t x y t' b o sz es' hx hy
   split at h
   ·rename_i ti fz sz2 es hti ho
    split at h
    ·rename_i e hk;simp only [Option.some.injEq,Prod.mk.injEq] at h; obtain ⟨rfl,rfl⟩:=h;cases es with
     | nil=>exact absurd rfl hp.1
     | cons a l=>simp only [Ql,evBin,hx,hy,evEq,hti,hk,ho,Option.map_some]
    ·cases h
   ·cases h
  ·rename_i t x y t' b o sz es' hx hy
   split at h
   ·rename_i ti fz sz2 es hti ho
    split at h
    ·rename_i e hk;simp only [Option.some.injEq,Prod.mk.injEq] at h; obtain ⟨rfl,rfl⟩:=h;cases es with
     | nil=>exact absurd rfl hp.1
     | cons a l=>simp only [Ql,evBin,hx,hy,evEq,hti,hk,ho,Option.map_some,Bool.not_false]
    ·cases h
   ·cases h
  ·cases h
 ·-- pick
  split at h
  ·rename_i c a b d t hc;simp only [Option.some.injEq,Prod.mk.injEq] at h; obtain ⟨rfl,rfl⟩:=h;have h1:=hp.1;simp only [Ql,hc,h1]
  ·cases h
 ·-- makeSlice
  rename_i t l c k
  split at h
  ·rename_i ti kd n kd' m hti hl hc
   split at h
   ·rename_i e hk
    split at h
    ·rename_i te hte;cases hz:Nat.beq te.size 0 with
     | true=>simp [hz] at h
     | false =>
      simp only [hz,cond_false,Option.some.injEq,Prod.mk.injEq] at h; obtain ⟨rfl,rfl⟩:=h;have hm:decide (m=(k:Int))=true:=by simpa using hp.2.1
      simp only [Ql,hti,hl,hc,hk,natOf_of hp.1,hte,hm,hp.2.2.1,hz,Bool.not_false,Bool.and_self,cond_true]
    ·cases h
   ·cases h
  ·cases h
 ·-- convert
  split at h
  ·rename_i s d x l ts td f sz es hs hd hx
   split at h
   ·rename_i e hk1 hk2
    split at h
    ·rename_i te hte
     split at h
     ·rename_i hk3;cases hb:Nat.beq sz 1 with
      | false=>simp [hb] at h
      | true =>
       simp only [hb,cond_true,Option.some.injEq,Prod.mk.injEq] at h; obtain ⟨rfl,rfl⟩:=h;have h1:=hp.1;simp only [Ql,evConv,hs,hd,hx,hk1,hk2,hte,hk3,h1,hb,cond_true,Option.map_some]
     ·cases h
    ·cases h
   ·cases h
  ·cases h
 ·-- convert to bytes
  split at h
  ·rename_i s d x ts td b hs hd hx
   split at h
   ·rename_i e hk1
    split at h
    ·rename_i te hte
     split at h
     ·rename_i hk3;cases hb:Nat.beq te.size 1 with
      | false=>simp [hb] at h
      | true =>
       simp only [hb,cond_true,Option.some.injEq,Prod.mk.injEq] at h; obtain ⟨rfl,rfl⟩:=h;have h1:=ble_of hp.1;simp only [Ql,evConv,viewP,hs,hd,hx,hk1,hte,hk3,h1,hb,Bool.and_self,cond_true,Option.map_some]
     ·cases h
    ·cases h
   ·cases h
  ·cases h
 ·-- entry
  split at h
  ·rename_i it j k v i hit
   split at h
   ·rename_i o n seen hi
    split at h
    ·rename_i kvs ho;simp only [Option.some.injEq,Prod.mk.injEq] at h; obtain ⟨rfl,rfl⟩:=h;have h1:=hp.1;have h2:=hp.2.1;have h3:=hp.2.2.1;have h4:Nat.beq kvs.length n=true:=by rw [h2]; simp
     simp only [Ql,evEntry,hit,hi,ho,h1,h3,h4,cond_true,Option.map_some]
    ·cases h
   ·cases h
  ·cases h
 ·-- mapUpdate
  split at h
  ·rename_i t x k v kvs' kt e o kp vp H1 hmt hx hk hv
   split at h
   ·rename_i kvs ho;simp only [Option.some.injEq,Prod.mk.injEq] at h; obtain ⟨rfl,rfl⟩:=h;simp only [Ql,Qbr,hmt,hx,hk,hv,ho,hp.1,Option.map_some]
   ·cases h
  ·cases h
 ·-- insert
  split at h
  ·rename_i t x k v kvs' kt e o kp vp H1 hmt hx hk hv
   split at h
   ·rename_i kvs ho;simp only [Option.some.injEq,Prod.mk.injEq] at h; obtain ⟨rfl,rfl⟩:=h;simp only [Ql,Qbr,hmt,hx,hk,hv,ho,hp.1,Option.map_some]
   ·cases h
  ·cases h
 ·-- mapEntry
  split at h
  ·rename_i t x k v i kvs' kt e o kp hmt hx hk
   split at h
   ·rename_i kvs ho;simp only [Option.some.injEq,Prod.mk.injEq] at h; obtain ⟨rfl,rfl⟩:=h;simp only [Ql,Qbb,hmt,hx,hk,ho,hp.1]
   ·cases h
  ·cases h
 ·-- entryStore
  split at h
  ·rename_i t x s v i kp u o kd n vp H1 hx hs hv
   split at h
   ·rename_i kvs ho;simp only [Option.some.injEq,Prod.mk.injEq] at h; obtain ⟨rfl,rfl⟩:=h;simp only [Ql,Qcb,hx,hs,hv,ho,natOf_of hp.1,hp.2.1,Option.map_some]
   ·cases h
  ·cases h
 ·-- lookup, told whole
  split at h
  ·rename_i t x k ok v b kt e kp kvs hmt hk hm;simp only [Option.some.injEq,Prod.mk.injEq] at h; obtain ⟨rfl,rfl⟩:=h;have hl:=hp.1;unfold look at hl;cases hkv:keyV C.ty kt kp with
   | false=>simp [hkv] at hl
   | true =>
    simp only [hkv,cond_true] at hl;simp only [Ql,Qcp,hmt,hk,hm,hkv,cond_true]
    split at hl
    ·rename_i i v' hf;simp only [Option.some.injEq,Prod.mk.injEq] at hl; obtain ⟨rfl,rfl⟩:=hl;simp only [hf,Option.map_some]
    ·rename_i hf
     split at hl
     ·rename_i z hz;simp only [Option.some.injEq,Prod.mk.injEq] at hl; obtain ⟨rfl,rfl⟩:=hl;simp only [hf,hz,Option.map_some]
     ·cases hl
    ·cases hl
  ·cases h
 ·-- lookup
  split at h
  ·rename_i t x k ok r kt e kp kvs hmt hk hm;cases hkv:keyV C.ty kt kp with
   | false=>simp [hkv] at h
   | true =>
    simp only [hkv,cond_true] at h
    split at h
    ·rename_i i v;simp only [Option.some.injEq,Prod.mk.injEq] at h; obtain ⟨rfl,rfl⟩:=h;simp only [Ql,Qcp,hmt,hk,hm,hkv,cond_true,hp.1,Option.map_some]
    ·split at h
     ·rename_i z hz;simp only [Option.some.injEq,Prod.mk.injEq] at h; obtain ⟨rfl,rfl⟩:=h;simp only [Ql,Qcp,hmt,hk,hm,hkv,cond_true,hp.1,hz,Option.map_some]
     ·cases h
  ·cases h
 ·-- copy
  rename_i c k
  split at h
  ·rename_i t t1 x y hcal hts has
   split at h
   ·rename_i src te o off len hs he hx
    split at h
    ·rename_i sz es ho;cases hb:Nat.beq sz te.size&&!(Nat.beq te.size 0) with
     | false=>simp [hb] at h
     | true =>
      simp only [hb,cond_true,Option.some.injEq,Prod.mk.injEq] at h; obtain ⟨rfl,rfl⟩:=h;simp only [Bool.and_eq_true,Bool.not_eq_true'] at hb;have hg:(!(src.all fun c=>Nat.beq c.length te.size)||Nat.beq te.size 0)=false:=by rw [all_len hp.2.2.1,hb.2]; rfl
      have:evCopy C H t t1 (ρ x) (ρ y)=some (.pl (.int .i64 (k:Int)),hset H o (some (.row false sz (rowPut es off (src.take k))))):=by
       unfold evCopy;simp only [hs,he,hg,cond_false,hx,rowOf,ho,ble_of hp.2.1,cond_true,hb.1];rw [hp.1]
      simp only [Ql,hcal,hts,has,List.map_cons,List.map_nil,Qax,this]
    ·cases h
   ·rename_i src te o hs he hx
    split at h
    ·rename_i sz es ho;cases hb:Nat.beq sz te.size&&!(Nat.beq te.size 0) with
     | false=>simp [hb] at h
     | true =>
      simp only [hb,cond_true,Option.some.injEq,Prod.mk.injEq] at h; obtain ⟨rfl,rfl⟩:=h;simp only [Bool.and_eq_true,Bool.not_eq_true'] at hb;have hg:(!(src.all fun c=>Nat.beq c.length te.size)||Nat.beq te.size 0)=false:=by rw [all_len hp.2.1,hb.2]; rfl
      have:evCopy C H t t1 (ρ x) (ρ y)=some (.pl (.int .i64 (k:Int)),hset H o (some (.row false sz (rowPut es 0 (src.take k))))):=by
       unfold evCopy;simp only [hs,he,hg,cond_false,hx,rowOf,ho,cond_true,hb.1];rw [hp.1]
      simp only [Ql,hcal,hts,has,List.map_cons,List.map_nil,Qax,this]
    ·cases h
   ·cases h
  ·cases h
 ·-- load out of plain cells of a variable
  rename_i t p k q
  split at h
  ·rename_i ti o off hti hpx
   split at h
   ·rename_i bt cs es ho;cases hr:ti.k.row with
    | true=>simp [hr] at h
    | false =>
     simp only [hr,cond_false,Option.some.injEq,Prod.mk.injEq] at h; obtain ⟨rfl,rfl⟩:=h;have h1:=hp.1;have hb:Nat.blt off cs.length=false:=by
      cases hx:Nat.blt off cs.length with
      | false=>rfl
      | true=>rw [Nat.blt_eq] at hx; omega
     have h2:es[off-cs.length]?=some q:=by rw [h1,Nat.add_sub_cancel_left]; exact hp.2.1
     simp only [Ql,evLoad,hti,hpx,ho,hr,cond_false,hb,h2,Option.map_some]
   ·cases h
  ·cases h
 ·-- store into them
  rename_i t p v k
  split at h
  ·rename_i ti o off q hti hpx hv
   split at h
   ·rename_i bt cs es ho;cases hb:(Nat.beq ti.size 1&&oneA (.pl q)) with
    | false=>simp [hb] at h
    | true =>
     simp only [hb,cond_true,Option.some.injEq,Prod.mk.injEq] at h; obtain ⟨rfl,rfl⟩:=h;have h1:=hp.1;have hb2:Nat.blt off cs.length=false:=by
      cases hx:Nat.blt off cs.length with
      | false=>rfl
      | true=>rw [Nat.blt_eq] at hx; omega
     have h3:off-cs.length=k:=by omega
     have h2:=blt_of hp.2.1;simp only [Ql,evStore,putB,hti,hpx,hv,ho,hb,cond_true,hb2,cond_false,h3,h2,Option.map_some]
   ·cases h
  ·cases h
 ·-- append of a part
  rename_i c b news
  split at h
  ·rename_i t t1 x y hcal hts has;cases hsT:srcTy C t1 (ρ y) with
   | false=>simp [hsT] at h
   | true =>
    simp only [hsT,cond_true] at h
    split at h
    ·rename_i r0 cs0 h0;simp only [Option.some.injEq,Prod.mk.injEq] at h; obtain ⟨rfl,rfl⟩:=h;have:=appH_ok (t1:=t1) (y:=ρ y) h0 hp.2 (by rw [hsT,cond_true]; exact hp.1);rw [←appS_src (by rw [hsT,cond_true]; exact hp.1)] at this;simp only [Ql,hcal,hts,has,List.map_cons,List.map_nil,Qax,this]
    ·cases h
  ·cases h
 ·cases h
end
end Go.Proofs.Ytbgjlpdeoljmiaa
namespace Go.Proofs.Ytbgjlpdeoljmiaa
set_option linter.unusedSimpArgs false
set_option linter.unusedVariables false
open Go.RowKit
def plain1P(H:Hp):AV→Option (PV×Hp×List Prop)
 | .vw o off len=>match hget H o with | some (.row _ sz es)=>some (.sl .any sz ((es.drop off).take len),hset H o (some (.row true sz es)),[off+len≤es.length]) | _=>none
 | v=>(plain1 H v).map fun r=>(r.1,r.2,[])
def isVw:AV→Bool
 | .vw _ _ _=>true
 | _=>false
def plainsP(H:Hp):List AV→Option (List PV×Hp×List Prop)
 | []=>some ([],H,[])
 | .agg c::r=>match plain H (.agg c) with
  | some (p,H1)=>(match plainsP H1 r with
   | some (ps,H2,cs2)=>some (p::ps,H2,cs2)
   | none=>none)
  | none=>none
 | v::r=>match plain1P H v with
  | some (p,H1,cs)=>(match plainsP H1 r with
   | some (ps,H2,cs2)=>some (p::ps,H2,cs++cs2)
   | none=>none)
  | none=>none
theorem plain1P_ok{H H1:Hp}{v:AV}{p:PV}{cs:List Prop}(h:plain1P H v=some (p,H1,cs))(hp:AllP cs):plain1 H v=some (p,H1):=by
 unfold plain1P at h
 split at h
 ·rename_i o off len
  split at h
  ·rename_i z sz es ho;simp only [Option.some.injEq,Prod.mk.injEq] at h; obtain ⟨rfl,rfl,rfl⟩:=h;simp only [plain1,ho];rw [show Nat.ble (off+len) es.length=true from by rw [Nat.ble_eq]; exact hp.1]; rfl
  ·cases h
 ·obtain ⟨r,h1,h2⟩:=Option.map_eq_some_iff.1 h;simp only [Prod.mk.injEq] at h2; obtain ⟨rfl,rfl,_⟩:=h2;exact h1
theorem plainsP_ok:∀{l:List AV} {H H1:Hp} {ps:List PV} {cs:List Prop},plainsP H l=some (ps,H1,cs)→AllP cs→plains H l=some (ps,H1)
 | [],H,H1,ps,cs,h,_=>by
  simp only [plainsP,Option.some.injEq,Prod.mk.injEq] at h; obtain ⟨rfl,rfl,_⟩:=h; rfl
 | v::r,H,H1,ps,cs,h,hp=>by
  have one:∀{H2:Hp} {p:PV} {c1:List Prop},plain1P H v=some (p,H2,c1)→AllP c1→(∀c,v≠.agg c)→plain H v=some (p,H2):=fun {H2 p c1} h1 hp1 hne=>by
   have:=plain1P_ok h1 hp1;cases v<;>first | exact this | exact absurd rfl (hne _)
  unfold plainsP at h
  split at h
  ·rename_i e; cases e
  ·rename_i c r' e;cases e
   split at h
   ·rename_i p H2 h1
    split at h
    ·rename_i ps2 H3 c2 h2;simp only [Option.some.injEq,Prod.mk.injEq] at h; obtain ⟨rfl,rfl,rfl⟩:=h;simp only [plains,h1,plainsP_ok h2 hp]
    ·cases h
   ·cases h
  ·rename_i v' r' hne e;cases e
   split at h
   ·rename_i p H2 c1 h1
    split at h
    ·rename_i ps2 H3 c2 h2;simp only [Option.some.injEq,Prod.mk.injEq] at h; obtain ⟨rfl,rfl,rfl⟩:=h;rw [Qy] at hp;simp only [plains,one h1 hp.1 (fun c ec=>hne c ec),plainsP_ok h2 hp.2]
    ·cases h
   ·cases h
def plainsQ(H:Hp)(l:List AV):Option (List PV×Hp×List Prop):=bif l.any isVw then plainsP H l else (plains H l).map fun r=>(r.1,r.2,[])
theorem plainsQ_ok{l:List AV}{H H1:Hp}{ps:List PV}{cs:List Prop}(h:plainsQ H l=some (ps,H1,cs))(hp:AllP cs):plains H l=some (ps,H1):=by
 unfold plainsQ at h;cases hv:l.any isVw with
 | true=>rw [hv] at h; exact plainsP_ok h hp
 | false =>
  rw [hv] at h;obtain ⟨r,h1,h2⟩:=Option.map_eq_some_iff.1 h;simp only [Prod.mk.injEq] at h2; obtain ⟨rfl,rfl,_⟩:=h2;exact h1
theorem plainsQ_none{l:List AV}{H:Hp}(h:plainsQ H l=none)(hv:l.any isVw=false):plains H l=none:=by
 unfold plainsQ at h;rw [hv] at h;simpa using h
def plsQ(H:Hp)(l:List AV):Option (List PV×Hp×List Prop):=plainsQ (melt H (l.flatMap refC)) l
theorem plsQ_ok{l:List AV}{H H1:Hp}{ps:List PV}{cs:List Prop}(h:plsQ H l=some (ps,H1,cs))(hp:AllP cs):pls H l=some (ps,H1):=plainsQ_ok h hp
theorem plsQ_none{l:List AV}{H:Hp}(h:plsQ H l=none)(hv:l.any isVw=false):pls H l=none:=plainsQ_none h hv
def hOp(C:Cfg)(nid:Nat)(ρ:Operand→AV)(H:Hp)(op:Op)(h:Option Hint):Option ((AV×Hp)×List Prop×List Ent) :=
 match op,h with
 | .call c,some (.call v H2)=>match c.callee with
  | .value f =>
   let go (k:Nat) (args:List AV):Option ((AV×Hp)×List Prop×List Ent) :=
    bif C.byref k then
     bif inF (Qal H 100000 0 (Qag args)) H.length (refD v)&&Qbu (Qal H 100000 0 (Qag args)) H.length H2&&Nat.ble H.length H2.length then
      some ((v,Qay (Qal H 100000 0 (Qag args)) 0 H H2),[],[⟨true,k,args,maskH (Qal H 100000 0 (Qag args)) 0 H,v,H2⟩]) else none
    else match plsQ H args with
     | some (ps,H1,cp)=>some ((v,bif flatA v then H else H1),cp,[⟨false,k,ps.map .pl,[],v,[]⟩])
     | none=>bif args.any isVw then none else bif inF (Qal H 100000 0 (Qag args)) H.length (refD v)&&Qbu (Qal H 100000 0 (Qag args)) H.length H2&&Nat.ble H.length H2.length then
      some ((v,Qay (Qal H 100000 0 (Qag args)) 0 H H2),[],[⟨true,k,args,maskH (Qal H 100000 0 (Qag args)) 0 H,v,H2⟩]) else none
   match ρ f with
   | .pl (.fn k)=>go k (c.args.toList.map ρ)
   | .clo k cs=>go k (c.args.toList.map ρ++cs)
   | _=>none
  | _=>none
 | .call c,none=>match c.callee with
  | .value _=>none
  | _=>(Ql C nid ρ H op).map fun r=>(r,[],[])
 | .next _ _,_=>none
 | op,none=>(Ql C nid ρ H op).map fun r=>(r,[],[])
 | op,some h=>(hPure C nid ρ H op h).map fun r=>(r.1,r.2,[])
section
variable {P:Program} {C:Cfg} {w w':World} {X:Nat→Prop} {φ φ':Phi} {H H':Hp} {nid n base:Nat} {s:Tr} {a:Act} {D:List Deferred} {ops:List Oper}
open Classical in
noncomputable def callE(es:List Ent)(br:Bool)(k:Nat)(args:List AV)(H:Hp):Outs (AV×Hp) :=
 match es.find? (fun e=>decide (e.br=br∧e.k=k∧e.args=args∧e.H=H)) with
 | some e=>some [(e.v,e.H')]
 | none=>none
theorem callE_ok{es:List Ent}(h:∀e∈es,e.ok P):CallOK P (callE es):=by
 intro br k args H outs ho;unfold callE at ho
 split at ho
 ·rename_i e he;simp only [Option.some.injEq] at ho; subst ho;obtain ⟨h1,h2⟩:=And.intro (List.mem_of_find?_eq_some he) (List.find?_some he);simp only [decide_eq_true_eq] at h2;obtain ⟨rfl,rfl,rfl,rfl⟩:=h2;obtain ⟨k1,k2,k3⟩:=h e h1;exact ⟨k1,fun hb r hr=>by rw [List.mem_singleton.1 hr]; exact k2 hb,k3⟩
 ·cases ho
theorem callE_at{es:List Ent}(hs:∀a∈es,∀b∈es,a.k=b.k→a.same b){e:Ent}(he:e∈es):callE es e.br e.k e.args e.H=some [(e.v,e.H')]:=by
 unfold callE
 split
 ·rename_i f hf;have h1:=List.mem_of_find?_eq_some hf;have h2:=List.find?_some hf;simp only [decide_eq_true_eq] at h2;obtain ⟨b1,b2,b3,b4⟩:=h2;obtain ⟨h3,h4⟩:=hs f h1 e he b2 b1 b3 b4;rw [h3,h4]
 ·rename_i hf;have:=List.find?_eq_none.1 hf e he;simp at this
theorem hOp_ok(hx:∀k,C.ext k=none){ρ:Operand→AV}{op:Op}{h:Option Hint}{r:AV×Hp}{cs:List Prop}{es:List Ent}{call:Bool→Nat→List AV→Hp→Outs (AV×Hp)}(ho:hOp C nid ρ H op h=some (r,cs,es))(hp:AllP cs)
  (hc:∀e∈es,call e.br e.k e.args e.H=some [(e.v,e.H')]):evOp C call nid ρ H op=some [r]:=by
 have pure:∀{op:Op},isVal op=false→Ql C nid ρ H op=some r→evOp C call nid ρ H op=some [r]:=fun {op} hv he=>by
  unfold evOp;cases op with
  | call c =>
   obtain ⟨callee,args,ts⟩:=c;cases callee<;>first | (simp [isVal] at hv; done) | (simp only [he])
  | next _ _=>simp [isVal] at hv
  | _=>simp only [he]
 unfold hOp at ho
 split at ho
 ·rename_i c v H2
  split at ho
  ·rename_i f hcal;have inv:∀(k:Nat)(args:List AV)(F:Nat),F=Qal H 100000 0 (Qag args)→(C.byref k=true∨C.byref k=false∧pls H args=none)→(inF F H.length (refD v)&&Qbu F H.length H2&&Nat.ble H.length H2.length)=true→call true k args (maskH F 0 H)=some [(v,H2)] →
     Qcl C call k args H=some [(v,Qay F 0 H H2)]:=by
    intro k args F hF hk hb hcall;have hs:evShared call k args H F=some [(v,Qay F 0 H H2)]:=by
     unfold evShared;simp only [hcall,List.all_cons,List.all_nil,Bool.and_true,hb,cond_true,List.map_cons,List.map_nil]
    unfold Qcl;rw [hx k];simp only;rcases hk with hk | ⟨hk,hpl⟩
    ·simp only [hk,cond_true,←hF,hs]
    ·simp only [hk,cond_false,hpl,←hF,hs]
   have go:∀(k:Nat)(args:List AV),(bif C.byref k then
     bif inF (Qal H 100000 0 (Qag args)) H.length (refD v)&&Qbu (Qal H 100000 0 (Qag args)) H.length H2&&Nat.ble H.length H2.length then
      some ((v,Qay (Qal H 100000 0 (Qag args)) 0 H H2),([]:List Prop),[(⟨true,k,args,maskH (Qal H 100000 0 (Qag args)) 0 H,v,H2⟩:Ent)]) else none
    else match plsQ H args with
     | some (ps,H1,cp)=>some ((v,bif flatA v then H else H1),cp,[⟨false,k,ps.map .pl,[],v,[]⟩])
     | none=>bif args.any isVw then none else bif inF (Qal H 100000 0 (Qag args)) H.length (refD v)&&Qbu (Qal H 100000 0 (Qag args)) H.length H2&&Nat.ble H.length H2.length then
      some ((v,Qay (Qal H 100000 0 (Qag args)) 0 H H2),[],[⟨true,k,args,maskH (Qal H 100000 0 (Qag args)) 0 H,v,H2⟩]) else none)=some (r,cs,es)→Qcl C call k args H=some [r]:=by
    intro k args hg;cases hb:C.byref k with
    | true =>
     simp only [hb,cond_true] at hg;cases hf:(inF (Qal H 100000 0 (Qag args)) H.length (refD v)&&Qbu (Qal H 100000 0 (Qag args)) H.length H2&&Nat.ble H.length H2.length) with
     | false=>simp [hf] at hg
     | true =>
      simp only [hf,cond_true,Option.some.injEq,Prod.mk.injEq] at hg; obtain ⟨rfl,rfl,rfl⟩:=hg;exact inv k args _ rfl (.inl hb) hf (hc _ (List.mem_singleton.2 rfl))
    | false =>
     simp only [hb,cond_false] at hg
     split at hg
     ·rename_i ps H1 cp hpq;simp only [Option.some.injEq,Prod.mk.injEq] at hg; obtain ⟨rfl,rfl,rfl⟩:=hg;have hpl:=plsQ_ok hpq hp;have:=hc _ (List.mem_singleton.2 rfl);unfold Qcl;rw [hx k];simp only [hb,cond_false,hpl];simp only at this;simp only [this,List.map_cons,List.map_nil]
     ·rename_i hpq;cases hvw:args.any isVw with
      | true=>rw [hvw] at hg; cases hg
      | false =>
      rw [hvw] at hg;simp only [cond_false] at hg;have hpl:=plsQ_none hpq hvw;cases hf:(inF (Qal H 100000 0 (Qag args)) H.length (refD v)&&Qbu (Qal H 100000 0 (Qag args)) H.length H2&&Nat.ble H.length H2.length) with
      | false=>simp [hf] at hg
      | true =>
       simp only [hf,cond_true,Option.some.injEq,Prod.mk.injEq] at hg; obtain ⟨rfl,rfl,rfl⟩:=hg;exact inv k args _ rfl (.inr ⟨hb,hpl⟩) hf (hc _ (List.mem_singleton.2 rfl))
   simp only at ho
   split at ho
   ·rename_i k hk;have:=go k _ ho;unfold evOp; simp only [hcal,hk,this]
   ·rename_i k cl hk;have:=go k _ ho;unfold evOp; simp only [hcal,hk,this]
   ·cases ho
  ·cases ho
 ·rename_i c
  split at ho
  ·cases ho
  ·rename_i hne;obtain ⟨r',h1,h2⟩:=Option.map_eq_some_iff.1 ho;simp only [Prod.mk.injEq] at h2; obtain ⟨rfl,rfl,rfl⟩:=h2;refine pure ?_ h1;obtain ⟨callee,args,ts⟩:=c;cases callee<;>first | rfl | (exact absurd rfl (hne _))
 ·cases ho
 ·rename_i hne1 hne2;obtain ⟨r',h1,h2⟩:=Option.map_eq_some_iff.1 ho;simp only [Prod.mk.injEq] at h2; obtain ⟨rfl,rfl,rfl⟩:=h2;refine pure ?_ h1;cases op<;>first | rfl | (exact (hne1 _ rfl).elim) | (exact (hne2 _ _ rfl).elim)
 ·rename_i hne1 hne2 hne3;obtain ⟨r',h1,h2⟩:=Option.map_eq_some_iff.1 ho;simp only [Prod.mk.injEq] at h2; obtain ⟨rfl,rfl,rfl⟩:=h2;have hpu:=hPure_ok h1 hp;cases op with
  | call c =>
   obtain ⟨callee,args,ts⟩:=c;cases callee with
   | value f=>simp [Ql] at hpu
   | _=>exact pure rfl hpu
  | next x b=>simp [Ql] at hpu
  | _=>exact pure rfl hpu

theorem flat_cv{α:Type}{c:α→List PV}(h:∀x,flatPL (c x)=true):∀xs:List α,(xs.map c).all flatPL=true
 | []=>rfl
 | x::xs=>by rw [List.map_cons,List.all_cons,h,flat_cv h xs]; rfl

inductive Cv where
 | val (v:AV)
 | row (o:Nat) (es:List (List PV))
 | map (o:Nat) (kvs:List (PV×PV))
 | arr (o:Nat) (es:List PV)
 | drw (o:Nat) (es:List (List PV))
def cvStep(r:AV×Hp):Cv→Option ((AV×Hp)×Prop)
 | .val v=>some ((v,r.2),r.1=v)
 | .row o es=>match hget r.2 o with | some (.row f sz es0)=>some ((r.1,hset r.2 o (some (.row f sz es))),es0=es) | _=>none
 | .map o kvs=>match hget r.2 o with | some (.map kvs0)=>some ((r.1,hset r.2 o (some (.map kvs))),kvs0=kvs) | _=>none
 | .drw o es=>match hget r.2 o with | some (.drow sz es0)=>some ((r.1,hset r.2 o (some (.drow sz es))),es0=es) | _=>none
 | .arr o es=>match hget r.2 o with | some (.abox t cs es0)=>some ((r.1,hset r.2 o (some (.abox t cs es))),es0=es) | _=>none
def cvSteps(i:Nat):List (Nat×Cv)→AV×Hp→Option ((AV×Hp)×List Prop)
 | [],r=>some (r,[])
 | (j,c)::l,r=>bif Nat.beq j i then (match cvStep r c with
   | some (r1,p)=>(match cvSteps i l r1 with | some (r2,ps)=>some (r2,p::ps) | none=>none)
   | none=>none) else cvSteps i l r
theorem hset_self{o:Nat}{x:Ob}(h:hget H o=some x):hset H o (some x)=H:=by
 unfold hget at h;unfold hset
 apply List.ext_getElem?
 intro i;rw [List.getElem?_set]
 split
 ·rename_i e; subst e
  split at h
  ·rename_i y hy;cases h;rw [hy]
   split
   ·rfl
   ·rename_i hn;rw [List.getElem?_eq_none (by omega)] at hy;cases hy
  ·cases h
 ·rfl
theorem cvStep_ok{r r':AV×Hp}{c:Cv}{p:Prop}(h:cvStep r c=some (r',p))(hp:p):r'=r:=by
 cases c with
 | val v=>simp only [cvStep,Option.some.injEq,Prod.mk.injEq] at h; obtain ⟨rfl,rfl⟩:=h; rw [←hp]
 | row o es =>
  simp only [cvStep] at h
  split at h
  ·rename_i f sz es0 ho;simp only [Option.some.injEq,Prod.mk.injEq] at h; obtain ⟨rfl,rfl⟩:=h;rw [←hp,hset_self ho]
  ·cases h
 | map o kvs =>
  simp only [cvStep] at h
  split at h
  ·rename_i kvs0 ho;simp only [Option.some.injEq,Prod.mk.injEq] at h; obtain ⟨rfl,rfl⟩:=h;rw [←hp,hset_self ho]
  ·cases h
 | drw o es =>
  simp only [cvStep] at h
  split at h
  ·rename_i sz es0 ho;simp only [Option.some.injEq,Prod.mk.injEq] at h; obtain ⟨rfl,rfl⟩:=h;rw [←hp,hset_self ho]
  ·cases h
 | arr o es =>
  simp only [cvStep] at h
  split at h
  ·rename_i t cs es0 ho;simp only [Option.some.injEq,Prod.mk.injEq] at h; obtain ⟨rfl,rfl⟩:=h;rw [←hp,hset_self ho]
  ·cases h
theorem cvSteps_ok{i:Nat} : ∀{l:List (Nat×Cv)} {r r':AV×Hp} {cs:List Prop},cvSteps i l r=some (r',cs)→AllP cs→r'=r
 | [],r,r',cs,h,_=>by simp only [cvSteps,Option.some.injEq,Prod.mk.injEq] at h; exact h.1.symm
 | (j,c)::l,r,r',cs,h,hp=>by
  simp only [cvSteps] at h;cases hb:Nat.beq j i with
  | false=>simp only [hb,cond_false] at h; exact cvSteps_ok h hp
  | true =>
   simp only [hb,cond_true] at h
   split at h
   ·rename_i r1 p h1
    split at h
    ·rename_i r2 ps h2;simp only [Option.some.injEq,Prod.mk.injEq] at h; obtain ⟨rfl,rfl⟩:=h;exact (cvSteps_ok h2 hp.2).trans (cvStep_ok h1 hp.1)
    ·cases h
   ·cases h
def hOpC(C:Cfg)(nid:Nat)(ρ:Operand→AV)(H:Hp)(op:Op)(h:Option Hint)(i:Nat)(l:List (Nat×Cv)):Option ((AV×Hp)×List Prop×List Ent) :=
 match hOp C nid ρ H op h with
 | some (r,cs,es)=>(match cvSteps i l r with | some (r',cs')=>some (r',cs++cs',es) | none=>none)
 | none=>none
theorem hOpC_at{ρ:Operand→AV}{op:Op}{h:Option Hint}{r:AV×Hp}{cs:List Prop}{es:List Ent}{i:Nat}{l:List (Nat×Cv)}(ho:hOpC C nid ρ H op h i l=some (r,cs,es))(hp:AllP cs):∃cs',hOp C nid ρ H op h=some (r,cs',es)∧AllP cs':=by
 unfold hOpC at ho
 split at ho
 ·rename_i r0 cs0 es0 h0
  split at ho
  ·rename_i r1 cs1 h1;simp only [Option.some.injEq,Prod.mk.injEq] at ho; obtain ⟨rfl,rfl,rfl⟩:=ho;rw [Qy] at hp;exact ⟨cs0,by rw [cvSteps_ok h1 hp.2]; exact h0,hp.1⟩
  ·cases ho
 ·cases ho

abbrev RH:=List (Nat×Bool)×List (Nat×Hint)×List (Nat×Cv)
def hWant(ops:List Oper)(s:Tr)(gs:List (Nat×Bool))(i:Nat):Option (Nat×Bool)→Option (Bool×List Prop)
 | none=>some (true,[])
 | some (j,b)=>match dstOf ops j with
  | some t=>match s.get 12 t with
   | .pl (.bool c)=>match lookN i gs with
    | some d=>some (d == b,[c=d])
    | none=>some (c == b,[])
   | .tup []=>some (false,[])
   | _=>none
  | none=>none
theorem hWant_ok{s:Tr}{gs:List (Nat×Bool)}{i:Nat}{g:Option (Nat×Bool)}{b:Bool}{cs:List Prop}(h:hWant ops s gs i g=some (b,cs))(hp:AllP cs):want ops s g=some b:=by
 unfold hWant at h;unfold want
 split at h
 ·simp only [Option.some.injEq,Prod.mk.injEq] at h; rw [h.1]
 ·split at h
  ·rename_i t ht;simp only [ht]
   split at h
   ·rename_i c hc
    split at h
    ·rename_i d hd;simp only [Option.some.injEq,Prod.mk.injEq] at h; obtain ⟨rfl,rfl⟩:=h;rw [hc]; simp only [hp.1]
    ·simp only [Option.some.injEq,Prod.mk.injEq] at h; obtain ⟨rfl,rfl⟩:=h;rw [hc]
   ·rename_i hc;simp only [Option.some.injEq,Prod.mk.injEq] at h; obtain ⟨rfl,rfl⟩:=h;rw [hc]
   ·cases h
  ·cases h
def hOps(C:Cfg)(n:Nat)(ops:List Oper)(rh:RH):Nat→List Oper→Tr×Hp→Option ((Tr×Hp)×List Prop×List Ent)
 | _,[],st=>some (st,[],[])
 | i,o::r,st=>match hWant ops st.1 rh.1 i o.guard with
  | none=>none
  | some (false,cs)=>match hOps C n ops rh (i+1) r (putO n st.1 o.dst (.tup []),st.2) with
   | some (st',cs',es')=>some (st',cs++cs',es')
   | none=>none
  | some (true,cs)=>match hOpC C st.2.length (val st.1) st.2 o.op (lookN i rh.2.1) i rh.2.2 with
   | some (x,cs1,es1)=>match hOps C n ops rh (i+1) r (putO n st.1 o.dst x.1,x.2) with
    | some (st',cs',es')=>some (st',cs++(cs1++cs'),es1++es')
    | none=>none
   | none=>none
theorem single(es:List Ent)(h:es.length≤1):∀a∈es,∀b∈es,a.k=b.k→a.same b:=by
 intro a ha b hb _ _ _ _
 match es,h with
 | [],_=>cases ha
 | [e],_=>rw [List.mem_singleton.1 ha,List.mem_singleton.1 hb]; exact ⟨rfl,rfl⟩
 | _::_::_,h=>simp at h
theorem hOp_one{ρ:Operand→AV}{op:Op}{h:Option Hint}{r:AV×Hp}{cs:List Prop}{es:List Ent}(ho:hOp C nid ρ H op h=some (r,cs,es)):es.length≤1:=by
 have key:∀{k:Nat} {args:List AV} {v:AV} {H2:Hp},(bif C.byref k then
     bif inF (Qal H 100000 0 (Qag args)) H.length (refD v)&&Qbu (Qal H 100000 0 (Qag args)) H.length H2&&Nat.ble H.length H2.length then
      some ((v,Qay (Qal H 100000 0 (Qag args)) 0 H H2),([]:List Prop),[(⟨true,k,args,maskH (Qal H 100000 0 (Qag args)) 0 H,v,H2⟩:Ent)]) else none
    else match plsQ H args with
     | some (ps,H1,cp)=>some ((v,bif flatA v then H else H1),cp,[⟨false,k,ps.map .pl,[],v,[]⟩])
     | none=>bif args.any isVw then none else bif inF (Qal H 100000 0 (Qag args)) H.length (refD v)&&Qbu (Qal H 100000 0 (Qag args)) H.length H2&&Nat.ble H.length H2.length then
      some ((v,Qay (Qal H 100000 0 (Qag args)) 0 H H2),[],[⟨true,k,args,maskH (Qal H 100000 0 (Qag args)) 0 H,v,H2⟩]) else none)=some (r,cs,es)→es.length≤1:=by
  intro k args v H2 hg;cases hb:C.byref k<;>simp only [hb,cond_true,cond_false] at hg
  ·split at hg
   ·simp only [Option.some.injEq,Prod.mk.injEq] at hg; obtain ⟨_,_,rfl⟩:=hg; simp
   ·revert hg
    cases args.any isVw<;>intro hg
    case true=>cases hg
    revert hg
    cases (inF (Qal H 100000 0 (Qag args)) H.length (refD v)&&Qbu (Qal H 100000 0 (Qag args)) H.length H2&&Nat.ble H.length H2.length)<;>intro hg
    ·simp at hg
    ·simp only [cond_false,cond_true,Option.some.injEq,Prod.mk.injEq] at hg; obtain ⟨_,_,rfl⟩:=hg; simp
  ·revert hg
   cases (inF (Qal H 100000 0 (Qag args)) H.length (refD v)&&Qbu (Qal H 100000 0 (Qag args)) H.length H2&&Nat.ble H.length H2.length)<;>intro hg
   ·simp at hg
   ·simp only [cond_true,Option.some.injEq,Prod.mk.injEq] at hg; obtain ⟨_,_,rfl⟩:=hg; simp
 unfold hOp at ho
 split at ho
 ·split at ho
  ·simp only at ho
   split at ho
   ·exact key ho
   ·exact key ho
   ·cases ho
  ·cases ho
 ·split at ho
  ·cases ho
  ·obtain ⟨r',_,h2⟩:=Option.map_eq_some_iff.1 ho;simp only [Prod.mk.injEq] at h2; obtain ⟨_,_,rfl⟩:=h2; simp
 ·cases ho
 ·obtain ⟨r',_,h2⟩:=Option.map_eq_some_iff.1 ho;simp only [Prod.mk.injEq] at h2; obtain ⟨_,_,rfl⟩:=h2; simp
 ·obtain ⟨r',_,h2⟩:=Option.map_eq_some_iff.1 ho;simp only [Prod.mk.injEq] at h2; obtain ⟨_,_,rfl⟩:=h2; simp
theorem hOps_ok{ro:Option Nat}(hC:Qad P C){rh:RH}{Q:Exit→Act→World→Prop} : ∀(r:List Oper)(i:Nat){s:Tr}{H:Hp}{φ:Phi}{a:Act}{w:World}{st':Tr×Hp}{cs:List Prop}{es:List Ent},
  hOps C n ops rh i r (s,H)=some (st',cs,es)→AllP cs→(∀e∈es,e.ok P)→SR D X n s H φ a w→∀{r2:List Oper},
   (∀φ' a' w',SR D X n st'.1 st'.2 φ' a' w'→Ev φ w φ' w'→Gr φ H φ' st'.2→wpListIn (Fr ro) 0 P ops.toArray Q r2 a' w')→wpListIn (Fr ro) 0 P ops.toArray Q (r++r2) a w
 | [],i,s,H,φ,a,w,st',cs,es,h,_,_,hS,r2,hQ=>by
  simp only [hOps,Option.some.injEq,Prod.mk.injEq] at h; obtain ⟨rfl,_,_⟩:=h;exact hQ φ a w hS (Ev.refl _ _) (Gr.refl _ _)
 | o::r,i,s,H,φ,a,w,st',cs,es,h,hp,he,hS,r2,hQ=>by
  simp only [hOps] at h;rw [List.cons_append];unfold wpListIn
  split at h
  ·cases h
  ·rename_i cs0 hw
   split at h
   ·rename_i st1 cs1 es1 h1;simp only [Option.some.injEq,Prod.mk.injEq] at h; obtain ⟨rfl,rfl,rfl⟩:=h;rw [Qy] at hp;rw [if_neg (by rw [want_ok hS (hWant_ok hw hp.1)]; decide)];exact ⟨fun _ _=>trivial,hOps_ok hC r (i+1) h1 hp.2 he (hS.put (Ev.refl _ _) hS.hr vr_undef o.dst) hQ⟩
   ·cases h
  ·rename_i cs0 hw
   split at h
   ·rename_i x cs1 es1 h1
    split at h
    ·rename_i st2 cs2 es2 h2;simp only [Option.some.injEq,Prod.mk.injEq] at h; obtain ⟨rfl,rfl,rfl⟩:=h;rw [Qy,Qy] at hp;rw [if_pos (want_ok hS (hWant_ok hw hp.1))];have he1:∀e∈es1,e.ok P:=fun e h=>he e (List.mem_append_left _ h);obtain ⟨cs1',h1',hp1'⟩:=hOpC_at h1 hp.2.1;have hev:=hOp_ok (call:=callE es1) hC.noext h1' hp1' (fun e h=>callE_at (single es1 (hOp_one h1')) h);refine op_ok hC (callE_ok he1) hS.hr hS.hr.free hS.val hev fun v' w' hn=>?_;obtain ⟨y,hy,φ',k1,k2,k3,k4,k5⟩:=hn;rw [List.mem_singleton] at hy; subst hy;refine hOps_ok hC r (i+1) h2 hp.2.2 (fun e h=>he e (List.mem_append_right _ h)) (hS.put k3 k2 k1 o.dst) fun φ'' a'' w'' m1 m2 m3=>hQ φ'' a'' w'' m1 (k3.trans m2) (Gr.trans ⟨k4,fun k hk e=>k5 k (by omega) hk e⟩ m3)
    ·cases h
   ·cases h


def footCallH(C:Cfg)(H:Hp)(k:Nat)(args:List AV):Fp :=
 bif C.byref k then .sh (Qal H 100000 0 (Qag args)) H.length else bif (args.flatMap refC).any (isD H) then .all else match plainsQ H args with
  | some _=>.wr (args.flatMap refC) []
  | none=>.all
def footH(C:Cfg)(nid:Nat)(ρ:Operand→AV)(H:Hp)(op:Op):Fp :=
 match op with
 | .call c=>match c.callee with
  | .value f=>match ρ f with
   | .pl (.fn k)=>footCallH C H k (c.args.toList.map ρ)
   | .clo k cs=>footCallH C H k (c.args.toList.map ρ++cs)
   | _=>.all
  | _=>foot C nid ρ H op
 | op=>foot C nid ρ H op
theorem footH_eq{ρ:Operand→AV}{op:Op}{h:Option Hint}{r:AV×Hp}{cs:List Prop}{es:List Ent}(ho:hOp C nid ρ H op h=some (r,cs,es))(hp:AllP cs):footH C nid ρ H op=foot C nid ρ H op:=by
 have key:∀{k:Nat} {args:List AV} {v:AV} {H2:Hp},(bif C.byref k then
     bif inF (Qal H 100000 0 (Qag args)) H.length (refD v)&&Qbu (Qal H 100000 0 (Qag args)) H.length H2&&Nat.ble H.length H2.length then
      some ((v,Qay (Qal H 100000 0 (Qag args)) 0 H H2),([]:List Prop),[(⟨true,k,args,maskH (Qal H 100000 0 (Qag args)) 0 H,v,H2⟩:Ent)]) else none
    else match plsQ H args with
     | some (ps,H1,cp)=>some ((v,bif flatA v then H else H1),cp,[⟨false,k,ps.map .pl,[],v,[]⟩])
     | none=>bif args.any isVw then none else bif inF (Qal H 100000 0 (Qag args)) H.length (refD v)&&Qbu (Qal H 100000 0 (Qag args)) H.length H2&&Nat.ble H.length H2.length then
      some ((v,Qay (Qal H 100000 0 (Qag args)) 0 H H2),[],[⟨true,k,args,maskH (Qal H 100000 0 (Qag args)) 0 H,v,H2⟩]) else none)=some (r,cs,es)→footCallH C H k args=Qau C H k args:=by
  intro k args v H2 hg;unfold footCallH Qau;cases hb:C.byref k<;>simp only [hb,cond_true,cond_false] at hg ⊢;cases hd:(args.flatMap refC).any (isD H) with
  | true=>rfl
  | false =>
   have em:plsQ H args=plainsQ H args:=by unfold plsQ; rw [melt_id _ hd]
   simp only [cond_false];rw [em] at hg
   split at hg
   ·rename_i ps H1 cp hq;simp only [Option.some.injEq,Prod.mk.injEq] at hg; obtain ⟨_,rfl,_⟩:=hg;rw [plainsQ_ok hq hp,hq]
   ·rename_i hq;cases hv:args.any isVw with
    | true=>rw [hv] at hg; cases hg
    | false=>rw [plainsQ_none hq hv,hq]
 unfold footH
 split
 ·rename_i c
  split
  ·rename_i f hf;unfold hOp at ho
   split at ho
   ·rename_i c' v H2 hop
    injection hop with hop; subst hop
    simp only [hf] at ho;unfold foot;simp only [hf]
    split at ho
    ·rename_i k hk; simp only [hk]; exact key ho
    ·rename_i k cs' hk; simp only [hk]; exact key ho
    ·cases ho
   ·rename_i c' hop
    injection hop with hop; subst hop
    simp only [hf] at ho;cases ho
   ·cases ho
   ·rename_i h1 h2 h3 h4; exact absurd rfl (h3 _)
   ·obtain ⟨r',h1,h2⟩:=Option.map_eq_some_iff.1 ho;simp only [Prod.mk.injEq] at h2; obtain ⟨rfl,rfl,rfl⟩:=h2;have hpu:=hPure_ok h1 hp;obtain ⟨callee,args,ts⟩:=c;simp only at hf; subst hf;simp [Ql] at hpu
  ·rfl
 ·rfl
def hDL(C:Cfg)(n:Nat)(ops:List Oper)(rh:RH)(base:Nat):List It→List (It×Fp)→Tr×Hp→Option ((Tr×Hp)×List Prop×List Ent)
 | [],_,st=>some (st,[],[])
 | x::L,recs,st=>match hWant ops st.1 rh.1 x.i x.o.guard with
  | none=>none
  | some (false,cs)=>bif recs.all (fun r=>cross r x (.rd [])) then
    (match hDL C n ops rh base L ((x,.rd [])::recs) (putO n st.1 x.o.dst (.tup []),st.2) with
     | some (st',cs',es')=>some (st',cs++cs',es')
     | none=>none) else none
  | some (true,cs)=>match hOpC C (base+x.nid) (val st.1) st.2 x.o.op (lookN x.i rh.2.1) x.i rh.2.2 with
   | some (r,cs1,es1)=>bif okLen st.2 r.2 (footH C (base+x.nid) (val st.1) st.2 x.o.op)&&recs.all (fun q=>cross q x (footH C (base+x.nid) (val st.1) st.2 x.o.op)) then
     (match hDL C n ops rh base L ((x,footH C (base+x.nid) (val st.1) st.2 x.o.op)::recs) (putO n st.1 x.o.dst r.1,r.2) with
      | some (st',cs',es')=>some (st',cs++(cs1++cs'),es1++es')
      | none=>none) else none
   | none=>none
def sameP:List Ent→List Prop
 | []=>[]
 | e::r=>(r.filter fun f=>Nat.beq f.k e.k).map (fun f=>e.same f∧f.same e)++sameP r
theorem sameP_ok:∀{es:List Ent},AllP (sameP es)→∀a∈es,∀b∈es,a.k=b.k→a.same b
 | [],_,a,ha,_,_,_=>by cases ha
 | e::r,h,a,ha,b,hb,hk=>by
  simp only [sameP] at h;rw [Qy] at h;have all:∀{l:List Ent},AllP (l.map fun f=>e.same f∧f.same e)→∀f∈l,e.same f∧f.same e:=fun {l}=>by
   induction l with
   | nil=>intro _ f hf; cases hf
   | cons x l ih =>
    intro h f hf;rcases List.mem_cons.1 hf with rfl | hf
    ·exact h.1
    ·exact ih h.2 f hf
  rcases List.mem_cons.1 ha with e1 | ha1
  ·rcases List.mem_cons.1 hb with e2 | hb1
   ·subst e1; subst e2; exact fun _ _ _=>⟨rfl,rfl⟩
   ·subst e1; exact (all h.1 b (List.mem_filter.2 ⟨hb1,by rw [hk]; simp⟩)).1
  ·rcases List.mem_cons.1 hb with e2 | hb1
   ·subst e2; exact (all h.1 a (List.mem_filter.2 ⟨ha1,by rw [hk]; simp⟩)).2
   ·exact sameP_ok h.2 a ha1 b hb1 hk
theorem hDL_ok(hx:∀k,C.ext k=none){rh:RH}{call:Bool→Nat→List AV→Hp→Outs (AV×Hp)} : ∀(L:List It){recs:List (It×Fp)}{st st':Tr×Hp}{cs:List Prop}{es:List Ent},hDL C n ops rh base L recs st=some (st',cs,es)→AllP cs →
  (∀e∈es,call e.br e.k e.args e.H=some [(e.v,e.H')])→evDL C call n ops base L recs st=some st'
 | [],recs,st,st',cs,es,h,_,_=>by
  simp only [hDL,Option.some.injEq,Prod.mk.injEq] at h; obtain ⟨rfl,_,_⟩:=h; rfl
 | x::L,recs,st,st',cs,es,h,hp,hc=>by
  simp only [hDL] at h;simp only [evDL]
  split at h
  ·cases h
  ·rename_i cs0 hw;cases hr:(recs.all fun r=>cross r x (.rd [])) with
   | false=>simp [hr] at h
   | true =>
    simp only [hr,cond_true] at h
    split at h
    ·rename_i st1 cs1 es1 h1;simp only [Option.some.injEq,Prod.mk.injEq] at h; obtain ⟨rfl,rfl,rfl⟩:=h;rw [Qy] at hp;have hs:stepD C call n ops base x st=some ((putO n st.1 x.o.dst (.tup []),st.2),.rd []):=by
      unfold stepD; rw [hWant_ok hw hp.1]
     simp only [hs,hr,cond_true];exact hDL_ok hx L h1 hp.2 hc
    ·cases h
  ·rename_i cs0 hw
   split at h
   ·rename_i r cs1 es1 h1;cases hr:(okLen st.2 r.2 (footH C (base+x.nid) (val st.1) st.2 x.o.op)&&recs.all (fun q=>cross q x (footH C (base+x.nid) (val st.1) st.2 x.o.op))) with
    | false=>simp [hr] at h
    | true =>
     simp only [hr,cond_true] at h;rw [Bool.and_eq_true] at hr
     split at h
     ·rename_i st2 cs2 es2 h2;simp only [Option.some.injEq,Prod.mk.injEq] at h; obtain ⟨rfl,rfl,rfl⟩:=h;rw [Qy,Qy] at hp;obtain ⟨cs1',h1',hp1'⟩:=hOpC_at h1 hp.2.1;rw [footH_eq h1' hp1'] at h2 hr;have hev:=hOp_ok (call:=call) hx h1' hp1' fun e h=>hc e (List.mem_append_left _ h);have hs:stepD C call n ops base x st=some ((putO n st.1 x.o.dst r.1,r.2),foot C (base+x.nid) (val st.1) st.2 x.o.op):=by
       unfold stepD; rw [hWant_ok hw hp.1]; simp only [hev,hr.1,cond_true]
      simp only [hs,hr.2,cond_true];exact hDL_ok hx L h2 hp.2.2 fun e h=>hc e (List.mem_append_right _ h)
     ·cases h
   ·cases h
def hDrawn(C:Cfg)(n:Nat)(ops:List Oper)(rh:RH)(st:Tr×Hp):Option ((Tr×Hp)×List Prop×List Ent) :=
 match plan ops.length 0 0 [] (items 0 ops) with
 | none=>none
 | some L=>match hDL C n ops rh st.2.length L [] (st.1,st.2++List.replicate (countNew ops+1) none) with
  | some (st',cs,es)=>some (st',cs++sameP es,es)
  | none=>none

end
section
variable {P:Program} {C:Cfg} {w w':World} {X:Nat→Prop} {φ φ':Phi} {H H':Hp} {nid n base:Nat} {s:Tr} {a:Act} {D:List Deferred} {ops:List Oper}
theorem callX_part(hH:HR X φ H w){k F:Nat}{args:List AV}{vs:List Value}{ch:List PanicEntry}{H2:Hp}(hc:Qcr P k args (maskH F 0 H) ch H2)(hv:VRT w (YOf X φ) φ args vs)
  (h1:Qbu F H.length H2=true) (h2:Nat.ble H.length H2.length=true):Calls P k vs.toArray w (RetX X φ H w ch (Qay F 0 H H2)):=by
 have hlen:=ble_t h2;refine (hc.2 (cutX X φ F) (φ.cut F) w vs hH.cut (by rw [cut_Y]; exact VRT.re args vs (fun o _=>cut_re o) hv)).mono fun e w' hr=>?_;obtain ⟨he,φ',k2,k3,k4,k5⟩:=hr;obtain ⟨u1,u2,u3,u4,u5⟩:=uncut hH k2 k3 hlen (fun k hk=>k5 k (by rw [length_mask]; exact hk)) h1;exact ⟨he,_,u1,u2,by rw [Qcc _ _ _ hlen]; exact hlen,u4⟩
theorem pan_op{ro:Option Nat}(hH:HR X φ H w){ra:Operand→AV}(hρ:∀x,VR w (YOf X φ) φ (ra x) (a.eval x)){o:Oper}{f:Operand}{k F:Nat}{as:Array Operand}{ts:Array TypeId}{ch:List PanicEntry}{H2:Hp}(hop:o.op = .call ⟨.value f,as,ts⟩)(hf:ra f = .pl (.fn k))
  (hc:Qcr P k (as.toList.map ra) (maskH F 0 H) ch H2) (h1:Qbu F H.length H2=true) (h2:Nat.ble H.length H2.length=true) {Q:Exit→Act→World→Prop} {K:Act→World→Prop}
  (hQ:∀φ' w',HR X φ' (Qay F 0 H H2) w'→Ev φ w φ' w'→H.length≤(Qay F 0 H H2).length→(∀k,k<H.length→φ k = .fresh→φ' k = .fresh)→Q (.panic ch) a w'):o.wpIn (Fr ro) 0 P a w K Q:=by
 obtain ⟨d,op,ty,pos,af,g⟩:=o;simp only at hop; subst hop;have hfv:=hρ f;rw [hf] at hfv;simp only [VR,PR] at hfv;have hfv:a.eval f = .func (.func k) #[] [].toArray:=hfv;refine wpR_run (fun c hc=>by cases hc) ?_;rw [x_call hc.1 hfv rfl,Oper.uponIn_enter];have hcall:=callX_part hH hc (vrt_map hρ as.toList) h1 h2;have:(as.toList.map a.eval).toArray=as.map a.eval++[].toArray:=by apply Array.ext'; simp
 rw [←this];refine ⟨(fun h=>by cases h),callsR (hcall.mono fun e w' hr=>?_)⟩;obtain ⟨rfl,φ',k1,k2,k3,k4⟩:=hr;exact hQ φ' w' k1 k2 k3 k4
def panCall(st:Tr×Hp)(o:Oper)(H2:Hp):Option (Nat×List AV×Nat) :=
 match o.guard with
 | some _=>none
 | none=>match o.op with
  | .call c=>match c.callee with
   | .value f=>match val st.1 f with
    | .pl (.fn k)=>bif Qbu (Qal st.2 100000 0 (Qag (c.args.toList.map (val st.1)))) st.2.length H2&&Nat.ble st.2.length H2.length then some (k,c.args.toList.map (val st.1),Qal st.2 100000 0 (Qag (c.args.toList.map (val st.1)))) else none
    | _=>none
   | _=>none
  | _=>none
theorem panCall_ok{ro:Option Nat}{st:Tr×Hp}{o:Oper}{H2:Hp}{k F:Nat}{args:List AV}(h:panCall st o H2=some (k,args,F))(hS:SR D X n st.1 st.2 φ a w){ch:List PanicEntry}(hc:Qcr P k args (maskH F 0 st.2) ch H2){Q:Exit→Act→World→Prop}{K:Act→World→Prop}
  (hQ:∀φ' w',HR X φ' (Qay F 0 st.2 H2) w'→Ev φ w φ' w'→st.2.length≤(Qay F 0 st.2 H2).length→(∀k,k<st.2.length→φ k = .fresh→φ' k = .fresh)→Q (.panic ch) a w'):o.guard=none∧o.wpIn (Fr ro) 0 P a w K Q:=by
 unfold panCall at h
 split at h
 ·cases h
 ·rename_i hg;refine ⟨hg,?_⟩
  split at h
  ·rename_i c hop
   split at h
   ·rename_i f hcal
    split at h
    ·rename_i k' hk;cases hb:(Qbu (Qal st.2 100000 0 (Qag (c.args.toList.map (val st.1)))) st.2.length H2&&Nat.ble st.2.length H2.length) with
     | false=>rw [hb] at h; cases h
     | true =>
      rw [hb] at h;simp only [cond_true,Option.some.injEq,Prod.mk.injEq] at h; obtain ⟨rfl,rfl,rfl⟩:=h;rw [Bool.and_eq_true] at hb;obtain ⟨callee,as,ts⟩:=c;simp only at hcal; subst hcal;exact pan_op hS.hr hS.val hop hk hc hb.1 hb.2 hQ
    ·cases h
   ·cases h
  ·cases h
def entsP(P:Program):List Ent→List Prop
 | []=>[]
 | e::r=>Qm P e.br e.k e.args e.H e.v e.H'::entsP P r
theorem entsP_ok:∀{es:List Ent},AllP (entsP P es)→∀e∈es,e.ok P
 | [],_,e,he=>by cases he
 | x::r,h,e,he=>by
  rcases List.mem_cons.1 he with rfl | he
  ·exact h.1
  ·exact entsP_ok h.2 e he
def hPanT(P:Program)(C:Cfg)(n:Nat)(ops:List Oper)(rh:RH)(i:Nat)(ch:List PanicEntry)(H2:Hp)(st:Tr×Hp):Option ((Tr×Hp)×List Prop) :=
 match hOps C n ops rh 0 (ops.take i) st with
 | some (st1,cs,es)=>(match ops[i]? with
  | some o=>(match panCall st1 o H2 with
   | some (k,args,F)=>some ((st1.1,Qay F 0 st1.2 H2),cs++(entsP P es++[Qcr P k args (maskH F 0 st1.2) ch H2]))
   | none=>none)
  | none=>none)
 | none=>none
theorem hPanT_ok(hC':Qad P C){id i:Nat}{ops:Array Oper}{rh:RH}{ch:List PanicEntry}{H2:Hp}{st st':Tr×Hp}{cs:List Prop}(h:hPanT P C n ops.toList rh i ch H2 st=some (st',cs))(hp:AllP cs) :
  T P n base (.region id ops false) st fun r=>r=(.pan ch,st'):=by
 unfold hPanT at h
 split at h
 ·rename_i st1 cs0 es h1
  split at h
  ·rename_i o ho
   split at h
   ·rename_i k args F hpc;simp only [Option.some.injEq,Prod.mk.injEq] at h; obtain ⟨rfl,rfl⟩:=h;rw [Qy,Qy] at hp;obtain ⟨hp1,hp2,hp3,_⟩:=hp;intro _ ro _ D X φ a w hS hb;refine wpIn_region_list (by
     have hlt:=(List.getElem?_eq_some_iff.1 ho).1;have hcut:ops.toList.take i++ops.toList.drop i=ops.toList:=List.take_append_drop i _;have hd:ops.toList.drop i=o::ops.toList.drop (i+1):=by
      rw [List.drop_eq_getElem_cons hlt,(List.getElem?_eq_some_iff.1 ho).2]
     have:=hOps_ok (ro:=ro) (ops:=ops.toList) (Q:=PostB true D X n base φ w fun r=>r=(.pan ch,(st1.1,Qay F 0 st1.2 H2))) hC' (ops.toList.take i) 0 (s:=st.1) (H:=st.2) h1 hp1 (entsP_ok hp2) hS (r2:=ops.toList.drop i) fun φ' a' w' k1 k2 k3=>?_
     ·rw [hcut] at this; simpa [rfree] using this
     ·rw [hd];unfold wpListIn;have key:∀{K:Act→World→Prop},o.guard=none∧o.wpIn (Fr ro) 0 P a' w' K (PostB true D X n base φ w fun r=>r=(.pan ch,(st1.1,Qay F 0 st1.2 H2))):=fun {K}=>panCall_ok hpc k1 hp3 fun φ'' w'' m1 m2 m3 m4=>by
       refine ⟨_,rfl,rfl,φ'',SRM.of ⟨k1.defers,k1.size,fun t=>VR.stay m2 X _ _ (k1.slots t),m1⟩,(k2.b fun o ho hf=>k3.2 o (by omega) hf).trans (m2.b fun o ho hf=>m4 o (by have:=k3.1; omega) hf),?_⟩;have h3:=k3.1;exact Nat.le_trans hb (Nat.le_trans h3 m3)
      rw [if_pos (by unfold Region.wanted; rw [(key (K:=fun _ _=>True)).1])];exact key.2)
   ·cases h
  ·cases h
 ·cases h
def quietOp:Op→Bool
 | .move _ | .load _ _ | .fieldAddr _ _ _ | .nilCheck _=>true
 | _=>false
theorem quiet_same{ρ:Operand→AV}{op:Op}{r:AV×Hp}(h:Ql C nid ρ H op=some r)(hq:quietOp op=true):r.2=H:=by
 have al:∀{b:Bool} {x:AV},(bif b then some (x,H) else none)=some r→r.2=H:=fun {b x} h=>by
  cases b with
  | false=>cases h
  | true=>simp only [cond_true,Option.some.injEq] at h; subst h; rfl
 cases op with
 | move x=>injection h with h; subst h; rfl
 | load t p =>
  simp only [Ql] at h;obtain ⟨v,_,rfl⟩:=Option.map_eq_some_iff.1 h; rfl
 | nilCheck x =>
  simp only [Ql] at h
  split at h<;>first | exact al h | (simp only [Option.some.injEq] at h; subst h; rfl) | (cases h; done)
 | fieldAddr t x f =>
  simp only [Ql] at h
  split at h
  ·rename_i ft off hf;cases hb:posSize C ft with
   | false=>rw [hb] at h; cases h
   | true =>
    rw [hb] at h;simp only [cond_true] at h
    split at h<;>first | exact al h | (simp only [Option.some.injEq] at h; subst h; rfl) | (cases h; done)
  ·cases h
 | _=>simp [quietOp] at hq
def eqArg:AV→AV→Bool
 | .bp o i,.bp o' i'=>Nat.beq o o'&&Nat.beq i i'
 | .pl (.int k n),.pl (.int k' n')=>kindEq k k'&&decide (n=n')
 | _,_=>false
def eqArgs:List AV→List AV→Bool
 | [],[]=>true
 | a::x,b::y=>eqArg a b&&eqArgs x y
 | _,_=>false
theorem eqArg_eq{a b:AV}(h:eqArg a b=true):a=b:=by
 unfold eqArg at h
 split at h
 ·simp only [Bool.and_eq_true] at h;rw [Nat.eq_of_beq_eq_true h.1,Nat.eq_of_beq_eq_true h.2]
 ·simp only [Bool.and_eq_true,decide_eq_true_eq] at h;rw [kindEq_eq h.1,h.2]
 ·cases h
theorem eqArgs_eq:∀{x y:List AV},eqArgs x y=true→x=y
 | [],[],_=>rfl
 | a::x,b::y,h=>by
  simp only [eqArgs,Bool.and_eq_true] at h;rw [eqArg_eq h.1,eqArgs_eq h.2]
 | [],_::_,h=>by cases h
 | _::_,[],h=>by cases h
def panHere(st:Tr×Hp)(o:Oper)(k:Nat)(args:List AV):Bool :=
 match o.op with
 | .call c=>match c.callee with
  | .value f=>match val st.1 f with
   | .pl (.fn k')=>Nat.beq k' k&&eqArgs (c.args.toList.map (val st.1)) args
   | _=>false
  | _=>false
 | _=>false
def panAny(C:Cfg)(n:Nat)(ops:List Oper)(p k:Nat)(args:List AV)(keep:List Nat)(H:Hp):Nat→Array Bool→Tr→Bool
 | 0,_,_=>false
 | m+1,listed,s=>!(Region.ready .any ops.toArray listed).isEmpty&&(Region.ready .any ops.toArray listed).all fun i=>match ops[i]? with
  | none=>false
  | some o=>match o.guard with
   | some _=>false
   | none=>bif Nat.beq i p then panHere (s,H) o k args else
    quietOp o.op&&(match o.dst with | some d=>!(keep.any (Nat.beq d)) | none=>true)&&(match Ql C H.length (val s) H o.op with
     | some r=>panAny C n ops p k args keep H m (listed.setIfInBounds i true) (putO n s o.dst r.1)
     | none=>false)
def keepP(s:Tr):List Nat→Tr
 | []=>.leaf
 | t::r=>(keepP s r).put 12 t (s.get 12 t)
theorem keepP_vr{s:Tr}{t:Nat} : ∀(l:List Nat),(keepP s l).get 12 t = .un∨t∈l∧(keepP s l).get 12 t=s.get 12 t
 | []=>.inl (Qcs _ _)
 | k::r=>by
  simp only [keepP]
  by_cases e:t=k
  ·subst e;rcases Qca 12 (keepP s r) t (s.get 12 t) with h | h
   ·exact .inr ⟨by simp,h⟩
   ·exact .inl h
  ·rw [Qbi 12 _ _ _ _ e]; exact (keepP_vr r).imp id fun h=>⟨List.mem_cons_of_mem _ h.1,h.2⟩
theorem pure_ev{ρ:Operand→AV}{op:Op}{r:AV×Hp}(hq:quietOp op=true)(he:Ql C nid ρ H op=some r):evOp C (callE []) nid ρ H op=some [r]:=by
 unfold evOp;cases op<;>first | (simp [quietOp] at hq; done) | (simp only [he])
theorem panAny_ok{ro:Option Nat}(hC':Qad P C){p k F:Nat}{args:List AV}{keep:List Nat}{s0:Tr}{Q:Exit→Act→World→Prop}{ch:List PanicEntry}{H2:Hp}(hx:Qcr P k args (maskH F 0 H) ch H2)(h1:Qbu F H.length H2=true)(h2:Nat.ble H.length H2.length=true) :
  ∀(m:Nat){listed:Array Bool}{s:Tr}{φ:Phi}{a:Act}{w:World},panAny C n ops p k args keep H m listed s=true→SR D X n s H φ a w→(∀t∈keep,s.get 12 t=s0.get 12 t) →
   (∀φ' a' w',SR D X n (keepP s0 keep) (Qay F 0 H H2) φ' a' w'→Ev φ w φ' w'→(∀k,k<H.length→φ k = .fresh→φ' k = .fresh)→Q (.panic ch) a' w')→wpAnyIn (Fr ro) 0 P .any ops.toArray Q m listed a w
 | 0,listed,s,φ,a,w,h,_,_,_=>by cases h
 | m+1,listed,s,φ,a,w,h,hS,hk,hQ=>by
  simp only [panAny,Bool.and_eq_true,Bool.not_eq_true'] at h;obtain ⟨hne,hall⟩:=h;refine ⟨fun h0=>by (rw [h0] at hne; cases hne),fun i hi=>?_⟩;rw [List.all_eq_true] at hall;have:=hall i hi;unfold wpOpIn;rw [List.getElem?_toArray]
  split at this
  ·cases this
  ·rename_i o ho;rw [ho];simp only
   split at this
   ·cases this
   ·rename_i hg;rw [if_pos (by unfold Region.wanted; rw [hg])];cases hb:Nat.beq i p with
    | true =>
     simp only [hb,cond_true] at this;unfold panHere at this
     split at this
     ·rename_i c hop
      split at this
      ·rename_i f hcal
       split at this
       ·rename_i k' hkf;simp only [Bool.and_eq_true] at this;obtain ⟨e1,e2⟩:=this;have e1:=Nat.eq_of_beq_eq_true e1;have e2:=eqArgs_eq e2;subst e1; subst e2;obtain ⟨callee,as,ts⟩:=c;simp only at hcal; subst hcal;refine pan_op hS.hr hS.val hop hkf hx h1 h2 fun φ' w' m1 m2 m3 m4=>hQ φ' a w' ⟨hS.defers,hS.size,fun t=>?_,m1⟩ m2 m4;rcases keepP_vr (s:=s0) (t:=t) keep with e | ⟨ht,e⟩
        ·rw [e]; simp only [VR]
        ·rw [e,←hk t ht]; exact VR.stay m2 X _ _ (hS.slots t)
       ·cases this
      ·cases this
     ·cases this
    | false =>
     simp only [hb,cond_false,Bool.and_eq_true] at this;obtain ⟨⟨hq,hd⟩,hev⟩:=this
     split at hev
     ·rename_i r hr;have hrH:=quiet_same hr hq;refine op_ok hC' (callE_ok (P:=P) (es:=[]) (fun e he=>by cases he)) hS.hr hS.hr.free hS.val (pure_ev hq hr) fun v' w' hn=>?_;obtain ⟨y,hy,φ',k1,k2,k3,k4,k5⟩:=hn;rw [List.mem_singleton] at hy; subst hy;rw [hrH] at k2;have hS2:=hS.put k3 k2 k1 o.dst;refine panAny_ok hC' hx h1 h2 m hev hS2 (fun t ht=>?_) fun φ'' a'' w'' q1 q2 q3=>hQ φ'' a'' w'' q1 (k3.trans q2) fun j hj e=>q3 j hj (k5 j (by have:=hj; omega) hj e);rw [←hk t ht];cases hdst:o.dst with
      | none=>rfl
      | some d =>
       rw [hdst] at hd;have hne:t≠d:=by
        rintro rfl
        simp only [Bool.not_eq_true',←Bool.not_eq_true,List.any_eq_true] at hd;exact hd ⟨t,ht,by simp⟩
       simp only [putO];cases Nat.blt d n with
       | false=>rfl
       | true=>exact Qbi 12 s d t _ hne
     ·cases hev
def hPanD(P:Program)(C:Cfg)(n:Nat)(ops:List Oper)(p:Nat)(ch:List PanicEntry)(H2:Hp)(keep:List Nat)(k:Nat)(args:List AV)(st:Tr×Hp):Option ((Tr×Hp)×List Prop) :=
 bif panAny C n ops p k args keep st.2 ops.length (Array.replicate ops.length false) st.1&&(Qbu (Qal st.2 100000 0 (Qag args)) st.2.length H2&&Nat.ble st.2.length H2.length) then
  some ((keepP st.1 keep,Qay (Qal st.2 100000 0 (Qag args)) 0 st.2 H2),[Qcr P k args (maskH (Qal st.2 100000 0 (Qag args)) 0 st.2) ch H2]) else none
theorem hPanD_ok(hC':Qad P C){id p k:Nat}{ops:Array Oper}{keep:List Nat}{args:List AV}{ch:List PanicEntry}{H2:Hp}{st st':Tr×Hp}{cs:List Prop}(h:hPanD P C n ops.toList p ch H2 keep k args st=some (st',cs))(hp:AllP cs) :
  T P n base (.region id ops true) st fun r=>r=(.pan ch,st'):=by
 unfold hPanD at h;cases hb:(panAny C n ops.toList p k args keep st.2 ops.toList.length (Array.replicate ops.toList.length false) st.1&&(Qbu (Qal st.2 100000 0 (Qag args)) st.2.length H2&&Nat.ble st.2.length H2.length)) with
 | false=>rw [hb] at h; cases h
 | true =>
  rw [hb] at h;simp only [cond_true,Option.some.injEq,Prod.mk.injEq] at h; obtain ⟨rfl,rfl⟩:=h;simp only [Bool.and_eq_true] at hb;obtain ⟨h0,h1,h2⟩:=hb;intro _ ro _ D X φ a w hS hbase;refine wpIn_region_any hC'.mixed ?_;have hlen:=ble_t h2;have hS':SR D X n st.1 st.2 φ a w.drew:=⟨hS.defers,hS.size,fun t=>VR.stay Ev.drew X _ _ (hS.slots t),hS.hr.drew⟩;have:=panAny_ok (ro:=ro) (D:=D) (X:=X) (Q:=PostB true D X n base φ w fun r=>r=(.pan ch,(keepP st.1 keep,Qay (Qal st.2 100000 0 (Qag args)) 0 st.2 H2))) hC' hp.1 h1 h2 ops.toList.length h0 hS' (fun t _=>rfl) fun φ' a' w' m1 m2 m3=>by
   refine ⟨_,rfl,rfl,φ',.of m1,(Ev.drew.trans m2).b fun o ho hf=>m3 o (by omega) hf,?_⟩;show base≤(Qay _ 0 st.2 H2).length;rw [Qcc _ _ _ hlen]; omega
  simpa [rfree] using this
def isAgg0:AV→Bool
 | .pl (.agg [])=>true
 | .agg []=>true
 | _=>false
def dieQ(C:Cfg)(n:Nat):List Oper→Option (Nat×Nat×Nat×Array (Nat×Operand))
 | [⟨some u1,.build T ps,_,_,_,none⟩,⟨some u2,.makeInterface T' (.tmp t1),_,_,_,none⟩,⟨_,.panic (.tmp t2),_,_,_,none⟩] =>
  (match C.ty T with
  | some ti=>bif Nat.beq u1 t1&&Nat.beq u2 t2&&Nat.beq T T'&&Nat.blt u1 n&&Nat.blt u2 n&&ti.k.row then some (u1,u2,T,ps) else none
  | none=>none)
 | _=>none
def hDie(C:Cfg)(n:Nat)(ops:List Oper)(ch:List PanicEntry)(st:Tr×Hp):Option ((Tr×Hp)×List Prop) :=
 match dieQ C n ops with
 | some (u1,u2,T,ps)=>(match Ql C st.2.length (val st.1) st.2 (.build T ps) with
  | some r=>bif isAgg0 r.1 then some ((putO n (putO n st.1 (some u1) .un) (some u2) .un,st.2),[ch=[{ v:=.iface T (.agg #[]),recovered:=false }]]) else none
  | none=>none)
 | none=>none
theorem x_iface{ρ:Operand→Value}{d:Option Tmp}{ty:TypeId}{pos:String}{af:Array Edge}{g:Option (Nat×Bool)}{t:TypeId}{u:TypeDesc}{x:Operand}{v:Value}(hu:P.underlying t=some u)(hr:u.isRow=true)(hx:ρ x=v):(execOp ρ ⟨d,.makeInterface t x,ty,pos,af,g⟩).run P w = .ok (.value (.iface t v)) w:=by
 subst hx;simp only [execOp,Instr.makeInterface];cases u<;>simp_all [Sem.run_bind,run_underlying hu,TypeDesc.isRow]
theorem x_panic{ρ:Operand→Value}{d:Option Tmp}{ty:TypeId}{pos:String}{af:Array Edge}{g:Option (Nat×Bool)}{t:TypeId}{x:Operand}{v:Value}(hx:ρ x = .iface t v):(execOp ρ ⟨d,.panic x,ty,pos,af,g⟩).run P w = .halt (.panic (.iface t v)) w:=by
 simp [execOp,hx,Instr.panic,goPanic]
theorem hDie_ok(hC':Qad P C){id:Nat}{ops:Array Oper}{ch:List PanicEntry}{st st':Tr×Hp}{cs:List Prop}(h:hDie C n ops.toList ch st=some (st',cs))(hp:AllP cs) :
  T P n base (.region id ops false) st fun r=>r=(.pan ch,st'):=by
 unfold hDie at h
 split at h
 ·rename_i u1 u2 T ps hq
  split at h
  ·rename_i r hr;cases hag:isAgg0 r.1 with
   | false=>rw [hag] at h; cases h
   | true =>
    rw [hag] at h;simp only [cond_true,Option.some.injEq,Prod.mk.injEq] at h; obtain ⟨rfl,rfl⟩:=h;obtain ⟨rfl,_⟩:=hp;unfold dieQ at hq
    split at hq
    ·rename_i v1 T1 ps1 y1 z1 f1 v2 T2 t1 y2 z2 f2 v3 t2 y3 z3 f3 hops
     split at hq
     ·rename_i ti hti;cases hb:(Nat.beq v1 t1&&Nat.beq v2 t2&&Nat.beq T1 T2&&Nat.blt v1 n&&Nat.blt v2 n&&ti.k.row) with
      | false=>rw [hb] at hq; cases hq
      | true =>
       rw [hb] at hq;simp only [cond_true,Option.some.injEq,Prod.mk.injEq] at hq; obtain ⟨rfl,rfl,rfl,rfl⟩:=hq;simp only [Bool.and_eq_true] at hb;obtain ⟨⟨⟨⟨⟨b1,b2⟩,b3⟩,b4⟩,b5⟩,b6⟩:=hb;have b1:=Nat.eq_of_beq_eq_true b1;have b2:=Nat.eq_of_beq_eq_true b2;have b3:=Nat.eq_of_beq_eq_true b3;subst b1; subst b2; subst b3;rw [Nat.blt_eq] at b4 b5;have hT:=hC'.ty _ ti hti;have hund:∃u,P.underlying T1=some u∧u.isRow=true:=by
        cases hk:ti.k with
        | struct fs=>obtain ⟨gs,hu,_⟩:=Qcq hT hk; exact ⟨_,hu,rfl⟩
        | arr n e=>exact ⟨_,und_arr hT hk,rfl⟩
        | _=>rw [hk] at b6; cases b6
       obtain ⟨ud,hu,hur⟩:=hund;intro _ ro _ D X φ a w hS hbase;refine wpIn_region_list (by
        rw [hops];obtain ⟨v,H'⟩:=r;obtain ⟨rfl,u,hrun,hvu⟩:=g_build (w:=w) (X:=X) (φ:=φ) (ρ:=a.eval) (d:=some v1) (ty:=y1) (pos:=z1) (af:=f1) (g:=none) hC' hS.val hr;have hval:u = .agg #[]:=by
         simp only at hag;unfold isAgg0 at hag
         split at hag
         ·simp only [VR,PR] at hvu; obtain ⟨vs,rfl,hl⟩:=hvu; simp only [PRL] at hl; subst hl; rfl
         ·simp only [VR] at hvu; obtain ⟨vs,rfl,hl⟩:=hvu; simp only [VRL] at hl; subst hl; rfl
         ·cases hag
        subst hval;have hwant:∀(o:Oper) t,o.guard=none→Region.wanted o t=true:=fun o t h=>by unfold Region.wanted; rw [h]
        have un:∀(φ:Phi)(Y:Nat→Prop)(v:Value),VR w Y φ .un v:=fun _ _ _=>by simp only [VR]
        have s1:=hS.put (Ev.refl φ w) hS.hr (v:=.un) (v':=.agg #[]) (un _ _ _) (some v1);have s2:=s1.put (Ev.refl φ w) s1.hr (v:=.un) (v':=.iface T1 (.agg #[])) (un _ _ _) (some v2);have ev1:(a.put (some v1) (.agg #[])).eval (.tmp v1) = .agg #[]:=by
         simp [Act.put,Act.eval,Array.getD,hS.size,b4]
        have ev2:((a.put (some v1) (.agg #[])).put (some v2) (.iface T1 (.agg #[]))).eval (.tmp v2) = .iface T1 (.agg #[]):=by
         simp [Act.put,Act.eval,Array.getD,hS.size,b5]
        unfold wpListIn;rw [if_pos (hwant _ _ rfl)];refine wpR_run (fun c hc=>by cases hc) ?_;rw [hrun,Oper.uponIn_value];unfold wpListIn;rw [if_pos (hwant _ _ rfl)];refine wpR_run (fun c hc=>by cases hc) ?_;rw [x_iface hu hur ev1,Oper.uponIn_value];unfold wpListIn;rw [if_pos (hwant _ _ rfl)];refine wpR_run (fun c hc=>by cases hc) ?_;rw [x_panic ev2,Oper.uponIn_panic];exact ⟨_,rfl,rfl,φ,.of s2,EvB.refl _ _ _,hbase⟩)
     ·cases hq
    ·cases hq
  ·cases h
 ·cases h
end
section
variable {P:Program} {C:Cfg} {w w':World} {X:Nat→Prop} {φ φ':Phi} {H H':Hp} {nid n base:Nat} {s:Tr} {a:Act} {D:List Deferred} {ops:List Oper}
def endOf:List (Nat×Hint)→Option (Nat×Hint)
 | []=>none
 | (i,.pan a b c d e)::_=>some (i,.pan a b c d e)
 | (i,.die a)::_=>some (i,.die a)
 | _::r=>endOf r
def hC(P:Program)(C:Cfg)(n:Nat):Code→List RH→List (Option Bool)→Tr×Hp→Option ((Ex×Tr×Hp)×List Prop×List RH×List (Option Bool))
 | .skip,rs,ps,st=>some ((.norm,st),[],rs,ps)
 | .region _ ops false,rh::rs,ps,st=>match endOf rh.2.1 with
  | some (i,.pan ch H2 _ _ _)=>(match hPanT P C n ops.toList rh i ch H2 st with
   | some (st',cs)=>some ((.pan ch,st'),cs,rs,ps)
   | none=>none)
  | some (_,.die ch)=>(match hDie C n ops.toList ch st with
   | some (st',cs)=>some ((.pan ch,st'),cs,rs,ps)
   | none=>none)
  | _=>(match hOps C n ops.toList rh 0 ops.toList st with
   | some (st',cs,es)=>some ((.norm,st'),cs++entsP P es,rs,ps)
   | none=>none)
 | .region _ ops true,rh::rs,ps,st=>match endOf rh.2.1 with
  | some (p,.pan ch H2 keep k args)=>(match hPanD P C n ops.toList p ch H2 keep k args st with
   | some (st',cs)=>some ((.pan ch,st'),cs,rs,ps)
   | none=>none)
  | _=>(match hDrawn C n ops.toList rh st with
   | some (st',cs,es)=>some ((.norm,st'),cs++entsP P es,rs,ps)
   | none=>none)
 | .seq a b,rs,ps,st=>match hC P C n a rs ps st with
  | some ((.norm,st1),cs,rs1,ps1)=>(match hC P C n b rs1 ps1 st1 with
   | some (r,cs2,rs2,ps2)=>some (r,cs++cs2,rs2,ps2)
   | none=>none)
  | x=>x
 | .cond c a b,rs,p::ps,st=>match val st.1 c with
  | .pl (.bool t)=>(match p with
   | some d=>(match (bif d then hC P C n a rs ps st else hC P C n b rs ps st) with
    | some (r,cs,rs1,ps1)=>some (r,(t=d)::cs,rs1,ps1)
    | none=>none)
   | none=>bif t then hC P C n a rs ps st else hC P C n b rs ps st)
  | _=>none
 | .block i c,rs,ps,st=>match hC P C n c rs ps st with
  | some ((ex,st1),cs,rs1,ps1)=>some ((blkEx i ex,st1),cs,rs1,ps1)
  | none=>none
 | .exit i,rs,ps,st=>some ((.exit i,st),[],rs,ps)
 | .ret,rs,ps,st=>some ((.ret,st),[],rs,ps)
 | _,_,_,_=>none
theorem hC_ok(hC':Qad P C):∀(c:Code){rs rs':List RH}{ps ps':List (Option Bool)}{st:Tr×Hp}{r:Ex×Tr×Hp}{cs:List Prop},hC P C n c rs ps st=some (r,cs,rs',ps')→AllP cs→T P n base c st fun x=>x=r
 | .skip,rs,rs',ps,ps',st,r,cs,h,_=>by
  simp only [hC,Option.some.injEq,Prod.mk.injEq] at h; obtain ⟨rfl,_⟩:=h;exact T.skip rfl
 | .region id ops false,[],rs',ps,ps',st,r,cs,h,_=>by simp [hC] at h
 | .region id ops false,rh::rs,rs',ps,ps',st,r,cs,h,hp=>by
  simp only [hC] at h
  split at h
  ·split at h
   ·rename_i st' cs0 h1;simp only [Option.some.injEq,Prod.mk.injEq] at h; obtain ⟨rfl,rfl,_⟩:=h;exact hPanT_ok hC' h1 hp
   ·cases h
  ·split at h
   ·rename_i st' cs0 h1;simp only [Option.some.injEq,Prod.mk.injEq] at h; obtain ⟨rfl,rfl,_⟩:=h;exact hDie_ok hC' h1 hp
   ·cases h
  ·skip
   split at h
   ·rename_i st' cs0 es h1;simp only [Option.some.injEq,Prod.mk.injEq] at h; obtain ⟨rfl,rfl,_⟩:=h;rw [Qy] at hp;intro _ ro _ D X φ a w hS hb;refine wpIn_region_list (by
     have:=hOps_ok (ro:=ro) (ops:=ops.toList) (Q:=PostB true D X n base φ w fun x=>x=(.norm,st')) hC' ops.toList 0 (s:=st.1) (H:=st.2) h1 hp.1 (entsP_ok hp.2) hS (r2:=[]) fun φ' a' w' k1 k2 k3=>?_
     ·simpa [rfree] using this
     ·exact ⟨_,rfl,rfl,φ',.of k1,k2.b fun o ho hf=>k3.2 o (by omega) hf,Nat.le_trans hb k3.1⟩)
   ·cases h
 | .region id ops true,[],rs',ps,ps',st,r,cs,h,_=>by simp [hC] at h
 | .region id ops true,rh::rs,rs',ps,ps',st,r,cs,h,hp=>by
  simp only [hC] at h
  split at h
  ·split at h
   ·rename_i st' cs0 h1;simp only [Option.some.injEq,Prod.mk.injEq] at h; obtain ⟨rfl,rfl,_⟩:=h;exact hPanD_ok hC' h1 hp
   ·cases h
  ·skip
   split at h
   ·rename_i st' cs0 es h1;simp only [Option.some.injEq,Prod.mk.injEq] at h; obtain ⟨rfl,rfl,_⟩:=h;rw [Qy] at hp;unfold hDrawn at h1
    split at h1
    ·cases h1
    ·rename_i L hL
     split at h1
     ·rename_i st2 cs2 es2 h2;simp only [Option.some.injEq,Prod.mk.injEq] at h1; obtain ⟨rfl,rfl,rfl⟩:=h1;rw [Qy] at hp;have hev:=hDL_ok (call:=callE es2) hC'.noext L h2 hp.1.1 fun e he=>callE_at (sameP_ok hp.1.2) he;have hdr:evDrawn C (callE es2) n ops.toList st=some st2:=by unfold evDrawn; simp only [hL,hev]
      intro hk ro _ D X φ a w hS hb;simp only [codeOK] at hk;have:=draw_ok hC' (callE_ok (entsP_ok hp.2)) ro D X n ops.toList st.1 st.2 st2.1 st2.2 φ a w id hk hdr hS;refine Code.wpIn_mono ?_ (by simpa using this)
      rintro e a' w' ⟨q,hq,he,φ',k1,k2,k3⟩
      rw [List.mem_singleton] at hq; subst hq;exact ⟨_,rfl,he,φ',.of k1,k2.b fun o ho hf=>k3.2 o (by omega) hf,by have:=k3.1; simp only at this ⊢; omega⟩
     ·cases h1
   ·cases h
 | .seq x y,rs,rs',ps,ps',st,r,cs,h,hp=>by
  simp only [hC] at h
  split at h
  ·rename_i st1 cs1 rs1 ps1 h1
   split at h
   ·rename_i r2 cs2 rs2 ps2 h2;simp only [Option.some.injEq,Prod.mk.injEq] at h; obtain ⟨rfl,rfl,_⟩:=h;rw [Qy] at hp;refine T.seq (hC_ok hC' x h1 hp.1) ?_
    rintro q rfl
    exact hC_ok hC' y h2 hp.2
   ·cases h
  ·rename_i hne;refine T.seq (hC_ok hC' x h hp) ?_
   rintro q rfl
   obtain ⟨ex,st'⟩:=q;cases ex with
   | norm=>exact absurd h (hne _ _ _ _)
   | exit i=>rfl
   | ret=>rfl
   | pan _=>rfl
 | .cond c x y,rs,rs',[],ps',st,r,cs,h,hp=>by simp [hC] at h
 | .cond c x y,rs,rs',p::ps,ps',st,r,cs,h,hp=>by
  simp only [hC] at h
  split at h
  ·rename_i t ht
   split at h
   ·rename_i d
    split at h
    ·rename_i r1 cs1 rs1 ps1 h1;simp only [Option.some.injEq,Prod.mk.injEq] at h; obtain ⟨rfl,rfl,_⟩:=h;have ht2:t=d:=hp.1;refine T.cond ht (fun e=>?_) (fun e=>?_)
     ·rw [e] at ht2; subst ht2;exact hC_ok hC' x (by simpa using h1) hp.2
     ·rw [e] at ht2; subst ht2;exact hC_ok hC' y (by simpa using h1) hp.2
    ·cases h
   ·refine T.cond ht (fun e=>?_) (fun e=>?_)
    ·subst e; exact hC_ok hC' x (by simpa using h) hp
    ·subst e; exact hC_ok hC' y (by simpa using h) hp
  ·cases h
 | .block i c,rs,rs',ps,ps',st,r,cs,h,hp=>by
  simp only [hC] at h
  split at h
  ·rename_i ex st1 cs1 rs1 ps1 h1;simp only [Option.some.injEq,Prod.mk.injEq] at h; obtain ⟨rfl,rfl,_⟩:=h;exact T.block ((hC_ok hC' c h1 hp).mono fun q hq=>by subst hq; rfl)
  ·cases h
 | .exit i,rs,rs',ps,ps',st,r,cs,h,_=>by
  simp only [hC,Option.some.injEq,Prod.mk.injEq] at h; obtain ⟨rfl,_⟩:=h;exact T.exit rfl
 | .ret,rs,rs',ps,ps',st,r,cs,h,_=>by
  simp only [hC,Option.some.injEq,Prod.mk.injEq] at h; obtain ⟨rfl,_⟩:=h;exact T.ret rfl
 | .loop _,_,_,_,_,_,_,_,h,_=>by simp [hC] at h
 | .goto _,_,_,_,_,_,_,_,h,_=>by simp [hC] at h
 | .label _,_,_,_,_,_,_,_,h,_=>by simp [hC] at h
 | .rangeFunc ..,_,_,_,_,_,_,_,h,_=>by simp [hC] at h
 | .scope ..,_,_,_,_,_,_,_,h,_=>by simp [hC] at h
 | .refuse ..,_,_,_,_,_,_,_,h,_=>by simp [hC] at h
end
end Go.Proofs.Ytbgjlpdeoljmiaa
