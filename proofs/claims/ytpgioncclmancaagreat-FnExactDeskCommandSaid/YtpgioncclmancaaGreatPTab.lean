/- The table of functions. -/
import Derived.Test.YtpgioncclmancaaGreatPTab2
import Derived.Test.YtpgioncclmancaaGreatPTab3
import Derived.Test.YtpgioncclmancaaGreatPTab4
import Derived.Test.YtpgioncclmancaaGreatPTab5
set_option maxRecDepth 1000000
set_option maxHeartbeats 4000000
namespace Am
open Go Go.Proofs
noncomputable section
def ahk:List Place:=[pl 4 239 aaU atv,pl 5 210 aaT atu,pl 8 100 ZZ asB,pl 9 76 aiZ q76,pl 12 126 aae asO,pl 13 417 abH aur,pl 14 291 axI atO,pl 15 343 abm at9,pl 16 298 axK atT,pl 17 260 axB atx,pl 18 268 aaX atB,pl 19 283 axG atI,pl 20 288 aa3 atL,pl 21 276 axE atD,pl 22 281 aa0 atG,pl 26 177 aaG atf]
def ahn:List Place:=[pl 27 138 aaj asS,pl 28 189 aaL atl,pl 29 202 aaS att,pl 30 21 aip LZ,pl 31 148 aaq asY,pl 32 67 aiS q67,pl 33 558 ac8 avO,pl 34 157 aav as4,pl 35 393 abv aue,pl 36 441 abS auD,pl 37 16 aik IS,pl 38 13 aaf BZ,pl 39 17 ail Fh,pl 40 577 adh avV,pl 41 295 aa6 atQ,pl 42 292 axJ atP]
def aho:List Place:=[pl 43 559 ac9 avP,pl 44 303 aa8 atW,pl 45 300 axM atV,pl 46 265 aaW atA,pl 47 262 axD atz,pl 48 286 aa2 atK,pl 49 284 axH atJ,pl 50 289 aa4 atM,pl 51 279 aaZ atF,pl 52 277 axF atE,pl 55 166 aaA as9,pl 56 140 aal asT,pl 57 150 aar asZ,pl 58 199 aaR ats,pl 59 122 aac asM,pl 60 118 aaa asL]
def ahp:List Place:=[pl 61 23 air xP,pl 62 24 ais L4,pl 63 307 aa9 atX,pl 64 452 ab0 auL,pl 65 453 ab3 auM,pl 66 562 ade avS,pl 67 182 N9 ati,pl 68 75 aiY q75,pl 69 450 abY auJ,pl 70 336 abe at2,pl 71 579 adj avX,pl 72 413 abF aup,pl 73 11 Z5 oL,pl 74 439 abR auC,pl 75 15 aij AK,pl 76 14 aak xO]
def ahr:List Place:=[pl 77 20 aio zU,pl 78 18 aim tU,pl 79 290 aa5 atN,pl 80 297 aa7 atS,pl 81 299 axL atU,pl 82 259 aaV atw,pl 83 261 axC aty,pl 84 282 aa1 atH,pl 85 275 aaY atC,pl 86 198 aaQ atr,pl 87 196 aaP atq,pl 88 308 aba atY,pl 89 163 aax as6,pl 90 183 aaJ atj,pl 91 174 aaD atc,pl 92 134 aah asQ]
def ahs:List Place:=[pl 93 123 aad asN,pl 94 131 aag asP,pl 95 103 Z3 asE,pl 96 82 ai0 q82,pl 97 102 Z2 asD,pl 98 101 Z1 asC,pl 99 110 Z6 asH,pl 100 71 aiV q71,pl 101 154 aat as1,pl 102 73 aiW q73,pl 103 178 aaH atg,pl 104 156 N8 as3,pl 105 85 ai3 q85,pl 106 109 Z4 asG,pl 107 83 ai1 q83,pl 108 158 aaw as5]
def akh:List Place:=[pl 109 112 Z7 asI,pl 110 113 Z8 asJ,pl 111 68 aiT q68,pl 112 69 aiU q69,pl 113 144 aan asV,pl 114 96 ai5 q96,pl 115 63 aiR q63,pl 116 117 Z9 asK,pl 117 74 aiX q74,pl 118 457 ab6 auP,pl 119 448 abW auH,pl 120 432 abL auv,pl 121 435 abO auz,pl 122 449 abX auI,pl 123 581 adl avZ,pl 124 468 aci au0]
def akk:List Place:=[pl 125 394 abw auf,pl 126 12 aab DR,pl 127 438 abQ auB,pl 128 437 abP auA,pl 129 424 abJ aut,pl 130 414 abG auq,pl 131 421 abI aus,pl 132 580 adk avY,pl 133 401 abA auk,pl 134 339 abh at5,pl 135 465 acf auX,pl 136 341 abj at6,pl 137 575 adg avU,pl 138 337 abf at3,pl 139 19 ain xe,pl 140 338 abg at4]
def akm:List Place:=[pl 141 430 abK auu,pl 142 332 abd atZ,pl 143 409 abE auo,pl 144 342 abk at7,pl 145 404 abC aum,pl 146 578 adi avW,pl 147 405 abD aun,pl 148 378 abt auc,pl 149 400 abz auj,pl 150 395 abx aug,pl 151 388 abu aud,pl 152 377 abr aub,pl 153 497 acF avl,pl 154 396 aby auh,pl 155 348 abn aua,pl 156 164 aay as7]
def akS:List Place:=[pl 157 2 fn2 q2,pl 158 1 fn1 q1,pl 159 22 aiq vN,pl 160 165 aaz as8,pl 161 40 aiB q40,pl 162 47 aiG q47,pl 163 48 aiH q48,pl 164 27 aiv q27,pl 165 171 aaC atb,pl 166 176 aaF ate,pl 167 55 aiO q55,pl 168 167 aaB ata,pl 169 151 aas as0,pl 170 43 P9 q43,pl 171 91 ai4 q91,pl 172 187 aaK atk]
def aej:List Place:=[pl 173 31 aiz q31,pl 174 84 ai2 q84,pl 175 155 aau as2,pl 176 45 aiF YM,pl 177 137 aai asR,pl 178 190 aaM atn,pl 179 52 aiL q52,pl 180 37 abq Se,pl 181 146 aap asX,pl 182 25 ait L6,pl 183 141 aam asU,pl 184 192 aaN ato,pl 185 467 ach auZ,pl 186 564 adf avT,pl 187 560 ada avQ,pl 188 561 adb avR]
def aek:List Place:=[pl 189 402 abB aul,pl 190 471 acm au3,pl 191 469 acj au1,pl 192 486 acu ava,pl 193 490 acy ave,pl 194 494 acC avi,pl 195 463 acd auV,pl 196 508 acO avu,pl 197 509 acP avv,pl 198 511 acR avx,pl 199 516 acV avB,pl 200 515 acU avA,pl 201 520 acZ avF,pl 202 519 acY avE,pl 203 524 ac3 avJ,pl 204 526 ac5 avL]
def ael:List Place:=[pl 205 433 abM auw,pl 206 503 acJ avp,pl 207 487 acv avb,pl 208 489 acx avd,pl 209 493 acB avh,pl 210 492 acA avg,pl 211 464 ace auW,pl 212 517 acW avC,pl 213 495 acD avj,pl 214 496 acE avk,pl 215 444 abT auE,pl 216 451 abZ auK,pl 217 556 ac7 avN,⟨218,317,abc,[],[]⟩,⟨219,310,abb,[],[]⟩,pl 220 36 abp q36]
def aeq:List Place:=[pl 221 34 abi q34,pl 222 39 aiA YL,pl 223 51 aiK Sf,pl 224 56 aiP q56,pl 225 50 aiJ V9,pl 226 54 aiN q54,pl 227 44 aiE q44,pl 228 41 aiC q41,pl 229 32 UI q32,pl 230 26 aiu YJ,pl 231 58 aiQ q58,pl 232 35 abo q35,pl 233 28 aiw q28,pl 234 179 aaI ath,pl 235 30 aiy q30,pl 236 29 aix q29]
def aeC:List Place:=[pl 237 53 aiM q53,pl 238 175 aaE atd,pl 239 145 aao asW,pl 240 472 acn au4,pl 241 447 abV auG,pl 242 446 abU auF,pl 243 470 ack au2,pl 244 488 acw avc,pl 245 491 acz avf,pl 246 482 acp au6,pl 247 466 acg auY,pl 248 462 acb auU,pl 249 510 acQ avw,pl 250 513 acS avy,pl 251 514 acT avz,pl 252 500 acG avm]
def aeD:List Place:=[pl 253 521 ac0 avG,pl 254 454 ab4 auN,pl 255 518 acX avD,pl 256 525 ac4 avK,pl 257 522 ac1 avH,pl 258 507 acN avt,pl 259 505 acL avr,pl 260 460 ab9 auS,pl 261 10 P8 nK,pl 262 455 ab5 auO,pl 265 42 aiD q42,pl 266 49 aiI q49,pl 267 193 aaO atp,pl 268 481 aco au5,pl 269 461 aca auT,pl 270 459 ab8 auR]
def aeF:List Place:=[pl 271 502 acI avo,pl 272 501 acH avn,pl 273 504 acK avq,pl 274 527 ac6 avM,pl 275 434 abN auy,pl 276 523 ac2 avI,pl 277 458 ab7 auQ,pl 278 9 fn9 q9,pl 280 484 acr au8,pl 281 483 acq au7,pl 282 485 acs au9,pl 283 506 acM avs]
def ajY:List Place:=ahk++(ahn++(aho++(ahp++(ahr++(ahs++(akh++(akk++(akm++(akS++(aej++(aek++(ael++(aeq++(aeC++(aeD++aeF)))))))))))))))
def aE:Nat->Option mC:=look (Ll ajY)
theorem g1:aE 1=some fn1:=rfl
theorem g2:aE 2=some fn2:=rfl
theorem g9:aE 9=some fn9:=rfl
theorem Rg:aE 10=some P8:=rfl
theorem Rh:aE 11=some Z5:=rfl
theorem gT:aE 12=some aab:=rfl
theorem tO:aE 13=some aaf:=rfl
theorem DJ:aE 14=some aak:=rfl
theorem g34:aE 34=some abi:=rfl
theorem g35:aE 35=some abo:=rfl
theorem g36:aE 36=some abp:=rfl
theorem g37:aE 37=some abq:=rfl
theorem g48:aE 48=some aiH:=rfl
theorem aD5:aE 310=some abb:=rfl
theorem aqh:aE 317=some abc:=rfl
end
end Am
